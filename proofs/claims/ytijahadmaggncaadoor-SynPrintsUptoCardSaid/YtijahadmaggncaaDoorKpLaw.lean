/- The walk of the law SynPrints. -/
import Derived.Test.YtijahadmaggncaaDoorKp9
namespace Go.Proofs.YtijahadmaggncaaDoor
open Go.RowKit
set_option linter.unusedVariables false
set_option maxHeartbeats 400000 in
theorem synPrints_walk (l : List St) (w : World) (v : Value) (r : RdSts w (Upto w.heap.size) l v) (hwt : St.wts l ≤ 1048576) (hF : FmtT w) :
    Calls Tryd.prog 3 #[v] w fun e w' => e = .returned (.bool true) ∧ Below w.heap.size w w' := by
  have HC := Lib.hid (print_any l w _ v (Sub.refl _) r hF hwt)
  have HD := Lib.hid (fun (w1 : World) (hb : Below w.heap.size w w1) => kprint_any l w1 (Upto w.heap.size) v (Sub.upto hb.size) (r.go RdSt.keeps hb (Sub.refl _) (Sub.refl _)) (hF.go hb).pow hwt)
  clear r hF
  generalize printS l = ps at *
  generalize printE l = pe at *
  go_enter Tryd.func3, Tryd.ntmps3
  go_wp2_with (go_at_call 6; refine (calls_hid HC.out).mono ?_)
  rintro e w1 hh
  obtain ⟨rfl, hb1⟩ := hh.out
  have HB := Lib.hid hb1
  have HK := Lib.hid (HD.out w1 hb1)
  have hsz := hb1.size
  clear hh hb1 HC HD
  go_wp2_with (go_at_call 7; refine (calls_hid HK.out).mono ?_)
  rintro e w2 hh
  obtain ⟨rfl, hb2⟩ := hh.out
  have HB2 := Lib.hid (HB.out.trans (hb2.mono hsz))
  clear hh hb2 HK
  go_wp2
  go_ret
  exact ⟨by simp, HB2.out⟩
end Go.Proofs.YtijahadmaggncaaDoor
