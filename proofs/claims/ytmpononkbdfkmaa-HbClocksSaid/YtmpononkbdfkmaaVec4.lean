/- Walks of the reference's clockOf, GTick and GJoin. -/
import Derived.Test.YtmpononkbdfkmaaVec3
namespace Go.Proofs.Ytmpononkbdfkmaa
open Go.RowKit
set_option linter.unusedVariables false

set_option maxHeartbeats 1000000 in
set_option maxRecDepth 100000 in
theorem clockOf_any (F : FuncId) (caps : Array Value) (f : Nat → Nat) (hf : ∀ q, okU (f q)) (n : Nat) (hn8 : n * 8 ≤ 140737488355328) (w : World)
    (hF : ∀ (args : Array Value) (w : World), (callFunc F args).run Try.prog w = .ok (.enter F args) w)
    (H : ∀ (q : Nat) (w' : World), q < n → Below w.heap.size w w' → Calls Try.prog F (#[.int .i64 (q : Int)] ++ caps) w' fun e w'' => e = .returned (.int .u64 (f q)) ∧ Below w'.heap.size w' w'') :
    Calls Try.prog 72 #[.int .i64 (n : Int), .func (.func F) #[] caps] w fun e w' => ∃ x, e = .returned x ∧ RdU w' (Plus Nowhere w.heap.size w'.heap.size) (clockL f n) x ∧ Below w.heap.size w w' := by
  obtain ⟨i0, hi, hz0, hz1, hz2⟩ := info_parts infoU
  have HH := Lib.hid H
  clear H
  go_enter Try.func72, Try.ntmps72
  go_wp2
  go_loopw [5, 9] (fun o t wr => ∃ q : Nat, q ≤ n ∧ t = .int .i64 q ∧ OwnU 28 wr w.heap.size Nowhere (clockL f q) o ∧ Below w.heap.size w wr) (fun _ t _ => n - (intOf t).toNat)
  case atStart => exact ⟨0, by omega, rfl, OwnL.nil _ _ _, Below.refl _ _⟩
  case round =>
    obtain ⟨q, hq, rfl, ho, hb⟩ := hrel
    obtain ⟨wo, hwo⟩ : ∃ wo : World, wo = wr := ⟨_, rfl⟩
    subst hwo
    by_cases hlt : q < n
    · have HO := Lib.hid ho
      have hcl := clockL_len f q
      by_cases hpos : 0 < f q
      · have HC := Lib.hid (show clockL f (q + 1) = (padL (clockL f q) (q + 1)).set q (f q) by rw [clockL, if_pos hpos])
        have hpi : (0 : Int) < ((f q : Nat) : Int) := by omega
        clear ho
        go_wp2_with fail
        refine (HH.out q _ hlt hb).mono ?_
        rintro e w1 ⟨rfl, hx1⟩
        have hb1 := hb.trans (hx1.mono hb.size)
        have ho1 := HO.out.keep Flat.keeps hx1
        clear HO hx1
        go_wp2_with fail
        go_loopw [5] (fun o wr => ∃ (k : Nat) (A : Option Addr) (c : Nat), o = .slice A ((clockL f q).length + k) c ∧ OwnU 28 wr w.heap.size Nowhere (clockL f q ++ List.replicate k 0) o ∧ Below w.heap.size w wr ∧ (clockL f q).length + k ≤ q + 1)
          (fun o _ => match o with | .slice _ n _ => q + 1 - n | _ => 0)
        case atStart =>
          obtain ⟨A1, c1, rfl⟩ := ho1.form
          exact ⟨0, A1, c1, rfl, by simpa using ho1, hb1, by omega⟩
        case round =>
          obtain ⟨k, A1, c1, rfl, ho, hb2, hk⟩ := hrel
          have HO := Lib.hid ho
          clear ho ho1 hb1 hb
          by_cases hlt2 : (clockL f q).length + k ≤ q
          · have hsz := hb2.size
            go_wp2_with (at_builtin; refine wpList_append_one rfl _ _ 27 rfl i0 _ Try.underlying27 hi hz0 hz1 hz2 rfl (by decide) Flat.keeps HO.out (x := (0 : Nat)) (cs := [Value.int .u64 0]) (Tx := Nowhere) ?c0 rfl rfl rfl (Sub.nowhere _) (Sub.nowhere _) not_nowhere ?c1 ?c2 ?c3 ?c4 ?_)
            case c0 => exact ⟨rfl, by unfold okU; omega⟩
            case c1 => simp [Value.oneCell']
            case c2 => simp [maxLen]; omega
            case c3 => simp; omega
            case c4 => exact hsz
            intro v2 w2 ho2 hg2 _
            have hb3 : Below w.heap.size w w2 := hb2.grown hg2 hsz (fun g hg => (HO.out.lt g hg).1)
            have ho3 : OwnU 28 w2 w.heap.size Nowhere (clockL f q ++ List.replicate (k + 1) 0) v2 := by rw [List.replicate_succ']; simpa using ho2
            clear ho2 hg2
            obtain ⟨A2, c2, hv2⟩ := ho3.form
            simp only [List.length_append, List.length_replicate] at hv2
            subst hv2
            go_wp2
            go_roundw
            case rel => exact ⟨k + 1, A2, c2, rfl, ho3, hb3, by omega⟩
            case measure => simp; omega
          · have hkq : k = q + 1 - (clockL f q).length := by omega
            have hp : clockL f q ++ List.replicate k 0 = padL (clockL f q) (q + 1) := by rw [hkq]; rfl
            have ho4 := HO.out
            rw [hp] at ho4
            have hpl : (padL (clockL f q) (q + 1)).length = q + 1 := by simp [padL]; omega
            obtain ⟨g, cap2, hv, hg1, hg2, hg3, hg4, hfr, hcell⟩ := ho4.open_ (by omega)
            injection hv with e1 e2 e3
            clear e2
            subst e1 e3
            obtain ⟨y, hc⟩ : ∃ y : Nat, wr.cell? ⟨g, q, none⟩ = some (.int .u64 (y : Int)) := ⟨_, (hcell q (by omega)).2⟩
            have hf0 := hfr q
            have hset := OwnU.set_ ho4 (q := q) (by omega) (f q) (hf q)
            have hbs := hb2.setCell (p := ⟨g, q, none⟩) hg1 (.int .u64 ((f q : Nat) : Int))
            rw [← HC.out] at hset
            have HS := Lib.hid hset
            have hqk : (q : Int) < ((clockL f q).length + k : Nat) := by omega
            clear hset hcell hfr ho4 hp hpl HO hkq HC
            go_wp2
            go_roundw
            case rel => exact ⟨q + 1, by omega, by go_num, by first | exact HS.out | (have h := HS.out; simpa using h), hbs⟩
            case measure => simp [intOf]; omega
      · have HC := Lib.hid (show clockL f (q + 1) = clockL f q by rw [clockL, if_neg hpos])
        have h0 := Lib.hid (show f q = 0 by omega)
        clear ho
        go_wp2_with fail
        refine (HH.out q _ hlt hb).mono ?_
        rintro e w1 ⟨rfl, hx1⟩
        rw [h0.out]
        have hb1 := hb.trans (hx1.mono hb.size)
        have ho1 := HO.out.keep Flat.keeps hx1
        rw [← HC.out] at ho1
        clear HO hx1 hpos
        go_wp2_with fail
        go_roundw
        case rel => exact ⟨q + 1, by omega, by go_num, ho1, hb1⟩
        case measure => simp [intOf]; omega
    · have hqn : q = n := by omega
      subst hqn
      have HR := Lib.hid (ho.toRd (bytes := 8) (S' := Plus Nowhere w.heap.size wo.heap.size) Flat.keeps (by have := clockL_len f q; omega) (Sub.nowhere _) (fun b h1 h2 => .inr ⟨h1, h2⟩))
      clear ho
      go_wp2
      go_ret
      exact ⟨_, rfl, HR.out, hb⟩
end Go.Proofs.Ytmpononkbdfkmaa
