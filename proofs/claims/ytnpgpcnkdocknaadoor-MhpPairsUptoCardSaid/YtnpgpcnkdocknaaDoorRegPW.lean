/- RegPre in a round of a range over a function. No function of the program stands here. -/
import Derived.Test.YtnpgpcnkdocknaaDoorGRegW
import Derived.Test.YtnpgpcnkdocknaaDoorRegPre
namespace Go.Proofs.YtnpgpcnkdocknaaDoor
open Go
set_option linter.unusedVariables false
theorem region_pre_round {l m id : Nat} {P : Program} {L : List Oper} (n : Nat) {Q : Exit → Act → World → Prop} {S : World → Prop} {a : Act} {w : World} (hm : P.follows .mixedOrders = true) (hok : preOk L.toArray n = true) (hd : noDefer L.toArray = true) (hQ : ¬ LetsOut Q) (hS : S w.drew)
    (h : S w.drew → wpAnyH P .any (L.take n).toArray (QPre P L.toArray n Q) S n (Array.replicate n false) a w.drew) : (Code.region id L.toArray true).wpIn (Fence.wide.inRound l) m P Q a w := by
  refine wpIn_region_any hm (wpAny_wide hQ (noDefer_of hd) _ _ _ _ ?_)
  have ok := preOk_spec hok
  have h2 := pre_go ok n (Array.replicate n false) (Array.replicate L.toArray.size false) a w.drew (by simp) (by simp) (fun j hj => ?_) (fun j hj hjs => ?_) (fun j hj => ?_) (wpAny_of_held n _ a w.drew (h hS))
  · have e : n + (L.toArray.size - n) = L.toArray.size := by have := ok.le; omega
    rw [e] at h2
    exact h2
  · have := ok.le
    rw [Array.getD_eq_getD_getElem?, Array.getElem?_replicate, Array.getD_eq_getD_getElem?, Array.getElem?_replicate, if_pos (by omega), if_pos hj]
  · simp only [Array.getD_eq_getD_getElem?, Array.getElem?_replicate]
    split <;> rfl
  · simp only [Array.getD_eq_getD_getElem?, Array.getElem?_replicate] at hj
    split at hj <;> cases hj
end Go.Proofs.YtnpgpcnkdocknaaDoor
