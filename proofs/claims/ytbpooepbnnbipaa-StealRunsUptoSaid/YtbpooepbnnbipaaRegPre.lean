/- A region that draws its order and ends in operations each of which waits for all ahead of it: its beginning in whatever order, held by a condition; its end one by one. No function of the program stands here. -/
import Derived.Deep.RegionHeld
import Derived.Tactics
import Derived.Test.YtbpooepbnnbipaaRows
namespace Go.Proofs.Ytbpooepbnnbipaa
open Go
set_option linter.unusedVariables false
def depsAt (ops : Array Oper) (i : Nat) : List Nat := match ops[i]? with
  | some o => (o.after.toList.filter (Region.binds .any)).map (·.on)
  | none => []
def reach (ops : Array Oper) : Nat → List Nat → List Nat
  | 0, s => s
  | f + 1, s => s ++ reach ops f (s.flatMap (depsAt ops)).eraseDups
def guardOk (ops : Array Oper) (i : Nat) : Bool := match ops[i]? with
  | some o => match o.guard with
    | none => true
    | some (g, _) => decide (g < i)
  | none => true
/-- all waiting goes backward; from number n on each waits for all ahead of it -/
def preOk (ops : Array Oper) (n : Nat) : Bool :=
  decide (n ≤ ops.size) && ((List.range ops.size).all fun i => (depsAt ops i).all (fun e => decide (e < i)) && guardOk ops i) &&
    (List.range ops.size).all fun k => decide (k < n) || (List.range k).all fun j => (reach ops ops.size (depsAt ops k)).contains j
structure PreOk (ops : Array Oper) (n : Nat) : Prop where
  le : n ≤ ops.size
  back : ∀ i < ops.size, ∀ e ∈ depsAt ops i, e < i
  gd : ∀ i < ops.size, guardOk ops i = true
  post : ∀ k, n ≤ k → k < ops.size → ∀ j < k, j ∈ reach ops ops.size (depsAt ops k)
theorem preOk_spec {ops : Array Oper} {n : Nat} (h : preOk ops n = true) : PreOk ops n := by
  simp only [preOk, Bool.and_eq_true, decide_eq_true_eq, List.all_eq_true, List.mem_range, Bool.or_eq_true, List.contains_iff_mem] at h
  exact ⟨h.1.1, fun i hi e he => (h.1.2 i hi).1 e he, fun i hi => (h.1.2 i hi).2, fun k hk hs j hj => (h.2 k hs).elim (fun h => absurd h (by omega)) (fun h => h j hj)⟩
def ClosedL (ops : Array Oper) (l : Array Bool) : Prop := ∀ i, l.getD i false = true → ∀ e ∈ depsAt ops i, l.getD e false = true
theorem reach_listed {ops : Array Oper} {l : Array Bool} (hc : ClosedL ops l) : ∀ (f : Nat) (s : List Nat), (∀ x ∈ s, l.getD x false = true) → ∀ x ∈ reach ops f s, l.getD x false = true
  | 0, s, h, x, hx => h x hx
  | f + 1, s, h, x, hx => by
    rw [reach, List.mem_append] at hx
    rcases hx with hx | hx
    · exact h x hx
    · refine reach_listed hc f _ (fun y hy => ?_) x hx
      rw [List.mem_eraseDups, List.mem_flatMap] at hy
      obtain ⟨z, hz, hy⟩ := hy
      exact hc z (h z hz) y hy
theorem mem_ready_deps {ops : Array Oper} {l : Array Bool} {i : Nat} (hl : l.size = ops.size) : i ∈ Region.ready .any ops l ↔ i < ops.size ∧ l.getD i false = false ∧ ∀ e ∈ depsAt ops i, l.getD e false = true := by
  unfold Region.ready
  rw [List.mem_filter, List.mem_range]
  refine and_congr_right fun hi => ?_
  have ho : ops[i]? = some ops[i] := Array.getElem?_eq_getElem hi
  have hg : l.getD i true = l.getD i false := by simp [Array.getD, hl, hi]
  rw [hg]
  simp only [ho, Option.map_some, Option.getD_some, Bool.and_eq_true, Bool.not_eq_true', Array.all_eq_true', Bool.or_eq_true]
  refine and_congr_right fun _ => ⟨fun h e he => ?_, fun h e he => ?_⟩
  · unfold depsAt at he
    simp only [ho, List.mem_map, List.mem_filter, Array.mem_toList_iff] at he
    obtain ⟨x, ⟨h1, h2⟩, rfl⟩ := he
    rcases h x h1 with h3 | h3
    · rw [h2] at h3; cases h3
    · exact h3
  · by_cases hb : Region.binds .any e = true
    · refine .inr (h _ ?_)
      unfold depsAt
      simp only [ho, List.mem_map, List.mem_filter, Array.mem_toList_iff]
      exact ⟨e, ⟨he, hb⟩, rfl⟩
    · exact .inl (by simpa using hb)
theorem getD_set {l : Array Bool} {i j : Nat} (hi : i < l.size) : (l.setIfInBounds i true).getD j false = if i = j then true else l.getD j false := by
  simp only [Array.getD_eq_getD_getElem?, Array.getElem?_setIfInBounds]
  split
  · subst_vars; simp
  · rfl
theorem ClosedL.set {ops : Array Oper} {l : Array Bool} {i : Nat} (hc : ClosedL ops l) (hl : l.size = ops.size) (hr : i ∈ Region.ready .any ops l) : ClosedL ops (l.setIfInBounds i true) := by
  obtain ⟨h1, h2, h3⟩ := (mem_ready_deps hl).1 hr
  intro j hj e he
  rw [getD_set (by omega)] at hj ⊢
  split at hj
  · subst_vars
    split
    · rfl
    · exact h3 e he
  · split
    · rfl
    · exact hc j hj e he
/-- the post of the beginning -/
def QPre (P : Program) (ops : Array Oper) (n : Nat) (Q : Exit → Act → World → Prop) : Exit → Act → World → Prop
  | .normal, a, w => wpList P ops Q (ops.toList.drop n) a w
  | e, a, w => Q e a w
theorem LetsOut.ofPre {P : Program} {ops : Array Oper} {n : Nat} {Q : Exit → Act → World → Prop} (h : LetsOut (QPre P ops n Q)) : LetsOut Q := h
theorem Oper.wp_ofPre {P : Program} {ops : Array Oper} {n : Nat} {Q : Exit → Act → World → Prop} {o : Oper} {a : Act} {w : World} {K : Act → World → Prop} (hh : Oper.wp P o a w K (QPre P ops n Q)) : Oper.wp P o a w K Q := by
  unfold Oper.wp at *
  generalize (execOp a.eval o).run P w = r at *
  cases r with
  | ok n w' =>
    cases n <;> simp only [Oper.upon] at hh ⊢ <;>
      first
        | exact hh
        | exact Calls.mono hh (fun e w'' he => by cases e <;> exact he)
  | halt x w' => cases x <;> simp only [Oper.upon] at hh ⊢ <;> exact hh
theorem take_get {ops : Array Oper} {n i : Nat} (hi : i < n) : (ops.toList.take n).toArray[i]? = ops[i]? := by
  simp [hi]
theorem wpOp_ofPre {P : Program} {ops : Array Oper} {n i : Nat} {Q : Exit → Act → World → Prop} {a : Act} {w : World} {K : Act → World → Prop} (hg : guardOk ops i = true) (hi : i < n) (hs : i < ops.size) (hh : wpOp P (ops.toList.take n).toArray (QPre P ops n Q) i K a w) : wpOp P ops Q i K a w := by
  unfold wpOp at *
  rw [take_get hi] at hh
  have ho : ops[i]? = some ops[i] := Array.getElem?_eq_getElem hs
  simp only [ho] at hh ⊢
  have hw : Region.wanted ops[i] (yielded (ops.toList.take n).toArray a.tmps) = Region.wanted ops[i] (yielded ops a.tmps) := by
    unfold guardOk at hg
    simp only [ho] at hg
    unfold Region.wanted
    cases hgd : (ops[i]).guard with
    | none => rfl
    | some g =>
      obtain ⟨g, b⟩ := g
      rw [hgd] at hg
      simp only [decide_eq_true_eq] at hg
      simp only [yielded, take_get (show g < n by omega)]
  rw [hw] at hh
  split
  · rename_i h; rw [if_pos h] at hh; exact hh.imp Oper.wp_ofPre (fun h => ⟨h.1, LetsOut.ofPre h.2⟩)
  · rename_i h; rw [if_neg h] at hh; exact hh
theorem deps_take {ops : Array Oper} {n i : Nat} (hi : i < n) : depsAt (ops.toList.take n).toArray i = depsAt ops i := by
  unfold depsAt; rw [take_get hi]
/-- the end, one by one -/
theorem post_go {P : Program} {ops : Array Oper} {n : Nat} {Q : Exit → Act → World → Prop} (ok : PreOk ops n) : ∀ (m k : Nat), k + m = ops.size → n ≤ k → ∀ (fuel : Nat) (l : Array Bool) (a : Act) (w : World), l.size = ops.size → (∀ j, j < ops.size → (l.getD j false = true ↔ j < k)) → m ≤ fuel →
    wpList P ops Q (ops.toList.drop k) a w → wpAny P .any ops Q fuel l a w := by
  intro m
  induction m with
  | zero =>
    intro k hk hn fuel l a w hl hlk hm h
    have hd : ops.toList.drop k = [] := List.drop_eq_nil_of_le (by simp; omega)
    rw [hd] at h
    have hr : Region.ready .any ops l = [] := List.eq_nil_iff_forall_not_mem.2 fun i hi => by
      obtain ⟨h1, h2, _⟩ := (mem_ready_deps hl).1 hi
      have := (hlk i h1).2 (by omega)
      rw [h2] at this; cases this
    cases fuel with
    | zero => exact ⟨hr, h⟩
    | succ fuel => exact ⟨fun _ => h, fun i hi => by rw [hr] at hi; cases hi⟩
  | succ m ih =>
    intro k hk hn fuel l a w hl hlk hm h
    obtain ⟨fuel, rfl⟩ : ∃ f, fuel = f + 1 := ⟨fuel - 1, by omega⟩
    have hks : k < ops.size := by omega
    have hdr : ops.toList.drop k = ops[k] :: ops.toList.drop (k + 1) := by
      rw [List.drop_eq_getElem_cons (by simpa using hks)]; simp
    rw [hdr] at h
    have hkr : k ∈ Region.ready .any ops l := (mem_ready_deps hl).2 ⟨hks, Bool.eq_false_iff.2 (fun e => absurd ((hlk k hks).1 e) (by omega)), fun e he => (hlk e (by have := ok.back k hks e he; omega)).2 (ok.back k hks e he)⟩
    refine ⟨fun hr => absurd (hr ▸ hkr) List.not_mem_nil, fun i hi => ?_⟩
    obtain ⟨h1, h2, h3⟩ := (mem_ready_deps hl).1 hi
    have hcl : ClosedL ops l := fun j hj e he => by
      have hjs : j < ops.size := by
        rcases Nat.lt_or_ge j ops.size with h | h
        · exact h
        · rw [Array.getD_eq_getD_getElem?, Array.getElem?_eq_none (by omega)] at hj; cases hj
      have hb := ok.back j hjs e he
      exact (hlk e (by omega)).2 (by have := (hlk j hjs).1 hj; omega)
    have hik : i = k := by
      have hge : k ≤ i := by
        rcases Nat.lt_or_ge i k with h | h
        · have := (hlk i h1).2 h; rw [h2] at this; cases this
        · exact h
      rcases Nat.eq_or_lt_of_le hge with h | h
      · exact h.symm
      · have := reach_listed hcl _ _ h3 k (ok.post i (by omega) h1 k h)
        exact absurd ((hlk k hks).1 this) (by omega)
    subst hik
    have ho : ops[i]? = some ops[i] := Array.getElem?_eq_getElem hks
    have hK : ∀ a w, wpList P ops Q (ops.toList.drop (i + 1)) a w → wpAny P .any ops Q fuel (l.setIfInBounds i true) a w := fun a w h => ih (i + 1) (by omega) (by omega) fuel _ a w (by simpa using hl) (fun j hj => by
      rw [getD_set (by omega)]
      split
      · subst_vars; simp
      · rw [hlk j hj]; omega) (by omega) h
    refine wpOp_mono hK ?_
    unfold wpOp
    simp only [ho]
    unfold wpList at h
    exact h
theorem pre_go {P : Program} {ops : Array Oper} {n : Nat} {Q : Exit → Act → World → Prop} (ok : PreOk ops n) : ∀ (fuel : Nat) (lp l : Array Bool) (a : Act) (w : World), lp.size = n → l.size = ops.size → (∀ j, j < n → l.getD j false = lp.getD j false) → (∀ j, n ≤ j → j < ops.size → l.getD j false = false) → ClosedL ops l →
    wpAny P .any (ops.toList.take n).toArray (QPre P ops n Q) fuel lp a w → wpAny P .any ops Q (fuel + (ops.size - n)) l a w := by
  have hsz : (ops.toList.take n).toArray.size = n := by have := ok.le; simp; omega
  have hall : ∀ (lp l : Array Bool), lp.size = n → (∀ j, j < n → l.getD j false = lp.getD j false) → Region.ready .any (ops.toList.take n).toArray lp = [] → ∀ j, j < n → l.getD j false = true := by
    intro lp l hlp hj hr j
    induction j using Nat.strongRecOn with
    | ind j ih =>
      intro hjn
      cases e : l.getD j false
      · exfalso
        have : j ∈ Region.ready .any (ops.toList.take n).toArray lp := (mem_ready_deps (by omega)).2 ⟨by omega, by rw [← hj j hjn]; exact e, fun d hd => by
          rw [deps_take hjn] at hd
          have hb := ok.back j (by have := ok.le; omega) d hd
          rw [← hj d (by omega)]
          exact ih d hb (by omega)⟩
        rw [hr] at this; cases this
      · rfl
  have hfin : ∀ (fuel : Nat) (lp l : Array Bool) (a : Act) (w : World), lp.size = n → l.size = ops.size → (∀ j, j < n → l.getD j false = lp.getD j false) → (∀ j, n ≤ j → j < ops.size → l.getD j false = false) → Region.ready .any (ops.toList.take n).toArray lp = [] → wpList P ops Q (ops.toList.drop n) a w → wpAny P .any ops Q (fuel + (ops.size - n)) l a w := by
    intro fuel lp l a w hlp hl h1 h2 hr h
    refine post_go ok (ops.size - n) n (by have := ok.le; omega) (Nat.le_refl _) _ l a w hl (fun j hj => ?_) (by omega) h
    rcases Nat.lt_or_ge j n with hjn | hjn
    · rw [hall lp l hlp h1 hr j hjn]; simp [hjn]
    · rw [h2 j hjn hj]; simp; omega
  intro fuel
  induction fuel with
  | zero =>
    intro lp l a w hlp hl h1 h2 hc h
    exact hfin 0 lp l a w hlp hl h1 h2 h.1 h.2
  | succ fuel ih =>
    intro lp l a w hlp hl h1 h2 hc h
    by_cases hr : Region.ready .any (ops.toList.take n).toArray lp = []
    · exact hfin _ lp l a w hlp hl h1 h2 hr (h.1 hr)
    · have hex : ∃ j, j < n ∧ l.getD j false = false := by
        obtain ⟨j, hj⟩ := List.exists_mem_of_ne_nil _ hr
        obtain ⟨hj1, hj2, _⟩ := (mem_ready_deps (by omega)).1 hj
        exact ⟨j, by omega, by rw [h1 j (by omega)]; exact hj2⟩
      rw [Nat.succ_add]
      have hmem : ∀ i, i ∈ Region.ready .any ops l ↔ i ∈ Region.ready .any (ops.toList.take n).toArray lp := by
        intro i
        rw [mem_ready_deps hl, mem_ready_deps (show lp.size = (ops.toList.take n).toArray.size by omega)]
        constructor
        · rintro ⟨a1, a2, a3⟩
          have hin : i < n := by
            rcases Nat.lt_or_ge i n with h | h
            · exact h
            · obtain ⟨j, hj1, hj2⟩ := hex
              have := reach_listed hc _ _ a3 j (ok.post i h a1 j (by omega))
              rw [hj2] at this; cases this
          refine ⟨by omega, by rw [← h1 i hin]; exact a2, fun e he => ?_⟩
          rw [deps_take hin] at he
          rw [← h1 e (by have := ok.back i a1 e he; omega)]
          exact a3 e he
        · rintro ⟨a1, a2, a3⟩
          have hin : i < n := by omega
          have his : i < ops.size := by have := ok.le; omega
          refine ⟨his, by rw [h1 i hin]; exact a2, fun e he => ?_⟩
          rw [h1 e (by have := ok.back i his e he; omega)]
          exact a3 e (by rw [deps_take hin]; exact he)
      refine ⟨fun h0 => absurd (List.eq_nil_iff_forall_not_mem.2 fun i hi => by rw [← hmem i, h0] at hi; cases hi) hr, fun i hi => ?_⟩
      have hip := (hmem i).1 hi
      have hin : i < n := by have := ((mem_ready_deps (show lp.size = (ops.toList.take n).toArray.size by omega)).1 hip).1; omega
      have his : i < ops.size := by have := ok.le; omega
      have hw := h.2 i hip
      refine wpOp_mono (fun a' w' hK => ?_) (wpOp_ofPre (ok.gd i his) hin his hw)
      refine ih (lp.setIfInBounds i true) (l.setIfInBounds i true) a' w' (by simpa using hlp) (by simpa using hl) (fun j hj => ?_) (fun j hj hjs => ?_) (hc.set hl hi) hK
      · rw [getD_set (by omega), getD_set (by omega), h1 j hj]
      · rw [getD_set (by omega), if_neg (by omega)]; exact h2 j hj hjs
theorem wpAnyH_take_at {P : Program} {ops : Array Oper} {Q : Exit → Act → World → Prop} {md : Region.Mode} {S : World → Prop} {i : Nat} {oi : Oper} {v : Value} {fuel : Nat} {listed : Array Bool} {a : Act} {w : World} (dst : Option Tmp) (hi : ops[i]? = some oi) (hd : oi.dst = dst)
    (hs : Region.noSelect ops = true) (hf : Region.free md ops listed i = true) (hr : (Region.ready md ops listed).contains i = true)
    (hQ : ∀ c a w, Q (.panic c) (a.put dst v) w → Q (.panic c) a w) (hy : YieldsIf P ops S oi v a) (hS : S w)
    (h : wpAnyH P md ops Q S fuel (listed.setIfInBounds i true) (a.put dst v) w) : wpAnyH P md ops Q S (fuel + 1) listed a w := by
  subst hd
  exact wpAnyH_take hi hs hf hr hQ hy hS h
/-- the law -/
theorem wp_region_pre {P : Program} {id : Nat} {L : List Oper} (n : Nat) {Q : Exit → Act → World → Prop} {S : World → Prop} {a : Act} {w : World} (hm : P.follows .mixedOrders = true) (hok : preOk L.toArray n = true) (hS : S w.drew)
    (h : S w.drew → wpAnyH P .any (L.take n).toArray (QPre P L.toArray n Q) S n (Array.replicate n false) a w.drew) : (Code.region id L.toArray true).wp P Q a w := by
  refine wp_region_any hm ?_
  have ok := preOk_spec hok
  have h2 := pre_go ok n (Array.replicate n false) (Array.replicate L.toArray.size false) a w.drew (by simp) (by simp) (fun j hj => ?_) (fun j hj hjs => ?_) (fun j hj => ?_) (wpAny_of_held n _ a w.drew (h hS))
  · have e : n + (L.toArray.size - n) = L.toArray.size := by have := ok.le; omega
    rw [e] at h2
    exact h2
  · have := ok.le
    rw [Array.getD_eq_getD_getElem?, Array.getElem?_replicate, Array.getD_eq_getD_getElem?, Array.getElem?_replicate, if_pos (by omega), if_pos hj]
  · simp only [Array.getD_eq_getD_getElem?, Array.getElem?_replicate]
    split <;> rfl
  · simp only [Array.getD_eq_getD_getElem?, Array.getElem?_replicate] at hj
    split at hj <;> cases hj
end Go.Proofs.Ytbpooepbnnbipaa
