/- From the form's own reading of an argument (DataW.trod) to the readings of Data: the recursive data, and what they weigh. -/
import Derived.Test.YtbpooepbnnbipaaData
import Derived.ProofKit
import Derived.OpenShut
import Derived.SizedLaws
import Derived.JoinedCond
import Derived.Deep.CondSized
import Derived.Deep.Slices
namespace Go.Proofs.Ytbpooepbnnbipaa
open Go.ChangeShapes Go.WideShapes Go.ChangeAt Go.RowKit Go.Deep
set_option linter.unusedVariables false

mutual
/-- how many values and letters an expression holds, at least -/
def Ex.wt : Ex → Nat
  | .mk _ _ s args => 1 + s.size + Ex.wts args
def Ex.wts : List Ex → Nat
  | [] => 0
  | e :: r => Ex.wt e + Ex.wts r
end
mutual
def St.wt : St → Nat
  | .mk _ s a b body els => 1 + s.size + Ex.wt a + Ex.wt b + St.wts body + St.wts els
def St.wts : List St → Nat
  | [] => 0
  | e :: r => St.wt e + St.wts r
end
mutual
def Tm.wt : Tm → Nat
  | .mk _ _ _ _ kids => 1 + Tm.wts kids
def Tm.wts : List Tm → Nat
  | [] => 0
  | e :: r => Tm.wt e + Tm.wts r
end
theorem Ex.wts_eq (l : List Ex) : Ex.wts l = (l.map Ex.wt).sum := by induction l <;> simp [Ex.wts, *]
theorem St.wts_eq (l : List St) : St.wts l = (l.map St.wt).sum := by induction l <;> simp [St.wts, *]
theorem Tm.wts_eq (l : List Tm) : Tm.wts l = (l.map Tm.wt).sum := by induction l <;> simp [Tm.wts, *]

/-- each string, slice and map in d takes at most what the form's reach allows -/
def Light {H : Type} (P : Program) (t : TypeId) (d : DataW H) : Prop := ∀ n ∈ d.weights P t, n ≤ reachBytes
theorem weightsAll_mem {H : Type} {P : Program} {e : TypeId} : ∀ {l : List (DataW H)} {d : DataW H}, d ∈ l → ∀ n ∈ d.weights P e, n ∈ DataW.weightsAll P e l
  | x :: r, d, h, n, hn => by
    simp only [DataW.weightsAll, List.mem_append]
    rcases List.mem_cons.1 h with rfl | h
    · exact .inl hn
    · exact .inr (weightsAll_mem h n hn)
theorem Light.elem {H : Type} {P : Program} {t e : TypeId} {elems spare : List (DataW H)} (h : Light P t (.slice elems spare)) (ht : P.underlying t = some (.slice e)) : (∀ d ∈ elems, Light P e d) ∧ (elems.length + spare.length) * P.bytesOf e ≤ reachBytes := by
  refine ⟨fun d hd n hn => h n ?_, h _ ?_⟩
  · simp only [DataW.weights, ht, List.mem_cons, List.mem_append]
    exact .inr (.inl (weightsAll_mem hd n hn))
  · simp [DataW.weights, ht]
theorem Light.field {H : Type} {P : Program} {t : TypeId} {fs : Array Field} {parts : List (DataW H)} (h : Light P t (.agg parts)) (ht : P.underlying t = some (.struct fs)) {i : Nat} {f : Field} {d : DataW H} (hf : fs[i]? = some f) (hd : parts[i]? = some d) : Light P f.type d := fun n hn => h n (by
  simp only [DataW.weights, ht]
  exact DataW.weights_mem_each (j := i) (by simpa using congrArg (Option.map (·.type)) hf) hd n hn)
theorem Light.string {H : Type} {P : Program} {t : TypeId} {s : ByteArray} (h : Light (H := H) P t (.lit (.string s.data.toList))) : s.size ≤ 140737488355328 := by
  have := h s.size (by simp only [DataW.weights, List.mem_singleton]; rw [Array.length_toList]; rfl)
  unfold reachBytes at this
  omega
theorem light_of {H : Type} {P : Program} {ts : List TypeId} {ds : List (DataW H)} (h : (DataW.weightsEach P ts ds).all (· ≤ reachBytes) = true) {j : Nat} {t : TypeId} {d : DataW H} (ht : ts[j]? = some t) (hd : ds[j]? = some d) : Light P t d :=
  fun n hn => by simpa using List.all_eq_true.1 h _ (DataW.weights_mem_each ht hd n hn)

theorem len1 {α : Type} {l : List α} (h : l.length = 1) : ∃ c0, l = [c0] := by
  match l, h with
  | [c0], _ => exact ⟨c0, rfl⟩
theorem len2 {α : Type} {l : List α} (h : l.length = 2) : ∃ c0 c1, l = [c0, c1] := by
  match l, h with
  | [c0, c1], _ => exact ⟨c0, c1, rfl⟩
theorem len3 {α : Type} {l : List α} (h : l.length = 3) : ∃ c0 c1 c2, l = [c0, c1, c2] := by
  match l, h with
  | [c0, c1, c2], _ => exact ⟨c0, c1, c2, rfl⟩
theorem len4 {α : Type} {l : List α} (h : l.length = 4) : ∃ c0 c1 c2 c3, l = [c0, c1, c2, c3] := by
  match l, h with
  | [c0, c1, c2, c3], _ => exact ⟨c0, c1, c2, c3, rfl⟩
theorem len5 {α : Type} {l : List α} (h : l.length = 5) : ∃ c0 c1 c2 c3 c4, l = [c0, c1, c2, c3, c4] := by
  match l, h with
  | [c0, c1, c2, c3, c4], _ => exact ⟨c0, c1, c2, c3, c4, rfl⟩
theorem len6 {α : Type} {l : List α} (h : l.length = 6) : ∃ c0 c1 c2 c3 c4 c5, l = [c0, c1, c2, c3, c4, c5] := by
  match l, h with
  | [c0, c1, c2, c3, c4, c5], _ => exact ⟨c0, c1, c2, c3, c4, c5, rfl⟩
theorem len7 {α : Type} {l : List α} (h : l.length = 7) : ∃ c0 c1 c2 c3 c4 c5 c6, l = [c0, c1, c2, c3, c4, c5, c6] := by
  match l, h with
  | [c0, c1, c2, c3, c4, c5, c6], _ => exact ⟨c0, c1, c2, c3, c4, c5, c6, rfl⟩
theorem len8 {α : Type} {l : List α} (h : l.length = 8) : ∃ c0 c1 c2 c3 c4 c5 c6 c7, l = [c0, c1, c2, c3, c4, c5, c6, c7] := by
  match l, h with
  | [c0, c1, c2, c3, c4, c5, c6, c7], _ => exact ⟨c0, c1, c2, c3, c4, c5, c6, c7, rfl⟩
theorem len12 {α : Type} {l : List α} (h : l.length = 12) : ∃ c0 c1 c2 c3 c4 c5 c6 c7 c8 c9 c10 c11, l = [c0, c1, c2, c3, c4, c5, c6, c7, c8, c9, c10, c11] := by
  match l, h with
  | [c0, c1, c2, c3, c4, c5, c6, c7, c8, c9, c10, c11], _ => exact ⟨c0, c1, c2, c3, c4, c5, c6, c7, c8, c9, c10, c11, rfl⟩
theorem bulk_mem {H : Type} : ∀ {l : List (DataW H)} {i : Nat} {d : DataW H}, l[i]? = some d → Rows.uptoBulk d ≤ Rows.uptoBulkAll l
  | x :: r, 0, d, h => by simp at h; subst h; simp [Rows.uptoBulkAll]
  | x :: r, i + 1, d, h => by
    have := bulk_mem (l := r) (i := i) (by simpa using h)
    simp only [Rows.uptoBulkAll]
    omega

section
variable {H : Type} {enc : TypeId × Value → H} {P : Program} {w : World} {spare : Nat → Bool} {held : Bool}
/-- a slice argument, element by element: rd is the elements' reading, mu what an element weighs -/
theorem slice_open {α : Type} [Inhabited α] {rd : World → Blocks → α → List Value → Prop} {mu : α → Nat} {size bytes : Nat} {t e : TypeId} {fuel : Nat} {cs : List Value} {x : DataW H × List MemPlace} (ht : P.underlying t = some (.slice e)) (hC : P.cellsOf e = size) (hB : P.bytesOf e = bytes) (hpos : 0 < size)
    (hL : Light P t x.1) (h : DataW.trod enc P w 0 spare held fuel t cs = some x)
    (IH : ∀ n cs' y, n < fuel → DataW.trod enc P w 0 spare held n e cs' = some y → Light P e y.1 → ∃ a, rd w (Upto w.heap.size) a cs' ∧ mu a ≤ Rows.uptoBulk y.1) :
    ∃ l v, cs = [v] ∧ RdL rd size bytes w (Upto w.heap.size) l v ∧ (l.map mu).sum + 1 ≤ Rows.uptoBulk x.1 := by
  rcases DataW.trod_slice ht h with ⟨rfl, rfl⟩ | ⟨a, len, cap, elems, rest, n, rfl, rfl, rfl, _, hl, hm, hlen, hel, hsp, hns⟩
  · exact ⟨[], _, rfl, RdL.nil (by simp [maxLen]), by simp [Rows.uptoBulk]⟩
  · obtain ⟨hLe, hLb⟩ := hL.elem ht
    have hi : ∀ i, i < len → ∃ y : α × List Value, w.cells? 0 (a.add (i * size)) size = some y.2 ∧ rd w (Upto w.heap.size) y.1 y.2 ∧ ∃ z, elems[i]? = some z ∧ mu y.1 ≤ Rows.uptoBulk z.1 := fun i hi => by
      have h1 := hel i hi
      have hz : elems[i]? = some (elems[i]'(by omega)) := List.getElem?_eq_getElem (by omega)
      rw [hz, hC] at h1
      obtain ⟨cs', h2, h3⟩ := Option.bind_eq_some_iff.1 h1
      obtain ⟨b, hb, hmu⟩ := IH n cs' _ (by omega) h3 (hLe _ (List.mem_map.2 ⟨_, List.getElem_mem _, rfl⟩))
      exact ⟨(b, cs'), h2, hb, _, hz, hmu⟩
    obtain ⟨f, hf⟩ := choose_lt hi
    have hbytes : len * bytes ≤ 140737488355328 := by
      rw [hB] at hLb
      unfold reachBytes at hLb
      simp only [List.length_map, hlen] at hLb
      have : len * bytes ≤ (len + rest.length) * bytes := Nat.mul_le_mul_right _ (by omega)
      omega
    refine ⟨(List.range len).map fun i => (f i).1, _, rfl, ⟨some a, cap, (List.range len).map fun i => (f i).2, by simp, by simpa using hl, hm, by simpa using hbytes, by simp, ⟨?_, ?_⟩, ?_⟩, ?_⟩
    · intro cs hcs
      obtain ⟨i, hi, rfl⟩ := List.mem_map.1 hcs
      exact (World.cells?_some (hf i (List.mem_range.1 hi)).1).2.1
    · intro hne
      have hlen0 : 0 < len := by
        rcases Nat.eq_zero_or_pos len with h0 | h0
        · subst h0; exact absurd rfl hne
        · exact h0
      obtain ⟨b, off, sp⟩ := a
      have h0 := World.cells?_some (hf 0 hlen0).1
      have h00 := h0.2.2 0 hpos
      have hl0 : 0 < (f 0).2.length := by rw [h0.2.1]; exact hpos
      rw [List.getElem?_eq_getElem hl0] at h00
      have hadd0 : ((⟨b, off, sp⟩ : Addr).add (0 * size)).add 0 = ⟨b, off, sp⟩ := by simp [Addr.add]
      rw [hadd0] at h00
      have hs := World.cell?_spot h00
      simp only at hs
      subst hs
      refine ⟨b, off, rfl, World.block_lt_of_cell? w _ h00, fun i cs hi j v hv => ?_⟩
      have hil : i < len := by
        have := (List.getElem?_eq_some_iff.1 hi).1
        simpa using this
      have hcs : (f i).2 = cs := by simpa [hil] using hi
      have h1 := World.cells?_some (hf i hil).1
      have hj : j < size := by
        have := (List.getElem?_eq_some_iff.1 hv).1
        rw [← hcs, h1.2.1] at this
        exact this
      have h2 := h1.2.2 j hj
      rw [hcs, hv] at h2
      have hadd : ((⟨b, off, none⟩ : Addr).add (i * size)).add j = ⟨b, off + (i * size + j), none⟩ := by
        rw [add_of_add]
        unfold Addr.add
        split <;> simp_all
      rwa [hadd] at h2
    · intro i e' cs' he hcs
      have hil : i < len := by
        have := (List.getElem?_eq_some_iff.1 he).1
        simpa using this
      have h1 : (f i).1 = e' := by simpa [hil] using he
      have h2 : (f i).2 = cs' := by simpa [hil] using hcs
      subst h1; subst h2
      exact (hf i hil).2.1
    · have hsum : ∀ k, k ≤ len → (((List.range k).map fun i => (f i).1).map mu).sum ≤ Rows.uptoBulkAll ((elems.map (·.1)).take k) := by
        intro k
        induction k with
        | zero => intro _; simp
        | succ k ih =>
          intro hk
          obtain ⟨z, hz, hmu⟩ := (hf k (by omega)).2.2
          have hke : (elems.map (·.1))[k]? = some z.1 := by simp [hz]
          have hkl : k < (elems.map (·.1)).length := (List.getElem?_eq_some_iff.1 hke).1
          have htk : (elems.map (·.1)).take (k + 1) = (elems.map (·.1)).take k ++ [z.1] := by
            rw [List.take_succ_eq_append_getElem hkl]
            congr 2
            exact (List.getElem?_eq_some_iff.1 hke).2
          have happ : ∀ (l r : List (DataW H)), Rows.uptoBulkAll (l ++ r) = Rows.uptoBulkAll l + Rows.uptoBulkAll r := by
            intro l r
            induction l with
            | nil => simp [Rows.uptoBulkAll]
            | cons x l ih => simp only [List.cons_append, Rows.uptoBulkAll, ih]; omega
          rw [htk, happ, List.range_succ]
          simp only [List.map_append, List.sum_append, List.map_cons, List.map_nil, List.sum_cons, List.sum_nil, Rows.uptoBulkAll]
          have := ih (by omega)
          omega
      have := hsum len (Nat.le_refl _)
      rw [List.take_of_length_le (by simp [hlen])] at this
      simp only [Rows.uptoBulk]
      omega
end
end Go.Proofs.Ytbpooepbnnbipaa
