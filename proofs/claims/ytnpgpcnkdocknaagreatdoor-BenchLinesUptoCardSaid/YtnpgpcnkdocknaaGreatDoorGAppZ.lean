/- Texts merged: Pq10, Open, BnSpec, Tw5, Et1, RnSpec, Bn3, Pq11, AppZ. -/
import Derived.Test.YtnpgpcnkdocknaaGreatDoorPq9
import Derived.Defers
import Derived.Recover
import Derived.Test.YtnpgpcnkdocknaaGreatDoorGPqSpec
import Derived.ProofKit
import Derived.OpenShut
import Derived.SizedLaws
import Derived.JoinedCond
import Derived.Deep.CondSized
import Derived.Deep.Slices
import Derived.Test.YtnpgpcnkdocknaaGreatDoorGBlk
import Derived.Laws.Strings
import Derived.Test.YtnpgpcnkdocknaaGreatDoorGPq2
import Derived.Lib.ItoaNum
namespace Go.Proofs.YtnpgpcnkdocknaaGreatDoor
open Go.RowKit
set_option linter.unusedVariables false
set_option maxHeartbeats 1000000 in
set_option maxRecDepth 100000 in
theorem catch_idle (a b c : Nat) (w : World) :
    CallsD Tryz.prog 22 #[.pointer (some ⟨a, 0, none⟩), .pointer (some ⟨b, 0, none⟩), .pointer (some ⟨c, 0, none⟩)] .returning w fun e u' w' => e = .returned (.tuple #[]) ∧ u' = .returning ∧ w' = w := by
 refine callsD_of_wpS Tryz.func22 rfl fun c₀ cs hu => ?_
 apply wpS_seq
 apply wpS_region
 simp [wpOpsS, go_sem, recoverD, hu, Tryz.ntmps22, Exit.thenS]
 change Code.wpS _ _ _ { tmps := #[.pointer (some ⟨a, 0, none⟩), .pointer (some ⟨b, 0, none⟩), .pointer (some ⟨c, 0, none⟩), .nilIface, undef, undef, .nilIface, undef, undef, undef, undef, undef, undef, undef, undef, undef, undef, undef, undef], defers := [] } _ _
 refine wpS_of_wp ?_
 go_wp2
 cases c₀
 simp_all [bodyPostS, results, Tryz.results22]
set_option maxHeartbeats 1000000 in
set_option maxRecDepth 100000 in
theorem catch_misfit (a b c : Nat) (z : Int) (older : List PanicEntry) (w : World) (va vb vc : Value) (hA : Blk 0 w a [va]) (hB : Blk 0 w b [vb]) (hC : Blk 0 w c [vc]) (hab : a ≠ b) (hac : a ≠ c) (hbc : b ≠ c) :
    CallsD Tryz.prog 22 #[.pointer (some ⟨a, 0, none⟩), .pointer (some ⟨b, 0, none⟩), .pointer (some ⟨c, 0, none⟩)] (.panicking ({ v := misV z, recovered := false } :: older)) w fun e u' w' =>
     e = .returned (.tuple #[]) ∧ u' = .panicking ({ v := misV z, recovered := true } :: older) ∧ Blk 0 w' a [.slice none 0 0] ∧ Blk 0 w' b [.int .i64 z] ∧ Blk 0 w' c [.int .i64 1] ∧ But (fun k => k = a ∨ k = b ∨ k = c) w w' := by
 have hta : ∀ (w : World), (Instr.typeAssert (.iface 59 (.agg #[.int .i64 z])) 20 59 true).run Tryz.prog w = .ok (.tuple #[.agg #[.int .i64 z], .bool true]) w := fun _ => by rfl
 refine callsD_of_wpS Tryz.func22 rfl fun c₀ cs hu => ?_
 unfold misV at hu ⊢
 apply wpS_seq
 apply wpS_region
 simp [wpOpsS, go_sem, recoverD, hu, Tryz.ntmps22, Exit.thenS]
 change Code.wpS _ _ _ { tmps := #[.pointer (some ⟨a, 0, none⟩), .pointer (some ⟨b, 0, none⟩), .pointer (some ⟨c, 0, none⟩), .iface 59 (.agg #[.int .i64 z]), undef, undef, .iface 59 (.agg #[.int .i64 z]), undef, undef, undef, undef, undef, undef, undef, undef, undef, undef, undef, undef], defers := [] } _ _
 refine wpS_of_wp ?_
 have a0 := hA.cell 0 _ rfl
 have a1 := hA.fr 0
 have b0 := hB.cell 0 _ rfl
 have b1 := hB.fr 0
 have c0 := hC.cell 0 _ rfl
 have c1 := hC.fr 0
 have la := hA.lt
 have lb := hB.lt
 have lc := hC.lt
 go_upto_region 5 with (fail)
 go_region
 have hA1 : Blk 0 (w.setCell ⟨a, 0, none⟩ (.slice none 0 0)) a [.slice none 0 0] := hA.set (i := 0) (by simp) _
 have hA2 := (hA1.other (p := ⟨b, 0, none⟩) (fun e => hab e.symm) (.int .i64 z)).other (p := ⟨c, 0, none⟩) (fun e => hac e.symm) (.int .i64 1)
 have hB1 : Blk 0 ((w.setCell ⟨a, 0, none⟩ (.slice none 0 0)).setCell ⟨b, 0, none⟩ (.int .i64 z)) b [.int .i64 z] := (hB.other (p := ⟨a, 0, none⟩) hab _).set (i := 0) (by simp) _
 have hB2 := hB1.other (p := ⟨c, 0, none⟩) (fun e => hbc e.symm) (.int .i64 1)
 have hC2 : Blk 0 (((w.setCell ⟨a, 0, none⟩ (.slice none 0 0)).setCell ⟨b, 0, none⟩ (.int .i64 z)).setCell ⟨c, 0, none⟩ (.int .i64 1)) c [.int .i64 1] := ((hC.other (p := ⟨a, 0, none⟩) hac _).other (p := ⟨b, 0, none⟩) hbc _).set (i := 0) (by simp) _
 have bt : But (fun k => k = a ∨ k = b ∨ k = c) w ((((w.setCell ⟨a, 0, none⟩ (.slice none 0 0)).setCell ⟨b, 0, none⟩ (.int .i64 z)).setCell ⟨c, 0, none⟩ (.int .i64 1)).alloc (.cells #[.int .i64 z] 59)).drew := ((((But.refl _ _).setCell (p := ⟨a, 0, none⟩) (.inl rfl) _).setCell (p := ⟨b, 0, none⟩) (.inr (.inl rfl)) _).setCell (p := ⟨c, 0, none⟩) (.inr (.inr rfl)) _).alloc _ |>.drew
 have bl := ((Below.refl (((w.setCell ⟨a, 0, none⟩ (.slice none 0 0)).setCell ⟨b, 0, none⟩ (.int .i64 z)).setCell ⟨c, 0, none⟩ (.int .i64 1)).heap.size _).alloc (Nat.le_refl _) (.cells #[.int .i64 z] 59)).drew
 have hfin := And.intro (hA2.below bl) (And.intro (hB2.below bl) (And.intro (hC2.below bl) bt))
 have HFIN := hid hfin
 clear hA1 hA2 hB1 hB2 hC2 bt bl hfin hA hB hC a0 a1 b0 b1 c0 c1 la lb lc hta
 generalize ((((w.setCell ⟨a, 0, none⟩ (.slice none 0 0)).setCell ⟨b, 0, none⟩ (.int .i64 z)).setCell ⟨c, 0, none⟩ (.int .i64 1)).alloc (.cells #[.int .i64 z] 59)).drew = WF at *
 go_wp2
 cases c₀
 simp [bodyPostS, results, Tryz.results22]
 exact HFIN.out
theorem lexG_len (l : List UInt8) : ∀ (n a : Nat) (out : List LTok), out.length ≤ a → a ≤ l.length → (∀ t ∈ out, t.text.length ≤ l.length) → (lexG l n a out).1.length ≤ l.length ∧ ∀ t ∈ (lexG l n a out).1, t.text.length ≤ l.length := by
 intro n
 induction n with
 | zero => intro a out h1 h2 h3; exact ⟨Nat.le_trans h1 h2, h3⟩
 | succ n ih =>
  intro a out h1 h2 h3
  rw [lexG]
  split
  ·split
   ·exact ⟨Nat.zero_le _, fun t ht => by cases ht⟩
   ·rename_i k x hk
    obtain ⟨t1, t2, t3, t4⟩ := tokL_some hk
    rw [List.length_drop] at t3
    have hge := runL_ge (p := blkB) (l := l) (a := a + x.length)
    refine ih _ _ (by simp only [List.length_append, List.length_cons, List.length_nil]; omega) (runL_le (by omega)) (fun t ht => ?_)
    rcases List.mem_append.1 ht with h4 | h4
    ·exact h3 t h4
    ·rw [List.mem_singleton.1 h4]; show x.length ≤ _; omega
  ·exact ⟨Nat.le_trans h1 h2, h3⟩
theorem lexR_len (l : List UInt8) : (lexR l).1.length ≤ l.length ∧ ∀ t ∈ (lexR l).1, t.text.length ≤ l.length :=
 lexG_len l _ _ [] (Nat.zero_le _) (runL_le (Nat.zero_le _)) (fun t ht => by cases ht)
def parT (en : Int) (o : PR (List St)) : List St × Int × Int :=
 match o with
 | .ok l [] => (l, 0, 0)
 | .ok l (t :: r) => ([], t.pos, 1)
 | .no r => ([], placeG en r, 1)
def parG (l : List UInt8) : List St × Int × Int :=
 if (lexR l).2.2 = 0 then
  match stsG (6 * (lexR l).1.length + 1) [] (lexR l).1 with
  | some o => parT l.length o
  | none => ([], 0, 0)
 else ([], (lexR l).2.1, (lexR l).2.2)
def ParOut (R : List St × Int × Int) (w : World) (e : Ending) (w' : World) : Prop := ∃ x, e = .returned (.tuple #[x, .int .i64 R.2.1, .int .i64 R.2.2]) ∧ RdSts w' (Plus Nowhere w.heap.size w'.heap.size) R.1 x ∧ Below w.heap.size w w'
end Go.Proofs.YtnpgpcnkdocknaaGreatDoor
namespace Go.Proofs.YtnpgpcnkdocknaaGreatDoor
open Go.ChangeShapes Go.WideShapes Go.ChangeAt Go.RowKit Go.Deep
set_option linter.unusedVariables false

mutual
def Ex.wt : Ex → Nat
 | .mk _ _ s args => 1 + s.size + Ex.wts args
def Ex.wts : List Ex → Nat
 | [] => 0
 | e :: r => Ex.wt e + Ex.wts r
end
mutual
def St.wt : St → Nat
 | .mk _ s a b body els => 1 + s.size + Ex.wt a + Ex.wt b + St.wts body + St.wts els
def St.wts : List St → Nat
 | [] => 0
 | e :: r => St.wt e + St.wts r
end
mutual
def Tm.wt : Tm → Nat
 | .mk _ _ _ _ kids => 1 + Tm.wts kids
def Tm.wts : List Tm → Nat
 | [] => 0
 | e :: r => Tm.wt e + Tm.wts r
end
def Light {H : Type} (P : Program) (t : TypeId) (d : DataW H) : Prop := ∀ n ∈ d.weights P t, n ≤ reachBytes
theorem weightsAll_mem {H : Type} {P : Program} {e : TypeId} : ∀ {l : List (DataW H)} {d : DataW H}, d ∈ l → ∀ n ∈ d.weights P e, n ∈ DataW.weightsAll P e l
 | x :: r, d, h, n, hn => by
  simp only [DataW.weightsAll, List.mem_append]
  rcases List.mem_cons.1 h with rfl | h
  ·exact .inl hn
  ·exact .inr (weightsAll_mem h n hn)
theorem Light.elem {H : Type} {P : Program} {t e : TypeId} {elems spare : List (DataW H)} (h : Light P t (.slice elems spare)) (ht : P.underlying t = some (.slice e)) : (∀ d ∈ elems, Light P e d) ∧ (elems.length + spare.length) * P.bytesOf e ≤ reachBytes := by
 refine ⟨fun d hd n hn => h n ?_, h _ ?_⟩
 ·simp only [DataW.weights, ht, List.mem_cons, List.mem_append]
  exact .inr (.inl (weightsAll_mem hd n hn))
 ·simp [DataW.weights, ht]
theorem Light.field {H : Type} {P : Program} {t : TypeId} {fs : Array Field} {parts : List (DataW H)} (h : Light P t (.agg parts)) (ht : P.underlying t = some (.struct fs)) {i : Nat} {f : Field} {d : DataW H} (hf : fs[i]? = some f) (hd : parts[i]? = some d) : Light P f.type d := fun n hn => h n (by
 simp only [DataW.weights, ht]
 exact DataW.weights_mem_each (j := i) (by simpa using congrArg (Option.map (·.type)) hf) hd n hn)
theorem Light.string {H : Type} {P : Program} {t : TypeId} {s : ByteArray} (h : Light (H := H) P t (.lit (.string s.data.toList))) : s.size ≤ 140737488355328 := by
 have := h s.size (by simp only [DataW.weights, List.mem_singleton]; rw [Array.length_toList]; rfl)
 unfold reachBytes at this
 omega
theorem light_of {H : Type} {P : Program} {ts : List TypeId} {ds : List (DataW H)} (h : (DataW.weightsEach P ts ds).all (· ≤ reachBytes) = true) {j : Nat} {t : TypeId} {d : DataW H} (ht : ts[j]? = some t) (hd : ds[j]? = some d) : Light P t d :=
 fun n hn => by simpa using List.all_eq_true.1 h _ (DataW.weights_mem_each ht hd n hn)

theorem len2 {α : Type} {l : List α} (h : l.length = 2) : ∃ c0 c1, l = [c0, c1] := by
 match l, h with
 | [c0, c1], _ => exact ⟨c0, c1, rfl⟩
theorem len8 {α : Type} {l : List α} (h : l.length = 8) : ∃ c0 c1 c2 c3 c4 c5 c6 c7, l = [c0, c1, c2, c3, c4, c5, c6, c7] := by
 match l, h with
 | [c0, c1, c2, c3, c4, c5, c6, c7], _ => exact ⟨c0, c1, c2, c3, c4, c5, c6, c7, rfl⟩
section
variable {H : Type} {enc : TypeId × Value → H} {P : Program} {w : World} {spare : Nat → Bool} {held : Bool}
theorem slice_open {α : Type} [Inhabited α] {rd : World → Blocks → α → List Value → Prop} {mu : α → Nat} {size bytes : Nat} {t e : TypeId} {fuel : Nat} {cs : List Value} {x : DataW H × List MemPlace} (ht : P.underlying t = some (.slice e)) (hC : P.cellsOf e = size) (hB : P.bytesOf e = bytes) (hpos : 0 < size)
    (hL : Light P t x.1) (h : DataW.trod enc P w 0 spare held fuel t cs = some x)
    (IH : ∀ n cs' y, n < fuel → DataW.trod enc P w 0 spare held n e cs' = some y → Light P e y.1 → ∃ a, rd w (Upto w.heap.size) a cs' ∧ mu a ≤ Rows.uptoBulk y.1) :
    ∃ l v, cs = [v] ∧ RdL rd size bytes w (Upto w.heap.size) l v ∧ (l.map mu).sum + 1 ≤ Rows.uptoBulk x.1 := by
 rcases DataW.trod_slice ht h with ⟨rfl, rfl⟩ | ⟨a, len, cap, elems, rest, n, rfl, rfl, rfl, _, hl, hm, hlen, hel, hsp, hns⟩
 ·exact ⟨[], _, rfl, RdL.nil (by simp [maxLen]), by simp [Rows.uptoBulk]⟩
 ·obtain ⟨hLe, hLb⟩ := hL.elem ht
  have hi : ∀ i, i < len → ∃ y : α × List Value, w.cells? 0 (a.add (i * size)) size = some y.2 ∧ rd w (Upto w.heap.size) y.1 y.2 ∧ ∃ z, elems[i]? = some z ∧ mu y.1 ≤ Rows.uptoBulk z.1 := fun i hi => by
   have h1 := hel i hi
   have hz : elems[i]? = some (elems[i]'(by omega)) := List.getElem?_eq_getElem (by omega)
   rw [hz, hC] at h1
   obtain ⟨cs', h2, h3⟩ := Option.bind_eq_some_iff.1 h1
   obtain ⟨b, hb, hmu⟩ := IH n cs' _ (by omega) h3 (hLe _ (List.mem_map.2 ⟨_, List.getElem_mem _, rfl⟩))
   exact ⟨(b, cs'), h2, hb, _, hz, hmu⟩
  obtain ⟨f, hf⟩ := choose_lt hi
  have hbytes : len * bytes ≤ 140737488355328 := by
   rw [hB] at hLb
   unfold reachBytes at hLb
   simp only [List.length_map, hlen] at hLb
   have : len * bytes ≤ (len + rest.length) * bytes := Nat.mul_le_mul_right _ (by omega)
   omega
  refine ⟨(List.range len).map fun i => (f i).1, _, rfl, ⟨some a, cap, (List.range len).map fun i => (f i).2, by simp, by simpa using hl, hm, by simpa using hbytes, by simp, ⟨?_, ?_⟩, ?_⟩, ?_⟩
  ·intro cs hcs
   obtain ⟨i, hi, rfl⟩ := List.mem_map.1 hcs
   exact (World.cells?_some (hf i (List.mem_range.1 hi)).1).2.1
  ·intro hne
   have hlen0 : 0 < len := by
    rcases Nat.eq_zero_or_pos len with h0 | h0
    ·subst h0; exact absurd rfl hne
    ·exact h0
   obtain ⟨b, off, sp⟩ := a
   have h0 := World.cells?_some (hf 0 hlen0).1
   have h00 := h0.2.2 0 hpos
   have hl0 : 0 < (f 0).2.length := by rw [h0.2.1]; exact hpos
   rw [List.getElem?_eq_getElem hl0] at h00
   have hadd0 : ((⟨b, off, sp⟩ : Addr).add (0 * size)).add 0 = ⟨b, off, sp⟩ := by simp [Addr.add]
   rw [hadd0] at h00
   have hs := World.cell?_spot h00
   simp only at hs
   subst hs
   refine ⟨b, off, rfl, World.block_lt_of_cell? w _ h00, fun i cs hi j v hv => ?_⟩
   have hil : i < len := by
    have := (List.getElem?_eq_some_iff.1 hi).1
    simpa using this
   have hcs : (f i).2 = cs := by simpa [hil] using hi
   have h1 := World.cells?_some (hf i hil).1
   have hj : j < size := by
    have := (List.getElem?_eq_some_iff.1 hv).1
    rw [← hcs, h1.2.1] at this
    exact this
   have h2 := h1.2.2 j hj
   rw [hcs, hv] at h2
   have hadd : ((⟨b, off, none⟩ : Addr).add (i * size)).add j = ⟨b, off + (i * size + j), none⟩ := by
    rw [add_of_add]
    unfold Addr.add
    split <;> simp_all
   rwa [hadd] at h2
  ·intro i e' cs' he hcs
   have hil : i < len := by
    have := (List.getElem?_eq_some_iff.1 he).1
    simpa using this
   have h1 : (f i).1 = e' := by simpa [hil] using he
   have h2 : (f i).2 = cs' := by simpa [hil] using hcs
   subst h1; subst h2
   exact (hf i hil).2.1
  ·have hsum : ∀ k, k ≤ len → (((List.range k).map fun i => (f i).1).map mu).sum ≤ Rows.uptoBulkAll ((elems.map (·.1)).take k) := by
     intro k
     induction k with
     | zero => intro _; simp
     | succ k ih =>
      intro hk
      obtain ⟨z, hz, hmu⟩ := (hf k (by omega)).2.2
      have hke : (elems.map (·.1))[k]? = some z.1 := by simp [hz]
      have hkl : k < (elems.map (·.1)).length := (List.getElem?_eq_some_iff.1 hke).1
      have htk : (elems.map (·.1)).take (k + 1) = (elems.map (·.1)).take k ++ [z.1] := by
       rw [List.take_succ_eq_append_getElem hkl]
       congr 2
       exact (List.getElem?_eq_some_iff.1 hke).2
      have happ : ∀ (l r : List (DataW H)), Rows.uptoBulkAll (l ++ r) = Rows.uptoBulkAll l + Rows.uptoBulkAll r := by
       intro l r
       induction l with
       | nil => simp [Rows.uptoBulkAll]
       | cons x l ih => simp only [List.cons_append, Rows.uptoBulkAll, ih]; omega
      rw [htk, happ, List.range_succ]
      simp only [List.map_append, List.sum_append, List.map_cons, List.map_nil, List.sum_cons, List.sum_nil, Rows.uptoBulkAll]
      have := ih (by omega)
      omega
   have := hsum len (Nat.le_refl _)
   rw [List.take_of_length_le (by simp [hlen])] at this
   simp only [Rows.uptoBulk]
   omega
end
end Go.Proofs.YtnpgpcnkdocknaaGreatDoor
namespace Go.Proofs.YtnpgpcnkdocknaaGreatDoor
set_option linter.unusedVariables false
def tbs : List LTok → Nat
 | [] => 0
 | t :: r => t.text.length + tbs r
def okTs (ts : List LTok) : Prop := ∀ t ∈ ts, 0 < t.text.length
theorem okTs.tail {t : LTok} {r : List LTok} (h : okTs (t :: r)) : okTs r := fun u hu => h u (List.mem_cons_of_mem _ hu)
theorem okTs.head {t : LTok} {r : List LTok} (h : okTs (t :: r)) : 0 < t.text.length := h t (List.mem_cons_self ..)
theorem tbs_app (a b : List LTok) : tbs (a ++ b) = tbs a + tbs b := by
 induction a with
 | nil => simp [tbs]
 | cons t a ih => simp only [List.cons_append, tbs, ih]; omega
theorem isT_size {s : Str} {t : LTok} {r : List LTok} (h : isT s (t :: r) = true) : t.text.length = s.size := by
 have h2 : (t.str.toList == s.toList) = true := h
 rw [beq_iff_eq, ByteArray.toList_eq, ByteArray.toList_eq] at h2
 have h3 : t.text = s.data.toList := h2
 rw [h3, ← data_len s]
theorem wantG_bs : ∀ (l : List Str) {ts r : List LTok} {u : Unit}, wantG l ts = .ok u r → okTs ts → okTs r ∧ tbs r + (l.map ByteArray.size).sum = tbs ts := by
 intro l
 induction l with
 | nil => intro ts r u h ho; simp only [wantG, PR.ok.injEq] at h; rw [← h.2]; exact ⟨ho, by simp⟩
 | cons s l ih =>
  intro ts r u h ho
  rw [wantG] at h
  split at h
  ·obtain ⟨t, q, rfl⟩ := isT_ne (by assumption)
   have hsz := isT_size (by assumption)
   obtain ⟨h1, h2⟩ := ih h ho.tail
   refine ⟨h1, ?_⟩
   simp only [List.tail_cons] at h2
   simp only [List.map_cons, List.sum_cons, tbs]; omega
  ·cases h
theorem nameG_bs {ts r : List LTok} {s : Str} (h : nameG ts = .ok s r) (ho : okTs ts) : okTs r ∧ s.size + tbs r = tbs ts ∧ 0 < s.size := by
 cases ts with
 | nil => cases h
 | cons t q =>
  rw [nameG] at h
  split at h
  ·simp only [PR.ok.injEq] at h
   rw [← h.1, ← h.2]
   exact ⟨ho.tail, rfl, ho.head⟩
  ·cases h
def moW : Mo → Nat | .ex _ => 0 | .row _ a => a.wt
theorem twoX_wt (s : Str) (a b : Ex) : (twoX s a b).wt = 1 + a.wt + b.wt := by unfold twoX; simp only [Ex.wt, Ex.wts, ByteArray.size]; simp; omega
theorem exG_bs : ∀ (n : Nat) (m : Mo) (ts r : List LTok) (x : Ex), exG n m ts = some (.ok x r) → okTs ts → okTs r ∧ x.wt + 2 * tbs r ≤ moW m + 2 * tbs ts := by
 intro n
 induction n with
 | zero => intro m ts r x h; simp [exG] at h
 | succ n ih =>
  intro m ts r x h ho
  cases m with
  | ex lvl =>
   by_cases hl : lvl < 3
   ·rw [exG_ex hl] at h
    rcases PO.bind_some h with ⟨_, _, h2⟩ | ⟨a, q, h1, h2⟩
    ·cases h2
    ·obtain ⟨o1, e1⟩ := ih _ _ _ _ h1 ho
     obtain ⟨o2, e2⟩ := ih _ _ _ _ h2 o1
     simp only [moW] at *
     exact ⟨o2, by omega⟩
   ·have e : exG (n + 1) (.ex lvl) ts = exG (n + 1) (.ex 3) ts := by simp only [exG, if_neg hl]; rfl
    rw [e] at h
    cases hop : isT (bz [40]) ts with
    | true =>
     rw [exG_open hop] at h
     obtain ⟨t, q, rfl⟩ := isT_ne hop
     rcases PO.bind_some h with ⟨_, _, h2⟩ | ⟨a, q2, h1, h2⟩
     ·cases h2
     ·obtain ⟨o1, e1⟩ := ih _ _ _ _ h1 ho.tail
      rcases PO.bind_some h2 with ⟨_, _, h4⟩ | ⟨u, q3, h3, h4⟩
      ·cases h4
      ·obtain ⟨o2, e2⟩ := wantG_bs _ (Option.some.inj h3) o1
       simp only [Option.some.injEq, PR.ok.injEq] at h4
       obtain ⟨rfl, rfl⟩ := h4
       simp only [moW, List.tail_cons, tbs, List.map_cons, List.map_nil, List.sum_cons, List.sum_nil] at *
       exact ⟨o2, by omega⟩
    | false =>
     cases ts with
     | nil => rw [exG_nil] at h; cases h
     | cons t q =>
      have h0 := ho.head
      by_cases h1 : t.kind = 1
      ·rw [exG_num hop h1] at h
       simp only [Option.some.injEq, PR.ok.injEq] at h
       rw [← h.1, ← h.2]
       refine ⟨ho.tail, ?_⟩
       have : (numX t).wt = 1 := rfl
       simp only [moW, tbs]; omega
      ·rw [exG_name hop h1] at h
       rcases PO.bind_some h with ⟨_, _, h2⟩ | ⟨s, q2, h1, h2⟩
       ·cases h2
       ·obtain ⟨o1, e1, e2⟩ := nameG_bs (Option.some.inj h1) ho
        simp only [Option.some.injEq, PR.ok.injEq] at h2
        obtain ⟨rfl, rfl⟩ := h2
        refine ⟨o1, ?_⟩
        have : (Ex.mk 2 0 s []).wt = 1 + s.size := by simp [Ex.wt, Ex.wts]
        simp only [moW]; omega
  | row lvl a =>
   by_cases ha : anyG (lvlS lvl) ts = ⟨#[]⟩
   ·rw [exG_stop ha] at h
    simp only [Option.some.injEq, PR.ok.injEq] at h
    rw [← h.1, ← h.2]; exact ⟨ho, Nat.le_refl _⟩
   ·rw [exG_row ha] at h
    obtain ⟨t, q, rfl⟩ := anyG_ne ha
    have h0 := ho.head
    rcases PO.bind_some h with ⟨_, _, h2⟩ | ⟨b, q2, h1, h2⟩
    ·cases h2
    ·obtain ⟨o1, e1⟩ := ih _ _ _ _ h1 ho.tail
     simp only [moW, List.tail_cons, tbs] at e1 ⊢
     split at h2
     ·simp only [Option.some.injEq, PR.ok.injEq] at h2
      obtain ⟨rfl, rfl⟩ := h2
      rw [twoX_wt]
      exact ⟨o1, by omega⟩
     ·obtain ⟨o2, e2⟩ := ih _ _ _ _ h2 o1
      simp only [moW, twoX_wt] at e2
      exact ⟨o2, by omega⟩
def StsB (sts : List LTok → PO (List St)) : Prop := ∀ ts l r, sts ts = some (.ok l r) → okTs ts → okTs r ∧ St.wts l + 2 * tbs r ≤ 2 * tbs ts
theorem blockG_bs {sts : List LTok → PO (List St)} (hs : StsB sts) {ts r : List LTok} {l : List St} (h : blockG sts ts = some (.ok l r)) (ho : okTs ts) : okTs r ∧ St.wts l + 2 * tbs r ≤ 2 * tbs ts := by
 unfold blockG at h
 rcases PO.bind_some h with ⟨_, _, h2⟩ | ⟨u, q, h1, h2⟩
 ·cases h2
 ·obtain ⟨o1, e1⟩ := wantG_bs _ (Option.some.inj h1) ho
  rcases PO.bind_some h2 with ⟨_, _, h4⟩ | ⟨x, q2, h5, h4⟩
  ·cases h4
  ·obtain ⟨o2, e2⟩ := hs _ _ _ h5 o1
   rcases PO.bind_some h4 with ⟨_, _, h7⟩ | ⟨u2, q3, h8, h7⟩
   ·cases h7
   ·obtain ⟨o3, e3⟩ := wantG_bs _ (Option.some.inj h8) o2
    simp only [Option.some.injEq, PR.ok.injEq] at h7
    obtain ⟨rfl, rfl⟩ := h7
    simp only [List.map_cons, List.map_nil, List.sum_cons, List.sum_nil] at *
    exact ⟨o3, by omega⟩
theorem setN_wt (s : St) (x : Str) : (s.setN x).wt ≤ s.wt + x.size := by cases s; simp only [St.setN, St.wt]; omega
theorem setA_wt (s : St) (x : Ex) : (s.setA x).wt ≤ s.wt + x.wt := by cases s; simp only [St.setA, St.wt]; omega
theorem setB_wt (s : St) (x : Ex) : (s.setB x).wt ≤ s.wt + x.wt := by cases s; simp only [St.setB, St.wt]; omega
theorem setL_wt (s : St) (x : List St) : (s.setL x).wt ≤ s.wt + St.wts x := by cases s; simp only [St.setL, St.wt]; omega
theorem setE_wt (s : St) (x : List St) : (s.setE x).wt ≤ s.wt + St.wts x := by cases s; simp only [St.setE, St.wt]; omega
theorem setK_wt (s : St) (x : Int) : (s.setK x).wt = s.wt := by cases s; simp only [St.setK, St.wt]
def wordB : Pt' → Nat | .w x => x.size | _ => 0
theorem partG_bs {fu : Nat} {sts : List LTok → PO (List St)} (hs : StsB sts) {p : Pt'} {s s' : St} {ts r : List LTok} (h : partG fu sts p s ts = some (.ok s' r)) (ho : okTs ts) : okTs r ∧ s'.wt + 2 * tbs r + 2 * wordB p ≤ s.wt + 2 * tbs ts := by
 cases p <;> simp only [partG] at h <;> rcases PO.bind_some h with ⟨_, _, h2⟩ | ⟨u, q, h1, h2⟩ <;> first | (cases h2; done) | skip
 all_goals simp only [Option.some.injEq, PR.ok.injEq] at h2; obtain ⟨rfl, rfl⟩ := h2
 ·obtain ⟨o1, e1⟩ := wantG_bs _ (Option.some.inj h1) ho
  simp only [List.map_cons, List.map_nil, List.sum_cons, List.sum_nil, wordB] at *
  exact ⟨o1, by omega⟩
 ·obtain ⟨o1, e1, e2⟩ := nameG_bs (Option.some.inj h1) ho
  have := setN_wt s u
  simp only [wordB]; exact ⟨o1, by omega⟩
 ·obtain ⟨o1, e1⟩ := exG_bs _ _ _ _ _ h1 ho
  have := setA_wt s u
  simp only [wordB, moW] at *; exact ⟨o1, by omega⟩
 ·obtain ⟨o1, e1⟩ := exG_bs _ _ _ _ _ h1 ho
  have := setB_wt s u
  simp only [wordB, moW] at *; exact ⟨o1, by omega⟩
 ·obtain ⟨o1, e1⟩ := blockG_bs hs h1 ho
  have := setL_wt s u
  simp only [wordB]; exact ⟨o1, by omega⟩
theorem formG_bs {fu : Nat} {sts : List LTok → PO (List St)} (hs : StsB sts) : ∀ (ps : List Pt') {s s' : St} {ts r : List LTok}, formG fu sts ps s ts = some (.ok s' r) → okTs ts → okTs r ∧ s'.wt + 2 * tbs r + 2 * (ps.map wordB).sum ≤ s.wt + 2 * tbs ts := by
 intro ps
 induction ps with
 | nil => intro s s' ts r h ho; simp only [formG, Option.some.injEq, PR.ok.injEq] at h; rw [← h.1, ← h.2]; exact ⟨ho, by simp⟩
 | cons p ps ih =>
  intro s s' ts r h ho
  rw [formG] at h
  rcases PO.bind_some h with ⟨_, _, h2⟩ | ⟨u, q, h1, h2⟩
  ·cases h2
  ·obtain ⟨o1, e1⟩ := partG_bs hs h1 ho
   obtain ⟨o2, e2⟩ := ih h2 o1
   simp only [List.map_cons, List.sum_cons]
   exact ⟨o2, by omega⟩
theorem kindG_bs {fu : Nat} {sts : List LTok → PO (List St)} (hs : StsB sts) {f : Int × List Pt'} (hf : 2 ≤ (f.2.map wordB).sum) {s' : St} {ts r : List LTok} (h : kindG fu sts f ts = some (.ok s' r)) (ho : okTs ts) : okTs r ∧ s'.wt + 2 * tbs r ≤ 2 * tbs ts := by
 unfold kindG at h
 rcases PO.bind_some h with ⟨_, _, h2⟩ | ⟨u, q, h1, h2⟩
 ·cases h2
 ·obtain ⟨o1, e1⟩ := formG_bs hs _ h1 ho
  have hn : noSt.wt = 3 := rfl
  split at h2
  ·unfold elseG at h2
   split at h2
   ·obtain ⟨t, q2, rfl⟩ := isT_ne (by assumption)
    rcases PO.bind_some h2 with ⟨_, _, h4⟩ | ⟨x, q3, h5, h4⟩
    ·cases h4
    ·obtain ⟨o2, e2⟩ := blockG_bs hs h5 o1.tail
     simp only [Option.some.injEq, PR.ok.injEq] at h4
     obtain ⟨rfl, rfl⟩ := h4
     have := setE_wt (u.setK f.1) x
     rw [setK_wt] at this
     simp only [List.tail_cons, tbs] at *
     exact ⟨o2, by omega⟩
   ·simp only [Option.some.injEq, PR.ok.injEq] at h2
    rw [← h2.1, ← h2.2, setK_wt]; exact ⟨o1, by omega⟩
  ·simp only [Option.some.injEq, PR.ok.injEq] at h2
   rw [← h2.1, ← h2.2, setK_wt]; exact ⟨o1, by omega⟩
theorem forms_two : ∀ f ∈ formsP, 2 ≤ (f.2.map wordB).sum := by decide
theorem stmtG_bs {fu : Nat} {sts : List LTok → PO (List St)} (hs : StsB sts) {fs : List (Int × List Pt')} (hf : ∀ f ∈ fs, 2 ≤ (f.2.map wordB).sum) {s' : St} {ts r : List LTok} (h : stmtG fu sts fs ts = some (.ok s' r)) (ho : okTs ts) : okTs r ∧ s'.wt + 2 * tbs r ≤ 2 * tbs ts := by
 induction fs with
 | nil => cases h
 | cons f fs ih =>
  rw [stmtG] at h
  split at h
  ·exact kindG_bs hs (hf f (by simp)) h ho
  ·exact ih (fun g hg => hf g (by simp [hg])) h
theorem wtsB_app (a b : List St) : St.wts (a ++ b) = St.wts a + St.wts b := by
 induction a with
 | nil => simp [St.wts]
 | cons x a ih => simp only [List.cons_append, St.wts, ih]; omega
theorem stsG_bs : ∀ (n : Nat) (acc : List St) (ts r : List LTok) (l : List St), stsG n acc ts = some (.ok l r) → okTs ts → okTs r ∧ St.wts l + 2 * tbs r ≤ St.wts acc + 2 * tbs ts := by
 intro n
 induction n with
 | zero => intro acc ts r l h; cases h
 | succ n ih =>
  intro acc ts r l h ho
  by_cases ha : anyG begS ts = ⟨#[]⟩
  ·rw [stsG_stop ha] at h
   simp only [Option.some.injEq, PR.ok.injEq] at h
   rw [← h.1, ← h.2]; exact ⟨ho, Nat.le_refl _⟩
  ·rw [stsG_step ha] at h
   rcases PO.bind_some h with ⟨_, _, h2⟩ | ⟨s, q, h1, h2⟩
   ·cases h2
   ·obtain ⟨o1, e1⟩ := stmtG_bs (fun ts l r h ho => by have := ih [] ts r l h ho; simpa [St.wts] using this) forms_two h1 ho
    obtain ⟨o2, e2⟩ := ih _ _ _ _ h2 o1
    rw [wtsB_app] at e2
    simp only [St.wts] at e2
    exact ⟨o2, by omega⟩
theorem lexG_tbs (l : List UInt8) : ∀ (n a : Nat) (out : List LTok), tbs out ≤ a → a ≤ l.length → tbs (lexG l n a out).1 ≤ l.length := by
 intro n
 induction n with
 | zero => intro a out h1 h2; exact Nat.le_trans h1 h2
 | succ n ih =>
  intro a out h1 h2
  rw [lexG]
  split
  ·split
   ·exact Nat.zero_le _
   ·rename_i k x hk
    obtain ⟨t1, t2, t3, t4⟩ := tokL_some hk
    rw [List.length_drop] at t3
    have hge := runL_ge (p := blkB) (l := l) (a := a + x.length)
    refine ih _ _ ?_ (runL_le (by omega))
    rw [tbs_app]
    simp only [tbs]; omega
  ·exact Nat.le_trans h1 h2
theorem lexR_okTs (l : List UInt8) : okTs (lexR l).1 := by
 intro t ht
 obtain ⟨q, hq⟩ := lexR_ok l t ht
 exact (tokL_some hq).1
theorem parG_wts (l : List UInt8) : St.wts (parG l).1 ≤ 2 * l.length := by
 unfold parG
 split
 ·split
  ·rename_i o ho
   cases o with
   | no r => exact Nat.zero_le _
   | ok x r =>
    have h1 := stsG_bs _ _ _ _ _ ho (lexR_okTs l)
    have h2 : tbs (lexR l).1 ≤ l.length := lexG_tbs l _ _ [] (Nat.zero_le _) (runL_le (Nat.zero_le _))
    have h3 : St.wts ([] : List St) = 0 := rfl
    cases r with
    | nil => show St.wts x ≤ _; omega
    | cons t r => exact Nat.zero_le _
  ·exact Nat.zero_le _
 ·exact Nat.zero_le _
end Go.Proofs.YtnpgpcnkdocknaaGreatDoor
namespace Go.Proofs.YtnpgpcnkdocknaaGreatDoor
open Go.RowKit
set_option linter.unusedVariables false
def Ex.isTwo (t : Ex) : Bool := t.two.isSome
theorem etwo_any (t : Ex) (w : World) (S : Blocks) (V : Value) (r : RdE w S t V) :
    Calls Tryz.prog 59 #[V] w fun e w' => e = .returned (.bool t.isTwo) ∧ Below w.heap.size w w' := by
 obtain ⟨k, n, s, args, v, rfl, rfl, _, _, _, h4⟩ := r
 obtain ⟨A, cap, rfl, hc1, hc2, hc3⟩ := h4.form
 unfold maxLen at hc2
 unfold exV
 have hT : (Ex.mk k n s args).isTwo = true ↔ (3 ≤ k ∧ k ≤ 9 ∧ 2 ≤ args.length) := by
  unfold Ex.isTwo
  match args with
  | [] => simp [Ex.two]
  | [x] => simp [Ex.two]
  | x :: y :: r => simp only [Ex.two]; split <;> simp <;> omega
 generalize (Ex.mk k n s args).isTwo = T at *
 generalize args.length = m at *
 clear h4
 have key : (decide (3 ≤ k) && decide (k ≤ 9) && decide (2 ≤ (m : Int))) = T := by
  rw [Bool.eq_iff_iff, hT]; simp [and_assoc]; omega
 clear hT
 subst key
 by_cases h1 : 3 ≤ k
 ·by_cases h2 : k ≤ 9
  ·go_enter Tryz.func59, Tryz.ntmps59
   go_wp2
   go_ret
   exact ⟨by simp [h1, h2], (Below.refl _ _).alloc (Nat.le_refl _) _⟩
  ·go_enter Tryz.func59, Tryz.ntmps59
   go_wp2
   go_ret
   exact ⟨by simp; omega, (Below.refl _ _).alloc (Nat.le_refl _) _⟩
 ·go_enter Tryz.func59, Tryz.ntmps59
  go_wp2
  go_ret
  exact ⟨by simp; omega, (Below.refl _ _).alloc (Nat.le_refl _) _⟩
abbrev ex0 : Value := .agg #[.int .i64 0, .int .i64 0, .string ⟨#[]⟩, .slice none 0 0]
theorem two_no (t : Ex) (ht : t.two = none) (w : World) (S : Blocks) (V : Value) (r : RdE w S t V) :
    Calls Tryz.prog 59 #[V] w fun e w' => e = .returned (.bool false) ∧ Below w.heap.size w w' := by
 refine (etwo_any t w S V r).mono ?_
 rintro e w' ⟨rfl, h⟩
 exact ⟨by simp [Ex.isTwo, ht], h⟩
theorem two_yes (t a b : Ex) (ht : t.two = some (a, b)) (w : World) (S : Blocks) (V : Value) (r : RdE w S t V) :
    Calls Tryz.prog 59 #[V] w fun e w' => e = .returned (.bool true) ∧ Below w.heap.size w w' := by
 refine (etwo_any t w S V r).mono ?_
 rintro e w' ⟨rfl, h⟩
 exact ⟨by simp [Ex.isTwo, ht], h⟩
def numE (n : Int) : Ex := .mk 1 n noS []
def nameE (s : Str) : Ex := .mk 2 0 s []
def reb (F : Ex → Ex) (G : Int → Ex → Ex → Ex) (t : Ex) : Ex :=
 match h : t.two with
 | some (a, b) => G t.kind (reb F G a) (reb F G b)
 | none => if t.kind = 1 then F (numE t.num) else if t.kind = 2 then F (nameE t.name) else numE 0
termination_by SizeOf.sizeOf t
decreasing_by all_goals (have hs := Ex.two_size h; omega)
theorem reb_two {F : Ex → Ex} {G : Int → Ex → Ex → Ex} {t a b : Ex} (h : t.two = some (a, b)) : reb F G t = G t.kind (reb F G a) (reb F G b) := by
 rw [reb]; split
 ·rename_i a' b' h'; rw [h] at h'; simp at h'; obtain ⟨rfl, rfl⟩ := h'; rfl
 ·rename_i h'; rw [h] at h'; cases h'
theorem reb_none {F : Ex → Ex} {G : Int → Ex → Ex → Ex} {t : Ex} (h : t.two = none) : reb F G t = if t.kind = 1 then F (numE t.num) else if t.kind = 2 then F (nameE t.name) else numE 0 := by
 rw [reb]; split
 ·rename_i a' b' h'; rw [h] at h'; cases h'
 ·rfl
def clean : Ex → Ex := reb (fun x => x) mkE
def putF (s : Str) (by_ x : Ex) : Ex := if x.kind = 2 ∧ x.name = s then clean by_ else x
def put (s : Str) (by_ : Ex) : Ex → Ex := reb (putF s by_) mkE
theorem clean_two {t a b : Ex} (h : t.two = some (a, b)) : clean t = mkE t.kind (clean a) (clean b) := reb_two h
theorem clean_none {t : Ex} (h : t.two = none) : clean t = if t.kind = 1 then numE t.num else if t.kind = 2 then nameE t.name else numE 0 := reb_none h
def vN (m : Nat) : Str := ⟨(118 :: Lib.itoa (m : Int)).toArray⟩
theorem nDigV : ∀ (k u : Nat), 1 ≤ k → u < 10 ^ k → Lib.nDigits u ≤ k
 | 0, _, h, _ => by omega
 | 1, u, _, h => by rw [Lib.nDigits_small (by simpa using h)]; exact Nat.le_refl _
 | k + 2, u, _, h => by
  by_cases h1 : u < 10
  ·rw [Lib.nDigits_small h1]; omega
  ·rw [Lib.nDigits_big h1]
   have := nDigV (k + 1) (u / 10) (by omega) (by rw [Nat.pow_succ] at h; omega)
   omega
theorem vN_size (m : Nat) (h : m ≤ 9223372036854775807) : (vN m).size ≤ 30 := by
 have h1 : (vN m).size = (118 :: Lib.itoa (m : Int)).length := by
  unfold vN
  simp [ByteArray.size]
 have h2 : Lib.itoa (m : Int) = Lib.decDigits m := by
  unfold Lib.itoa
  rw [if_neg (by omega), Int.toNat_natCast]
 rw [h1, h2, List.length_cons, Lib.decDigits_length]
 have := nDigV 19 m (by decide) (by omega)
 omega
abbrev Env := List (Str × Str)
def look : Env → Str → Str
 | [], s => s
 | p :: r, s => if p.1 = s then p.2 else look r s
def renF (V : Env) (x : Ex) : Ex := if x.kind = 2 then nameE (look V x.name) else x
def renE (V : Env) : Ex → Ex := reb (renF V) mkE
theorem renE_two {V : Env} {t a b : Ex} (h : t.two = some (a, b)) : renE V t = mkE t.kind (renE V a) (renE V b) := reb_two h
theorem renE_none {V : Env} {t : Ex} (h : t.two = none) : renE V t = if t.kind = 1 then numE t.num else if t.kind = 2 then nameE (look V t.name) else numE 0 := by
 unfold renE
 rw [reb_none h]
 by_cases h1 : t.kind = 1
 ·rw [if_pos h1, if_pos h1]
  unfold renF
  rw [if_neg (by simp [numE, Ex.kind])]
 ·rw [if_neg h1, if_neg h1]
  by_cases h2 : t.kind = 2
  ·rw [if_pos h2, if_pos h2]
   unfold renF
   rw [if_pos (by rfl)]
   rfl
  ·rw [if_neg h2, if_neg h2]
theorem look_miss : ∀ {V : Env} {s : Str}, (∀ p ∈ V, p.1 ≠ s) → look V s = s
 | [], _, _ => rfl
 | p :: r, s, h => by
  unfold look
  rw [if_neg (h p (List.mem_cons_self ..))]
  exact look_miss (fun q hq => h q (List.mem_cons_of_mem _ hq))
theorem look_hit : ∀ {V : Env} {s : Str} {q : Nat} (hq : q < V.length), (∀ j, (h : j < q) → (V[j]'(by omega)).1 ≠ s) → V[q].1 = s → look V s = V[q].2
 | [], _, _, hq, _, _ => by simp at hq
 | p :: r, s, 0, _, _, h => by unfold look; rw [if_pos (by simpa using h)]; rfl
 | p :: r, s, q + 1, hq, hn, h => by
  unfold look
  rw [if_neg (by simpa using hn 0 (by omega))]
  exact look_hit (V := r) (q := q) (by simpa using hq) (fun j hj => by simpa using hn (j + 1) (by omega)) (by simpa using h)
theorem look_len (V : Env) (s : Str) (n : Nat) (h : s.size ≤ n) (hv : ∀ p ∈ V, p.2.size ≤ n) : (look V s).size ≤ n := by
 induction V with
 | nil => exact h
 | cons p r ih =>
  unfold look
  split
  ·exact hv p (List.mem_cons_self ..)
  ·exact ih (fun q hq => hv q (List.mem_cons_of_mem _ hq))
def exZ : Ex := .mk 0 0 noS []
mutual
def renS : St → Env → Nat → St × Env × Nat
 | .mk k s a b body els, V, m =>
  if k = 1 ∨ k = 2 then (.mk k (vN m) (renE V a) exZ [] [], (s, vN m) :: V, m + 1)
  else if k = 3 then (.mk k noS (renE V a) (renE V b) [] [], V, m)
  else if k = 4 ∨ k = 5 then (.mk k noS exZ exZ (renL body V m).1 [], V, (renL body V m).2)
  else if k = 6 then (.mk k noS (renE V a) exZ (renL body V m).1 (renL els V (renL body V m).2).1, V, (renL els V (renL body V m).2).2)
  else if k = 7 then (.mk k (vN m) (renE V a) (renE V b) (renL body ((s, vN m) :: V) (m + 1)).1 [], V, (renL body ((s, vN m) :: V) (m + 1)).2)
  else (.mk k noS exZ exZ [] [], V, m)
def renL : List St → Env → Nat → List St × Nat
 | [], _, m => ([], m)
 | s :: r, V, m => ((renS s V m).1 :: (renL r (renS s V m).2.1 (renS s V m).2.2).1, (renL r (renS s V m).2.1 (renS s V m).2.2).2)
end
def stepR (x : List St × Env × Nat) (s : St) : List St × Env × Nat := (x.1 ++ [(renS s x.2.1 x.2.2).1], (renS s x.2.1 x.2.2).2.1, (renS s x.2.1 x.2.2).2.2)
def renP (l : List St) (V : Env) (m : Nat) : List St × Env × Nat := l.foldl stepR ([], V, m)
theorem renP_nil (V : Env) (m : Nat) : renP [] V m = ([], V, m) := rfl
theorem renP_snoc (l : List St) (s : St) (V : Env) (m : Nat) : renP (l ++ [s]) V m = stepR (renP l V m) s := by
 unfold renP; rw [List.foldl_append]; rfl
theorem renP_acc : ∀ (l : List St) (out : List St) (V : Env) (m : Nat), ((l.foldl stepR (out, V, m)).1, (l.foldl stepR (out, V, m)).2.2) = (out ++ (renL l V m).1, (renL l V m).2)
 | [], out, V, m => by rw [renL]; simp
 | s :: r, out, V, m => by
  rw [List.foldl_cons, show stepR (out, V, m) s = (out ++ [(renS s V m).1], (renS s V m).2.1, (renS s V m).2.2) from rfl, renP_acc r _ _ _, renL]
  simp
theorem renP_L (l : List St) (V : Env) (m : Nat) : (renP l V m).1 = (renL l V m).1 ∧ (renP l V m).2.2 = (renL l V m).2 := by
 have := renP_acc l [] V m
 rw [List.nil_append, Prod.mk.injEq] at this
 exact this
mutual
theorem renS_le : ∀ (s : St) (V : Env) (m : Nat), m ≤ (renS s V m).2.2 ∧ (renS s V m).2.2 ≤ m + s.wt
 | .mk k s a b body els, V, m => by
  rw [renS, St.wt]
  have h1 := renL_le body V m
  have h2 := renL_le els V (renL body V m).2
  have h3 := renL_le body ((s, vN m) :: V) (m + 1)
  split
  ·exact ⟨by simp only; omega, by simp only; omega⟩
  ·split
   ·exact ⟨by simp only; omega, by simp only; omega⟩
   ·split
    ·exact ⟨by simp only; omega, by simp only; omega⟩
    ·split
     ·exact ⟨by simp only; omega, by simp only; omega⟩
     ·split
      ·exact ⟨by simp only; omega, by simp only; omega⟩
      ·exact ⟨by simp only; omega, by simp only; omega⟩
theorem renL_le : ∀ (l : List St) (V : Env) (m : Nat), m ≤ (renL l V m).2 ∧ (renL l V m).2 ≤ m + St.wts l
 | [], V, m => by rw [renL, St.wts]; simp
 | s :: r, V, m => by
  rw [renL, St.wts]
  have h1 := renS_le s V m
  have h2 := renL_le r (renS s V m).2.1 (renS s V m).2.2
  exact ⟨by simp only; omega, by simp only; omega⟩
end
end Go.Proofs.YtnpgpcnkdocknaaGreatDoor
namespace Go.Proofs.YtnpgpcnkdocknaaGreatDoor
set_option linter.unusedVariables false
def okV (V : Env) : Prop := ∀ p ∈ V, p.2.size ≤ 30
theorem ex_pos (t : Ex) : 1 ≤ t.wt := by cases t; simp only [Ex.wt]; omega
theorem noS_sz : noS.size = 0 := rfl
theorem exZ_wt : exZ.wt = 1 := rfl
theorem two_wt {t a b : Ex} (h : t.two = some (a, b)) : 1 + a.wt + b.wt ≤ t.wt := by
 match t, h with
 | .mk k c w (x :: y :: r), h =>
  simp only [Ex.two] at h
  split at h
  ·simp only [Option.some.injEq, Prod.mk.injEq] at h
   obtain ⟨rfl, rfl⟩ := h
   simp only [Ex.wt, Ex.wts]; omega
  ·cases h
theorem name_wt (t : Ex) : 1 + t.name.size ≤ t.wt := by cases t; simp only [Ex.wt, Ex.name]; omega
theorem renE_wt (V : Env) (hV : okV V) : ∀ (n : Nat) (t : Ex), SizeOf.sizeOf t ≤ n → (renE V t).wt ≤ 31 * t.wt := by
 intro n
 induction n with
 | zero => intro t h; cases t; simp at h
 | succ n ih =>
  intro t h
  cases h2 : t.two with
  | none =>
   rw [renE_none h2]
   have h3 := ex_pos t
   split
   ·simp only [numE, Ex.wt, Ex.wts, noS_sz]; omega
   ·split
    ·have h4 := name_wt t
     have h5 := look_len V t.name (30 + t.name.size) (by omega) (fun p hp => by have := hV p hp; omega)
     simp only [nameE, Ex.wt, Ex.wts]; omega
    ·simp only [numE, Ex.wt, Ex.wts, noS_sz]; omega
  | some p =>
   obtain ⟨a, b⟩ := p
   rw [renE_two h2]
   have hs := Ex.two_size h2
   have h3 := ih a (by omega)
   have h4 := ih b (by omega)
   have h5 := two_wt h2
   simp only [mkE, Ex.wt, Ex.wts, noS_sz]; omega
theorem renE_w {V : Env} (hV : okV V) (t : Ex) : (renE V t).wt ≤ 31 * t.wt := renE_wt V hV _ t (Nat.le_refl _)
theorem okV.cons {V : Env} (h : okV V) (s : Str) {m : Nat} (hm : m ≤ 9223372036854775807) : okV ((s, vN m) :: V) := by
 intro p hp
 rcases List.mem_cons.1 hp with rfl | hp
 ·exact vN_size m hm
 ·exact h p hp
mutual
theorem renS_wt : ∀ (s : St) (V : Env) (m : Nat), okV V → m + s.wt ≤ 9223372036854775807 → (renS s V m).1.wt ≤ 31 * s.wt ∧ okV (renS s V m).2.1
 | .mk k s a b body els, V, m, hV, hm => by
  have h0 := ex_pos a
  have h00 := ex_pos b
  have h1 := renE_w hV a
  have h2 := renE_w hV b
  rw [St.wt] at hm
  have h3 := renL_le body V m
  have h4 := renL_le body ((s, vN m) :: V) (m + 1)
  have h5 := renL_wt body V m hV (by omega)
  have h6 := renL_wt els V (renL body V m).2 hV (by omega)
  have h7 := renL_wt body ((s, vN m) :: V) (m + 1) (hV.cons s (by omega)) (by omega)
  have h8 := vN_size m (by omega)
  rw [renS, St.wt]
  split
  ·exact ⟨by simp only [St.wt, St.wts, exZ_wt]; omega, hV.cons s (by omega)⟩
  ·split
   ·exact ⟨by simp only [St.wt, St.wts, noS_sz]; omega, hV⟩
   ·split
    ·exact ⟨by simp only [St.wt, St.wts, noS_sz, exZ_wt]; omega, hV⟩
    ·split
     ·exact ⟨by simp only [St.wt, noS_sz, exZ_wt]; omega, hV⟩
     ·split
      ·exact ⟨by simp only [St.wt, St.wts]; omega, hV⟩
      ·exact ⟨by simp only [St.wt, St.wts, noS_sz, exZ_wt]; omega, hV⟩
theorem renL_wt : ∀ (l : List St) (V : Env) (m : Nat), okV V → m + St.wts l ≤ 9223372036854775807 → St.wts (renL l V m).1 ≤ 31 * St.wts l
 | [], V, m, _, _ => by rw [renL]; simp [St.wts]
 | s :: r, V, m, hV, hm => by
  rw [St.wts] at hm
  have h1 := renS_le s V m
  have h2 := renS_wt s V m hV (by omega)
  have h3 := renL_wt r (renS s V m).2.1 (renS s V m).2.2 h2.2 (by omega)
  rw [renL]
  simp only [St.wts]
  omega
end
theorem parG_small {l : List UInt8} (h : l.length ≤ 1048576) : St.wts (parG l).1 ≤ 67108864 ∧ St.wts (renL (parG l).1 [] 0).1 ≤ 67108864 := by
 have h1 := parG_wts l
 have h2 := renL_wt (parG l).1 [] 0 (fun p hp => by cases hp) (by omega)
 omega
end Go.Proofs.YtnpgpcnkdocknaaGreatDoor
namespace Go.Proofs.YtnpgpcnkdocknaaGreatDoor
open Go.RowKit
set_option linter.unusedVariables false
theorem parse_results {tmps : Array Value} {W : World} {a b c : Nat} {A : Option Addr} {n k : Nat} {z e : Int} (h2 : tmps[2]?.getD undef = .pointer (some ⟨a, 0, none⟩)) (h3 : tmps[3]?.getD undef = .pointer (some ⟨b, 0, none⟩)) (h4 : tmps[4]?.getD undef = .pointer (some ⟨c, 0, none⟩))
    (hA : Blk 0 W a [.slice A n k]) (hB : Blk 0 W b [.int .i64 z]) (hC : Blk 0 W c [.int .i64 e]) : (results Tryz.f11 tmps).run Tryz.prog W = .ok (.tuple #[.slice A n k, .int .i64 z, .int .i64 e]) W := by
 have a0 := hA.cell 0 _ rfl
 have b0 := hB.cell 0 _ rfl
 have c0 := hC.cell 0 _ rfl
 simp [results, Tryz.results11, go_sem, h2, h3, h4, a0, b0, c0]
theorem three_set {W : World} {a b c : Nat} {va vb vc : Value} (hA : Blk 0 W a [va]) (hB : Blk 0 W b [vb]) (hC : Blk 0 W c [vc]) (hab : a ≠ b) (hac : a ≠ c) (hbc : b ≠ c) (ua ub uc : Value) :
    Blk 0 (((W.setCell ⟨a, 0, none⟩ ua).setCell ⟨b, 0, none⟩ ub).setCell ⟨c, 0, none⟩ uc) a [ua] ∧ Blk 0 (((W.setCell ⟨a, 0, none⟩ ua).setCell ⟨b, 0, none⟩ ub).setCell ⟨c, 0, none⟩ uc) b [ub] ∧ Blk 0 (((W.setCell ⟨a, 0, none⟩ ua).setCell ⟨b, 0, none⟩ ub).setCell ⟨c, 0, none⟩ uc) c [uc] := by
 have hA1 : Blk 0 (W.setCell ⟨a, 0, none⟩ ua) a [ua] := hA.set (i := 0) (by simp) _
 have hB1 : Blk 0 ((W.setCell ⟨a, 0, none⟩ ua).setCell ⟨b, 0, none⟩ ub) b [ub] := (hB.other (p := ⟨a, 0, none⟩) hab _).set (i := 0) (by simp) _
 exact ⟨(hA1.other (p := ⟨b, 0, none⟩) (fun e => hab e.symm) ub).other (p := ⟨c, 0, none⟩) (fun e => hac e.symm) uc, hB1.other (p := ⟨c, 0, none⟩) (fun e => hbc e.symm) uc, ((hC.other (p := ⟨a, 0, none⟩) hac _).other (p := ⟨b, 0, none⟩) hbc _).set (i := 0) (by simp) _⟩
set_option maxHeartbeats 2000000 in
set_option maxRecDepth 100000 in
theorem parse_any (s : ByteArray) (hs : s.size ≤ 1048576) (w : World) : Calls Tryz.prog 11 #[.string s] w (ParOut (parG s.data.toList) w) := by
 have hln := data_len s
 have hlen := lexR_len s.data.toList
 have hok := lexR_ok s.data.toList
 have HT := hid (fun W => tokens_any s (by omega) W)
 obtain ⟨G, hG⟩ : ∃ G, G = parG s.data.toList := ⟨_, rfl⟩
 rw [← hG]
 unfold parG at hG
 rw [hln] at hG hlen
 generalize lexR s.data.toList = Z at *
 obtain ⟨L, at_, er⟩ := Z
 simp only at hG hlen hok
 unfold TokOut at HT
 simp only at HT
 have HG := hid hG
 clear hG
 have hmf : ∀ (fn : Fn) (first cap : Array Value) (w : World), (Instr.makeFunc fn first cap).run Tryz.prog w = .ok (.func fn first cap) w := fun _ _ _ _ => rfl
 have bl0 : Below w.heap.size w (((w.alloc (.cells #[.slice none 0 0] 31)).alloc (.cells #[.int .i64 0] 3)).alloc (.cells #[.int .i64 0] 22)) := (((Below.refl _ _).alloc (Nat.le_refl _) _).alloc (by simp) _).alloc (by simp; omega) _
 have b1 := Blk.made w [.slice none 0 0] 31 (base := 0) (Nat.zero_le _)
 have b2 := Blk.made (w.alloc (.cells #[.slice none 0 0] 31)) [.int .i64 0] 3 (base := 0) (Nat.zero_le _)
 have b3 := Blk.made ((w.alloc (.cells #[.slice none 0 0] 31)).alloc (.cells #[.int .i64 0] 3)) [.int .i64 0] 22 (base := 0) (Nat.zero_le _)
 have HA := hid ((b1.below ((Below.refl _ _).alloc (Nat.le_refl _) (.cells #[.int .i64 0] 3))).below ((Below.refl _ _).alloc (Nat.le_refl _) (.cells #[.int .i64 0] 22)))
 have HB := hid (b2.below ((Below.refl _ _).alloc (Nat.le_refl _) (.cells #[.int .i64 0] 22)))
 have HC := hid b3
 have HBL := hid bl0
 have hz0 : (((w.alloc (.cells #[.slice none 0 0] 31)).alloc (.cells #[.int .i64 0] 3)).alloc (.cells #[.int .i64 0] 22)).heap.size = w.heap.size + 1 + 1 + 1 := by simp
 simp only [World.size_alloc] at HB HC
 have HZ0 := hid hz0
 clear b1 b2 b3 bl0 hz0
 go_enter_defers Tryz.func11, Tryz.ntmps11
 go_upto_region 1 with (fail)
 generalize (((w.alloc (.cells #[.slice none 0 0] 31)).alloc (.cells #[.int .i64 0] 3)).alloc (.cells #[.int .i64 0] 22)) = W0 at *
 go_upto_region 2 with (go_at_call 21; refine (HT.out _).mono ?_; rintro e w1 ⟨x, rfl, hx, hb1⟩; have hB1 := HB.out.below hb1; have q0 := hB1.cell 0 _ rfl; have q1 := hB1.fr 0)
 have hz0 := HZ0.out
 have hz1 := hb1.size
 have HB1 := hid (show Blk 0 (w1.setCell ⟨w.heap.size + 1, 0, none⟩ (.int .i64 at_)) (w.heap.size + 1) [.int .i64 at_] from hB1.set (i := 0) (by simp) _)
 have HA1 := hid ((HA.out.below hb1).other (p := ⟨w.heap.size + 1, 0, none⟩) (by simp) (.int .i64 at_))
 have HC1 := hid ((HC.out.below hb1).other (p := ⟨w.heap.size + 1, 0, none⟩) (by simp) (.int .i64 at_))
 have HBL1 := hid ((HBL.out.trans (hb1.mono (by omega))).setCell (p := ⟨w.heap.size + 1, 0, none⟩) (by simp) (.int .i64 at_))
 have HX1 := hid (RdL.stored hx Flat.keeps (p := ⟨w.heap.size + 1, 0, none⟩) (fun h => h.elim id (fun h => by have h2 : W0.heap.size ≤ w.heap.size + 1 := h.1; omega)) (.int .i64 at_))
 have hz2 : w.heap.size + 1 + 1 < (w1.setCell ⟨w.heap.size + 1, 0, none⟩ (.int .i64 at_)).heap.size := by rw [size_setCell]; omega
 have HZ2 := hid (show W0.heap.size ≤ (w1.setCell ⟨w.heap.size + 1, 0, none⟩ (.int .i64 at_)).heap.size by rw [size_setCell]; exact hz1)
 have HXZ := hid (size_setCell w1 ⟨w.heap.size + 1, 0, none⟩ (.int .i64 at_))
 clear hx hb1 hB1 q0 q1 HA HB HC HBL HT hz0 hz1
 generalize hW1 : (w1.setCell ⟨w.heap.size + 1, 0, none⟩ (.int .i64 at_)) = W1 at *
 clear hW1
 by_cases her : er = 0
 ·subst her
  rw [if_pos rfl] at HG
  obtain ⟨o, ho⟩ : ∃ o, stsG (6 * L.length + 1) [] L = some o := Option.ne_none_iff_exists'.1 (stsG_told _ _ _ (Nat.le_refl _))
  rw [ho] at HG
  have HO := hid ho
  have HOK := hid (fun t ht => (⟨hok t ht, Nat.le_trans (hlen.2 t ht) hs⟩ : tokOk t))
  have hLl : L.length ≤ 1048576 := Nat.le_trans hlen.1 hs
  clear ho hok hlen hln
  obtain ⟨A, cap, rfl, hAl, hAc, _⟩ := HX1.out.form
  unfold maxLen at hAc
  have bl2 : Below W1.heap.size W1 (W1.alloc (.cells #[.slice A L.length cap, .int .i64 (s.size : Int)] 63)) := (Below.refl _ _).alloc (Nat.le_refl _) _
  have HPS := hid (show PsAt W1.heap.size ⟨s.size, W0.heap.size⟩ (W1.alloc (.cells #[.slice A L.length cap, .int .i64 (s.size : Int)] 63)) L from ⟨_, Blk.made W1 [.slice A L.length cap, .int .i64 (s.size : Int)] 63 (Nat.zero_le _), RdL.go HX1.out Flat.keeps bl2 (fun k hk => hk.elim False.elim (fun h => by unfold Upto; rw [HXZ.out]; exact h.2)) (fun k hk => hk.elim False.elim (fun h => ⟨h.1, by rw [HXZ.out]; exact h.2⟩)), HOK.out⟩)
  have HA2 := hid (HA1.out.below bl2)
  have HB2 := hid (HB1.out.below bl2)
  have HC2 := hid (HC1.out.below bl2)
  have HBL2 := hid (HBL1.out.trans (bl2.mono HBL1.out.size))
  have HST := hid (pqstmts_any _ _ ⟨s.size, W0.heap.size⟩ L _ o HO.out hLl HPS.out)
  have hpz : w.heap.size + 1 + 1 < W1.heap.size := hz2
  have hwlo : w.heap.size < W0.heap.size := by have := HZ0.out; omega
  have hwp : w.heap.size ≤ W1.heap.size := by omega
  have hapz : ¬ w.heap.size = W1.heap.size := by omega
  have hbpz : ¬ w.heap.size + 1 = W1.heap.size := by omega
  have hcpz : ¬ w.heap.size + 1 + 1 = W1.heap.size := by omega
  clear bl2 HA1 HB1 HC1 HBL1 HX1 hAl hAc HXZ HO HOK hz2 HZ0 HZ2
  go_upto_region 6 with (fail)
  obtain ⟨W2, hW2⟩ : ∃ W2, W2 = W1.alloc (.cells #[.slice A L.length cap, .int .i64 (s.size : Int)] 63) := ⟨_, rfl⟩
  have hWz : W1.heap.size < W2.heap.size := by rw [hW2]; simp
  rw [← hW2] at HPS HA2 HB2 HC2 HBL2 HST ⊢
  clear hW2
  generalize W1.heap.size = p at *
  cases o with
  | no r =>
   have HG2 := hid (show G = ([], placeG (s.size : Int) r, 1) from HG.out)
   clear HG
   go_wp2_with (go_at_call 23; refine HST.out.mono ?_; rintro e w3 ⟨rfl, hb3⟩)
   refine leaves_cons (f := 22) (args := #[.pointer (some ⟨w.heap.size, 0, none⟩), .pointer (some ⟨w.heap.size + 1, 0, none⟩), .pointer (some ⟨w.heap.size + 1 + 1, 0, none⟩)]) (by simp) (by simp [go_sem]) ?_
   refine (catch_misfit _ _ _ _ [] w3 _ _ _ (HA2.out.but hb3 (fun e => hapz e)) (HB2.out.but hb3 (fun e => hbpz e)) (HC2.out.but hb3 (fun e => hcpz e)) (by omega) (by omega) (by omega)).mono ?_
   rintro e u' w4 ⟨rfl, rfl, hA, hB, hC, hbt⟩
   have hbl : Below w.heap.size w w4 := (HBL2.out.trans (hb3.below (by omega) (fun k hk => by unfold Is at hk; omega))).trans (hbt.below (by have := hb3.size; omega) (fun k hk => by omega))
   show ∃ v, _ ∧ _
   rw [HG2.out]
   exact ⟨_, parse_results rfl rfl rfl hA hB hC, _, rfl, RdL.nil (by unfold maxLen; omega), hbl⟩
  | ok l r =>
   go_upto_region 7 with (go_at_call 23; refine HST.out.mono ?_; rintro e w3 ⟨x, rfl, hx, hp3, hb3⟩; obtain ⟨A9, c9, rfl⟩ := hx.form; have hA3 := HA2.out.but hb3 (fun e => hapz e); have q0 := hA3.cell 0 _ rfl; have q1 := hA3.fr 0)
   have HA4 := hid (show Blk 0 (w3.setCell ⟨w.heap.size, 0, none⟩ (.slice A9 l.length c9)) w.heap.size [.slice A9 l.length c9] from hA3.set (i := 0) (by simp) _)
   have HB4 := hid ((HB2.out.but hb3 (fun e => hbpz e)).other (p := ⟨w.heap.size, 0, none⟩) (by simp) (.slice A9 l.length c9))
   have HC4 := hid ((HC2.out.but hb3 (fun e => hcpz e)).other (p := ⟨w.heap.size, 0, none⟩) (by simp; omega) (.slice A9 l.length c9))
   have HBL4 := hid ((HBL2.out.trans (hb3.below (by omega) (fun k hk => by unfold Is at hk; omega))).setCell (p := ⟨w.heap.size, 0, none⟩) (Nat.le_refl _) (.slice A9 l.length c9))
   have HX4 := hid (hx.but ((But.refl (Is w.heap.size) w3).setCell (p := ⟨w.heap.size, 0, none⟩) (show Is w.heap.size w.heap.size from rfl) (.slice A9 l.length c9)) (.inl (by omega)))
   have HP4 := hid (hp3.but_lo ((But.refl (Is w.heap.size) w3).setCell (p := ⟨w.heap.size, 0, none⟩) (show Is w.heap.size w.heap.size from rfl) (.slice A9 l.length c9)) hwlo (by omega))
   have hzz := hb3.size
   have hpW2 := hWz
   have hz4 := size_setCell w3 ⟨w.heap.size, 0, none⟩ (.slice A9 l.length c9)
   clear hx hp3 hb3 hA3 q0 q1 HA2 HB2 HC2 HBL2 HST hzz hz4
   generalize (w3.setCell ⟨w.heap.size, 0, none⟩ (.slice A9 l.length c9)) = W4 at *
   cases r with
   | nil =>
    have HG2 := hid (show G = (l, 0, 0) from HG.out)
    clear HG
    obtain ⟨A6, cap6, p0, p1, pf, pl, pm⟩ := HP4.out.open_
    have a0 := HA4.out.cell 0 _ rfl
    have a1 := HA4.out.fr 0
    have b0 := HB4.out.cell 0 _ rfl
    have b1 := HB4.out.fr 0
    have c0 := HC4.out.cell 0 _ rfl
    have c1 := HC4.out.fr 0
    go_wp2_with fail
    refine leaves_cons (f := 22) (args := #[.pointer (some ⟨w.heap.size, 0, none⟩), .pointer (some ⟨w.heap.size + 1, 0, none⟩), .pointer (some ⟨w.heap.size + 1 + 1, 0, none⟩)]) (by simp) (by simp [go_sem]) ?_
    refine (catch_idle _ _ _ _).mono ?_
    rintro e u' w5 ⟨rfl, rfl, rfl⟩
    obtain ⟨hA5, hB5, hC5⟩ := three_set HA4.out HB4.out HC4.out (by omega) (by omega) (by omega) (.slice A9 l.length c9) (.int .i64 0) (.int .i64 0)
    have hbl := (((HBL4.out.setCell (p := ⟨w.heap.size, 0, none⟩) (Nat.le_refl _) (.slice A9 l.length c9)).setCell (p := ⟨w.heap.size + 1, 0, none⟩) (by simp) (.int .i64 0)).setCell (p := ⟨w.heap.size + 1 + 1, 0, none⟩) (by simp; omega) (.int .i64 0))
    show ∃ v, _ ∧ _
    rw [HG2.out]
    refine ⟨_, parse_results rfl rfl rfl hA5 hB5 hC5, _, rfl, ?_, hbl⟩
    have hp1 : ∀ k, Rn W2.heap.size p W4 k → w.heap.size + 1 + 1 < k := fun k hk => by have := hk.1; omega
    refine RdL.keep HX4.out RdSt.keeps (fun k hk => .inr ⟨by have := hp1 k hk; omega, by simp only [size_setCell]; exact hk.2.1⟩) ?_
    refine (((Same.refl _ _).setCell (fun h => ?_) _).setCell (fun h => ?_) _).setCell (fun h => ?_) _
    ·have h2 := hp1 _ h; simp only at h2; omega
    ·have h2 := hp1 _ h; simp only at h2; omega
    ·have h2 := hp1 _ h; simp only at h2; omega
   | cons t r =>
    have HG2 := hid (show G = ([], (t.pos : Int), 1) from HG.out)
    clear HG
    have HFL := hid (pfail_any HP4.out)
    obtain ⟨b, off, cap6, p0, p1, pf, pl, pm, k0, k1, k2, hok, _⟩ := HP4.out.head
    clear hok k0 k1 k2
    go_wp2_with (go_at_call 24; refine HFL.out.mono ?_; rintro e w5 ⟨rfl, rfl⟩)
    refine leaves_cons (f := 22) (args := #[.pointer (some ⟨w.heap.size, 0, none⟩), .pointer (some ⟨w.heap.size + 1, 0, none⟩), .pointer (some ⟨w.heap.size + 1 + 1, 0, none⟩)]) (by simp) (by simp [go_sem]) ?_
    refine (catch_misfit _ _ _ _ [] _ _ _ _ HA4.out HB4.out HC4.out (by omega) (by omega) (by omega)).mono ?_
    rintro e u' w6 ⟨rfl, rfl, hA, hB, hC, hbt⟩
    have hbl : Below w.heap.size w w6 := HBL4.out.trans (hbt.below HBL4.out.size (fun k hk => by omega))
    show ∃ v, _ ∧ _
    rw [HG2.out]
    exact ⟨_, parse_results rfl rfl rfl hA hB hC, _, rfl, RdL.nil (by unfold maxLen; omega), hbl⟩
 ·have HG2 := hid (show G = ([], (at_ : Int), er) by rw [HG.out, if_neg her])
  have hne : (er != 0) = true := by simpa using her
  have a0 := HA1.out.cell 0 _ rfl
  have a1 := HA1.out.fr 0
  have b0 := HB1.out.cell 0 _ rfl
  have b1 := HB1.out.fr 0
  have c0 := HC1.out.cell 0 _ rfl
  have c1 := HC1.out.fr 0
  clear her HG
  go_upto_region 3 with (fail)
  go_region
  obtain ⟨hA2, hB2, hC2⟩ := three_set HA1.out HB1.out HC1.out (by omega) (by omega) (by omega) (.slice none 0 0) (.int .i64 (at_ : Int)) (.int .i64 er)
  have hbl := (((HBL1.out.setCell (p := ⟨w.heap.size, 0, none⟩) (Nat.le_refl _) (.slice none 0 0)).setCell (p := ⟨w.heap.size + 1, 0, none⟩) (by simp) (.int .i64 (at_ : Int))).setCell (p := ⟨w.heap.size + 1 + 1, 0, none⟩) (by simp; omega) (.int .i64 er)).drew
  have hd := Below.refl (((W1.setCell ⟨w.heap.size, 0, none⟩ (.slice none 0 0)).setCell ⟨w.heap.size + 1, 0, none⟩ (.int .i64 (at_ : Int))).setCell ⟨w.heap.size + 1 + 1, 0, none⟩ (.int .i64 er)).heap.size (((W1.setCell ⟨w.heap.size, 0, none⟩ (.slice none 0 0)).setCell ⟨w.heap.size + 1, 0, none⟩ (.int .i64 (at_ : Int))).setCell ⟨w.heap.size + 1 + 1, 0, none⟩ (.int .i64 er)) |>.drew
  have HA2 := hid (hA2.below hd)
  have HB2 := hid (hB2.below hd)
  have HC2 := hid (hC2.below hd)
  have HBF := hid hbl
  clear hA2 hB2 hC2 hd hbl a0 a1 b0 b1 c0 c1 HA1 HB1 HC1 HX1 HBL1
  generalize (((W1.setCell ⟨w.heap.size, 0, none⟩ (.slice none 0 0)).setCell ⟨w.heap.size + 1, 0, none⟩ (.int .i64 (at_ : Int))).setCell ⟨w.heap.size + 1 + 1, 0, none⟩ (.int .i64 er)).drew = WF at *
  go_wp2
  rw [HG2.out]
  exact ⟨_, parse_results rfl rfl rfl HA2.out HB2.out HC2.out, _, rfl, RdL.nil (by unfold maxLen; omega), HBF.out⟩
def Fr {α : Type} (enc : α → List Value) (ok : α → Prop) (size bytes : Nat) (w : World) (l : List α) (x : Value) : Prop := ∃ T, Sub T (Upto w.heap.size) ∧ RdL (Flat enc ok) size bytes w T l x
def AppL {α : Type} (enc : α → List Value) (ok : α → Prop) (size : Nat) (E : TypeId) (w : World) (base : Nat) (l : List α) (x : Value) : Prop := OwnL (Flat enc ok) size E w base Nowhere l x ∨ (l = [] ∧ ∃ A, x = .slice A 0 0)
section
variable {α : Type} {enc : α → List Value} {ok : α → Prop} {size bytes : Nat} {E : TypeId} {w w' : World} {base : Nat} {l m : List α} {x : Value}
theorem Fr.drew (h : Fr enc ok size bytes w l x) : Fr enc ok size bytes w.drew l x := h
theorem Fr.alloc {o : Obj} (h : Fr enc ok size bytes w l x) : Fr enc ok size bytes (w.alloc o) l x := by
 obtain ⟨T, hT, r⟩ := h
 exact ⟨T, hT.trans (Sub.upto (by simp)), r.keep Flat.keeps (Sub.refl _) ((Same.refl _ _).alloc hT o)⟩
theorem Fr.via (hb : Below w.heap.size w w') (h : Fr enc ok size bytes w l x) : Fr enc ok size bytes w' l x := by
 obtain ⟨T, hT, r⟩ := h
 exact ⟨T, hT.trans (Sub.upto hb.size), r.go Flat.keeps hb hT (Sub.refl _)⟩
theorem Fr.form (h : Fr enc ok size bytes w l x) : ∃ A cap, x = .slice A l.length cap ∧ l.length ≤ cap ∧ cap ≤ maxLen ∧ l.length * bytes ≤ 140737488355328 := by
 obtain ⟨T, hT, r⟩ := h
 exact r.form
theorem Fr.of {T : Blocks} (h : RdL (Flat enc ok) size bytes w T l x) (hT : Sub T (Upto w.heap.size)) : Fr enc ok size bytes w l x := ⟨T, hT, h⟩
theorem Fr.nil {A : Option Addr} {cap : Nat} (hc : cap ≤ maxLen) : Fr enc ok size bytes w [] (.slice A 0 cap) := ⟨Nowhere, Sub.nowhere _, RdL.nil hc⟩
theorem AppL.drew (h : AppL enc ok size E w base l x) : AppL enc ok size E w.drew base l x := h.imp (fun h => h.keep Flat.keeps (Below.refl _ _).drew) id
theorem AppL.alloc {o : Obj} (h : AppL enc ok size E w base l x) : AppL enc ok size E (w.alloc o) base l x := h.imp (fun h => h.keep Flat.keeps ((Below.refl _ _).alloc (Nat.le_refl _) _)) id
theorem AppL.via (hb : Below w.heap.size w w') (h : AppL enc ok size E w base l x) : AppL enc ok size E w' base l x := h.imp (fun h => h.keep Flat.keeps hb) id
theorem AppL.form (h : AppL enc ok size E w base l x) : ∃ A cap, x = .slice A l.length cap := by
 rcases h with h | ⟨rfl, A, rfl⟩
 ·exact h.form
 ·exact ⟨A, 0, rfl⟩
theorem AppL.toRd {S' : Blocks} (h : AppL enc ok size E w base l x) (hb : l.length * bytes ≤ 140737488355328) (hB : ∀ b, base ≤ b → b < w.heap.size → S' b) : RdL (Flat enc ok) size bytes w S' l x := by
 rcases h with h | ⟨rfl, A, rfl⟩
 ·exact h.toRd Flat.keeps hb (Sub.nowhere _) hB
 ·exact RdL.nil (by simp [maxLen])
theorem AppL.zero (w : World) (base : Nat) (A : Option Addr) : AppL enc ok size E w base [] (.slice A 0 0) := .inr ⟨rfl, A, rfl⟩
end
section
variable {P : Program} {α : Type} {enc : α → List Value} {ok : α → Prop} {size bytes : Nat} {E : TypeId} {w : World} {base : Nat} {l m : List α} {v : Value} {A : Option Addr} {n c : Nat}
end
end Go.Proofs.YtnpgpcnkdocknaaGreatDoor
