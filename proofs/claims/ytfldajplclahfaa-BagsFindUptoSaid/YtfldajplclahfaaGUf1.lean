/- Texts merged: But, Uf1. -/
import Derived.Test.YtfldajplclahfaaFlat
import Derived.Test.YtfldajplclahfaaUfSpec
import Derived.BigRegion
/- Worlds that differ in a few old blocks only. -/
namespace Go.Proofs.Ytfldajplclahfaa
open Go.RowKit
set_option linter.unusedVariables false
/-- all that was there is as it was, but for the blocks of T -/
structure But (T : Blocks) (w w' : World) : Prop where
  os : w'.os = w.os
  tape : w'.tape = w.tape
  output : w'.output = w.output
  size : w.heap.size ≤ w'.heap.size
  block : ∀ k, k < w.heap.size → ¬ T k → w'.heap[k]? = w.heap[k]?
def Is (b : Nat) : Blocks := fun k => k = b
def Is2 (b c : Nat) : Blocks := fun k => k = b ∨ k = c
theorem But.refl (T : Blocks) (w : World) : But T w w := ⟨rfl, rfl, rfl, Nat.le_refl _, fun _ _ _ => rfl⟩
theorem But.trans {T : Blocks} {a b c : World} (h : But T a b) (k : But T b c) : But T a c :=
  ⟨k.os.trans h.os, k.tape.trans h.tape, k.output.trans h.output, Nat.le_trans h.size k.size, fun i hi ht => (k.block i (Nat.lt_of_lt_of_le hi h.size) ht).trans (h.block i hi ht)⟩
theorem But.sub {T U : Blocks} {a b : World} (h : But T a b) (hs : Sub T U) : But U a b := ⟨h.os, h.tape, h.output, h.size, fun k hk ht => h.block k hk (fun e => ht (hs _ e))⟩
theorem But.drewN {T : Blocks} {a b : World} (h : But T a b) (n : Nat) : But T a (b.drewN n) := ⟨h.os, h.tape, h.output, h.size, h.block⟩
theorem But.drew {T : Blocks} {a b : World} (h : But T a b) : But T a b.drew := ⟨h.os, h.tape, h.output, h.size, h.block⟩
theorem But.of_below {T : Blocks} {a b : World} (h : Below a.heap.size a b) : But T a b := ⟨h.os, h.tape, h.output, h.size, fun k hk _ => h.block k hk⟩
theorem But.alloc {T : Blocks} {a b : World} (h : But T a b) (o : Obj) : But T a (b.alloc o) := h.trans (.of_below ((Below.refl _ _).alloc (Nat.le_refl _) _))
theorem But.setCell {T : Blocks} {a b : World} (h : But T a b) {p : Addr} (hp : T p.block) (u : Value) : But T a (b.setCell p u) :=
  h.trans ⟨rfl, rfl, rfl, by simp [World.setCell], fun k hk ht => by
    have hne : p.block ≠ k := fun e => ht (e ▸ hp)
    simp [World.setCell, Array.getElem?_modify, hne]⟩
theorem But.setNew {T : Blocks} {a b : World} (h : But T a b) {p : Addr} (hp : T p.block ∨ a.heap.size ≤ p.block) (u : Value) : But T a (b.setCell p u) :=
  ⟨h.os, h.tape, h.output, by rw [size_setCell]; exact h.size, fun k hk ht => by
    have hne : p.block ≠ k := fun e => hp.elim (fun h => ht (e ▸ h)) (fun h => by omega)
    have h2 : (b.setCell p u).heap[k]? = b.heap[k]? := by simp [World.setCell, Array.getElem?_modify, hne]
    exact h2.trans (h.block k hk ht)⟩
/-- blocks of T that are all younger than B -/
theorem But.below {T : Blocks} {B : Nat} {a b : World} (h : But T a b) (hB : B ≤ a.heap.size) (hT : ∀ k, T k → B ≤ k) : Below B a b :=
  ⟨h.os, h.tape, h.output, h.size, fun k hk => h.block k (by omega) (fun e => by have := hT k e; omega)⟩
theorem But.cell {T : Blocks} {w w' : World} (h : But T w w') {p : Addr} {v : Value} (hT : ¬ T p.block) (hc : w.cell? p = some v) : w'.cell? p = some v := by
  have hlt : p.block < w.heap.size := World.block_lt_of_cell? w _ hc
  rw [World.cell?_of_block (h.block _ hlt hT)]; exact hc
theorem But.same {T S : Blocks} {w w' : World} (h : But T w w') (hS : Sub S (Upto w.heap.size)) (hT : ∀ k, S k → ¬ T k) : Same S w w' :=
  fun p hp => World.cell?_of_block (h.block _ (hS _ hp) (hT _ hp))
theorem frozen_of_block {w w' : World} {b o : Nat} {sp : Option Nat} (h : w'.heap[b]? = w.heap[b]?) : w'.frozen? ⟨b, o, sp⟩ = w.frozen? ⟨b, o, sp⟩ := by
  simp only [World.frozen?, h]
/-- a flat row of the call's own, while others' blocks turn -/
theorem OwnL.but {α : Type} {enc : α → List Value} {ok : α → Prop} {size : Nat} {E : TypeId} {w w' : World} {base : Nat} {S T : Blocks} {l : List α} {v : Value} (h : OwnL (Flat enc ok) size E w base S l v) (hb : But T w w') (hT : ∀ k, v.ownBlock = some k → ¬ T k) : OwnL (Flat enc ok) size E w' base S l v := by
  obtain ⟨U, css, t1, t2, t3, h1, h2, h3, h4⟩ := h
  refine ⟨U, css, t1, t2.lift hb.size, t3, h1, h2, ?_, h4⟩
  obtain ⟨e, h3⟩ := h3
  refine ⟨e, ?_⟩
  rcases h3 with h3 | ⟨g, cap, cur, rfl, hbg, hg, hn, hcap, hsz, htake⟩
  · exact .inl h3
  · refine .inr ⟨g, cap, cur, rfl, hbg, ?_, hn, hcap, hsz, htake⟩
    rw [hb.block g (Array.getElem?_eq_some_iff.1 hg).1 (hT g rfl)]; exact hg
theorem But.of_grown {w w' : World} {row : Option Nat} (h : w.grownBy w' row) : But (fun k => row = some k) w w' :=
  ⟨h.os, h.tape, h.output, h.size, fun k hk ht => h.block k hk (fun e => ht e.symm)⟩
end Go.Proofs.Ytfldajplclahfaa
/- The forest in memory, and the walk of Head (with its halving of the way). -/
namespace Go.Proofs.Ytfldajplclahfaa
open Go.RowKit
set_option linter.unusedVariables false
/-- block b holds two rows of n, gu and gs, which read as up and sz -/
structure Forest (base n : Nat) (w : World) (b gu gs : Nat) (up sz : List Nat) : Prop where
  lu : up.length = n
  lz : sz.length = n
  n1 : n ≤ 1048576
  b1 : base ≤ b
  b2 : b < w.heap.size
  u1 : base ≤ gu
  u2 : gu < w.heap.size
  s1 : base ≤ gs
  s2 : gs < w.heap.size
  bu : b ≠ gu
  bs : b ≠ gs
  us : gu ≠ gs
  c0 : w.cell? ⟨b, 0, none⟩ = some (.slice (some ⟨gu, 0, none⟩) n n)
  c1 : w.cell? ⟨b, 1, none⟩ = some (.slice (some ⟨gs, 0, none⟩) n n)
  ups : ∀ (q u : Nat), up[q]? = some u → w.cell? ⟨gu, q, none⟩ = some (.int .i64 (u : Int))
  szs : ∀ (q u : Nat), sz[q]? = some u → w.cell? ⟨gs, q, none⟩ = some (.int .i64 (u : Int))
  fu : ∀ o, w.frozen? ⟨gu, o, none⟩ = false
  fs : ∀ o, w.frozen? ⟨gs, o, none⟩ = false
section
variable {base n : Nat} {w w' : World} {b gu gs : Nat} {up sz : List Nat}
theorem Forest.but {T : Blocks} (f : Forest base n w b gu gs up sz) (h : But T w w') (tb : ¬ T b) (tu : ¬ T gu) (ts : ¬ T gs) : Forest base n w' b gu gs up sz :=
  { f with
    b2 := Nat.lt_of_lt_of_le f.b2 h.size, u2 := Nat.lt_of_lt_of_le f.u2 h.size, s2 := Nat.lt_of_lt_of_le f.s2 h.size
    c0 := h.cell tb f.c0, c1 := h.cell tb f.c1
    ups := fun q u e => h.cell tu (f.ups q u e), szs := fun q u e => h.cell ts (f.szs q u e)
    fu := fun o => (frozen_of_block (h.block _ f.u2 tu)).trans (f.fu o), fs := fun o => (frozen_of_block (h.block _ f.s2 ts)).trans (f.fs o) }
theorem Forest.drewN (f : Forest base n w b gu gs up sz) (m : Nat) : Forest base n (w.drewN m) b gu gs up sz :=
  f.but (T := Nowhere) ((But.refl _ _).drewN m) (fun h => h) (fun h => h) (fun h => h)
theorem Forest.below (f : Forest base n w b gu gs up sz) (h : Below w.heap.size w w') : Forest base n w' b gu gs up sz :=
  f.but (T := Nowhere) (But.of_below h) (fun h => h) (fun h => h) (fun h => h)
theorem cell_set_row {g : Nat} {l : List Nat} (hc : ∀ (q u : Nat), l[q]? = some u → w.cell? ⟨g, q, none⟩ = some (.int .i64 (u : Int))) {i : Nat} (hi : i < l.length) (x : Nat) :
    ∀ (q u : Nat), (l.set i x)[q]? = some u → (w.setCell ⟨g, i, none⟩ (.int .i64 (x : Int))).cell? ⟨g, q, none⟩ = some (.int .i64 (u : Int)) := by
  intro q u h
  rw [List.getElem?_set] at h
  split at h
  · rename_i e; subst e; injection h with h; subst h
    exact World.cell?_setCell_same' _ _ _ (by rw [hc i l[i] (List.getElem?_eq_getElem hi)]; rfl)
  · rename_i e
    rw [World.cell?_setCell_other _ _ _ _ (fun h => e (by injection h))]
    exact hc q u h
theorem Forest.setU (f : Forest base n w b gu gs up sz) {i : Nat} (hi : i < n) (x : Nat) : Forest base n (w.setCell ⟨gu, i, none⟩ (.int .i64 (x : Int))) b gu gs (up.set i x) sz :=
  { f with
    lu := by simp [f.lu]
    b2 := by rw [size_setCell]; exact f.b2
    u2 := by rw [size_setCell]; exact f.u2
    s2 := by rw [size_setCell]; exact f.s2
    c0 := by rw [World.cell?_setCell_other _ _ _ _ (fun h => f.bu (by injection h with h; exact h.symm))]; exact f.c0
    c1 := by rw [World.cell?_setCell_other _ _ _ _ (fun h => f.bu (by injection h with h; exact h.symm))]; exact f.c1
    ups := cell_set_row f.ups (by rw [f.lu]; exact hi) x
    szs := fun q u e => by rw [World.cell?_setCell_other _ _ _ _ (fun h => f.us (by injection h))]; exact f.szs q u e
    fu := fun o => by rw [World.frozen?_setCell]; exact f.fu o
    fs := fun o => by rw [World.frozen?_setCell]; exact f.fs o }
theorem Forest.setS (f : Forest base n w b gu gs up sz) {i : Nat} (hi : i < n) (x : Nat) : Forest base n (w.setCell ⟨gs, i, none⟩ (.int .i64 (x : Int))) b gu gs up (sz.set i x) :=
  { f with
    lz := by simp [f.lz]
    b2 := by rw [size_setCell]; exact f.b2
    u2 := by rw [size_setCell]; exact f.u2
    s2 := by rw [size_setCell]; exact f.s2
    c0 := by rw [World.cell?_setCell_other _ _ _ _ (fun h => f.bs (by injection h with h; exact h.symm))]; exact f.c0
    c1 := by rw [World.cell?_setCell_other _ _ _ _ (fun h => f.bs (by injection h with h; exact h.symm))]; exact f.c1
    szs := cell_set_row f.szs (by rw [f.lz]; exact hi) x
    ups := fun q u e => by rw [World.cell?_setCell_other _ _ _ _ (fun h => f.us (by injection h with h; exact h.symm))]; exact f.ups q u e
    fu := fun o => by rw [World.frozen?_setCell]; exact f.fu o
    fs := fun o => by rw [World.frozen?_setCell]; exact f.fs o }
end

set_option maxHeartbeats 1000000 in
theorem head_any {base n : Nat} {w : World} {b gu gs : Nat} {up sz : List Nat} {rt h : Nat → Nat} (f0 : Forest base n w b gu gs up sz) (g0 : Good n up sz rt h) (i : Nat) (hi : i < n) :
    Calls Try.prog 77 #[.pointer (some ⟨b, 0, none⟩), .int .i64 (i : Int)] w fun e w' => e = .returned (.int .i64 (rt i : Int)) ∧ ∃ up', Forest base n w' b gu gs up' sz ∧ Good n up' sz rt h ∧ But (Is gu) w w' := by
  have F0 := Lib.hid f0
  have G0 := Lib.hid g0
  clear f0 g0
  go_enter Try.func77, Try.ntmps77
  go_wp2
  go_loopw [1] (fun t wr => ∃ (k : Nat) (up : List Nat), t = .int .i64 (k : Int) ∧ k < n ∧ Hid (rt k = rt i) ∧ Hid (Forest base n wr b gu gs up sz) ∧ Hid (Good n up sz rt h) ∧ But (Is gu) w wr) (fun t _ => h (intOf t).toNat)
  case atStart => exact ⟨i, up, rfl, hi, Lib.hid rfl, F0, G0, But.refl _ _⟩
  case round =>
    obtain ⟨k, up1, rfl, hk, hrt, F, G, hbut⟩ := hrel
    obtain ⟨u, hu, hun⟩ := G.out.get hk
    have hn := F.out.n1
    have hc0 := F.out.c0
    have hcu := F.out.ups k u hu
    by_cases he : u = k
    · subst he
      have hr := Lib.hid (G.out.rt_self _ hu)
      clear hu
      go_wp2
      go_ret
      exact ⟨by rw [← hrt.out, hr.out]; rfl, _, F.out, G.out, hbut⟩
    · have hne : ((u : Int) == (k : Int)) = false := by simp; omega
      obtain ⟨v, hv, hvn⟩ := G.out.get hun
      have hcv := F.out.ups u v hv
      have hfr := F.out.fu k
      have HU := Lib.hid hu
      have HV := Lib.hid hv
      clear hu hv
      go_wp2
      go_region
      have hF : Forest base n (wr.setCell ⟨gu, k, none⟩ (.int .i64 (v : Int))).drew b gu gs (up1.set k v) sz := (F.out.setU hk v).drewN 1
      have hb2 : But (Is gu) w (wr.setCell ⟨gu, k, none⟩ (.int .i64 (v : Int))).drew := (hbut.setCell (p := ⟨gu, k, none⟩) rfl _).drew
      generalize (wr.setCell ⟨gu, k, none⟩ (.int .i64 (v : Int))).drew = W at hF hb2 ⊢
      have F2 := Lib.hid hF
      clear hF
      have hd0 := F2.out.c0
      have hd1 := F2.out.ups k v (by rw [List.getElem?_set_self (by rw [F.out.lu]; exact hk)])
      all_goals have G2 := Lib.hid (G.out.halve HU.out HV.out)
      all_goals have hlt := Lib.hid (show rt v = rt i ∧ h v < h k by
        refine ⟨by rw [G.out.rt_up _ _ HV.out, G.out.rt_up _ _ HU.out]; exact hrt.out, ?_⟩
        have h1 := G.out.h_lt _ _ HU.out he
        by_cases e : v = u
        · rw [e]; exact h1
        · have h2 := G.out.h_lt _ _ HV.out e
          omega)
      all_goals clear HU HV G F hc0 hcu hcv hfr hbut he hrt
      all_goals go_wp2
      all_goals go_roundw
      all_goals first
        | exact ⟨v, up1.set k v, rfl, hvn, Lib.hid hlt.out.1, F2, G2, hb2⟩
        | (have h3 := hlt.out.2; simpa [intOf] using h3)
end Go.Proofs.Ytfldajplclahfaa
