/- The finder's parts in memory; the walks of with and mark. -/
import Derived.Test.YtfldajplclahfaaBgSpec
import Derived.Test.YtfldajplclahfaaGMapO
import Derived.Test.YtfldajplclahfaaAccL
import Derived.Test.YtfldajplclahfaaRegPre
namespace Go.Proofs.Ytfldajplclahfaa
open Go.RowKit
set_option linter.unusedVariables false
/-- where the finder's parts lie: it, its sets, their rows, the row 'beside', the map -/
structure Fd where
  d : Nat
  b : Nat
  gu : Nat
  gs : Nat
  gb : Nat
  gm : Nat
def Fd.row (F : Fd) : List Nat := [F.d, F.b, F.gu, F.gs, F.gb, F.gm]
def encC (sh : Sh) : Int → Option Value := fun c => (sh.cells c).map fun x => .agg #[.int .i64 x.1, .int .i64 x.2]
def Ent (k : Nat) (x : Int) : Prop := x = -1 ∨ ∃ m, m < k ∧ x = ((m : Nat) : Int)
theorem Ent.more {k k' : Nat} {x : Int} (h : Ent k x) (hk : k ≤ k') : Ent k' x := by
  rcases h with h | ⟨m, h, e⟩
  · exact .inl h
  · exact .inr ⟨m, by omega, e⟩
theorem Ent.le {k : Nat} {x : Int} (h : Ent k x) : -1 ≤ x ∧ x < (k : Int) ∨ x = -1 := by
  rcases h with h | ⟨m, h, e⟩
  · exact .inr h
  · exact .inl ⟨by omega, by omega⟩
/-- the finder, behind k leaves: rt tells each leaf's head, bd the row 'beside' -/
structure FinAt (base n : Nat) (w : World) (F : Fd) (vf : Value) (k K : Nat) (rt : Nat → Nat) (bd : List Bool) (sh : Sh) : Prop where
  forest : ∃ up sz h, Forest base n w F.b F.gu F.gs up sz ∧ Good n up sz rt h
  lb : bd.length = n
  row : Blk base w F.gb (bd.map Value.bool)
  map : ∃ nm, nm ≤ k ∧ OwnO Try.prog w 3 F.gm nm (encC sh)
  gmb : base ≤ F.gm
  found : OwnI 3 w base Nowhere sh.found vf
  blk : Blk base w F.d [.pointer (some ⟨F.b, 0, none⟩), .slice (some ⟨F.gb, 0, none⟩) n n, .map (some F.gm), .int .i64 (k : Int), vf, .int .i64 sh.first]
  ne : F.row.Nodup
  nv : ∀ g, vf.ownBlock = some g → ¬ g ∈ F.row
  kn : K ≤ n
  nb : n ≤ 1048576
  fl : sh.found.length ≤ K
  ff : Ent K sh.first
  ent : ∀ c x, sh.cells c = some x → Ent K x.1 ∧ Ent K x.2
theorem FinAt.lt {base n : Nat} {w : World} {F : Fd} {vf : Value} {k K : Nat} {rt : Nat → Nat} {bd : List Bool} {sh : Sh} (f : FinAt base n w F vf k K rt bd sh) : ∀ g ∈ F.row, g < w.heap.size ∧ base ≤ g := by
  obtain ⟨up, sz, h, hf, hg⟩ := f.forest
  obtain ⟨nm, h1, h2⟩ := f.map
  intro g hg
  simp only [Fd.row, List.mem_cons, List.not_mem_nil, or_false] at hg
  rcases hg with rfl | rfl | rfl | rfl | rfl | rfl
  · exact ⟨f.blk.lt, f.blk.ge⟩
  · exact ⟨hf.b2, hf.b1⟩
  · exact ⟨hf.u2, hf.u1⟩
  · exact ⟨hf.s2, hf.s1⟩
  · exact ⟨f.row.lt, f.row.ge⟩
  · exact ⟨h2.lt, f.gmb⟩
/-- what the finder's calls may write -/
def FT (F : Fd) (vf : Value) : Blocks := fun x => x ∈ F.row ∨ vf.ownBlock = some x
def NewOr (vf vf' : Value) (n : Nat) : Prop := ∀ g, vf'.ownBlock = some g → vf.ownBlock = some g ∨ n ≤ g
theorem NewOr.refl (vf : Value) (n : Nat) : NewOr vf vf n := fun g h => .inl h
theorem NewOr.trans {a b c : Value} {n m : Nat} (h : NewOr a b n) (k : NewOr b c m) (hnm : n ≤ m) : NewOr a c n := fun g hg => by
  rcases k g hg with e | e
  · exact h g e
  · exact .inr (by omega)
theorem FT.trans {F : Fd} {a b : Value} {w w1 w2 : World} (h : But (FT F a) w w1) (n : NewOr a b w.heap.size) (k : But (FT F b) w1 w2) : But (FT F a) w w2 :=
  ⟨k.os.trans h.os, k.tape.trans h.tape, k.output.trans h.output, Nat.le_trans h.size k.size, fun i hi ht =>
    (k.block i (Nat.lt_of_lt_of_le hi h.size) (fun hh => ht (by
      rcases hh with hh | hh
      · exact .inl hh
      · rcases n i hh with e | e
        · exact .inr e
        · omega))).trans (h.block i hi ht)⟩
section
variable {base n : Nat} {w w' : World} {F : Fd} {vf : Value} {k K : Nat} {rt : Nat → Nat} {bd : List Bool} {sh : Sh}
theorem Fd.mem (F : Fd) : F.d ∈ F.row ∧ F.b ∈ F.row ∧ F.gu ∈ F.row ∧ F.gs ∈ F.row ∧ F.gb ∈ F.row ∧ F.gm ∈ F.row := by simp [Fd.row]
theorem FinAt.dis (f : FinAt base n w F vf k K rt bd sh) : F.d ≠ F.b ∧ F.d ≠ F.gu ∧ F.d ≠ F.gs ∧ F.d ≠ F.gb ∧ F.d ≠ F.gm ∧ F.b ≠ F.gu ∧ F.b ≠ F.gs ∧ F.b ≠ F.gb ∧ F.b ≠ F.gm ∧ F.gu ≠ F.gs ∧ F.gu ≠ F.gb ∧ F.gu ≠ F.gm ∧ F.gs ≠ F.gb ∧ F.gs ≠ F.gm ∧ F.gb ≠ F.gm := by
  have h := f.ne
  simp only [Fd.row, List.nodup_cons, List.mem_cons, List.not_mem_nil, or_false, not_or, List.nodup_nil, and_true] at h
  obtain ⟨⟨h1, h2, h3, h4, h5⟩, ⟨h6, h7, h8, h9⟩, ⟨h10, h11, h12⟩, ⟨h13, h14⟩, h15⟩ := h
  exact ⟨h1, h2, h3, h4, h5, h6, h7, h8, h9, h10, h11, h12, h13, h14, by simpa using h15⟩
/-- blocks turn that are none of the finder's -/
theorem FinAt.but {T : Blocks} (f : FinAt base n w F vf k K rt bd sh) (h : But T w w') (hT : ∀ g, FT F vf g → ¬ T g) : FinAt base n w' F vf k K rt bd sh := by
  obtain ⟨m1, m2, m3, m4, m5, m6⟩ := F.mem
  obtain ⟨up, sz, hh, hf, hg⟩ := f.forest
  obtain ⟨nm, q1, q2⟩ := f.map
  exact { f with
    forest := ⟨up, sz, hh, hf.but h (hT _ (.inl m2)) (hT _ (.inl m3)) (hT _ (.inl m4)), hg⟩
    row := f.row.but h (hT _ (.inl m5))
    map := ⟨nm, q1, q2.but h (hT _ (.inl m6))⟩
    found := f.found.but h (fun g hg => hT _ (.inr hg))
    blk := f.blk.but h (hT _ (.inl m1)) }
theorem FinAt.below (f : FinAt base n w F vf k K rt bd sh) (h : Below w.heap.size w w') : FinAt base n w' F vf k K rt bd sh := f.but (T := Nowhere) (But.of_below h) (fun _ _ h => h)
/-- the sets' own row alone turns (Head) -/
theorem FinAt.headed (f : FinAt base n w F vf k K rt bd sh) {up sz : List Nat} {h : Nat → Nat} (hf : Forest base n w' F.b F.gu F.gs up sz) (hg : Good n up sz rt h) (hb : But (Is F.gu) w w') : FinAt base n w' F vf k K rt bd sh := by
  obtain ⟨d1, d2, d3, d4, d5, d6, d7, d8, d9, d10, d11, d12, d13, d14, d15⟩ := f.dis
  obtain ⟨nm, q1, q2⟩ := f.map
  exact { f with
    forest := ⟨up, sz, h, hf, hg⟩
    row := f.row.but hb (fun e => d11 e.symm)
    map := ⟨nm, q1, q2.but hb (fun e => d12 e.symm)⟩
    found := f.found.but hb (fun g hg e => f.nv g hg (by rw [show g = F.gu from e]; exact F.mem.2.2.1))
    blk := f.blk.but hb (fun e => d2 e) }
/-- one cell of the row 'beside' is written -/
theorem FinAt.setB (f : FinAt base n w F vf k K rt bd sh) {i : Nat} (hi : i < n) (v : Bool) : FinAt base n (w.setCell ⟨F.gb, i, none⟩ (.bool v)) F vf k K rt (bd.set i v) sh := by
  have hb : But (Is F.gb) w (w.setCell ⟨F.gb, i, none⟩ (.bool v)) := (But.refl _ _).setCell (T := Is F.gb) (p := ⟨F.gb, i, none⟩) (show Is F.gb F.gb from rfl) _
  obtain ⟨d1, d2, d3, d4, d5, d6, d7, d8, d9, d10, d11, d12, d13, d14, d15⟩ := f.dis
  obtain ⟨up, sz, hh, hf, hg⟩ := f.forest
  obtain ⟨nm, q1, q2⟩ := f.map
  exact { f with
    forest := ⟨up, sz, hh, hf.but hb d8 d11 d13, hg⟩
    lb := by rw [List.length_set]; exact f.lb
    row := f.row.mapSet (by rw [f.lb]; exact hi) v
    map := ⟨nm, q1, q2.but hb (fun e => d15 e.symm)⟩
    found := f.found.but hb (fun g hg e => f.nv g hg (by rw [show g = F.gb from e]; exact F.mem.2.2.2.2.1))
    blk := f.blk.but hb d4 }
end
abbrev SameB (a : Nat) (w1 w' : World) : Prop := ∀ p : Addr, p.block = a → w'.cell? p = w1.cell? p
theorem SameB.of_but {T : Blocks} {a : Nat} {w w' : World} (hb : But T w w') (ha : a < w.heap.size) (na : ¬ T a) : SameB a w w' := fun p hp =>
  World.cell?_of_block (hb.block _ (by rw [hp]; exact ha) (by rw [hp]; exact na))
theorem SameB.drew (a : Nat) (w : World) : SameB a w w.drew := fun _ _ => rfl
def bdB (rt : Nat → Nat) (bd : List Bool) : Nat → Bool := fun m => bd.getD (rt m) false
set_option maxHeartbeats 1000000 in
theorem with_any {base n : Nat} {w : World} {F : Fd} {vf : Value} {k K : Nat} {rt : Nat → Nat} {bd : List Bool} {sh : Sh} (f : FinAt base n w F vf k K rt bd sh) (x : Int) (hx : Ent n x) :
    Calls Try.prog 75 #[.pointer (some ⟨F.d, 0, none⟩), .int .i64 x] w fun e w' => e = .returned (.bool (wiB (bdB rt bd) x)) ∧ FinAt base n w' F vf k K rt bd sh ∧ But (Is F.gu) w w' := by
  have FH := Lib.hid f
  have hd1 := f.blk.cell 1 _ rfl
  have hd0 := f.blk.cell 0 _ rfl
  have hdl := f.blk.lt
  have hdu := f.dis.2.1
  have hbu := f.dis.2.2.2.2.2.2.2.2.2.2.1
  have hlb := f.lb
  have hn := f.nb
  obtain ⟨up, sz, h, hf, hg⟩ := f.forest
  have HF := Lib.hid hf
  have HG := Lib.hid hg
  clear f hf hg
  go_enter Try.func75, Try.ntmps75
  go_upto_region 1 with (fail)
  rcases hx with rfl | ⟨m, hm, rfl⟩
  · refine wp_region_pre 13 (S := (fun w' => SameB F.d w w')) (by kernel_rfl) (by kernel_rfl) (SameB.drew _ _) (fun hHeld => ?_)
    simp only [List.take_succ_cons, List.take_zero]
    refine wpAnyH_take_at (i := 0) (v := ?_) (some 5) rfl rfl (by kernel_rfl) (by kernel_rfl) (by kernel_rfl) (fun _ _ _ h => h) (Or.inl ⟨by rfl, ?_⟩) (by assumption) ?_
    rotate_left
    · (intro w hSw; (try dsimp only at hSw); go_simp; (try with_reducible rfl))
    (try simp only [Act.put, List.setIfInBounds_toArray, List.set_cons_zero, List.set_cons_succ])
    refine wpAnyH_take_at (i := 1) (v := ?_) (some 6) rfl rfl (by kernel_rfl) (by kernel_rfl) (by kernel_rfl) (fun _ _ _ h => h) (Or.inl ⟨by rfl, ?_⟩) (by assumption) ?_
    rotate_left
    · (intro w hSw; (try dsimp only at hSw); go_simp; (try with_reducible rfl))
    (try simp only [Act.put, List.setIfInBounds_toArray, List.set_cons_zero, List.set_cons_succ])
    refine wpAnyH_take_at (i := 2) (v := ?_) (some 7) rfl rfl (by kernel_rfl) (by kernel_rfl) (by kernel_rfl) (fun _ _ _ h => h) (Or.inl ⟨by rfl, ?_⟩) (by assumption) ?_
    rotate_left
    · (intro w hSw; (try dsimp only at hSw); go_simp; (try with_reducible rfl))
    (try simp only [Act.put, List.setIfInBounds_toArray, List.set_cons_zero, List.set_cons_succ])
    refine wpAnyH_take_at (i := 3) (v := undef) (some 8) rfl rfl (by kernel_rfl) (by kernel_rfl) (by kernel_rfl) (fun _ _ _ h => h) (Or.inr ⟨by rfl, rfl⟩) (by assumption) ?_
    (try simp only [Act.put, List.setIfInBounds_toArray, List.set_cons_zero, List.set_cons_succ])
    refine wpAnyH_take_at (i := 4) (v := undef) (some 9) rfl rfl (by kernel_rfl) (by kernel_rfl) (by kernel_rfl) (fun _ _ _ h => h) (Or.inr ⟨by rfl, rfl⟩) (by assumption) ?_
    (try simp only [Act.put, List.setIfInBounds_toArray, List.set_cons_zero, List.set_cons_succ])
    refine wpAnyH_take_at (i := 5) (v := undef) (some 10) rfl rfl (by kernel_rfl) (by kernel_rfl) (by kernel_rfl) (fun _ _ _ h => h) (Or.inr ⟨by rfl, rfl⟩) (by assumption) ?_
    (try simp only [Act.put, List.setIfInBounds_toArray, List.set_cons_zero, List.set_cons_succ])
    refine wpAnyH_take_at (i := 6) (v := undef) (some 11) rfl rfl (by kernel_rfl) (by kernel_rfl) (by kernel_rfl) (fun _ _ _ h => h) (Or.inr ⟨by rfl, rfl⟩) (by assumption) ?_
    (try simp only [Act.put, List.setIfInBounds_toArray, List.set_cons_zero, List.set_cons_succ])
    refine wpAnyH_take_at (i := 7) (v := undef) (some 12) rfl rfl (by kernel_rfl) (by kernel_rfl) (by kernel_rfl) (fun _ _ _ h => h) (Or.inr ⟨by rfl, rfl⟩) (by assumption) ?_
    (try simp only [Act.put, List.setIfInBounds_toArray, List.set_cons_zero, List.set_cons_succ])
    refine wpAnyH_take_at (i := 8) (v := undef) (some 13) rfl rfl (by kernel_rfl) (by kernel_rfl) (by kernel_rfl) (fun _ _ _ h => h) (Or.inr ⟨by rfl, rfl⟩) (by assumption) ?_
    (try simp only [Act.put, List.setIfInBounds_toArray, List.set_cons_zero, List.set_cons_succ])
    refine wpAnyH_take_at (i := 9) (v := undef) (some 14) rfl rfl (by kernel_rfl) (by kernel_rfl) (by kernel_rfl) (fun _ _ _ h => h) (Or.inr ⟨by rfl, rfl⟩) (by assumption) ?_
    (try simp only [Act.put, List.setIfInBounds_toArray, List.set_cons_zero, List.set_cons_succ])
    refine wpAnyH_take_at (i := 10) (v := undef) (some 15) rfl rfl (by kernel_rfl) (by kernel_rfl) (by kernel_rfl) (fun _ _ _ h => h) (Or.inr ⟨by rfl, rfl⟩) (by assumption) ?_
    (try simp only [Act.put, List.setIfInBounds_toArray, List.set_cons_zero, List.set_cons_succ])
    refine wpAnyH_take_at (i := 11) (v := undef) (some 16) rfl rfl (by kernel_rfl) (by kernel_rfl) (by kernel_rfl) (fun _ _ _ h => h) (Or.inr ⟨by rfl, rfl⟩) (by assumption) ?_
    (try simp only [Act.put, List.setIfInBounds_toArray, List.set_cons_zero, List.set_cons_succ])
    refine wpAnyH_take_at (i := 12) (v := undef) (some 17) rfl rfl (by kernel_rfl) (by kernel_rfl) (by kernel_rfl) (fun _ _ _ h => h) (Or.inr ⟨by rfl, rfl⟩) (by assumption) ?_
    (try simp only [Act.put, List.setIfInBounds_toArray, List.set_cons_zero, List.set_cons_succ])
    refine wpAnyH_done (by kernel_rfl) ?_ _
    unfold QPre
    simp only [List.drop_succ_cons, List.drop_zero]
    go_wp2
    go_ret
    exact ⟨by first | rfl | simp [wiB], FH.out.below (Below.refl _ _).drew, (But.refl _ _).drew⟩
  · have hm0 : (0 : Int) ≤ (m : Int) := by omega
    have hrt := HG.out.rt_lt m hm
    obtain ⟨v, hv⟩ : ∃ v, bd[rt m]? = some v := ⟨bd[rt m], List.getElem?_eq_getElem (by omega)⟩
    have HV := Lib.hid (show wiB (bdB rt bd) (m : Int) = v by
      unfold wiB bdB
      rw [decide_eq_true hm0, Bool.true_and, Int.toNat_natCast, List.getD_eq_getElem?_getD, hv]; rfl)
    have hcv := FH.out.row.mapAt hv
    have hgl := FH.out.row.lt
    have CH := head_any (HF.out.drewN 1) HG.out m hm
    refine wp_region_pre 13 (S := (fun w' => SameB F.d w w')) (by kernel_rfl) (by kernel_rfl) (SameB.drew _ _) (fun hHeld => ?_)
    simp only [List.take_succ_cons, List.take_zero]
    refine wpAnyH_take_at (i := 0) (v := ?_) (some 5) rfl rfl (by kernel_rfl) (by kernel_rfl) (by kernel_rfl) (fun _ _ _ h => h) (Or.inl ⟨by rfl, ?_⟩) (by assumption) ?_
    rotate_left
    · (intro w hSw; (try dsimp only at hSw); go_simp; (try with_reducible rfl))
    (try simp only [Act.put, List.setIfInBounds_toArray, List.set_cons_zero, List.set_cons_succ])
    refine wpAnyH_take_at (i := 1) (v := ?_) (some 6) rfl rfl (by kernel_rfl) (by kernel_rfl) (by kernel_rfl) (fun _ _ _ h => h) (Or.inl ⟨by rfl, ?_⟩) (by assumption) ?_
    rotate_left
    · (intro w hSw; (try dsimp only at hSw); go_simp; (try with_reducible rfl))
    (try simp only [Act.put, List.setIfInBounds_toArray, List.set_cons_zero, List.set_cons_succ])
    refine wpAnyH_take_at (i := 2) (v := ?_) (some 7) rfl rfl (by kernel_rfl) (by kernel_rfl) (by kernel_rfl) (fun _ _ _ h => h) (Or.inl ⟨by rfl, ?_⟩) (by assumption) ?_
    rotate_left
    · (intro w hSw; (try dsimp only at hSw); go_simp; (try with_reducible rfl))
    (try simp only [Act.put, List.setIfInBounds_toArray, List.set_cons_zero, List.set_cons_succ])
    refine wpAnyH_take_at (i := 3) (v := ?_) (some 8) rfl rfl (by kernel_rfl) (by kernel_rfl) (by kernel_rfl) (fun _ _ _ h => h) (Or.inl ⟨by rfl, ?_⟩) (by assumption) ?_
    rotate_left
    · (intro w hSw; (try dsimp only at hSw); go_simp; (try with_reducible rfl))
    (try simp only [Act.put, List.setIfInBounds_toArray, List.set_cons_zero, List.set_cons_succ])
    refine wpAnyH_take_at (i := 4) (v := ?_) (some 9) rfl rfl (by kernel_rfl) (by kernel_rfl) (by kernel_rfl) (fun _ _ _ h => h) (Or.inl ⟨by rfl, ?_⟩) (by assumption) ?_
    rotate_left
    · (intro w hSw; (try dsimp only at hSw); go_simp; (try with_reducible rfl))
    (try simp only [Act.put, List.setIfInBounds_toArray, List.set_cons_zero, List.set_cons_succ])
    refine wpAnyH_take_at (i := 5) (v := ?_) (some 10) rfl rfl (by kernel_rfl) (by kernel_rfl) (by kernel_rfl) (fun _ _ _ h => h) (Or.inl ⟨by rfl, ?_⟩) (by assumption) ?_
    rotate_left
    · (intro w hSw; (try dsimp only at hSw); go_simp; (try with_reducible rfl))
    (try simp only [Act.put, List.setIfInBounds_toArray, List.set_cons_zero, List.set_cons_succ])
    refine wpAnyH_take_at (i := 6) (v := ?_) (some 11) rfl rfl (by kernel_rfl) (by kernel_rfl) (by kernel_rfl) (fun _ _ _ h => h) (Or.inl ⟨by rfl, ?_⟩) (by assumption) ?_
    rotate_left
    · (intro w hSw; (try dsimp only at hSw); go_simp; (try with_reducible rfl))
    (try simp only [Act.put, List.setIfInBounds_toArray, List.set_cons_zero, List.set_cons_succ])
    refine wpAnyH_take_at (i := 7) (v := ?_) (some 12) rfl rfl (by kernel_rfl) (by kernel_rfl) (by kernel_rfl) (fun _ _ _ h => h) (Or.inl ⟨by rfl, ?_⟩) (by assumption) ?_
    rotate_left
    · (intro w hSw; (try dsimp only at hSw); go_simp; (try with_reducible rfl))
    (try simp only [Act.put, List.setIfInBounds_toArray, List.set_cons_zero, List.set_cons_succ])
    refine wpAnyH_take_at (i := 8) (v := ?_) (some 13) rfl rfl (by kernel_rfl) (by kernel_rfl) (by kernel_rfl) (fun _ _ _ h => h) (Or.inl ⟨by rfl, ?_⟩) (by assumption) ?_
    rotate_left
    · (intro w hSw; (try dsimp only at hSw); go_simp; (try with_reducible rfl))
    (try simp only [Act.put, List.setIfInBounds_toArray, List.set_cons_zero, List.set_cons_succ])
    refine wpAnyH_take_at (i := 9) (v := ?_) (some 14) rfl rfl (by kernel_rfl) (by kernel_rfl) (by kernel_rfl) (fun _ _ _ h => h) (Or.inl ⟨by rfl, ?_⟩) (by assumption) ?_
    rotate_left
    · (intro w hSw; (try dsimp only at hSw); go_simp; (try with_reducible rfl))
    (try simp only [Act.put, List.setIfInBounds_toArray, List.set_cons_zero, List.set_cons_succ])
    refine wpAnyH_take_at (i := 10) (v := ?_) (some 15) rfl rfl (by kernel_rfl) (by kernel_rfl) (by kernel_rfl) (fun _ _ _ h => h) (Or.inl ⟨by rfl, ?_⟩) (by assumption) ?_
    rotate_left
    · (intro w hSw; (try dsimp only at hSw); go_simp; (try with_reducible rfl))
    (try simp only [Act.put, List.setIfInBounds_toArray, List.set_cons_zero, List.set_cons_succ])
    refine wpAnyH_take_at (i := 11) (v := ?_) (some 16) rfl rfl (by kernel_rfl) (by kernel_rfl) (by kernel_rfl) (fun _ _ _ h => h) (Or.inl ⟨by rfl, ?_⟩) (by assumption) ?_
    rotate_left
    · (intro w hSw; (try dsimp only at hSw); go_simp; (try with_reducible rfl))
    (try simp only [Act.put, List.setIfInBounds_toArray, List.set_cons_zero, List.set_cons_succ])
    refine wpAnyH_ready (rs := [12]) (by kernel_rfl) (by simp) ?_
    refine AllReadyH.cons rfl (fun K hK => ?_) AllReadyH.nil
    go_simp
    refine CH.mono ?_
    rintro e w1 ⟨rfl, up1, hf1, hg1, hb1⟩
    have B1 : But (Is F.gu) w w1 := (But.refl _ _).drew.trans hb1
    refine hK.out _ _ ?_ (fun hHeld => ?_)
    · exact SameB.of_but B1 hdl hdu
    clear hK K
    (try simp only [Act.put, List.setIfInBounds_toArray, List.set_cons_zero, List.set_cons_succ])
    refine wpAnyH_done (by kernel_rfl) ?_ _
    unfold QPre
    simp only [List.drop_succ_cons, List.drop_zero]
    have hcv1 := B1.cell (p := ⟨F.gb, rt m, none⟩) (fun e => hbu e.symm) hcv
    go_wp2
    go_ret
    exact ⟨by rw [HV.out]; rfl, FH.out.headed hf1 hg1 B1, B1⟩
set_option maxHeartbeats 1000000 in
theorem mark_any {base n : Nat} {w : World} {F : Fd} {vf : Value} {k K : Nat} {rt : Nat → Nat} {bd : List Bool} {sh : Sh} (f : FinAt base n w F vf k K rt bd sh) (x : Int) (hx : Ent n x) (v : Bool) :
    Calls Try.prog 52 #[.pointer (some ⟨F.d, 0, none⟩), .int .i64 x, .bool v] w fun e w' => e = .returned (.tuple #[]) ∧ FinAt base n w' F vf k K rt (if 0 ≤ x then bd.set (rt x.toNat) v else bd) sh ∧ But (FT F vf) w w' := by
  have FH := Lib.hid f
  have hd1 := f.blk.cell 1 _ rfl
  have hd0 := f.blk.cell 0 _ rfl
  have hdl := f.blk.lt
  have hdu := f.dis.2.1
  have hbu := f.dis.2.2.2.2.2.2.2.2.2.2.1
  have hlb := f.lb
  have hn := f.nb
  obtain ⟨up, sz, h, hf, hg⟩ := f.forest
  have HF := Lib.hid hf
  have HG := Lib.hid hg
  clear f hf hg
  go_enter Try.func52, Try.ntmps52
  rcases hx with rfl | ⟨m, hm, rfl⟩
  · go_wp2
    go_end0
    exact ⟨rfl, by simpa using FH.out, But.refl _ _⟩
  · have hm0 : (0 : Int) ≤ (m : Int) := by omega
    have hrt := HG.out.rt_lt m hm
    obtain ⟨v0, hv⟩ : ∃ v, bd[rt m]? = some v := ⟨bd[rt m], List.getElem?_eq_getElem (by omega)⟩
    have hcv := FH.out.row.mapAt hv
    have hgl := FH.out.row.lt
    have CH := head_any (HF.out.drewN 1) HG.out m hm
    go_upto_region 1 with (fail)
    refine wp_region_pre 11 (S := (fun w' => SameB F.d w w')) (by kernel_rfl) (by kernel_rfl) (SameB.drew _ _) (fun hHeld => ?_)
    simp only [List.take_succ_cons, List.take_zero]
    refine wpAnyH_take_at (i := 0) (v := ?_) (some 8) rfl rfl (by kernel_rfl) (by kernel_rfl) (by kernel_rfl) (fun _ _ _ h => h) (Or.inl ⟨by rfl, ?_⟩) (by assumption) ?_
    rotate_left
    · (intro w hSw; (try dsimp only at hSw); go_simp; (try with_reducible rfl))
    (try simp only [Act.put, List.setIfInBounds_toArray, List.set_cons_zero, List.set_cons_succ])
    refine wpAnyH_take_at (i := 1) (v := ?_) (some 9) rfl rfl (by kernel_rfl) (by kernel_rfl) (by kernel_rfl) (fun _ _ _ h => h) (Or.inl ⟨by rfl, ?_⟩) (by assumption) ?_
    rotate_left
    · (intro w hSw; (try dsimp only at hSw); go_simp; (try with_reducible rfl))
    (try simp only [Act.put, List.setIfInBounds_toArray, List.set_cons_zero, List.set_cons_succ])
    refine wpAnyH_take_at (i := 2) (v := ?_) (some 10) rfl rfl (by kernel_rfl) (by kernel_rfl) (by kernel_rfl) (fun _ _ _ h => h) (Or.inl ⟨by rfl, ?_⟩) (by assumption) ?_
    rotate_left
    · (intro w hSw; (try dsimp only at hSw); go_simp; (try with_reducible rfl))
    (try simp only [Act.put, List.setIfInBounds_toArray, List.set_cons_zero, List.set_cons_succ])
    refine wpAnyH_take_at (i := 3) (v := ?_) (some 11) rfl rfl (by kernel_rfl) (by kernel_rfl) (by kernel_rfl) (fun _ _ _ h => h) (Or.inl ⟨by rfl, ?_⟩) (by assumption) ?_
    rotate_left
    · (intro w hSw; (try dsimp only at hSw); go_simp; (try with_reducible rfl))
    (try simp only [Act.put, List.setIfInBounds_toArray, List.set_cons_zero, List.set_cons_succ])
    refine wpAnyH_take_at (i := 4) (v := ?_) (some 12) rfl rfl (by kernel_rfl) (by kernel_rfl) (by kernel_rfl) (fun _ _ _ h => h) (Or.inl ⟨by rfl, ?_⟩) (by assumption) ?_
    rotate_left
    · (intro w hSw; (try dsimp only at hSw); go_simp; (try with_reducible rfl))
    (try simp only [Act.put, List.setIfInBounds_toArray, List.set_cons_zero, List.set_cons_succ])
    refine wpAnyH_take_at (i := 5) (v := ?_) (some 13) rfl rfl (by kernel_rfl) (by kernel_rfl) (by kernel_rfl) (fun _ _ _ h => h) (Or.inl ⟨by rfl, ?_⟩) (by assumption) ?_
    rotate_left
    · (intro w hSw; (try dsimp only at hSw); go_simp; (try with_reducible rfl))
    (try simp only [Act.put, List.setIfInBounds_toArray, List.set_cons_zero, List.set_cons_succ])
    refine wpAnyH_take_at (i := 6) (v := ?_) (some 14) rfl rfl (by kernel_rfl) (by kernel_rfl) (by kernel_rfl) (fun _ _ _ h => h) (Or.inl ⟨by rfl, ?_⟩) (by assumption) ?_
    rotate_left
    · (intro w hSw; (try dsimp only at hSw); go_simp; (try with_reducible rfl))
    (try simp only [Act.put, List.setIfInBounds_toArray, List.set_cons_zero, List.set_cons_succ])
    refine wpAnyH_take_at (i := 7) (v := ?_) (some 15) rfl rfl (by kernel_rfl) (by kernel_rfl) (by kernel_rfl) (fun _ _ _ h => h) (Or.inl ⟨by rfl, ?_⟩) (by assumption) ?_
    rotate_left
    · (intro w hSw; (try dsimp only at hSw); go_simp; (try with_reducible rfl))
    (try simp only [Act.put, List.setIfInBounds_toArray, List.set_cons_zero, List.set_cons_succ])
    refine wpAnyH_take_at (i := 8) (v := ?_) (some 16) rfl rfl (by kernel_rfl) (by kernel_rfl) (by kernel_rfl) (fun _ _ _ h => h) (Or.inl ⟨by rfl, ?_⟩) (by assumption) ?_
    rotate_left
    · (intro w hSw; (try dsimp only at hSw); go_simp; (try with_reducible rfl))
    (try simp only [Act.put, List.setIfInBounds_toArray, List.set_cons_zero, List.set_cons_succ])
    refine wpAnyH_take_at (i := 10) (v := ?_) (some 18) rfl rfl (by kernel_rfl) (by kernel_rfl) (by kernel_rfl) (fun _ _ _ h => h) (Or.inl ⟨by rfl, ?_⟩) (by assumption) ?_
    rotate_left
    · (intro w hSw; (try dsimp only at hSw); go_simp; (try with_reducible rfl))
    (try simp only [Act.put, List.setIfInBounds_toArray, List.set_cons_zero, List.set_cons_succ])
    refine wpAnyH_ready (rs := [9]) (by kernel_rfl) (by simp) ?_
    refine AllReadyH.cons rfl (fun K hK => ?_) AllReadyH.nil
    go_simp
    refine CH.mono ?_
    rintro e w1 ⟨rfl, up1, hf1, hg1, hb1⟩
    have B1 : But (Is F.gu) w w1 := (But.refl _ _).drew.trans hb1
    refine hK.out _ _ ?_ (fun hHeld => ?_)
    · exact SameB.of_but B1 hdl hdu
    clear hK K
    (try simp only [Act.put, List.setIfInBounds_toArray, List.set_cons_zero, List.set_cons_succ])
    refine wpAnyH_done (by kernel_rfl) ?_ _
    unfold QPre
    simp only [List.drop_succ_cons, List.drop_zero]
    have hcv1 := B1.cell (p := ⟨F.gb, rt m, none⟩) (fun e => hbu e.symm) hcv
    have F1 := Lib.hid (FH.out.headed hf1 hg1 B1)
    have hfr := F1.out.row.fr (rt m)
    go_wp2
    go_end0
    refine ⟨rfl, ?_, (B1.sub (fun g hg => by rw [show g = F.gu from hg]; exact .inl F.mem.2.2.1)).setCell (p := ⟨F.gb, rt m, none⟩) (.inl F.mem.2.2.2.2.1) _⟩
    (try rw [if_pos hm0, Int.toNat_natCast])
    exact F1.out.setB hrt v
end Go.Proofs.Ytfldajplclahfaa
