/- The parser of syn.Parse: its block, and what it reads next. -/
import Derived.Test.YtijahadmaggncaaDoorPqSpec
import Derived.Test.YtijahadmaggncaaDoorLex4
import Derived.Test.YtijahadmaggncaaDoorLex3
import Derived.Test.YtijahadmaggncaaDoorGTwo
import Derived.Test.YtijahadmaggncaaDoorGEtRd
import Derived.Test.YtijahadmaggncaaDoorGOwnTw
import Derived.WalkLawsBesides
namespace Go.Proofs.YtijahadmaggncaaDoor
open Go.RowKit
set_option linter.unusedVariables false
/-- tokens that lex has made, of a text that is not too long -/
def tokOk (t : LTok) : Prop := lexOk t ∧ t.text.length ≤ 1048576
/-- where the text ends; from which block on its tokens lie -/
structure En where
  e : Int
  lo : Nat
/-- the tokens' blocks -/
def Tk (en : En) (p : Nat) : Blocks := fun k => en.lo ≤ k ∧ k < p
theorem Tk.sub {en : En} {p : Nat} : Sub (Tk en p) (Upto p) := fun k hk => hk.2
/-- block p: the parser: what is left, and where the text ends -/
def PsAt (p : Nat) (en : En) (w : World) (ts : List LTok) : Prop := ∃ v, Blk 0 w p [v, .int .i64 en.e] ∧ RdToks w (Tk en p) ts v ∧ ∀ t ∈ ts, tokOk t
/-- the blocks from lo on, but for y -/
def Rn (lo y : Nat) (w : World) : Blocks := fun k => lo ≤ k ∧ k < w.heap.size ∧ k ≠ y
def rdE (lo y : Nat) (w : World) (t : Ex) (V : Value) : Prop := RdE w (Rn lo y w) t V
def misV (z : Int) : Value := .iface 60 (.agg #[.int .i64 z])
/-- what a reading function does -/
def POut {α : Type} (p : Nat) (en : En) (w : World) (rd : World → α → Value → Prop) (o : PR α) (e : Ending) (w' : World) : Prop :=
  match o with
  | .ok a r => ∃ x, e = .returned x ∧ rd w' a x ∧ PsAt p en w' r ∧ But (Is p) w w'
  | .no r => e = .panicked [{ v := misV (placeG en.e r), recovered := false }] ∧ But (Is p) w w'
section
variable {p : Nat} {en : En} {w w' w2 : World} {ts : List LTok}
theorem PsAt.lt (h : PsAt p en w ts) : p < w.heap.size := by obtain ⟨v, h, _⟩ := h; exact h.lt
theorem PsAt.below (h : PsAt p en w ts) (hb : Below w.heap.size w w') : PsAt p en w' ts := by
  have hlt := h.lt
  obtain ⟨v, h, r, o⟩ := h
  exact ⟨v, h.below hb, r.go Flat.keeps (hb.mono (Nat.le_of_lt hlt)) Tk.sub (Sub.refl _), o⟩
theorem Rn.same {lo y z : Nat} (h : But (Is z) w w') (hz : z < lo ∨ z = y) : Same (Rn lo y w) w w' := h.same (fun k hk => hk.2.1) (fun k hk e => by unfold Is at e; have := hk.1; have := hk.2.2; omega)
theorem Rn.sub {lo y : Nat} (h : w.heap.size ≤ w'.heap.size) : Sub (Rn lo y w) (Rn lo y w') := fun k hk => ⟨hk.1, Nat.lt_of_lt_of_le hk.2.1 h, hk.2.2⟩
theorem Rn.upto {lo y : Nat} : Sub (Rn lo y w) (Upto w.heap.size) := fun k hk => hk.2.1
/-- other bounds, another block that is left out -/
theorem Rn.to {lo y lo' y' : Nat} (hl : lo' ≤ lo) (hy : y' < lo ∨ w.heap.size ≤ y' ∨ y' = y) : Sub (Rn lo y w) (Rn lo' y' w) := fun k hk => ⟨Nat.le_trans hl hk.1, hk.2.1, by have := hk.1; have := hk.2.1; have := hk.2.2; omega⟩
theorem rdE.but {lo y z : Nat} {t : Ex} {V : Value} (h : rdE lo y w t V) (hb : But (Is z) w w') (hz : z < lo ∨ z = y) : rdE lo y w' t V := RdE.keep h (Rn.sub hb.size) (Rn.same hb hz)
theorem rdE.below {lo y : Nat} {t : Ex} {V : Value} (h : rdE lo y w t V) (hb : Below w.heap.size w w') : rdE lo y w' t V := RdE.keep h (Rn.sub hb.size) (same_of_below hb Rn.upto)
theorem rdE.to {lo y lo' y' : Nat} {t : Ex} {V : Value} (h : rdE lo y w t V) (hl : lo' ≤ lo) (hy : y' < lo ∨ w.heap.size ≤ y' ∨ y' = y) : rdE lo' y' w t V := RdE.keep h (Rn.to hl hy) (Same.refl _ _)
theorem rdE.form {lo y : Nat} {t : Ex} {V : Value} (h : rdE lo y w t V) : ∃ A cap, V = .agg #[.int .i64 t.kind, .int .i64 t.num, .string t.name, .slice A t.args.length cap] := RdE.form h
theorem rdE.two {lo y : Nat} {U : Value} {X : Ex} (hl : lo ≤ w.heap.size) (hy : y < w.heap.size) (hs : w.heap.size ≤ w'.heap.size) (h : RdE w' (Plus (Rn lo y w) w.heap.size w'.heap.size) X U) : rdE lo y w' X U :=
  RdE.keep h (fun k hk => hk.elim (fun h => ⟨h.1, Nat.lt_of_lt_of_le h.2.1 hs, h.2.2⟩) (fun h => ⟨Nat.le_trans hl h.1, h.2, by have := h.1; omega⟩)) (Same.refl _ _)
theorem But.of_b {T : Blocks} (hb : Below w.heap.size w w') : But T w w' := But.of_below hb
/-- what the parser's block holds -/
theorem PsAt.open_ (h : PsAt p en w ts) : ∃ A cap, w.cell? ⟨p, 0, none⟩ = some (.slice A ts.length cap) ∧ w.cell? ⟨p, 1, none⟩ = some (.int .i64 en.e) ∧ w.frozen? ⟨p, 0, none⟩ = false ∧ ts.length ≤ cap ∧ cap ≤ 9223372036854775807 := by
  obtain ⟨v, h, r, _⟩ := h
  obtain ⟨A, cap, rfl, h1, h2, _⟩ := r.form
  exact ⟨A, cap, h.cell 0 _ rfl, h.cell 1 _ rfl, h.fr 0, h1, h2⟩
/-- a younger block turns -/
theorem PsAt.but {z : Nat} (h : PsAt p en w ts) (hb : But (Is z) w w') (hz : p < z) : PsAt p en w' ts := by
  have hlt := h.lt
  obtain ⟨v, h, r, o⟩ := h
  exact ⟨v, h.but hb (fun e => by unfold Is at e; omega), r.keep Flat.keeps (Sub.refl _) (hb.same (fun k hk => Nat.lt_trans hk.2 hlt) (fun k hk e => by unfold Is at e; have := hk.2; omega)), o⟩
/-- an elder block turns, that is none of the tokens' -/
theorem PsAt.but_lo {z : Nat} (h : PsAt p en w ts) (hb : But (Is z) w w') (hz : z < en.lo) (hp : z ≠ p) : PsAt p en w' ts := by
  have hlt := h.lt
  obtain ⟨v, h, r, o⟩ := h
  exact ⟨v, h.but hb (fun e => hp e.symm), r.keep Flat.keeps (Sub.refl _) (hb.same (fun k hk => Nat.lt_trans hk.2 hlt) (fun k hk e => by unfold Is at e; have := hk.1; omega)), o⟩
theorem PsAt.toks (h : PsAt p en w ts) : ∀ t ∈ ts, tokOk t := by obtain ⟨v, _, _, o⟩ := h; exact o
/-- the first token -/
theorem PsAt.head {t : LTok} {r : List LTok} (h : PsAt p en w (t :: r)) : ∃ b off cap, w.cell? ⟨p, 0, none⟩ = some (.slice (some ⟨b, off, none⟩) (r.length + 1) cap) ∧ w.cell? ⟨p, 1, none⟩ = some (.int .i64 en.e) ∧ w.frozen? ⟨p, 0, none⟩ = false ∧ r.length + 1 ≤ cap ∧ cap ≤ 9223372036854775807 ∧
    w.cell? ⟨b, off, none⟩ = some (.int .i64 t.kind) ∧ w.cell? ⟨b, off + 1, none⟩ = some (.int .i64 t.pos) ∧ w.cell? ⟨b, off + 2, none⟩ = some (.string t.str) ∧ okT t ∧
    ∀ A', (cap ≠ 1 → A' = some ⟨b, off + 3, none⟩) → PsAt p en (w.setCell ⟨p, 0, none⟩ (.slice A' r.length (cap - 1))) r := by
  obtain ⟨v, h, rr, oo⟩ := h
  obtain ⟨A, cap, rfl, h1, h2, h3⟩ := rr.form
  obtain ⟨b, off, rfl, hb, hok, hc⟩ := RdL.flat rr (q := 0) (by simp)
  refine ⟨b, off, cap, h.cell 0 _ rfl, h.cell 1 _ rfl, h.fr 0, h1, h2, ?_, ?_, ?_, hok, ?_⟩
  · have := hc 0 _ rfl; simpa using this
  · have := hc 1 _ rfl; simpa using this
  · have := hc 2 _ rfl; simpa using this
  · intro A' hA
    have hd := rr.drop (k := 1) (by simp)
    refine ⟨_, h.set (i := 0) (by simp) _, ?_, fun t ht => oo t (List.mem_cons_of_mem _ ht)⟩
    have hd2 : RdToks w (Tk en p) r (.slice A' r.length (cap - 1)) := by
      by_cases hc1 : cap = 1
      · have hr : r = [] := by
          simp only [List.length_cons] at h1
          exact List.length_eq_zero_iff.1 (by omega)
        subst hr
        exact RdL.nil (by unfold maxLen; omega)
      · rw [hA hc1]
        simpa [Addr.add] using hd
    exact hd2.stored Flat.keeps (fun hk => Nat.lt_irrefl _ hk.2) _
end
set_option maxHeartbeats 400000 in
theorem pfail_any {p : Nat} {en : En} {ts : List LTok} {w : World} (h : PsAt p en w ts) :
    Calls Tryd.prog 25 #[.pointer (some ⟨p, 0, none⟩)] w fun e w' => e = .panicked [{ v := misV (placeG en.e ts), recovered := false }] ∧ w' = w := by
  cases ts with
  | nil =>
    obtain ⟨A, cap, c0, c1, f0, hl, hm⟩ := h.open_
    clear h
    go_enter Tryd.func25, Tryd.ntmps25
    go_wp2
    exact ⟨rfl, rfl, rfl⟩
  | cons t r =>
    obtain ⟨b, off, cap, c0, c1, f0, hl, hm, k0, k1, k2, hok, _⟩ := h.head
    clear h
    have hr0 : ¬ (r.length + 1 = 0) := by omega
    go_enter Tryd.func25, Tryd.ntmps25
    go_wp2
    exact ⟨rfl, rfl, rfl⟩
set_option maxHeartbeats 400000 in
theorem pis_any {p : Nat} {en : En} {ts : List LTok} {w : World} (s : Str) (h : PsAt p en w ts) :
    Calls Tryd.prog 77 #[.pointer (some ⟨p, 0, none⟩), .string s] w fun e w' => e = .returned (.bool (isT s ts)) ∧ w' = w := by
  cases ts with
  | nil =>
    obtain ⟨A, cap, c0, c1, f0, hl, hm⟩ := h.open_
    clear h
    go_enter Tryd.func77, Tryd.ntmps77
    go_wp2
    go_ret
    exact ⟨rfl, rfl⟩
  | cons t r =>
    obtain ⟨b, off, cap, c0, c1, f0, hl, hm, k0, k1, k2, hok, _⟩ := h.head
    clear h
    have HI := Lib.hid (show isT s (t :: r) = (t.str.toList == s.toList) from rfl)
    generalize t.str = y at *
    go_enter Tryd.func77, Tryd.ntmps77
    go_wp2
    go_ret
    exact ⟨by rw [HI.out]; rfl, rfl⟩
set_option maxHeartbeats 400000 in
theorem ptake_any {p : Nat} {en : En} {t : LTok} {r : List LTok} {w : World} (h : PsAt p en w (t :: r)) :
    Calls Tryd.prog 78 #[.pointer (some ⟨p, 0, none⟩)] w fun e w' => e = .returned (.string t.str) ∧ PsAt p en w' r ∧ But (Is p) w w' := by
  have hlt := h.lt
  obtain ⟨b, off, cap, c0, c1, f0, hl, hm, k0, k1, k2, hok, hN⟩ := h.head
  have HN := Lib.hid hN
  have HOK := Lib.hid hok
  clear h hN hok
  go_enter Tryd.func78, Tryd.ntmps78
  go_wp2
  · go_ret
    have h2 := HN.out (some ⟨b, off, none⟩) (fun h => absurd (by first | assumption | (symm; assumption)) h)
    have e1 : cap = 1 := by first | assumption | (symm; assumption)
    rw [e1] at h2
    exact ⟨rfl, h2.below ((Below.refl _ _).alloc (Nat.le_refl _) _), ((But.refl _ _).setCell (show Is p p from rfl) _).alloc _⟩
  · go_ret
    have h2 := HN.out (some ⟨b, off + 3, none⟩) (fun _ => rfl)
    exact ⟨rfl, h2.below ((Below.refl _ _).alloc (Nat.le_refl _) _), ((But.refl _ _).setCell (show Is p p from rfl) _).alloc _⟩
/-- a word that is next -/
theorem isT_true {s : Str} {ts : List LTok} (h : isT s ts = true) : ∃ t r, ts = t :: r ∧ t.str.toList = s.toList := by
  cases ts with
  | nil => cases h
  | cons t r => exact ⟨t, r, rfl, by simpa [isT] using h⟩
set_option maxHeartbeats 1000000 in
set_option maxRecDepth 100000 in
theorem pany_any {p : Nat} {en : En} {ts : List LTok} {w : World} {l : List Str} {S : Blocks} {v : Value} (h : PsAt p en w ts) (r : RdSs w S l v) :
    Calls Tryd.prog 43 #[.pointer (some ⟨p, 0, none⟩), v] w fun e w' => e = .returned (.string (anyG l ts)) ∧ w' = w := by
  obtain ⟨A, cap, rfl, hl, hcm, hby⟩ := r.form
  unfold maxLen at hcm
  have R := Lib.hid r
  have H := Lib.hid h
  obtain ⟨Z, hZ⟩ : ∃ Z, Z = anyG l ts := ⟨_, rfl⟩
  rw [← hZ]
  have HZ := Lib.hid hZ
  clear r h hZ
  go_enter Tryd.func43, Tryd.ntmps43
  go_wp2
  go_loop [9] (fun t => ∃ k : Nat, k ≤ l.length ∧ t = .int .i64 (k : Int) ∧ Hid (Z = anyG (l.drop k) ts)) (fun t => l.length - (intOf t).toNat)
  case atStart => exact ⟨0, by omega, rfl, HZ⟩
  case round =>
    obtain ⟨k, hk, rfl, HK⟩ := hrel
    by_cases hlt : k < l.length
    · obtain ⟨b0, off, rfl, hb0, hok, hc⟩ := R.out.at1 hlt
      have HD := Lib.hid (show l.drop k = l[k] :: l.drop (k + 1) from List.drop_eq_getElem_cons hlt)
      generalize l[k] = x at hc hok HD
      have HI := Lib.hid (pis_any x H.out)
      cases hx : isT x ts
      · have HK2 := Lib.hid (show Z = anyG (l.drop (k + 1)) ts by rw [HK.out, HD.out, anyG, if_neg (by rw [hx]; simp)])
        rw [hx] at HI
        clear HK HD hx
        go_wp2_with (go_at_call 77; refine HI.out.mono ?_)
        go_round
        case rel => exact ⟨k + 1, by omega, by go_num, HK2⟩
        case measure => simp [intOf]; omega
      · have HK2 := Lib.hid (show Z = x by rw [HK.out, HD.out, anyG, if_pos hx])
        rw [hx] at HI
        clear HK HD hx
        go_wp2_with (go_at_call 77; refine HI.out.mono ?_)
        go_ret
        exact ⟨by rw [HK2.out]; rfl, rfl⟩
    · have hkl : k = l.length := by omega
      subst hkl
      have HK2 := Lib.hid (show Z = ⟨#[]⟩ by rw [HK.out, List.drop_length]; rfl)
      go_wp2_with fail
      go_ret
      exact ⟨by rw [HK2.out]; rfl, rfl⟩
end Go.Proofs.YtijahadmaggncaaDoor
