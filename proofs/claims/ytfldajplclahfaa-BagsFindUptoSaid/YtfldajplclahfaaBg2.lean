/- The walks of report and access. -/
import Derived.Test.YtfldajplclahfaaBg1
import Derived.Test.YtfldajplclahfaaGAppStep
namespace Go.Proofs.Ytfldajplclahfaa
open Go.RowKit
set_option linter.unusedVariables false
theorem infoI2 : (Try.prog.info? 3).map (fun i => (i.zero, i.size, i.bytes)) = some (some (.int .i64 0), 1, 8) := by kernel_rfl
section
variable {base n : Nat} {w w' : World} {F : Fd} {vf : Value} {k K : Nat} {rt : Nat → Nat} {bd : List Bool} {sh : Sh}
/-- a cell of the finder's own block is written: the number of the first race -/
theorem FinAt.setF (f : FinAt base n w F vf k K rt bd sh) (x : Int) (hx : Ent K x) : FinAt base n (w.setCell ⟨F.d, 5, none⟩ (.int .i64 x)) F vf k K rt bd { sh with first := x } := by
  have hb : But (Is F.d) w (w.setCell ⟨F.d, 5, none⟩ (.int .i64 x)) := (But.refl _ _).setCell (T := Is F.d) (p := ⟨F.d, 5, none⟩) (show Is F.d F.d from rfl) _
  obtain ⟨d1, d2, d3, d4, d5, d6, d7, d8, d9, d10, d11, d12, d13, d14, d15⟩ := f.dis
  obtain ⟨up, sz, hh, hf, hg⟩ := f.forest
  obtain ⟨nm, q1, q2⟩ := f.map
  exact { f with
    forest := ⟨up, sz, hh, hf.but hb (fun e => d1 e.symm) (fun e => d2 e.symm) (fun e => d3 e.symm), hg⟩
    row := f.row.but hb (fun e => d4 e.symm)
    map := ⟨nm, q1, q2.but hb (fun e => d5 e.symm)⟩
    found := f.found.but hb (fun g hg e => f.nv g hg (by rw [show g = F.d from e]; exact F.mem.1))
    blk := by simpa using f.blk.set (i := 5) (by simp) (.int .i64 x)
    ff := hx }
/-- the list of cells has grown -/
theorem FinAt.grew (f : FinAt base n w F vf k K rt bd sh) {l : List Int} {vf' : Value} (ho : OwnI 3 w' base Nowhere l vf') (hl : l.length ≤ K) (hg : w.grownBy w' vf.ownBlock) (hn : vf'.ownBlock = vf.ownBlock ∨ vf'.ownBlock = some (w.heap.size + 1)) :
    FinAt base n (w'.setCell ⟨F.d, 4, none⟩ vf') F vf' k K rt bd { sh with found := l } ∧ But (FT F vf) w (w'.setCell ⟨F.d, 4, none⟩ vf') ∧ NewOr vf vf' w.heap.size := by
  have hb0 := But.of_grown hg
  have hb : But (FT F vf) w (w'.setCell ⟨F.d, 4, none⟩ vf') := (hb0.sub (fun g hg => .inr hg)).setCell (p := ⟨F.d, 4, none⟩) (.inl F.mem.1) _
  have hlt := f.lt
  have nvr : ∀ g ∈ F.row, vf.ownBlock ≠ some g := fun g hg e => f.nv g e hg
  obtain ⟨d1, d2, d3, d4, d5, d6, d7, d8, d9, d10, d11, d12, d13, d14, d15⟩ := f.dis
  obtain ⟨m1, m2, m3, m4, m5, m6⟩ := F.mem
  obtain ⟨up, sz, hh, hf, hgd⟩ := f.forest
  obtain ⟨nm, q1, q2⟩ := f.map
  have hs : But (Is F.d) w' (w'.setCell ⟨F.d, 4, none⟩ vf') := (But.refl _ _).setCell (T := Is F.d) (p := ⟨F.d, 4, none⟩) (show Is F.d F.d from rfl) _
  have nv' : ∀ g, vf'.ownBlock = some g → ¬ g ∈ F.row := fun g hg hm => by
    rcases hn with e | e
    · rw [e] at hg; exact f.nv g hg hm
    · rw [e] at hg; injection hg with hg; have := (hlt g hm).1; omega
  refine ⟨{ f with
    forest := ⟨up, sz, hh, (hf.but hb0 (nvr _ m2) (nvr _ m3) (nvr _ m4)).but hs (fun e => d1 e.symm) (fun e => d2 e.symm) (fun e => d3 e.symm), hgd⟩
    row := (f.row.but hb0 (nvr _ m5)).but hs (fun e => d4 e.symm)
    map := ⟨nm, q1, (q2.but hb0 (nvr _ m6)).but hs (fun e => d5 e.symm)⟩
    found := ho.but hs (fun g hg e => nv' g hg (by rw [show g = F.d from e]; exact m1))
    blk := by simpa using (f.blk.but hb0 (nvr _ m1)).set (i := 4) (by simp) vf'
    nv := nv'
    fl := hl }, hb, fun g hg => ?_⟩
  rcases hn with e | e
  · rw [e] at hg; exact .inl hg
  · rw [e] at hg; injection hg with hg; exact .inr (by omega)
theorem FinAt.more (f : FinAt base n w F vf k K rt bd sh) {K' : Nat} (h : K ≤ K') (hn : K' ≤ n) : FinAt base n w F vf k K' rt bd sh :=
  { f with
    kn := hn
    fl := by have := f.fl; omega
    ff := f.ff.more h
    ent := fun c x hc => ⟨(f.ent c x hc).1.more h, (f.ent c x hc).2.more h⟩ }
/-- the map has grown -/
theorem FinAt.put (f : FinAt base n w F vf k (k + 1) rt bd sh) {c : Int} {x : Int × Int} {nm : Nat} (hnm : nm ≤ k + 1) (ho : OwnO Try.prog w' 3 F.gm nm (setO (encC sh) c (.agg #[.int .i64 x.1, .int .i64 x.2]))) (hg : w.grownBy w' (some F.gm)) (e1 : Ent (k + 1) x.1) (e2 : Ent (k + 1) x.2) :
    FinAt base n (w'.setCell ⟨F.d, 3, none⟩ (.int .i64 ((k + 1 : Nat) : Int))) F vf (k + 1) (k + 1) rt bd (putS c x sh) ∧ But (FT F vf) w (w'.setCell ⟨F.d, 3, none⟩ (.int .i64 ((k + 1 : Nat) : Int))) := by
  have hb0 := But.of_grown hg
  have hb1 : But (Is F.gm) w w' := hb0.sub (fun g hg => (Option.some.inj hg).symm)
  have hb : But (FT F vf) w (w'.setCell ⟨F.d, 3, none⟩ (.int .i64 ((k + 1 : Nat) : Int))) := (hb1.sub (fun g hg => by rw [show g = F.gm from hg]; exact .inl F.mem.2.2.2.2.2)).setCell (p := ⟨F.d, 3, none⟩) (.inl F.mem.1) _
  obtain ⟨d1, d2, d3, d4, d5, d6, d7, d8, d9, d10, d11, d12, d13, d14, d15⟩ := f.dis
  obtain ⟨m1, m2, m3, m4, m5, m6⟩ := F.mem
  obtain ⟨up, sz, hh, hf, hgd⟩ := f.forest
  have hs : But (Is F.d) w' (w'.setCell ⟨F.d, 3, none⟩ (.int .i64 ((k + 1 : Nat) : Int))) := (But.refl _ _).setCell (T := Is F.d) (p := ⟨F.d, 3, none⟩) (show Is F.d F.d from rfl) _
  have henc : encC (putS c x sh) = setO (encC sh) c (.agg #[.int .i64 x.1, .int .i64 x.2]) := by
    funext q
    unfold encC putS setO
    dsimp only
    split <;> rfl
  refine ⟨{ f with
    forest := ⟨up, sz, hh, (hf.but hb1 d9 d12 d14).but hs (fun e => d1 e.symm) (fun e => d2 e.symm) (fun e => d3 e.symm), hgd⟩
    row := (f.row.but hb1 d15).but hs (fun e => d4 e.symm)
    map := ⟨nm, hnm, by rw [henc]; exact ho.but hs (fun e => d5 e.symm)⟩
    found := (f.found.but hb1 (fun g hg e => f.nv g hg (by rw [show g = F.gm from e]; exact m6))).but hs (fun g hg e => f.nv g hg (by rw [show g = F.d from e]; exact m1))
    blk := by show Blk base _ F.d [_, _, _, _, _, .int .i64 sh.first]; simpa using (f.blk.but hb1 d5).set (i := 3) (by simp) (.int .i64 ((k + 1 : Nat) : Int))
    ent := fun q y hq => ?_ }, hb⟩
  unfold putS at hq
  dsimp only at hq
  split at hq
  · injection hq with hq; subst hq; exact ⟨e1, e2⟩
  · exact f.ent q y hq
end
set_option maxHeartbeats 1000000 in
set_option maxRecDepth 100000 in
theorem report_any {base n : Nat} {w : World} {F : Fd} {vf : Value} {k K : Nat} {rt : Nat → Nat} {bd : List Bool} {sh : Sh} (f : FinAt base n w F vf k K rt bd sh) (c : Int) (hc : inI c) (hK : sh.found.length < K) (hk : k < K) :
    Calls Try.prog 76 #[.pointer (some ⟨F.d, 0, none⟩), .int .i64 c] w fun e w' => e = .returned (.tuple #[]) ∧ ∃ vf' : Value, FinAt base n w' F vf' k K rt bd (repS k c sh) ∧ But (FT F vf) w w' ∧ NewOr vf vf' w.heap.size := by
  obtain ⟨i0, hi, hz0, hz1, hz2⟩ := info_parts infoI2
  have FH := Lib.hid f
  have hd5 := f.blk.cell 5 _ rfl
  have hd3 := f.blk.cell 3 _ rfl
  have hf5 := f.blk.fr 5
  have hn := f.nb
  have hkn := f.kn
  clear f
  go_enter Try.func76, Try.ntmps76
  go_upto_if 8 with (fail)
  go_cut [] (fun wx => Hid (FinAt base n wx F vf k K rt bd { sh with first := if sh.first < 0 then (k : Int) else sh.first }) ∧ But (FT F vf) w wx ∧ w.heap.size ≤ wx.heap.size)
  case first =>
    by_cases h : sh.first < 0
    · have HX := Lib.hid (show FinAt base n (w.setCell ⟨F.d, 5, none⟩ (.int .i64 (k : Int))) F vf k K rt bd { sh with first := if sh.first < 0 then (k : Int) else sh.first } by
        rw [if_pos h]; exact FH.out.setF _ (.inr ⟨k, hk, rfl⟩))
      go_wp2
      go_meet
      exact ⟨HX, (But.refl _ _).setCell (T := FT F vf) (p := ⟨F.d, 5, none⟩) (.inl F.mem.1) _, by rw [size_setCell]; exact Nat.le_refl _⟩
    · have HX := Lib.hid (show FinAt base n w F vf k K rt bd { sh with first := if sh.first < 0 then (k : Int) else sh.first } by
        rw [if_neg h]; exact FH.out)
      go_wp2
      go_meet
      exact ⟨HX, But.refl _ _, Nat.le_refl _⟩
  case rest =>
    obtain ⟨F1, B1, hs1⟩ := hcut
    clear FH hd5 hd3 hf5
    have hd4 := F1.out.blk.cell 4 _ rfl
    have hf4 := F1.out.blk.fr 4
    have hkn2 := Lib.hid F1.out.fl
    have RD := Lib.hid (show RdI wc (Upto wc.heap.size) sh.found vf from F1.out.found.toRd (bytes := 8) Flat.keeps (by have h := hkn2.out; change sh.found.length ≤ K at h; change sh.found.length * 8 ≤ _; omega) (Sub.nowhere _) (fun b _ h => h))
    have CT := containsI sh.found c _ _ _ RD.out
    cases hcn : sh.found.contains c with
    | true =>
      rw [hcn] at CT
      have HX := Lib.hid (show FinAt base n wc F vf k K rt bd (repS k c sh) by
        unfold repS; rw [hcn]; exact F1.out)
      go_wp2_with fail
      refine CT.mono ?_
      rintro e w1 ⟨rfl, rfl⟩
      clear CT
      go_wp2
      go_end0
      exact ⟨rfl, _, HX.out, B1, NewOr.refl _ _⟩
    | false =>
      rw [hcn] at CT
      have HO := Lib.hid F1.out.found
      have HL := Lib.hid (show sh.found.length < K from hK)
      have HB := Lib.hid (show base ≤ wc.heap.size by have := (F1.out.lt _ F.mem.1); omega)
      clear RD
      go_wp2_with fail
      refine CT.mono ?_
      rintro e w1 ⟨rfl, rfl⟩
      clear CT
      go_wp2_with (at_builtin; refine wpList_append_one rfl _ _ 34 rfl i0 _ Try.underlying34 hi hz0 hz1 hz2 rfl (by decide) Flat.keeps HO.out (x := c) (cs := [Value.int .i64 c]) (Tx := Nowhere) ?d0 rfl rfl rfl (Sub.nowhere _) (Sub.nowhere _) not_nowhere ?d1 ?d2 ?d3 ?d4 ?_)
      case d0 => exact ⟨rfl, hc⟩
      case d1 => simp [Value.oneCell']
      case d2 => have := HL.out; unfold maxLen; omega
      case d3 => have := HL.out; omega
      try (case d4 => exact HB.out)
      intro vv w2 ho2 hg2 hn2
      obtain ⟨A9, c9, rfl⟩ := ho2.form
      obtain ⟨h1, h2, h3⟩ := F1.out.grew ho2 (by rw [List.length_append]; exact hK) hg2 hn2
      rw [List.length_append, List.length_singleton] at h1 h2 h3
      have HX := Lib.hid (show FinAt base n (w2.setCell ⟨F.d, 4, none⟩ (.slice A9 (sh.found.length + 1) c9)) F (.slice A9 (sh.found.length + 1) c9) k K rt bd (repS k c sh) by
        unfold repS; rw [hcn]; exact h1)
      have H2 := Lib.hid h2
      have H3 := Lib.hid h3
      have hd4' := (But.of_grown hg2).cell (p := ⟨F.d, 4, none⟩) (fun e => F1.out.nv _ e F.mem.1) hd4
      have hf4' := grown_frozen hg2 hf4 F1.out.blk.lt (fun e => F1.out.nv _ e F.mem.1)
      clear ho2 hg2 hn2 h1 h2 h3 HO F1 hd4 hf4
      go_wp2
      go_end0
      exact ⟨rfl, _, HX.out, B1.trans H2.out, fun g hg => by
        rcases H3.out g hg with e | e
        · exact .inl e
        · exact .inr (by omega)⟩
end Go.Proofs.Ytfldajplclahfaa
