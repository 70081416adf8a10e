/- serial.Plain, forkwrightref.MPlain: both give the list plainL. -/
import Derived.Test.YtmpononkbdfkmaaSame
namespace Go.Proofs.Ytmpononkbdfkmaa
open Go.RowKit
set_option linter.unusedVariables false

/-- runs side by side, or waits -/
def isPar (k : Int) : Bool := k == 4 || k == 5
def Ex.zero : Ex := .mk 0 0 ⟨#[]⟩ []
def preSt : St → St
  | .mk k s a b body els => if isPar k then .mk 6 ⟨#[]⟩ (.mk 1 1 ⟨#[]⟩ []) .zero body [] else .mk k s a b body els
mutual
def plainSt : St → St
  | .mk k s a b body els => if isPar k then .mk 6 ⟨#[]⟩ (.mk 1 1 ⟨#[]⟩ []) .zero (plainL body) [] else .mk k s a b (plainL body) (plainL els)
def plainL : List St → List St
  | [] => []
  | s :: r => plainSt s :: plainL r
end
theorem plainL_eq (l : List St) : plainL l = l.map plainSt := by
  induction l with
  | nil => simp [plainL]
  | cons x r ih => simp [plainL, ih]
theorem plain_of_pre {k k' : Int} {s s' : ByteArray} {a b a' b' : Ex} {body els els' : List St} (h : preSt (.mk k s a b body els) = .mk k' s' a' b' body els') : plainSt (.mk k s a b body els) = .mk k' s' a' b' (plainL body) (plainL els') := by
  by_cases hp : (isPar k) = true
  · simp only [preSt, hp, if_true, St.mk.injEq, true_and] at h
    obtain ⟨rfl, rfl, rfl, rfl, rfl⟩ := h
    simp [plainSt, plainL, hp]
  · simp [preSt, hp] at h
    obtain ⟨rfl, rfl, rfl, rfl, rfl⟩ := h
    simp [plainSt, hp]

def PlainOk (f : FuncId) (l : List St) : Prop := ∀ (w : World) (S : Blocks) (v : Value), Sub S (Upto w.heap.size) → RdSts w S l v →
    Calls Try.prog f #[v] w fun e w' => ∃ u, e = .returned u ∧ RdSts w' (Plus S w.heap.size w'.heap.size) (plainL l) u ∧ Below w.heap.size w w'

theorem infoSt : (Try.prog.info? 85).map (fun i => (i.zero, i.size, i.bytes)) = some (some (.agg #[.int .i64 0, .string .empty, .int .i64 0, .int .i64 0, .string .empty, .slice none 0 0, .int .i64 0, .int .i64 0, .string .empty, .slice none 0 0, .slice none 0 0, .slice none 0 0]), 12, 184) := by kernel_rfl

set_option maxHeartbeats 1000000 in
set_option maxRecDepth 100000 in
theorem plain_one (l : List St) (h : ∀ k s a b body els, St.mk k s a b body els ∈ l → PlainOk 18 body ∧ PlainOk 18 els) (h0 : l ≠ [] → PlainOk 18 []) : PlainOk 18 l := by
  intro w S v hS r
  obtain ⟨A, cap, rfl, hl, hcm, hby⟩ := r.form
  unfold maxLen at hcm
  have H := Lib.hid h
  have H0 := Lib.hid h0
  clear h h0
  obtain ⟨i0, hi, hz0, hz1, hz2⟩ := info_parts infoSt
  go_enter Try.func18, Try.ntmps18
  go_wp2
  go_loopw [3, 8] (fun o i wr => ∃ q : Nat, q ≤ l.length ∧ i = .int .i64 q ∧ OwnL RdSt 12 85 wr w.heap.size (Plus S w.heap.size wr.heap.size) (plainL (l.take q)) o ∧ Below w.heap.size w wr) (fun _ i _ => l.length - (intOf i).toNat)
  case atStart => exact ⟨0, by omega, rfl, by simp [plainL]; exact OwnL.nil _ _ _, Below.refl _ _⟩
  case round =>
    obtain ⟨q, hq, rfl, hown, hbel⟩ := hrel
    by_cases hlt : q < l.length
    · obtain ⟨b, off, cs, rfl, hb, hcl, hcell, hrd⟩ := r.at_ hlt
      have hb : b < w.heap.size := hS _ hb
      have hmem := List.getElem_mem hlt
      have htk : l.take (q + 1) = l.take q ++ [l[q]] := by rw [List.take_succ_eq_append_getElem hlt]
      obtain ⟨st, hst⟩ : ∃ st, l[q] = st := ⟨_, rfl⟩
      rw [hst] at hrd hmem htk
      obtain ⟨k, s, a, b', body, els⟩ := st
      obtain ⟨k1, n1, s1, A1, m1, p1, k2, n2, s2, A2, m2, p2, A3, p3, A4, p4, rfl, hk, hs, ra, rb, rv, rv'⟩ := hrd.cells
      have e0 := (hbel.cell (p := ⟨b, off + q * 12, none⟩) hb).trans (hcell 0 _ rfl)
      have e1 := (hbel.cell (p := ⟨b, off + q * 12 + 1, none⟩) hb).trans (hcell 1 _ rfl); have e2 := (hbel.cell (p := ⟨b, off + q * 12 + 2, none⟩) hb).trans (hcell 2 _ rfl); have e3 := (hbel.cell (p := ⟨b, off + q * 12 + 3, none⟩) hb).trans (hcell 3 _ rfl); have e4 := (hbel.cell (p := ⟨b, off + q * 12 + 4, none⟩) hb).trans (hcell 4 _ rfl); have e5 := (hbel.cell (p := ⟨b, off + q * 12 + 5, none⟩) hb).trans (hcell 5 _ rfl); have e6 := (hbel.cell (p := ⟨b, off + q * 12 + 6, none⟩) hb).trans (hcell 6 _ rfl); have e7 := (hbel.cell (p := ⟨b, off + q * 12 + 7, none⟩) hb).trans (hcell 7 _ rfl); have e8 := (hbel.cell (p := ⟨b, off + q * 12 + 8, none⟩) hb).trans (hcell 8 _ rfl); have e9 := (hbel.cell (p := ⟨b, off + q * 12 + 9, none⟩) hb).trans (hcell 9 _ rfl); have e10 := (hbel.cell (p := ⟨b, off + q * 12 + 10, none⟩) hb).trans (hcell 10 _ rfl); have e11 := (hbel.cell (p := ⟨b, off + q * 12 + 11, none⟩) hb).trans (hcell 11 _ rfl)
      have HT := Lib.hid htk
      have HO := Lib.hid hown
      clear hst htk hrd hcell hown
      go_upto_region 5 with (fail)
      go_cut [19] (fun x wx => x = .bool (isPar k) ∧ wx = wr.alloc (.cells #[.int .i64 k, .string s, .int .i64 k1, .int .i64 n1, .string s1, .slice A1 m1 p1, .int .i64 k2, .int .i64 n2, .string s2, .slice A2 m2 p2, .slice A3 body.length p3, .slice A4 els.length p4] 85))
      case first =>
        go_wp2
        all_goals go_meet
        all_goals exact ⟨by simp [isPar, *], by simp [*]⟩
      case rest =>
      obtain ⟨rfl, rfl⟩ := hcut
      go_upto_if 19 with (fail)
      go_cut [] (fun wx => ∃ kk ss aa bb els' k1 n1 s1 A1 m1 p1 k2 n2 s2 A2 m2 p2 A4 p4, preSt (.mk k s a b' body els) = .mk kk ss aa bb body els' ∧ (els' = els ∨ els' = []) ∧ inI kk ∧ ss.size ≤ 140737488355328 ∧ RdEx wr S aa [.int .i64 k1, .int .i64 n1, .string s1, .slice A1 m1 p1] ∧ RdEx wr S bb [.int .i64 k2, .int .i64 n2, .string s2, .slice A2 m2 p2] ∧
        RdSts wr S els' (.slice A4 els'.length p4) ∧ wx = wr.alloc (.cells #[.int .i64 kk, .string ss, .int .i64 k1, .int .i64 n1, .string s1, .slice A1 m1 p1, .int .i64 k2, .int .i64 n2, .string s2, .slice A2 m2 p2, .slice A3 body.length p3, .slice A4 els'.length p4] 85))
      case first =>
        by_cases h45 : (isPar k) = true
        · rw [h45]
          go_wp2
          go_meet
          go_light
          exact ⟨6, ⟨#[]⟩, .mk 1 1 ⟨#[]⟩ [], .zero, [], 1, 1, ⟨#[]⟩, none, 0, 0, 0, 0, ⟨#[]⟩, none, 0, 0, none, 0, by simp [preSt, h45], .inr rfl, by decide, by decide,
            RdEx.shut (by decide) (by decide) (by decide) (RdL.nil (by simp [maxLen])), RdEx.shut (by decide) (by decide) (by decide) (RdL.nil (by simp [maxLen])), RdL.nil (by simp [maxLen]), rfl⟩
        · have h45' : (isPar k) = false := by simpa using h45
          rw [h45']
          go_wp2
          go_meet
          go_light
          exact ⟨k, s, a, b', els, k1, n1, s1, A1, m1, p1, k2, n2, s2, A2, m2, p2, A4, p4, by simp [preSt, h45'], .inl rfl, hk, hs, RdEx.keeps _ _ _ _ _ _ (Sub.refl _) (same_of_below hbel hS) ra,
            RdEx.keeps _ _ _ _ _ _ (Sub.refl _) (same_of_below hbel hS) rb, rv'.go RdSt.keeps hbel hS (Sub.refl _), rfl⟩
      case rest =>
        obtain ⟨kk, ss, aa, bb, els', k1, n1, s1, A1, m1, p1, k2, n2, s2, A2, m2, p2, A4, p4, hpre, hels, hkk, hss, raa, rbb, rel, rfl⟩ := hcut
        have hIB := (H.out _ _ _ _ _ _ hmem).1
        have hIE : PlainOk 18 els' := hels.elim (fun e => by rw [e]; exact (H.out _ _ _ _ _ _ hmem).2) (fun e => by rw [e]; exact H0.out (fun e => by subst e; simp at hlt))
        have rbo := rv.go RdSt.keeps hbel hS (Sub.refl _)
        have hSr := hS.lift hbel.size
        have kB : ∀ w', Below wr.heap.size wr w' → RdSts w' S body (.slice A3 body.length p3) ∧ RdSts w' S els' (.slice A4 els'.length p4) ∧ Sub S (Upto w'.heap.size) := fun w' h =>
          ⟨rbo.go RdSt.keeps h hSr (Sub.refl _), rel.go RdSt.keeps h hSr (Sub.refl _), hSr.lift h.size⟩
        have KB := Lib.hid kB
        have HIB := Lib.hid hIB
        have HIE := Lib.hid hIE
        have HPRE := Lib.hid hpre
        have RAA := Lib.hid raa
        have RBB := Lib.hid rbb
        clear kB hIB hIE hpre raa rbb rel rbo rv rv' ra rb hels e0 e1 e2 e3 e4 e5 e6 e7 e8 e9 e10 e11 hcl
        go_wp2
        go_cut [] (fun wx => ∃ A5 p5 A6 p6, RdSts wx (Plus S wr.heap.size wx.heap.size) (plainL body) (.slice A5 (plainL body).length p5) ∧ RdSts wx (Plus S wr.heap.size wx.heap.size) (plainL els') (.slice A6 (plainL els').length p6) ∧
          Below wr.heap.size wr wx ∧ wr.heap.size < wx.heap.size ∧
          wx.cell? ⟨wr.heap.size, 0, none⟩ = some (.int .i64 kk) ∧ wx.cell? ⟨wr.heap.size, 1, none⟩ = some (.string ss) ∧ wx.cell? ⟨wr.heap.size, 2, none⟩ = some (.int .i64 k1) ∧ wx.cell? ⟨wr.heap.size, 3, none⟩ = some (.int .i64 n1) ∧
          wx.cell? ⟨wr.heap.size, 4, none⟩ = some (.string s1) ∧ wx.cell? ⟨wr.heap.size, 5, none⟩ = some (.slice A1 m1 p1) ∧ wx.cell? ⟨wr.heap.size, 6, none⟩ = some (.int .i64 k2) ∧ wx.cell? ⟨wr.heap.size, 7, none⟩ = some (.int .i64 n2) ∧
          wx.cell? ⟨wr.heap.size, 8, none⟩ = some (.string s2) ∧ wx.cell? ⟨wr.heap.size, 9, none⟩ = some (.slice A2 m2 p2) ∧ wx.cell? ⟨wr.heap.size, 10, none⟩ = some (.slice A5 (plainL body).length p5) ∧ wx.cell? ⟨wr.heap.size, 11, none⟩ = some (.slice A6 (plainL els').length p6))
        case first =>
          have hw1 := ((Below.refl wr.heap.size wr).alloc (Nat.le_refl _) (.cells #[.int .i64 kk, .string ss, .int .i64 k1, .int .i64 n1, .string s1, .slice A1 m1 p1, .int .i64 k2, .int .i64 n2, .string s2, .slice A2 m2 p2, .slice A3 body.length p3, .slice A4 els'.length p4] 85)).drew
          go_region_with (first
            | (go_at_call_of 18 (Value.slice A3 body.length p3); refine (HIB.out _ S _ ?_ ?_).mono ?_; exact (KB.out _ hw1).2.2; exact (KB.out _ hw1).1; rintro e w' ⟨u1, rfl, hu1, hx1⟩; obtain ⟨A5, p5, rfl, -, -, -⟩ := hu1.form; have hst1 := Stay.of hx1)
            | (go_at_call_of 18 (Value.slice A4 els'.length p4); refine (HIE.out _ S _ ?_ ?_).mono ?_; exact (KB.out _ (hw1.trans (hx1.mono (by simp)))).2.2; exact (KB.out _ (hw1.trans (hx1.mono (by simp)))).2.1; rintro e w'' ⟨u2, rfl, hu2, hx2⟩; obtain ⟨A6, p6, rfl, -, -, -⟩ := hu2.form; have hst2 := Stay.step hx2 hst1))
          all_goals (try go_wp2_with fail)
          all_goals go_meet
          all_goals go_light
          all_goals have hn1 : ∀ n m, wr.heap.size < n → ¬ Plus S n m wr.heap.size := fun n m hn h => h.elim (fun h => Nat.lt_irrefl _ (hSr _ h)) (fun h => by omega)
          all_goals have hz1 := hx1.size
          all_goals have hz2 := hx2.size
          all_goals have hzb := hbel.size
          all_goals simp at hz1
          all_goals refine ⟨A5, p5, A6, p6, ?_, ?_, ?_, ?_, ?_, ?_, ?_, ?_, ?_, ?_, ?_, ?_, ?_, ?_, ?_, ?_⟩
          all_goals try (go_simp; done)
          all_goals first
            | exact ((hu1.go RdSt.keeps hx2 (Sub.plus_upto (hSr.lift (by omega))) (Sub.refl _)).stored RdSt.keeps (hn1 _ _ (by simp)) _).stored RdSt.keeps (hn1 _ _ (by simp)) _ |>.sub RdSt.keeps (Sub.plus_mono (by simp) (by simp; omega))
            | exact (hu2.stored RdSt.keeps (hn1 _ _ (by omega)) _).stored RdSt.keeps (hn1 _ _ (by omega)) _ |>.sub RdSt.keeps (Sub.plus_mono (by omega) (by simp))
            | exact ((hw1.trans (hx1.mono (by simp))).trans (hx2.mono (by omega))).setCell (by simp) _ |>.setCell (by simp) _
            | (rw [size_setCell, size_setCell]; omega)
        case rest =>
          obtain ⟨A5, p5, A6, p6, ru1, ru2, hbx, hbz, g0, g1, g2, g3, g4, g5, g6, g7, g8, g9, g10, g11⟩ := hcut
          have hszx := hbx.size
          have hszr := hbel.size
          have hbw := hbel.trans (hbx.mono hszr)
          have hown := (HO.out.keep RdSt.keeps hbx).sub (Sub.plus_mono (S := S) (Nat.le_refl w.heap.size) hszx)
          have hlen : (plainL (l.take q)).length = q := by rw [plainL_eq]; simp; omega
          have hkeep : ∀ e cs, RdEx wr S e cs → RdEx wc (Plus S wr.heap.size wc.heap.size) e cs := fun e cs h => RdEx.keeps _ _ _ _ _ _ (Sub.plus _ _ _) (same_of_below hbx hSr) h
          have hel : RdSt wc (Plus S wr.heap.size wc.heap.size) (plainSt (.mk k s a b' body els)) [.int .i64 kk, .string ss, .int .i64 k1, .int .i64 n1, .string s1, .slice A1 m1 p1, .int .i64 k2, .int .i64 n2, .string s2, .slice A2 m2 p2, .slice A5 (plainL body).length p5, .slice A6 (plainL els').length p6] := by
            rw [plain_of_pre HPRE.out]
            exact RdSt.shut hkk hss (hkeep _ _ RAA.out) (hkeep _ _ RBB.out) ru1 ru2
          have ho3 : ∀ g, u3.ownBlock = some g → ¬ Plus S wr.heap.size wc.heap.size g := fun g hg h => by
            have := HO.out.lt g hg
            exact h.elim (fun h => by have := hS _ h; unfold Upto at this; omega) (fun h => by omega)
          have HEL := Lib.hid hel
          have HOW := Lib.hid hown
          have HO3 := Lib.hid ho3
          clear hel hown ho3 hkeep ru1 ru2
          go_wp2_with (at_builtin; refine wpList_append_one rfl _ _ 22 rfl i0 _ Try.underlying22 hi hz0 hz1 hz2 rfl (by decide) RdSt.keeps HOW.out HEL.out rfl rfl rfl ?c0 ?c1 ?c2 ?c3 ?c4 ?c5 ?c6 ?_)
          case c0 => exact Sub.plus_mono hszr (Nat.le_refl _)
          case c1 => exact Sub.plus_upto (hSr.lift hszx)
          case c2 => exact HO3.out
          case c3 => simp [Value.oneCell']
          case c4 => rw [hlen]; unfold maxLen; omega
          case c5 => rw [hlen]; omega
          case c6 => omega
          intro v2 w2 hown2 hg2 _
          have hown3 : OwnL RdSt 12 85 w2 w.heap.size (Plus S w.heap.size w2.heap.size) (plainL (l.take (q + 1))) v2 := by
            rw [HT.out, plainL_eq, List.map_append, ← plainL_eq]
            exact hown2.sub (Sub.plus_mono (Nat.le_refl _) hg2.size)
          have hb2 : Below w.heap.size w w2 := hbw.grown hg2 hbw.size (fun k hk => (HO.out.lt k hk).1)
          clear hown2 hg2 HOW HEL HO3
          go_wp2
          go_roundw
          case rel => exact ⟨q + 1, by omega, by go_num, hown3, hb2⟩
          case measure => simp [intOf]; omega
    · have hql : q = l.length := by omega
      have hown' : RdSts wr (Plus S w.heap.size wr.heap.size) (plainL l) u3 := by
        have h := hown.toRd (bytes := 184) RdSt.keeps (by rw [plainL_eq]; simp; omega) (Sub.refl _) (fun b h1 h2 => .inr ⟨h1, h2⟩)
        rwa [hql, List.take_length] at h
      clear hown
      go_wp2
      go_ret
      exact ⟨_, rfl, hown', hbel⟩
theorem plain_nil : PlainOk 18 [] := plain_one [] (by simp) (fun h => absurd rfl h)
end Go.Proofs.Ytmpononkbdfkmaa
