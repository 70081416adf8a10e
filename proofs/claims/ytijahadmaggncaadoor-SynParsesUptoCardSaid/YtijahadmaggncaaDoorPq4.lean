/- The parser of syn.Parse: expressions of one sign at most. -/
import Derived.Test.YtijahadmaggncaaDoorGStX
import Derived.Test.YtijahadmaggncaaDoorRegPre
import Derived.BigQuiet
import Derived.BigRegion
namespace Go.Proofs.YtijahadmaggncaaDoor
open Go.RowKit
set_option linter.unusedVariables false
/-- a literal row of words -/
theorem rd_words (W : World) (l : List Str) (hl : ∀ s ∈ l, okS s) (hn : l.length ≤ 1000) : RdSs (W.alloc (.cells (l.map Value.string).toArray 9)) (Is W.heap.size) l (.slice (some ⟨W.heap.size, 0, none⟩) l.length l.length) := by
  refine ⟨some ⟨W.heap.size, 0, none⟩, l.length, l.map encS, rfl, Nat.le_refl _, by unfold maxLen; omega, by omega, by simp, ⟨?_, fun _ => ⟨W.heap.size, 0, rfl, rfl, ?_⟩⟩, ?_⟩
  · intro cs hcs
    obtain ⟨s, _, rfl⟩ := List.mem_map.1 hcs
    rfl
  · intro i cs hi j v hv
    rw [List.getElem?_map] at hi
    obtain ⟨s, hs, rfl⟩ := Option.map_eq_some_iff.1 hi
    have hB := Blk.made W (l.map Value.string) 9 (base := 0) (Nat.zero_le _)
    match j, hv with
    | 0, hv =>
      simp only [encS, List.getElem?_cons_zero, Option.some.injEq] at hv
      subst hv
      have := hB.mapAt hs
      simpa using this
  · intro i e cs hi hc
    rw [List.getElem?_map, hi] at hc
    simp only [Option.map_some, Option.some.injEq] at hc
    subst hc
    exact ⟨rfl, hl e (List.mem_of_getElem? hi)⟩
theorem words_lit {p : Nat} (W : World) (l : List Str) (hl : ∀ s ∈ l, okS s) (hn : l.length ≤ 1000) (hp : p < W.heap.size) : WordsAt p (W.alloc (.cells (l.map Value.string).toArray 9)) l (.slice (some ⟨W.heap.size, 0, none⟩) l.length l.length) :=
  ⟨_, fun k hk => by unfold Is at hk; subst hk; exact ⟨by omega, by simp⟩, rd_words W l hl hn⟩
/-- all but block R is as it was (nothing is said of what is frozen) -/
abbrev StP (R : Nat) (W w' : World) : Prop := (∀ q : Addr, q.block < W.heap.size → q.block ≠ R → w'.cell? q = W.cell? q) ∧ But (Is R) W w'
theorem StP.of_but {R : Nat} {W w' : World} (h : But (Is R) W w') : StP R W w' := ⟨fun q hq hn => World.cell?_of_block (h.block _ hq hn), h⟩
theorem StP.step {R : Nat} {W w1 w2 : World} (hb : But (Is R) w1 w2) (h : StP R W w1) : StP R W w2 := StP.of_but (h.2.trans hb)
def PEx (F : FuncId) (n lvl : Nat) : Prop := ∀ (p : Nat) (en : En) (ts : List LTok) (w : World) (out : PR Ex), exG n (.ex lvl) ts = some out → PsAt p en w ts → Calls Tryd.prog F #[.pointer (some ⟨p, 0, none⟩)] w (POut p en w (rdE w.heap.size p) out)
/-- an expression in the result's box is handed back -/
theorem ret_pq {fn : Func} {R : Ending → World → Prop} {a : Act} {w : World} {T G base : Nat} {k c : Int} {s : Str} {v : Value} (hr : fn.results = #[.cell T 74]) (ht : a.tmps.getD T undef = .pointer (some ⟨G, 0, none⟩)) (hd : a.defers = [])
    (B : Blk base w G [.int .i64 k, .int .i64 c, .string s, v]) (h : R (.returned (exV k c s v)) w) : bodyPost Tryd.prog fn R .ret a w := by
  have r0 := B.cell 0 _ rfl; have r1 := B.cell 1 _ rfl; have r2 := B.cell 2 _ rfl; have r3 := B.cell 3 _ rfl
  rw [Array.getD_eq_getD_getElem?] at ht
  exact bodyPost_ret (v := exV k c s v) (by simp [results, hr, ht, go_sem, r0, r1, r2, r3]) hd h
theorem ok_lvl (lvl : Nat) : (∀ s ∈ lvlS lvl, okS s) ∧ (lvlS lvl).length ≤ 1000 := by
  match lvl with
  | 0 => exact ⟨by intro s hs; simp only [lvlS, List.mem_cons, List.not_mem_nil, or_false] at hs; rcases hs with rfl | rfl <;> (unfold okS; decide), by decide⟩
  | 1 => exact ⟨by intro s hs; simp only [lvlS, List.mem_cons, List.not_mem_nil, or_false] at hs; rcases hs with rfl | rfl <;> (unfold okS; decide), by decide⟩
  | n + 2 => exact ⟨by intro s hs; simp only [lvlS, List.mem_cons, List.not_mem_nil, or_false] at hs; rcases hs with rfl | rfl | rfl <;> (unfold okS; decide), by simp [lvlS]⟩
theorem ne_nil {s : Str} (h : ¬ s = ⟨#[]⟩) : s.toList.isEmpty = false := by
  have h2 := str_ne h
  rw [show ByteArray.toList ⟨#[]⟩ = [] from by rw [ByteArray.toList_eq]] at h2
  cases he : s.toList with
  | nil => rw [he] at h2; cases h2
  | cons a l => rfl
set_option maxHeartbeats 4000000 in
set_option maxRecDepth 100000 in
theorem pexpr_step (n : Nat) (h1 : ∀ m, m < n → PEx 80 m 1) : PEx 46 n 0 := by
  intro p en ts w out ho h
  cases n with
  | zero => cases ho
  | succ n =>
  rw [exG_ex (by decide)] at ho
  have hlt := h.lt
  have hbl : Below w.heap.size w (w.alloc (.cells #[.int .i64 0, .int .i64 0, .string ⟨#[]⟩, .slice none 0 0] 74)) := (Below.refl _ _).alloc (Nat.le_refl _) _
  rcases PO.bind_some ho with ⟨r, e1, rfl⟩ | ⟨a, r, e1, e2⟩
  · have HC := Lib.hid (h1 n (by omega) p en ts _ _ e1 (h.below hbl))
    have HBL := Lib.hid (But.of_b (T := Is p) hbl)
    clear h hbl ho e1 h1
    go_enter Tryd.func46, Tryd.ntmps46
    go_wp2_with (go_at_call 80; refine HC.out.mono ?_; rintro e w1 ⟨rfl, hb1⟩)
    exact ⟨rfl, rfl, HBL.out.trans hb1⟩
  · have HC := Lib.hid (h1 n (by omega) p en ts _ _ e1 (h.below hbl))
    have HBL := Lib.hid (But.of_b (T := Is p) hbl)
    have HBX := Lib.hid (Blk.made w [.int .i64 0, .int .i64 0, .string ⟨#[]⟩, .slice none 0 0] 74 (base := 0) (Nat.zero_le _))
    have H1 := Lib.hid h1
    have HE2 := Lib.hid e2
    obtain ⟨d, hd⟩ : ∃ d, d = w.heap.size := ⟨_, rfl⟩
    have hdp : ¬ d = p := by omega
    have hdw : w.heap.size ≤ d := by omega
    have hpd : p < d := by omega
    have hpw : p < w.heap.size := hlt
    have hWd : d < (w.alloc (.cells #[.int .i64 0, .int .i64 0, .string ⟨#[]⟩, .slice none 0 0] 74)).heap.size := by simp [hd]
    have hpW : p < (w.alloc (.cells #[.int .i64 0, .int .i64 0, .string ⟨#[]⟩, .slice none 0 0] 74)).heap.size := by simp; omega
    rw [← hd] at HBX
    clear h hbl ho e1 e2 h1
    go_enter Tryd.func46, Tryd.ntmps46
    go_upto_region 1 with (fail)
    rw [← hd]
    clear hd
    generalize (w.alloc (.cells #[.int .i64 0, .int .i64 0, .string ⟨#[]⟩, .slice none 0 0] 74)) = W0 at *
    go_upto_region 2 with (go_at_call 80; refine HC.out.mono ?_; rintro e w1 ⟨x, rfl, hx, hp1, hb1⟩; obtain ⟨A, c, rfl⟩ := hx.form)
    have bl1 : Below w1.heap.size w1 (w1.alloc (.cells #[.int .i64 a.kind, .int .i64 a.num, .string a.name, .slice A a.args.length c] 74)) := (Below.refl _ _).alloc (Nat.le_refl _) _
    have HB1 := Lib.hid (HBL.out.trans (hb1.trans (But.of_b bl1)))
    have HP1 := Lib.hid (hp1.below bl1)
    have HX1 := Lib.hid (hx.below bl1)
    have HR1 := Lib.hid ((HBX.out.but hb1 (fun e => hdp e)).below bl1)
    have HY1 := Lib.hid (Blk.made w1 [.int .i64 a.kind, .int .i64 a.num, .string a.name, .slice A a.args.length c] 74 (base := 0) (Nat.zero_le _))
    obtain ⟨d1, hd1⟩ : ∃ d1, d1 = w1.heap.size := ⟨_, rfl⟩
    have hz1 := hb1.size
    have hdd : ¬ d1 = p := by omega
    have hd1d : ¬ d1 = d := by omega
    have hW0d1 : W0.heap.size ≤ d1 := by omega
    have hWd1 : d1 < (w1.alloc (.cells #[.int .i64 a.kind, .int .i64 a.num, .string a.name, .slice A a.args.length c] 74)).heap.size := by simp [hd1]
    have hpW1 : p < (w1.alloc (.cells #[.int .i64 a.kind, .int .i64 a.num, .string a.name, .slice A a.args.length c] 74)).heap.size := by simp; omega
    rw [← hd1] at HY1 ⊢
    clear hx hp1 hb1 bl1 HBX HBL HC hpW hd1
    have hW0w : w.heap.size ≤ W0.heap.size := by omega
    generalize (w1.alloc (.cells #[.int .i64 a.kind, .int .i64 a.num, .string a.name, .slice A a.args.length c] 74)) = W1 at *
    have HA := Lib.hid (show Calls Tryd.prog 43 #[.pointer (some ⟨p, 0, none⟩), .slice (some ⟨W1.heap.size, 0, none⟩) 2 2] (W1.alloc (.cells #[.string ⟨#[60]⟩, .string ⟨#[61, 61]⟩] 9)) (fun e w' => e = .returned (.string (anyG (lvlS 0) r)) ∧ w' = W1.alloc (.cells #[.string ⟨#[60]⟩, .string ⟨#[61, 61]⟩] 9)) from pany_any (HP1.out.below ((Below.refl _ _).alloc (Nat.le_refl _) (.cells ((lvlS 0).map Value.string).toArray 9))) (rd_words W1 (lvlS 0) (ok_lvl 0).1 (ok_lvl 0).2))
    have bl2 : Below W1.heap.size W1 (W1.alloc (.cells #[.string ⟨#[60]⟩, .string ⟨#[61, 61]⟩] 9)) := (Below.refl _ _).alloc (Nat.le_refl _) _
    have HB2 := Lib.hid (HB1.out.trans (But.of_b bl2))
    have HP2 := Lib.hid (HP1.out.below bl2)
    have HX2 := Lib.hid (HX1.out.below bl2)
    have HR2 := Lib.hid (HR1.out.below bl2)
    have HY2 := Lib.hid (HY1.out.below bl2)
    have hz2 := bl2.size
    clear bl2 HB1 HP1 HX1 HR1 HY1
    by_cases hs : anyG (lvlS 0) r = ⟨#[]⟩
    · obtain ⟨m, rfl⟩ : ∃ m, n = m + 1 := by cases n with
        | zero => cases HE2.out
        | succ m => exact ⟨m, rfl⟩
      have HO := Lib.hid (show out = .ok a r by have h := HE2.out; rw [exG_stop hs] at h; exact (Option.some.inj h).symm)
      rw [hs] at HA
      clear hs HE2 H1
      go_upto_region 3 with (go_at_call 43; refine HA.out.mono ?_; rintro e wa ⟨rfl, rfl⟩)
      generalize (W1.alloc (.cells #[.string ⟨#[60]⟩, .string ⟨#[61, 61]⟩] 9)) = W2 at *
      have y0 := HY2.out.cell 0 _ rfl; have y1 := HY2.out.cell 1 _ rfl; have y2 := HY2.out.cell 2 _ rfl; have y3 := HY2.out.cell 3 _ rfl
      have r0 := HR2.out.cell 0 _ rfl; have r1 := HR2.out.cell 1 _ rfl; have r2 := HR2.out.cell 2 _ rfl; have r3 := HR2.out.cell 3 _ rfl
      have f0 := HR2.out.fr 0; have f1 := HR2.out.fr 1; have f2 := HR2.out.fr 2; have f3 := HR2.out.fr 3
      clear HA
      go_wp2
      have HF := set4_blk HR2.out (.int .i64 a.kind) (.int .i64 a.num) (.string a.name) (.slice A a.args.length c)
      have hbf : But (Is d) W2 (set4 W2 d (.int .i64 a.kind) (.int .i64 a.num) (.string a.name) (.slice A a.args.length c)) := set4_but (But.refl _ _) (.inl (show Is d d from rfl)) _ _ _ _
      have hx3 := (HX2.out.but hbf (.inl hWd)).to (lo' := w.heap.size) (y' := p) hW0w (.inr (.inr rfl))
      have hp3 := HP2.out.but hbf hpd
      have hb3 := set4_but HB2.out (.inr hdw) (.int .i64 a.kind) (.int .i64 a.num) (.string a.name) (.slice A a.args.length c)
      refine ret_pq Tryd.results46 rfl rfl HF ?_
      rw [HO.out]
      exact ⟨_, rfl, hx3, hp3, hb3⟩
    · obtain ⟨t, r2, rfl⟩ := anyG_ne hs
      obtain ⟨m, rfl⟩ : ∃ m, n = m + 1 := by cases n with
        | zero => cases HE2.out
        | succ m => exact ⟨m, rfl⟩
      have he3 := HE2.out
      rw [exG_row hs, List.tail_cons] at he3
      have hS1 := H1.out m (by omega)
      have hs0 := ne_nil hs
      generalize anyG (lvlS 0) (t :: r2) = sg at *
      have HE3 := Lib.hid he3
      have HS1 := Lib.hid hS1
      clear he3 hS1 HE2 H1 hs
      go_upto_region 3 with (go_at_call 43; refine HA.out.mono ?_; rintro e wa ⟨rfl, rfl⟩)
      generalize (W1.alloc (.cells #[.string ⟨#[60]⟩, .string ⟨#[61, 61]⟩] 9)) = W2 at *
      clear HA
      go_upto_region 5 with (go_at_call 78; refine (ptake_any HP2.out).mono ?_; rintro e W3 ⟨rfl, hp3, hb3⟩)
      have HB3 := Lib.hid (HB2.out.trans hb3)
      have HP3 := Lib.hid hp3
      have HX3 := Lib.hid (HX2.out.but hb3 (.inr rfl))
      have HR3 := Lib.hid (HR2.out.but hb3 (fun e => hdp e))
      have HY3 := Lib.hid (HY2.out.but hb3 (fun e => hdd e))
      have hz3 := hb3.size
      clear hp3 hb3 HB2 HP2 HX2 HR2 HY2
      have hd1W : d1 < W3.heap.size := HY3.out.lt
      have hdW : d < W3.heap.size := HR3.out.lt
      have hpW3 : p < W3.heap.size := HP3.out.lt
      have y0 := HY3.out.cell 0 _ rfl; have y1 := HY3.out.cell 1 _ rfl; have y2 := HY3.out.cell 2 _ rfl; have y3 := HY3.out.cell 3 _ rfl
      rcases PO.bind_some HE3.out with ⟨q, e1, e2⟩ | ⟨b, q, e1, e2⟩
      · have HC := Lib.hid (HS1.out p en r2 W3.drew _ e1 (HP3.out.below (Below.refl _ _).drew))
        have HO := Lib.hid e2
        clear e1 e2 HE3 HS1
        refine wp_region_pre 4 (S := (fun w' => StP p W3 w')) (by kernel_rfl) (by kernel_rfl) (StP.of_but ((But.refl _ _).drew)) (fun hHeld => ?_)
        simp only [List.take_succ_cons, List.take_zero]
        refine wpAnyH_take_at (i := 0) (v := ?_) (some 14) rfl rfl (by kernel_rfl) (by kernel_rfl) (by kernel_rfl) (fun _ _ _ h => h) (Or.inl ⟨by rfl, ?_⟩) (by assumption) ?_
        rotate_left
        · (intro w hSw; (try dsimp only at hSw); go_simp; (try with_reducible rfl))
        (try simp only [Act.put, List.setIfInBounds_toArray, List.set_cons_zero, List.set_cons_succ])
        refine wpAnyH_take_at (i := 1) (v := ?_) (some 15) rfl rfl (by kernel_rfl) (by kernel_rfl) (by kernel_rfl) (fun _ _ _ h => h) (Or.inl ⟨by rfl, ?_⟩) (by assumption) ?_
        rotate_left
        · (intro w hSw; (try dsimp only at hSw); go_simp; (try with_reducible rfl))
        (try simp only [Act.put, List.setIfInBounds_toArray, List.set_cons_zero, List.set_cons_succ])
        refine wpAnyH_take_at (i := 2) (v := ?_) (some 16) rfl rfl (by kernel_rfl) (by kernel_rfl) (by kernel_rfl) (fun _ _ _ h => h) (Or.inl ⟨by rfl, ?_⟩) (by assumption) ?_
        rotate_left
        · (intro w hSw; (try dsimp only at hSw); go_simp; (try with_reducible rfl))
        (try simp only [Act.put, List.setIfInBounds_toArray, List.set_cons_zero, List.set_cons_succ])
        refine wpAnyH_ready (rs := [3]) (by kernel_rfl) (by simp) ?_
        refine AllReadyH.cons rfl (fun K hK => ?_) AllReadyH.nil
        go_simp
        refine HC.out.mono ?_
        rintro e w4 ⟨rfl, hb4⟩
        exact ⟨rfl, by rw [HO.out]; exact ⟨rfl, HB3.out.trans ((But.refl _ _).drew.trans hb4)⟩⟩
      · have HC := Lib.hid (HS1.out p en r2 W3.drew _ e1 (HP3.out.below (Below.refl _ _).drew))
        have HO := Lib.hid (show out = .ok (twoX sg a b) q by simp only [if_true] at e2; exact (Option.some.inj e2).symm)
        clear e1 e2 HE3 HS1
        refine wp_region_pre 4 (S := (fun w' => StP p W3 w')) (by kernel_rfl) (by kernel_rfl) (StP.of_but ((But.refl _ _).drew)) (fun hHeld => ?_)
        simp only [List.take_succ_cons, List.take_zero]
        refine wpAnyH_take_at (i := 0) (v := ?_) (some 14) rfl rfl (by kernel_rfl) (by kernel_rfl) (by kernel_rfl) (fun _ _ _ h => h) (Or.inl ⟨by rfl, ?_⟩) (by assumption) ?_
        rotate_left
        · (intro w hSw; (try dsimp only at hSw); go_simp; (try with_reducible rfl))
        (try simp only [Act.put, List.setIfInBounds_toArray, List.set_cons_zero, List.set_cons_succ])
        refine wpAnyH_take_at (i := 1) (v := ?_) (some 15) rfl rfl (by kernel_rfl) (by kernel_rfl) (by kernel_rfl) (fun _ _ _ h => h) (Or.inl ⟨by rfl, ?_⟩) (by assumption) ?_
        rotate_left
        · (intro w hSw; (try dsimp only at hSw); go_simp; (try with_reducible rfl))
        (try simp only [Act.put, List.setIfInBounds_toArray, List.set_cons_zero, List.set_cons_succ])
        refine wpAnyH_take_at (i := 2) (v := ?_) (some 16) rfl rfl (by kernel_rfl) (by kernel_rfl) (by kernel_rfl) (fun _ _ _ h => h) (Or.inl ⟨by rfl, ?_⟩) (by assumption) ?_
        rotate_left
        · (intro w hSw; (try dsimp only at hSw); go_simp; (try with_reducible rfl))
        (try simp only [Act.put, List.setIfInBounds_toArray, List.set_cons_zero, List.set_cons_succ])
        refine wpAnyH_ready (rs := [3]) (by kernel_rfl) (by simp) ?_
        refine AllReadyH.cons rfl (fun K hK => ?_) AllReadyH.nil
        go_simp
        refine HC.out.mono ?_
        rintro e w4 ⟨y, rfl, hy, hp4, hb4⟩
        have hst : StP p W3 w4 := StP.step hb4 hHeld
        refine hK.out _ _ ?_ (fun hHeld => ?_)
        · exact hst
        clear hK K
        (try simp only [Act.put, List.setIfInBounds_toArray, List.set_cons_zero, List.set_cons_succ])
        refine wpAnyH_done (by kernel_rfl) ?_ _
        unfold QPre
        simp only [List.drop_succ_cons, List.drop_zero]
        have hdw4 : But (Is p) W3 w4 := (But.refl _ _).drew.trans hb4
        have HB4 := Lib.hid (HB3.out.trans hdw4)
        have HP4 := Lib.hid hp4
        have hz4 := hdw4.size
        have HR4 := Lib.hid (HR3.out.but hdw4 (fun e => hdp e))
        have hpw4 : p < w4.heap.size := by omega
        have hW3W0 : W0.heap.size ≤ W3.heap.size := by omega
        have HTW := Lib.hid (ptwo_any sg a b w4 (Rn W0.heap.size p w4) _ _ Rn.upto (HX3.out.but hdw4 (.inr rfl)) (rdE.to hy (lo' := W0.heap.size) (y' := p) hW3W0 (.inr (.inr rfl))))
        clear hy hp4 hb4 hdw4 hst hHeld HC HB3 HP3 HX3 HR3 HY3 y0 y1 y2 y3
        go_wp2_with (go_at_call 81; refine HTW.out.mono ?_; rintro e w5 ⟨U, rfl, hU, hb5⟩; obtain ⟨A9, c9, rfl⟩ := RdE.form hU; have hR5 := HR4.out.below hb5; have r0 := hR5.cell 0 _ rfl; have r1 := hR5.cell 1 _ rfl; have r2 := hR5.cell 2 _ rfl; have r3 := hR5.cell 3 _ rfl; have f0 := hR5.fr 0; have f1 := hR5.fr 1; have f2 := hR5.fr 2; have f3 := hR5.fr 3)
        have HF := set4_blk hR5 (.int .i64 (twoX sg a b).kind) (.int .i64 (twoX sg a b).num) (.string (twoX sg a b).name) (.slice A9 (twoX sg a b).args.length c9)
        have hbf : But (Is d) w5 (set4 w5 d (.int .i64 (twoX sg a b).kind) (.int .i64 (twoX sg a b).num) (.string (twoX sg a b).name) (.slice A9 (twoX sg a b).args.length c9)) := set4_but (But.refl _ _) (.inl (show Is d d from rfl)) _ _ _ _
        have hx5 : rdE W0.heap.size p w5 _ _ := rdE.two (Nat.le_trans hW3W0 hz4) hpw4 hb5.size hU
        have hx6 := (hx5.but hbf (.inl hWd)).to (lo' := w.heap.size) (y' := p) hW0w (.inr (.inr rfl))
        have hp6 := (HP4.out.below hb5).but hbf hpd
        have hb6 := set4_but (HB4.out.trans (But.of_b hb5)) (.inr hdw) (.int .i64 (twoX sg a b).kind) (.int .i64 (twoX sg a b).num) (.string (twoX sg a b).name) (.slice A9 (twoX sg a b).args.length c9)
        refine ret_pq Tryd.results46 rfl rfl HF ?_
        rw [HO.out]
        exact ⟨_, rfl, hx6, hp6, hb6⟩
end Go.Proofs.YtijahadmaggncaaDoor
