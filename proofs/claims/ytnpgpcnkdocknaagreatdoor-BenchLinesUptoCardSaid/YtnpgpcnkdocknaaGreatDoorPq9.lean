/- The parser of syn.Parse: stmts (printed by wip/tools/gen_pq9.py). -/
import Derived.Test.YtnpgpcnkdocknaaGreatDoorPq8
import Derived.Test.YtnpgpcnkdocknaaGreatDoorStW
namespace Go.Proofs.YtnpgpcnkdocknaaGreatDoor
open Go.RowKit
set_option linter.unusedVariables false
theorem want2 {β : Type} {a b : Str} {ts : List LTok} {f : List LTok → PO β} : (PO.bind (some (wantG [a] ts)) fun _ r => PO.bind (some (wantG [b] r)) fun _ r => f r) = PO.bind (some (wantG [a, b] ts)) fun _ r => f r := by
 simp only [wantG]
 by_cases h : isT a ts = true
 ·rw [if_pos h, if_pos h]; rfl
 ·rw [if_neg h, if_neg h]; rfl
theorem stmt_key {fu : Nat} {sts : List LTok → PO (List St)} {ts : List LTok} : ∀ (fs : List (Int × List Pt')), ¬ anyG (fs.map headP) ts = ⟨#[]⟩ → ∃ f ∈ fs, anyG (fs.map headP) ts = headP f ∧ isT (headP f) ts = true ∧ stmtG fu sts fs ts = kindG fu sts f ts
 | [], h => absurd rfl h
 | f :: fs, h => by
  cases hf : isT (headP f) ts
  ·have e : anyG ((f :: fs).map headP) ts = anyG (fs.map headP) ts := by rw [List.map_cons, anyG, if_neg (by rw [hf]; simp)]
   rw [e] at h
   obtain ⟨g, hg, h1, h2, h3⟩ := stmt_key fs h
   exact ⟨g, List.mem_cons_of_mem _ hg, by rw [e]; exact h1, h2, by rw [stmtG, if_neg (by rw [hf]; simp)]; exact h3⟩
  ·exact ⟨f, List.mem_cons_self .., by rw [List.map_cons, anyG, if_pos hf], hf, by rw [stmtG, if_pos hf]⟩
theorem begS_heads : begS = formsP.map headP := rfl
theorem tl_bz (l : List UInt8) : (bz l).toList = l := by rw [ByteArray.toList_eq]
theorem sts_key (m : Nat) (ih : PSs m) (acc : List St) (q : List LTok) (out : PR (List St)) (hne : ¬ anyG begS q = ⟨#[]⟩) (h : stsG (m + 1) acc q = some out) (hl : q.length ≤ 1048576) :
    (∃ (o1 : PR St), ((anyG begS q).toList == [108, 101, 116] || (anyG begS q).toList == [108, 111, 97, 100]) = true ∧ PO.bind (some o1) (fun s r => stsG m (acc ++ [s]) r) = some out ∧ (∀ r x, o1 = .ok x r → r.length + 1 ≤ q.length) ∧
     ∀ (p : Nat) (en : En) (W : World), PsAt p en W q → Calls Tryz.prog 42 #[.pointer (some ⟨p, 0, none⟩)] W (POut p en W (rdSt W.heap.size p) o1)) ∨
    (∃ (o1 : PR St), ((anyG begS q).toList == [108, 101, 116] || (anyG begS q).toList == [108, 111, 97, 100] || (anyG begS q).toList == [115, 116, 111, 114, 101]) = false ∧ PO.bind (some o1) (fun s r => stsG m (acc ++ [s]) r) = some out ∧ (∀ r x, o1 = .ok x r → r.length + 1 ≤ q.length) ∧
     ∀ (p : Nat) (en : En) (W : World), PsAt p en W q → Calls Tryz.prog 45 #[.pointer (some ⟨p, 0, none⟩)] W (POut p en W (rdSt W.heap.size p) o1)) ∨
    ((anyG begS q).toList = [115, 116, 111, 114, 101] ∧ PO.bind (PO.bind (some (wantG [bz [115, 116, 111, 114, 101], bz [91]] q)) fun _ r => PO.bind (exG m (.ex 0) r) fun a r => PO.bind (some (wantG [bz [93], bz [61]] r)) fun _ r => PO.bind (exG m (.ex 0) r) fun b r => PO.bind (some (wantG [bz [59]] r)) fun _ r => some (.ok (.mk 3 ⟨#[]⟩ a b [] []) r)) (fun s r => stsG m (acc ++ [s]) r) = some out) := by
 rw [stsG_step hne] at h
 rw [begS_heads] at hne
 obtain ⟨f, hf, h1, h2, h3⟩ := stmt_key (fu := m) (sts := stsG m []) formsP hne
 rw [h3] at h
 have hlen : ∀ (o1 : PR St), kindG m (stsG m []) f q = some o1 → ∀ r x, o1 = .ok x r → r.length + 1 ≤ q.length := by
  intro o1 e r x ex
  subst ex
  exact kindG_len (fun ts l r h => stsG_len _ _ _ _ _ h) (forms_ne f hf) e
 rw [begS_heads, h1]
 have tok : ∃ t r, q = t :: r := isT_ne h2
 obtain ⟨t, r, rfl⟩ := tok
 have told : ∃ o1, kindG m (stsG m []) f (t :: r) = some o1 ∧ PO.bind (some o1) (fun s r => stsG m (acc ++ [s]) r) = some out := by
  rcases PO.bind_some h with ⟨r', e1, e2⟩ | ⟨a, r', e1, e2⟩
  ·exact ⟨_, e1, by rw [e2]; rfl⟩
  ·exact ⟨_, e1, e2⟩
 simp only [formsP, List.mem_cons, List.not_mem_nil, or_false] at hf
 rcases hf with rfl | rfl | rfl | rfl | rfl | rfl | rfl
 ·obtain ⟨o1, e1, e2⟩ := told
  exact .inl ⟨o1, by simp only [headP, tl_bz]; decide, e2, hlen o1 e1, fun p en W hp => pbind_let m p en t r W o1 e1 h2 hl hp⟩
 ·obtain ⟨o1, e1, e2⟩ := told
  exact .inl ⟨o1, by simp only [headP, tl_bz]; decide, e2, hlen o1 e1, fun p en W hp => pbind_load m p en t r W o1 e1 h2 hl hp⟩
 ·refine .inr (.inr ⟨by simp only [headP, tl_bz], ?_⟩)
  rw [kind_store h2] at h
  have e : wantG [bz [115, 116, 111, 114, 101], bz [91]] (t :: r) = wantG [bz [91]] r := by rw [wantG, if_pos (show isT (bz [115, 116, 111, 114, 101]) (t :: r) = true from h2)]; rfl
  rw [e]
  simp only [want2 (a := bz [93]) (b := bz [61])] at h
  exact h
 ·obtain ⟨o1, e1, e2⟩ := told
  exact .inr (.inl ⟨o1, by simp only [headP, tl_bz]; decide, e2, hlen o1 e1, fun p en W hp => pnested_async m ih p en t r W o1 e1 h2 hl hp⟩)
 ·obtain ⟨o1, e1, e2⟩ := told
  exact .inr (.inl ⟨o1, by simp only [headP, tl_bz]; decide, e2, hlen o1 e1, fun p en W hp => pnested_finish m ih p en t r W o1 e1 h2 hl hp⟩)
 ·obtain ⟨o1, e1, e2⟩ := told
  exact .inr (.inl ⟨o1, by simp only [headP, tl_bz]; decide, e2, hlen o1 e1, fun p en W hp => pnested_if m ih p en t r W o1 e1 h2 hl hp⟩)
 ·obtain ⟨o1, e1, e2⟩ := told
  exact .inr (.inl ⟨o1, by simp only [headP, tl_bz]; decide, e2, hlen o1 e1, fun p en W hp => pnested_for m ih p en t r W o1 e1 h2 hl hp⟩)
abbrev OwnSt (w : World) (base : Nat) (l : List St) (v : Value) : Prop := OwnL RdSt 12 82 w base (fun k => base ≤ k) l v
section
variable {p base lo y : Nat} {en : En} {w w0 w' : World} {q : List LTok} {l : List St} {v v' : Value} {st : St} {cs : List Value}
theorem OwnSt.but (h : OwnSt w base l v) (hb : But (Is p) w w') (hp : p < base) : OwnSt w' base l v :=
 OwnL.kept (row := some p) h RdSt.keeps ⟨hb.os, hb.tape, hb.output, hb.size, fun k hk hne => hb.block k hk (fun e => hne (by rw [show k = p from e]))⟩
  (by
   by_cases e : v.ownBlock = none
   ·exact .inl e
   ·refine .inr (fun e2 => ?_)
    have := (h.lt p e2).1; omega)
  (fun k e hk => by injection e with e; omega)
theorem PsAt.grown (h : PsAt p en w q) (hg : w.grownBy w' v.ownBlock) (hv : ∀ k, v.ownBlock = some k → p < k) : PsAt p en w' q := by
 have hlt := h.lt
 have hb := But.of_grown hg
 obtain ⟨u, h, r, o⟩ := h
 exact ⟨u, h.but hb (fun e => by have := hv _ e; omega), r.keep Flat.keeps (Sub.refl _) (hb.same (fun k hk => Nat.lt_trans hk.2 hlt) (fun k hk e => by have := hv _ e; have := hk.2; omega)), o⟩
theorem But.grown_ (h : But (Is p) w0 w) (hg : w.grownBy w' v.ownBlock) (hv : ∀ k, v.ownBlock = some k → w0.heap.size ≤ k) : But (Is p) w0 w' := by
 have hb := But.of_grown hg
 exact ⟨hb.os.trans h.os, hb.tape.trans h.tape, hb.output.trans h.output, Nat.le_trans h.size hb.size, fun k hk ht => (hb.block k (Nat.lt_of_lt_of_le hk h.size) (fun e => by have := hv _ e; omega)).trans (h.block k hk ht)⟩
theorem st_lit {S : Blocks} (w : World) (h : RdSt w S st cs) (hS : Sub S (Upto w.heap.size)) (hc : cs.length = 12) : RdL (fun w' _ e cs => RdSt w' S e cs) 12 184 (w.alloc (.cells cs.toArray 82)) (Is w.heap.size) [st] (.slice (some ⟨w.heap.size, 0, none⟩) 1 1) :=
 rdG_one hc (fun j v hv => (Blk.made w cs 82 (base := 0) (Nat.zero_le _)).cell j v hv) (RdSt.keeps _ _ _ _ _ _ (Sub.refl _) (same_of_below ((Below.refl _ _).alloc (Nat.le_refl _) _) hS) h) rfl (by decide)
theorem OwnSt.rd (h : OwnSt w base l v) (hp : p < base) (hl : l.length ≤ 1048576) : rdS base p w l v := by
 obtain ⟨T, css, t1, t2, t3, h1, h2, h3, h4⟩ := h
 have h' : OwnL RdSt 12 82 w base (Rn base p w) l v := ⟨T, css, fun k hk => ⟨t1 k hk, t2 k hk, by have := t1 k hk; omega⟩, t2, t3, h1, h2, h3, h4⟩
 exact OwnL.toRd h' RdSt.keeps (by omega) (Sub.refl _) (fun k h1 h2 => ⟨h1, h2, by omega⟩)
end
theorem ok_beg : (∀ s ∈ begS, okS s) ∧ begS.length ≤ 1000 := ⟨by intro s hs; simp only [begS, List.mem_cons, List.not_mem_nil, or_false] at hs; rcases hs with rfl | rfl | rfl | rfl | rfl | rfl | rfl <;> (unfold okS; decide), by decide⟩
set_option maxHeartbeats 8000000 in
set_option maxRecDepth 100000 in
theorem pstmts_step (n : Nat) (ih : ∀ m, m < n → PSs m) : PSs n := by
 intro p en ts w out ho hl h
 obtain ⟨i0, hi, hz0, hz1', hz2⟩ := info_parts infoSt
 have hpw := h.lt
 have HP := hid h
 have HE0 := hid ho
 have IH := hid ih
 clear h ho ih
 go_enter Tryz.func23, Tryz.ntmps23
 go_wp2_with fail
 go_loopw [3] (fun o' wr => ∃ (o : Value) (acc : List St) (q : List LTok) (m : Nat), o = o' ∧ m ≤ n ∧ Hid (stsG m acc q = some out) ∧ Hid (PsAt p en wr q) ∧ Hid (But (Is p) w wr) ∧ Hid (OwnSt wr w.heap.size acc o) ∧ acc.length + q.length ≤ 1048576) (fun _ wr => tleft p wr)
 case atStart => exact ⟨_, [], ts, n, rfl, Nat.le_refl _, HE0, HP, hid (But.refl _ _), hid (OwnL.nil _ _ _), by simpa using hl⟩
 case round =>
  clear HP HE0 hl
  obtain ⟨o, acc, q, m, rfl, hmn, HE, HP, HBr, HO, hacc⟩ := hrel
  obtain ⟨m, rfl⟩ : ∃ k, m = k + 1 := by cases m with
   | zero => cases HE.out
   | succ m => exact ⟨m, rfl⟩
  have bl : Below wr.heap.size wr (wr.alloc (.cells #[.string ⟨#[108, 101, 116]⟩, .string ⟨#[108, 111, 97, 100]⟩, .string ⟨#[115, 116, 111, 114, 101]⟩, .string ⟨#[97, 115, 121, 110, 99]⟩, .string ⟨#[102, 105, 110, 105, 115, 104]⟩, .string ⟨#[105, 102]⟩, .string ⟨#[102, 111, 114]⟩] 9)) := (Below.refl _ _).alloc (Nat.le_refl _) _
  have HA := hid (show Calls Tryz.prog 41 #[.pointer (some ⟨p, 0, none⟩), .slice (some ⟨wr.heap.size, 0, none⟩) 7 7] (wr.alloc (.cells #[.string ⟨#[108, 101, 116]⟩, .string ⟨#[108, 111, 97, 100]⟩, .string ⟨#[115, 116, 111, 114, 101]⟩, .string ⟨#[97, 115, 121, 110, 99]⟩, .string ⟨#[102, 105, 110, 105, 115, 104]⟩, .string ⟨#[105, 102]⟩, .string ⟨#[102, 111, 114]⟩] 9)) (fun e w' => e = .returned (.string (anyG begS q)) ∧ w' = wr.alloc (.cells #[.string ⟨#[108, 101, 116]⟩, .string ⟨#[108, 111, 97, 100]⟩, .string ⟨#[115, 116, 111, 114, 101]⟩, .string ⟨#[97, 115, 121, 110, 99]⟩, .string ⟨#[102, 105, 110, 105, 115, 104]⟩, .string ⟨#[105, 102]⟩, .string ⟨#[102, 111, 114]⟩] 9)) from pany_any (HP.out.below bl) (rd_words wr begS ok_beg.1 ok_beg.2))
  have HB1 := hid (HBr.out.trans (But.of_b (T := Is p) bl))
  have HP1 := hid (HP.out.below bl)
  have HO1 := hid (show OwnSt (wr.alloc (.cells #[.string ⟨#[108, 101, 116]⟩, .string ⟨#[108, 111, 97, 100]⟩, .string ⟨#[115, 116, 111, 114, 101]⟩, .string ⟨#[97, 115, 121, 110, 99]⟩, .string ⟨#[102, 105, 110, 105, 115, 104]⟩, .string ⟨#[105, 102]⟩, .string ⟨#[102, 111, 114]⟩] 9)) w.heap.size acc _ from OwnL.keep HO.out RdSt.keeps bl)
  have HQL := hid HP.out.tleft
  clear HP HBr HO bl
  have HBr := HB1
  have HP := HP1
  have HO := HO1
  clear HB1 HP1 HO1
  by_cases hs : anyG begS q = ⟨#[]⟩
  ·rw [hs] at HA
   have HX := hid (show out = .ok acc q by have h := HE.out; rw [stsG_stop hs] at h; exact (Option.some.inj h).symm)
   clear hs HE IH
   go_wp2_with (go_at_call 41; refine HA.out.mono ?_; rintro e wa ⟨rfl, rfl⟩)
   go_ret
   rw [HX.out]
   exact ⟨_, rfl, OwnSt.rd HO.out hpw (by omega), HP.out, HBr.out⟩
  ·have hs0 := ne_nil hs
   have hkey := sts_key m (IH.out m (by omega)) acc q out hs HE.out (by omega)
   generalize anyG begS q = sg at *
   have HK := hid hkey
   clear hs HE hkey IH
   rcases HK.out with ⟨o1, c1, e1, hln, hc⟩ | ⟨o1, c1, e1, hln, hc⟩ | ⟨c1, e1⟩
   ·skip
    have HC := hid hc
    have HE := hid e1
    have HLN := hid hln
    have hcl : (sg.toList == [108, 101, 116]) = true ∨ ((sg.toList == [108, 101, 116]) = false ∧ (sg.toList == [108, 111, 97, 100]) = true) := by
     cases h1 : (sg.toList == [108, 101, 116])
     ·rw [h1] at c1; exact .inr ⟨rfl, by simpa using c1⟩
     ·exact .inl rfl
    clear hc e1 HK c1 hln
    have go8 : ∀ (P : Prop), P → P := fun _ h => h
    rcases hcl with c1 | ⟨c0, c1⟩
    all_goals
     go_upto_region 8 with (go_at_call 41; refine HA.out.mono ?_; rintro e wa ⟨rfl, rfl⟩)
     clear HA hs0 
     generalize (wr.alloc (.cells #[.string ⟨#[108, 101, 116]⟩, .string ⟨#[108, 111, 97, 100]⟩, .string ⟨#[115, 116, 111, 114, 101]⟩, .string ⟨#[97, 115, 121, 110, 99]⟩, .string ⟨#[102, 105, 110, 105, 115, 104]⟩, .string ⟨#[105, 102]⟩, .string ⟨#[102, 111, 114]⟩] 9)) = W1 at *
     cases o1 with
     | no r =>
      have HX := hid (show out = .no r from (Option.some.inj HE.out).symm)
      go_wp2_with (go_at_call 42; refine (HC.out _ _ _ HP.out).mono ?_; rintro e w5 ⟨rfl, hb5⟩)
      rw [HX.out]
      exact ⟨rfl, rfl, HBr.out.trans hb5⟩
     | ok st r =>
      have hr1 := HLN.out r st rfl
      have HE2 := hid (show stsG m (acc ++ [st]) r = some out from HE.out)
      go_wp2_with (go_at_call 42; refine (HC.out _ _ _ HP.out).mono ?_)
      rintro e w5 ⟨x, rfl, ⟨cs, rfl, hrs⟩, hp5, hb5⟩
      obtain ⟨k', s', a', b', l', m'⟩ := st
      obtain ⟨k1, n1, s1, A1, c1, m1, k2, n2, s2, A2, c2, m2, A3, m3, A4, m4, rfl, _, _, _, _, _, _⟩ := hrs.cells
      have hz5 := hb5.size
      have hzr := HBr.out.size
      have hw5 : w.heap.size ≤ w5.heap.size := by omega
      have bl5 : Below w5.heap.size w5 (w5.alloc (.cells #[.int .i64 k', .string s', .int .i64 k1, .int .i64 n1, .string s1, .slice A1 c1 m1, .int .i64 k2, .int .i64 n2, .string s2, .slice A2 c2 m2, .slice A3 l'.length m3, .slice A4 m'.length m4] 82)) := (Below.refl _ _).alloc (Nat.le_refl _) _
      have OW5 := hid (show OwnSt (w5.alloc (.cells #[.int .i64 k', .string s', .int .i64 k1, .int .i64 n1, .string s1, .slice A1 c1 m1, .int .i64 k2, .int .i64 n2, .string s2, .slice A2 c2 m2, .slice A3 l'.length m3, .slice A4 m'.length m4] 82)) w.heap.size acc o from OwnL.keep (OwnSt.but HO.out hb5 hpw) RdSt.keeps bl5)
      have LT5 := hid (show RdL _ 12 184 (w5.alloc (.cells #[.int .i64 k', .string s', .int .i64 k1, .int .i64 n1, .string s1, .slice A1 c1 m1, .int .i64 k2, .int .i64 n2, .string s2, .slice A2 c2 m2, .slice A3 l'.length m3, .slice A4 m'.length m4] 82)) (Is w5.heap.size) [St.mk k' s' a' b' l' m'] (.slice (some ⟨w5.heap.size, 0, none⟩) 1 1) from st_lit w5 hrs Rn.upto rfl)
      have OLT := hid HO.out.lt
      have PS5 := hid (hp5.below bl5)
      have BB5 := hid (HBr.out.trans (hb5.trans (But.of_b bl5)))
      have hw6 : w.heap.size ≤ (w5.alloc (.cells #[.int .i64 k', .string s', .int .i64 k1, .int .i64 n1, .string s1, .slice A1 c1 m1, .int .i64 k2, .int .i64 n2, .string s2, .slice A2 c2 m2, .slice A3 l'.length m3, .slice A4 m'.length m4] 82)).heap.size := by have := bl5.size; omega
      have hsub : Sub (Rn W1.heap.size p w5) (fun k => w.heap.size ≤ k) := fun k hk => Nat.le_trans hzr hk.1
      have hsu2 : Sub (Rn W1.heap.size p w5) (Upto (w5.alloc (.cells #[.int .i64 k', .string s', .int .i64 k1, .int .i64 n1, .string s1, .slice A1 c1 m1, .int .i64 k2, .int .i64 n2, .string s2, .slice A2 c2 m2, .slice A3 l'.length m3, .slice A4 m'.length m4] 82)).heap.size) := fun k hk => Nat.lt_of_lt_of_le hk.2.1 bl5.size
      have hnt : ∀ k, o.ownBlock = some k → ¬ Rn W1.heap.size p w5 k := fun k e hk => by have := (OLT.out k e).2; have := hk.1; omega
      clear hrs hp5 hb5 bl5 HO HBr HP HC HE hz5 hzr
      go_wp2_with (at_builtin; generalize (w5.alloc (.cells #[.int .i64 k', .string s', .int .i64 k1, .int .i64 n1, .string s1, .slice A1 c1 m1, .int .i64 k2, .int .i64 n2, .string s2, .slice A2 c2 m2, .slice A3 l'.length m3, .slice A4 m'.length m4] 82)) = W2 at *; refine wpList_append_list rfl _ _ 31 rfl i0 _ Tryz.underlying31 hi hz0 hz1' hz2 rfl (by decide) RdSt.keeps OW5.out LT5.out rfl rfl hsub hsu2 hnt oneSt ?c3 ?c4 hw6 ?_)
      case c3 => simp only [List.length_cons, List.length_nil]; unfold maxLen; omega
      case c4 => simp only [List.length_cons, List.length_nil]; omega
      intro v2 w2 ho hg hk2
      have HO2 := hid (show OwnSt w2 w.heap.size (acc ++ [St.mk k' s' a' b' l' m']) v2 from ho)
      have HP2 := hid (PsAt.grown PS5.out hg (fun k e => Nat.lt_of_lt_of_le hpw (OLT.out k e).1))
      have HB2 := hid (But.grown_ BB5.out hg (fun k e => (OLT.out k e).1))
      have HT2 := hid HP2.out.tleft
      clear ho hg hk2 OW5 LT5 PS5 BB5 hsub hsu2 hnt
      go_wp2_with fail
      go_roundw
      case rel => exact ⟨_, _, r, m, rfl, by omega, HE2, HP2, HB2, HO2, by simp only [List.length_append, List.length_cons, List.length_nil]; omega⟩
      case measure => rw [HT2.out, HQL.out]; omega
   ·skip
    have HC := hid hc
    have HE := hid e1
    have HLN := hid hln
    have c3 : (sg.toList == [108, 101, 116]) = false ∧ (sg.toList == [108, 111, 97, 100]) = false ∧ (sg.toList == [115, 116, 111, 114, 101]) = false := by
     cases h1 : (sg.toList == [108, 101, 116]) <;> cases h2 : (sg.toList == [108, 111, 97, 100]) <;> cases h3 : (sg.toList == [115, 116, 111, 114, 101]) <;> rw [h1, h2, h3] at c1 <;> first | exact ⟨rfl, rfl, rfl⟩ | (simp at c1; done)
    obtain ⟨c4, c5, c6⟩ := c3
    clear hc e1 HK c1 hln
    go_upto_region 3 with (go_at_call 41; refine HA.out.mono ?_; rintro e wa ⟨rfl, rfl⟩)
    clear HA hs0 c4 c5 c6
    generalize (wr.alloc (.cells #[.string ⟨#[108, 101, 116]⟩, .string ⟨#[108, 111, 97, 100]⟩, .string ⟨#[115, 116, 111, 114, 101]⟩, .string ⟨#[97, 115, 121, 110, 99]⟩, .string ⟨#[102, 105, 110, 105, 115, 104]⟩, .string ⟨#[105, 102]⟩, .string ⟨#[102, 111, 114]⟩] 9)) = W1 at *
    cases o1 with
    | no r =>
     have HX := hid (show out = .no r from (Option.some.inj HE.out).symm)
     go_wp2_with (go_at_call 45; refine (HC.out _ _ _ HP.out).mono ?_; rintro e w5 ⟨rfl, hb5⟩)
     rw [HX.out]
     exact ⟨rfl, rfl, HBr.out.trans hb5⟩
    | ok st r =>
     have hr1 := HLN.out r st rfl
     have HE2 := hid (show stsG m (acc ++ [st]) r = some out from HE.out)
     go_wp2_with (go_at_call 45; refine (HC.out _ _ _ HP.out).mono ?_)
     rintro e w5 ⟨x, rfl, ⟨cs, rfl, hrs⟩, hp5, hb5⟩
     obtain ⟨k', s', a', b', l', m'⟩ := st
     obtain ⟨k1, n1, s1, A1, c1, m1, k2, n2, s2, A2, c2, m2, A3, m3, A4, m4, rfl, _, _, _, _, _, _⟩ := hrs.cells
     --(.cells #[.int .i64 k', .string s', .int .i64 k1, .int .i64 n1, .string s1, .slice A1 c1 m1, .int .i64 k2, .int .i64 n2, .string s2, .slice A2 c2 m2, .slice A3 l'.length m3, .slice A4 m'.length m4] 82) = (.cells #[.int .i64 k', .string s', .int .i64 k1, .int .i64 n1, .string s1, .slice A1 c1 m1, .int .i64 k2, .int .i64 n2, .string s2, .slice A2 c2 m2, .slice A3 l'.length m3, .slice A4 m'.length m4] 82)
     have hz5 := hb5.size
     have hzr := HBr.out.size
     have hw5 : w.heap.size ≤ w5.heap.size := by omega
     have bl5 : Below w5.heap.size w5 (w5.alloc (.cells #[.int .i64 k', .string s', .int .i64 k1, .int .i64 n1, .string s1, .slice A1 c1 m1, .int .i64 k2, .int .i64 n2, .string s2, .slice A2 c2 m2, .slice A3 l'.length m3, .slice A4 m'.length m4] 82)) := (Below.refl _ _).alloc (Nat.le_refl _) _
     have OW5 := hid (show OwnSt (w5.alloc (.cells #[.int .i64 k', .string s', .int .i64 k1, .int .i64 n1, .string s1, .slice A1 c1 m1, .int .i64 k2, .int .i64 n2, .string s2, .slice A2 c2 m2, .slice A3 l'.length m3, .slice A4 m'.length m4] 82)) w.heap.size acc o from OwnL.keep (OwnSt.but HO.out hb5 hpw) RdSt.keeps bl5)
     have LT5 := hid (show RdL _ 12 184 (w5.alloc (.cells #[.int .i64 k', .string s', .int .i64 k1, .int .i64 n1, .string s1, .slice A1 c1 m1, .int .i64 k2, .int .i64 n2, .string s2, .slice A2 c2 m2, .slice A3 l'.length m3, .slice A4 m'.length m4] 82)) (Is w5.heap.size) [St.mk k' s' a' b' l' m'] (.slice (some ⟨w5.heap.size, 0, none⟩) 1 1) from st_lit w5 hrs Rn.upto rfl)
     have OLT := hid HO.out.lt
     have PS5 := hid (hp5.below bl5)
     have BB5 := hid (HBr.out.trans (hb5.trans (But.of_b bl5)))
     have hw6 : w.heap.size ≤ (w5.alloc (.cells #[.int .i64 k', .string s', .int .i64 k1, .int .i64 n1, .string s1, .slice A1 c1 m1, .int .i64 k2, .int .i64 n2, .string s2, .slice A2 c2 m2, .slice A3 l'.length m3, .slice A4 m'.length m4] 82)).heap.size := by have := bl5.size; omega
     have hsub : Sub (Rn W1.heap.size p w5) (fun k => w.heap.size ≤ k) := fun k hk => Nat.le_trans hzr hk.1
     have hsu2 : Sub (Rn W1.heap.size p w5) (Upto (w5.alloc (.cells #[.int .i64 k', .string s', .int .i64 k1, .int .i64 n1, .string s1, .slice A1 c1 m1, .int .i64 k2, .int .i64 n2, .string s2, .slice A2 c2 m2, .slice A3 l'.length m3, .slice A4 m'.length m4] 82)).heap.size) := fun k hk => Nat.lt_of_lt_of_le hk.2.1 bl5.size
     have hnt : ∀ k, o.ownBlock = some k → ¬ Rn W1.heap.size p w5 k := fun k e hk => by have := (OLT.out k e).2; have := hk.1; omega
     clear hrs hp5 hb5 bl5 HO HBr HP HC HE hz5 hzr
     go_wp2_with (at_builtin; generalize (w5.alloc (.cells #[.int .i64 k', .string s', .int .i64 k1, .int .i64 n1, .string s1, .slice A1 c1 m1, .int .i64 k2, .int .i64 n2, .string s2, .slice A2 c2 m2, .slice A3 l'.length m3, .slice A4 m'.length m4] 82)) = W2 at *; refine wpList_append_list rfl _ _ 31 rfl i0 _ Tryz.underlying31 hi hz0 hz1' hz2 rfl (by decide) RdSt.keeps OW5.out LT5.out rfl rfl hsub hsu2 hnt oneSt ?c3 ?c4 hw6 ?_)
     case c3 => simp only [List.length_cons, List.length_nil]; unfold maxLen; omega
     case c4 => simp only [List.length_cons, List.length_nil]; omega
     intro v2 w2 ho hg hk2
     have HO2 := hid (show OwnSt w2 w.heap.size (acc ++ [St.mk k' s' a' b' l' m']) v2 from ho)
     have HP2 := hid (PsAt.grown PS5.out hg (fun k e => Nat.lt_of_lt_of_le hpw (OLT.out k e).1))
     have HB2 := hid (But.grown_ BB5.out hg (fun k e => (OLT.out k e).1))
     have HT2 := hid HP2.out.tleft
     clear ho hg hk2 OW5 LT5 PS5 BB5 hsub hsu2 hnt
     go_wp2_with fail
     go_roundw
     case rel => exact ⟨_, _, r, m, rfl, by omega, HE2, HP2, HB2, HO2, by simp only [List.length_append, List.length_cons, List.length_nil]; omega⟩
     case measure => rw [HT2.out, HQL.out]; omega
   ·skip
    have HE0 := hid e1
    have c4 : (sg.toList == [108, 101, 116]) = false := by rw [c1]; decide
    have c5 : (sg.toList == [108, 111, 97, 100]) = false := by rw [c1]; decide
    have c6 : (sg.toList == [115, 116, 111, 114, 101]) = true := by rw [c1]; decide
    have e2 := e1
    simp only [PO.bind_assoc, PO.bind_ok] at e2
    have HE := hid e2
    have hlq : q.length ≤ 1048576 := by omega
    clear e1 e2 HK c1 HE0
    go_upto_region 10 with (go_at_call 41; refine HA.out.mono ?_; rintro e wa ⟨rfl, rfl⟩)
    clear HA hs0 c4 c5 c6
    generalize (wr.alloc (.cells #[.string ⟨#[108, 101, 116]⟩, .string ⟨#[108, 111, 97, 100]⟩, .string ⟨#[115, 116, 111, 114, 101]⟩, .string ⟨#[97, 115, 121, 110, 99]⟩, .string ⟨#[102, 105, 110, 105, 115, 104]⟩, .string ⟨#[105, 102]⟩, .string ⟨#[102, 111, 114]⟩] 9)) = W1 at *
    have hpwr := HP.out.lt
    have HB := hid (But.refl (Is p) W1)
    have OW := HO
    clear HO
    have bl1 : Below W1.heap.size W1 (W1.alloc (.cells #[.string ⟨#[115, 116, 111, 114, 101]⟩, .string ⟨#[91]⟩] 9)) := (Below.refl _ _).alloc (Nat.le_refl _) _
    have HW := hid (pwant_any (HP.out.below bl1) (show WordsAt p (W1.alloc (.cells #[.string ⟨#[115, 116, 111, 114, 101]⟩, .string ⟨#[91]⟩] 9)) [bz [115, 116, 111, 114, 101], bz [91]] (.slice (some ⟨W1.heap.size, 0, none⟩) 2 2) from words_lit W1 [bz [115, 116, 111, 114, 101], bz [91]] (by intro x hx; simp only [List.mem_cons, List.not_mem_nil, or_false] at hx; rcases hx with rfl | rfl <;> (unfold okS; decide)) (by decide) HP.out.lt))
    rcases PO.bind_some HE.out with ⟨q1, e1, e2⟩ | ⟨u1, q1, e1, e2⟩
    ·have e3 := Option.some.inj e1
     rw [e3] at HW
     have HO := hid e2
     clear e1 e2 e3 HE
     go_wp2_with (go_at_call 43; refine HW.out.mono ?_; rintro e w1 ⟨rfl, hb1⟩)
     rw [HO.out]
     exact ⟨rfl, rfl, HBr.out.trans (HB.out.trans ((But.of_b bl1).trans hb1))⟩
    have e3 := Option.some.inj e1
    rw [e3] at HW
    have hql := wantG_len e3
    simp only [List.length_cons, List.length_nil] at hql
    have HE2 := hid e2
    clear e1 e2 e3 HE
    go_upto_region 11 with (go_at_call 43; refine HW.out.mono ?_; rintro e w1 ⟨x1, rfl, _, hp1, hb1⟩)
    have HB2 := hid (HB.out.trans ((But.of_b bl1).trans hb1))
    have HP2 := hid hp1
    clear HB HP HW bl1 hp1 hb1
    have HB := HB2
    have HP := HP2
    clear HB2 HP2
    have HE := HE2
    clear HE2
    have hl1 : q1.length ≤ 1048576 := by omega
    rcases PO.bind_some HE.out with ⟨q2, e1, e2⟩ | ⟨a2, q2, e1, e2⟩
    ·have HC := hid (pexpr_any m p en q1 w1 _ e1 HP.out)
     have HO := hid e2
     clear e1 e2 HE
     go_wp2_with (go_at_call 44; refine HC.out.mono ?_; rintro e w2 ⟨rfl, hb2⟩)
     rw [HO.out]
     exact ⟨rfl, rfl, HBr.out.trans (HB.out.trans hb2)⟩
    have HC := hid (pexpr_any m p en q1 w1 _ e1 HP.out)
    have hql := exG_len _ _ _ _ _ e1
    simp only [moLen] at hql
    have HE2 := hid e2
    clear e1 e2 HE
    go_upto_region 12 with (go_at_call 44; refine HC.out.mono ?_; rintro e v2 ⟨x2, rfl, hx2, hp2, hb2⟩; obtain ⟨A2, c2, rfl⟩ := hx2.form)
    have hz2 := hb2.size
    have hzz := HB.out.size
    have hlo2 : W1.heap.size ≤ v2.heap.size := by omega
    have HS := hid (BSt.made (k := 3) (s := ⟨#[]⟩) hp2 hpwr (Nat.le_refl _) hlo2 (by decide) (by decide) (HB.out.trans hb2) (hx2.to (lo' := W1.heap.size) (y' := v2.heap.size) hzz (.inr (.inl (Nat.le_refl _)))) (rdS.nil _ _ _) hlo2 (d := 0) (z := []) (fun h => absurd rfl h))
    obtain ⟨d1, hd1⟩ : ∃ d1, d1 = v2.heap.size := ⟨_, rfl⟩
    change Code.wp _ _ _ _ (v2.alloc (.cells (stC 3 ⟨#[]⟩ a2 noX [] [] A2 none none none c2 0 0 0).toArray 82))
    rw [← hd1] at HS ⊢
    generalize (v2.alloc (.cells (stC 3 ⟨#[]⟩ a2 noX [] [] A2 none none none c2 0 0 0).toArray 82)) = w2 at *
    clear HB HP HC hx2 hp2 hb2 hz2 hzz hd1 hlo2
    have HE := HE2
    clear HE2
    have hl2 : q2.length ≤ 1048576 := by omega
    have bl3 : Below w2.heap.size w2 (w2.alloc (.cells #[.string ⟨#[93]⟩, .string ⟨#[61]⟩] 9)) := (Below.refl _ _).alloc (Nat.le_refl _) _
    have HW := hid (pwant_any (HS.out.ps.below bl3) (show WordsAt p (w2.alloc (.cells #[.string ⟨#[93]⟩, .string ⟨#[61]⟩] 9)) [bz [93], bz [61]] (.slice (some ⟨w2.heap.size, 0, none⟩) 2 2) from words_lit w2 [bz [93], bz [61]] (by intro x hx; simp only [List.mem_cons, List.not_mem_nil, or_false] at hx; rcases hx with rfl | rfl <;> (unfold okS; decide)) (by decide) HS.out.pW))
    rcases PO.bind_some HE.out with ⟨q3, e1, e2⟩ | ⟨u3, q3, e1, e2⟩
    ·have e3 := Option.some.inj e1
     rw [e3] at HW
     have HO := hid e2
     clear e1 e2 e3 HE
     go_wp2_with (go_at_call 43; refine HW.out.mono ?_; rintro e w3 ⟨rfl, hb3⟩)
     rw [HO.out]
     exact ⟨rfl, rfl, HBr.out.trans (HS.out.bt.trans ((But.of_b bl3).trans hb3))⟩
    have e3 := Option.some.inj e1
    rw [e3] at HW
    have hql := wantG_len e3
    simp only [List.length_cons, List.length_nil] at hql
    have HE2 := hid e2
    clear e1 e2 e3 HE
    go_upto_region 13 with (go_at_call 43; refine HW.out.mono ?_; rintro e w3 ⟨x3, rfl, _, hp3, hb3⟩)
    have HS2 := hid (HS.out.step ((But.of_b bl3).trans hb3) hp3)
    clear HS HW bl3 hp3 hb3
    have HS := HS2
    clear HS2
    have HE := HE2
    clear HE2
    have hl3 : q3.length ≤ 1048576 := by omega
    rcases PO.bind_some HE.out with ⟨q4, e1, e2⟩ | ⟨a4, q4, e1, e2⟩
    ·have HC := hid (pexpr_any m p en q3 w3 _ e1 HS.out.ps)
     have HO := hid e2
     clear e1 e2 HE
     go_wp2_with (go_at_call 44; refine HC.out.mono ?_; rintro e w4 ⟨rfl, hb4⟩)
     rw [HO.out]
     exact ⟨rfl, rfl, HBr.out.trans (HS.out.bt.trans hb4)⟩
    have HC := hid (pexpr_any m p en q3 w3 _ e1 HS.out.ps)
    have hql := exG_len _ _ _ _ _ e1
    simp only [moLen] at hql
    have HE2 := hid e2
    clear e1 e2 HE
    have hdW := HS.out.lt
    have hloW := HS.out.lw
    go_upto_region 14 with (go_at_call 44; refine HC.out.mono ?_; rintro e v4 ⟨x4, rfl, hx4, hp4, hb4⟩; obtain ⟨A4, c4, rfl⟩ := hx4.form; have hs4 := HS.out.step hb4 hp4; have y0 := hs4.box.cell 6 _ rfl; have f0 := hs4.box.fr 6; have y1 := hs4.box.cell 7 _ rfl; have f1 := hs4.box.fr 7; have y2 := hs4.box.cell 8 _ rfl; have f2 := hs4.box.fr 8; have y3 := hs4.box.cell 9 _ rfl; have f3 := hs4.box.fr 9)
    have hz4 := hb4.size
    have HS2 := hid (hs4.setB (rdE.to hx4 (lo' := W1.heap.size) (y' := d1) hloW (.inl hdW)))
    change Code.wp _ _ _ _ (setL v4 d1 6 [.int .i64 a4.kind, .int .i64 a4.num, .string a4.name, .slice A4 a4.args.length c4])
    generalize (setL v4 d1 6 [.int .i64 a4.kind, .int .i64 a4.num, .string a4.name, .slice A4 a4.args.length c4]) = w4 at *
    clear HS HC hx4 hp4 hb4 hs4 hz4 hdW hloW y0 y1 y2 y3 f0 f1 f2 f3
    have HS := HS2
    have HE := HE2
    clear HS2 HE2
    have hl4 : q4.length ≤ 1048576 := by omega
    have bl5 : Below w4.heap.size w4 (w4.alloc (.cells #[.string ⟨#[59]⟩] 9)) := (Below.refl _ _).alloc (Nat.le_refl _) _
    have HW := hid (pwant_any (HS.out.ps.below bl5) (show WordsAt p (w4.alloc (.cells #[.string ⟨#[59]⟩] 9)) [bz [59]] (.slice (some ⟨w4.heap.size, 0, none⟩) 1 1) from words_lit w4 [bz [59]] (by intro x hx; simp only [List.mem_cons, List.not_mem_nil, or_false] at hx; rcases hx with rfl <;> (unfold okS; decide)) (by decide) HS.out.pW))
    rcases PO.bind_some HE.out with ⟨q5, e1, e2⟩ | ⟨u5, q5, e1, e2⟩
    ·have e3 := Option.some.inj e1
     rw [e3] at HW
     have HO := hid e2
     clear e1 e2 e3 HE
     go_wp2_with (go_at_call 43; refine HW.out.mono ?_; rintro e w5 ⟨rfl, hb5⟩)
     rw [HO.out]
     exact ⟨rfl, rfl, HBr.out.trans (HS.out.bt.trans ((But.of_b bl5).trans hb5))⟩
    have e3 := Option.some.inj e1
    rw [e3] at HW
    have hql := wantG_len e3
    simp only [List.length_cons, List.length_nil] at hql
    have HE2 := hid e2
    clear e1 e2 e3 HE
    go_upto_region 15 with (go_at_call 43; refine HW.out.mono ?_; rintro e w5 ⟨x5, rfl, _, hp5, hb5⟩)
    have HS2 := hid (HS.out.step ((But.of_b bl5).trans hb5) hp5)
    clear HS HW bl5 hp5 hb5
    have HS := HS2
    clear HS2
    have HE := HE2
    clear HE2
    have hl5 : q5.length ≤ 1048576 := by omega
    have HE2 := HE
    clear HE
    have y0 := HS.out.box.cell 0 _ rfl; have y1 := HS.out.box.cell 1 _ rfl; have y2 := HS.out.box.cell 2 _ rfl; have y3 := HS.out.box.cell 3 _ rfl; have y4 := HS.out.box.cell 4 _ rfl; have y5 := HS.out.box.cell 5 _ rfl; have y6 := HS.out.box.cell 6 _ rfl; have y7 := HS.out.box.cell 7 _ rfl; have y8 := HS.out.box.cell 8 _ rfl; have y9 := HS.out.box.cell 9 _ rfl; have y10 := HS.out.box.cell 10 _ rfl; have y11 := HS.out.box.cell 11 _ rfl
    have hz5 := HS.out.bt.size
    have hzr := HBr.out.size
    have hw5 : w.heap.size ≤ w5.heap.size := by omega
    have bl5 : Below w5.heap.size w5 (w5.alloc (.cells #[.int .i64 3, .string ⟨#[]⟩, .int .i64 a2.kind, .int .i64 a2.num, .string a2.name, .slice A2 a2.args.length c2, .int .i64 a4.kind, .int .i64 a4.num, .string a4.name, .slice A4 a4.args.length c4, .slice none 0 0, .slice none 0 0] 82)) := (Below.refl _ _).alloc (Nat.le_refl _) _
    have OW5 := hid (show OwnSt (w5.alloc (.cells #[.int .i64 3, .string ⟨#[]⟩, .int .i64 a2.kind, .int .i64 a2.num, .string a2.name, .slice A2 a2.args.length c2, .int .i64 a4.kind, .int .i64 a4.num, .string a4.name, .slice A4 a4.args.length c4, .slice none 0 0, .slice none 0 0] 82)) w.heap.size acc o from OwnL.keep (OwnSt.but OW.out HS.out.bt hpw) RdSt.keeps bl5)
    have LT5 := hid (show RdL _ 12 184 (w5.alloc (.cells #[.int .i64 3, .string ⟨#[]⟩, .int .i64 a2.kind, .int .i64 a2.num, .string a2.name, .slice A2 a2.args.length c2, .int .i64 a4.kind, .int .i64 a4.num, .string a4.name, .slice A4 a4.args.length c4, .slice none 0 0, .slice none 0 0] 82)) (Is w5.heap.size) [St.mk 3 ⟨#[]⟩ a2 a4 [] []] (.slice (some ⟨w5.heap.size, 0, none⟩) 1 1) from st_lit w5 HS.out.rd Rn.upto rfl)
    have OLT := hid OW.out.lt
    have PS5 := hid (HS.out.ps.below bl5)
    have BB5 := hid (HBr.out.trans (HS.out.bt.trans (But.of_b bl5)))
    have hw6 : w.heap.size ≤ (w5.alloc (.cells #[.int .i64 3, .string ⟨#[]⟩, .int .i64 a2.kind, .int .i64 a2.num, .string a2.name, .slice A2 a2.args.length c2, .int .i64 a4.kind, .int .i64 a4.num, .string a4.name, .slice A4 a4.args.length c4, .slice none 0 0, .slice none 0 0] 82)).heap.size := by have := bl5.size; omega
    have hsub : Sub (Rn W1.heap.size d1 w5) (fun k => w.heap.size ≤ k) := fun k hk => Nat.le_trans hzr hk.1
    have hsu2 : Sub (Rn W1.heap.size d1 w5) (Upto (w5.alloc (.cells #[.int .i64 3, .string ⟨#[]⟩, .int .i64 a2.kind, .int .i64 a2.num, .string a2.name, .slice A2 a2.args.length c2, .int .i64 a4.kind, .int .i64 a4.num, .string a4.name, .slice A4 a4.args.length c4, .slice none 0 0, .slice none 0 0] 82)).heap.size) := fun k hk => Nat.lt_of_lt_of_le hk.2.1 bl5.size
    have hnt : ∀ k, o.ownBlock = some k → ¬ Rn W1.heap.size d1 w5 k := fun k e hk => by have := (OLT.out k e).2; have := hk.1; omega
    clear bl5 OW HBr HS hz5 hzr
    go_wp2_with (at_builtin; generalize (w5.alloc (.cells #[.int .i64 3, .string ⟨#[]⟩, .int .i64 a2.kind, .int .i64 a2.num, .string a2.name, .slice A2 a2.args.length c2, .int .i64 a4.kind, .int .i64 a4.num, .string a4.name, .slice A4 a4.args.length c4, .slice none 0 0, .slice none 0 0] 82)) = W2 at *; refine wpList_append_list rfl _ _ 31 rfl i0 _ Tryz.underlying31 hi hz0 hz1' hz2 rfl (by decide) RdSt.keeps OW5.out LT5.out rfl rfl hsub hsu2 hnt oneSt ?c3 ?c4 hw6 ?_)
    case c3 => simp only [List.length_cons, List.length_nil]; unfold maxLen; omega
    case c4 => simp only [List.length_cons, List.length_nil]; omega
    intro v2 w2 ho hg hk2
    have HO2 := hid (show OwnSt w2 w.heap.size (acc ++ [St.mk 3 ⟨#[]⟩ a2 a4 [] []]) v2 from ho)
    have HP2 := hid (PsAt.grown PS5.out hg (fun k e => Nat.lt_of_lt_of_le hpw (OLT.out k e).1))
    have HB2 := hid (But.grown_ BB5.out hg (fun k e => (OLT.out k e).1))
    have HT2 := hid HP2.out.tleft
    clear ho hg hk2 OW5 LT5 PS5 BB5 hsub hsu2 hnt y0 y1 y2 y3 y4 y5 y6 y7 y8 y9 y10 y11
    go_wp2_with fail
    go_roundw
    case rel => exact ⟨_, _, q5, m, rfl, by omega, HE2, HP2, HB2, HO2, by simp only [List.length_append, List.length_cons, List.length_nil]; omega⟩
    case measure => rw [HT2.out, HQL.out]; omega
theorem pqstmts_any (n : Nat) : PSs n := by
 induction n using Nat.strongRecOn with
 | ind n ih => exact pstmts_step n ih
end Go.Proofs.YtnpgpcnkdocknaaGreatDoor
