/- The walk of expr.Names: a closure that calls itself through a cell. -/
import Derived.Test.YtdelngmbpjgphaaSc2
namespace Go.Proofs.Ytdelngmbpjgphaa
open Go.RowKit
set_option linter.unusedVariables false
theorem run_store_fn {P : Program} {a : Addr} {m : Mode} {w : World} (fn : Fn) (first captured : Array Value) : (store a (.func fn first captured) m).run P w = stored P w a (.func fn first captured) m := run_store P w a _ m rfl
attribute [local go_sem] run_store_fn
/-- v' lies where v lay, or in a new block -/
def New (w : World) (v v' : Value) : Prop := ∀ k, v'.ownBlock = some k → v.ownBlock = some k ∨ w.heap.size ≤ k
theorem New.refl (w : World) (v : Value) : New w v v := fun _ h => .inl h
theorem New.trans {w w1 : World} {v v1 v2 : Value} (h : New w v v1) (h1 : New w1 v1 v2) (hs : w.heap.size ≤ w1.heap.size) : New w v v2 := fun k hk =>
  (h1 k hk).elim (fun e => h k e) (fun e => .inr (Nat.le_trans hs e))
theorem But.step {T U : Blocks} {a b c : World} (h : But T a b) (k : But U b c) (hU : ∀ i, U i → T i ∨ a.heap.size ≤ i) : But T a c :=
  ⟨k.os.trans h.os, k.tape.trans h.tape, k.output.trans h.output, Nat.le_trans h.size k.size, fun i hi ht => (k.block i (Nat.lt_of_lt_of_le hi h.size) (fun hu => (hU i hu).elim ht (fun h => by omega))).trans (h.block i hi ht)⟩
abbrev fnN (K O : Nat) : Value := .func (.func 80) #[] #[.pointer (some ⟨K, 0, none⟩), .pointer (some ⟨O, 0, none⟩)]
/-- block O holds the row that reads as out, block K the closure -/
structure NSt (base : Nat) (w : World) (O K : Nat) (out : List Str) (v : Value) : Prop where
  bo : Blk base w O [v]
  bk : Blk base w K [fnN K O]
  ne : O ≠ K
  ow : OwnSs 9 w base Nowhere out v
  no : ∀ k, v.ownBlock = some k → k ≠ O ∧ k ≠ K
def NT (O : Nat) (v : Value) : Blocks := fun k => k = O ∨ v.ownBlock = some k
theorem NSt.below {base : Nat} {w w' : World} {O K : Nat} {out : List Str} {v : Value} (h : NSt base w O K out v) (hb : Below w.heap.size w w') : NSt base w' O K out v :=
  ⟨h.bo.below hb, h.bk.below hb, h.ne, h.ow.keep Flat.keeps hb, h.no⟩
theorem NSt.le {base : Nat} {w : World} {O K : Nat} {out : List Str} {v : Value} (h : NSt base w O K out v) : ∀ k, NT O v k → base ≤ k := fun k hk => hk.elim (fun e => e ▸ h.bo.ge) (fun e => (h.ow.lt k e).1)
theorem NSt.push {base : Nat} {w w2 : World} {O K : Nat} {out : List Str} {v v2 : Value} {x : Str} (h : NSt base w O K out v) (hg : w.grownBy w2 v.ownBlock) (ho : OwnSs 9 w2 base Nowhere (out ++ [x]) v2) (hn : v2.ownBlock = v.ownBlock ∨ v2.ownBlock = some (w.heap.size + 1)) :
    NSt base (w2.setCell ⟨O, 0, none⟩ v2) O K (out ++ [x]) v2 ∧ But (NT O v) w (w2.setCell ⟨O, 0, none⟩ v2) ∧ New w v v2 := by
  have hbut := But.of_grown hg
  have ho' : ¬ (v.ownBlock = some O) := fun e => (h.no O e).1 rfl
  have hk' : ¬ (v.ownBlock = some K) := fun e => (h.no K e).2 rfl
  have b1 := h.bo.but hbut ho'
  have b2 := h.bk.but hbut hk'
  have hno : ∀ k, v2.ownBlock = some k → k ≠ O ∧ k ≠ K := fun k hk => by
    rcases hn with hn | hn <;> rw [hn] at hk
    · exact h.no k hk
    · have h1 := h.bo.lt
      have h2 := h.bk.lt
      simp only [Option.some.injEq] at hk
      omega
  refine ⟨⟨?_, b2.other (fun e => h.ne e) _, h.ne, ?_, hno⟩, ?_, ?_⟩
  · exact b1.set (i := 0) (by simp) v2
  · exact OwnL.but ho ((But.refl (Is O) w2).setCell (p := ⟨O, 0, none⟩) rfl v2) (fun k hk e => (hno k hk).1 e)
  · exact (hbut.sub (fun k hk => .inr hk)).setCell (p := ⟨O, 0, none⟩) (.inl rfl) v2
  · intro k hk
    rcases hn with hn | hn <;> rw [hn] at hk
    · exact .inl hk
    · right; simp only [Option.some.injEq] at hk; omega
def NIn (t : Ex) : Prop := ∀ (base : Nat) (w : World) (S : Blocks) (V : Value) (O K : Nat) (out : List Str) (v : Value), Sub S (Upto base) → base ≤ w.heap.size → RdE w S t V → NSt base w O K out v → out.length + t.wt ≤ 1073741824 →
  Calls Try.prog 80 #[V, .pointer (some ⟨K, 0, none⟩), .pointer (some ⟨O, 0, none⟩)] w fun e w' => (∃ x, e = .returned x) ∧ ∃ v', NSt base w' O K (merge out t.names) v' ∧ But (NT O v) w w' ∧ New w v v'
theorem merge_one (a : List Str) (x : Str) : merge a [x] = if hasS a x = true then a else a ++ [x] := by
  show (if x ∈ a then a else a ++ [x]) = _
  unfold hasS
  by_cases h : x ∈ a <;> simp [h]
set_option maxHeartbeats 1000000 in
set_option maxRecDepth 100000 in
theorem nin_one (t : Ex) (ht : t.two = none) : NIn t := by
  intro base w S V O K out v hS hbs r hst hlen
  have hwp := t.wt_pos
  obtain ⟨k, c, s, args, v0, rfl, rfl, hk, hc, hs, hargs⟩ := id r
  obtain ⟨A, cap, rfl, _, _, _⟩ := hargs.form
  have bel : Below w.heap.size w (w.alloc (.cells #[.int .i64 k, .int .i64 c, .string s, .slice A args.length cap] 110)) := (Below.refl _ _).alloc (Nat.le_refl _) _
  have RA := Lib.hid (r.go bel (hS.trans (Sub.upto hbs)))
  have HT := Lib.hid ht
  have HW := Lib.hid (Ex.names_none ht)
  have HST0 := Lib.hid hst
  have HST := Lib.hid (hst.below bel)
  have BEL := Lib.hid bel
  have HBX := Lib.hid (Blk.made w [.int .i64 k, .int .i64 c, .string s, .slice A args.length cap] 110 (base := 0) (Nat.zero_le _))
  have HOK := Lib.hid hs
  unfold exV
  clear hargs ht r bel hk hc hs hS hst
  go_enter Try.func80, Try.ntmps80
  go_wp2_with fail
  refine (two_none _ HT.out _ S _ RA.out).mono ?_
  rintro e w1 ⟨rfl, b1⟩
  have B1 := Lib.hid (BEL.out.trans (b1.mono (by simp)))
  have HST1 := Lib.hid (HST.out.below b1)
  have BX1 := Lib.hid (HBX.out.below b1)
  have hz := BEL.out.size
  have hz1 := b1.size
  rw [World.size_alloc] at hz hz1
  clear b1 HST HBX BEL RA
  go_upto_region 2 with (fail)
  have hbw : Below w1.heap.size w1 ((w1.alloc (.cells #[.int .i64 0, .int .i64 0, .string ⟨#[]⟩, .slice none 0 0] 110)).alloc (.cells #[.int .i64 0, .int .i64 0, .string ⟨#[]⟩, .slice none 0 0] 110)) := ((Below.refl _ _).alloc (Nat.le_refl _) _).alloc (by simp) _
  generalize ((w1.alloc (.cells #[.int .i64 0, .int .i64 0, .string ⟨#[]⟩, .slice none 0 0] 110)).alloc (.cells #[.int .i64 0, .int .i64 0, .string ⟨#[]⟩, .slice none 0 0] 110)) = W at *
  have HST2 := Lib.hid (HST1.out.below hbw)
  have BX2 := BX1.out.below hbw
  have HB2 := Lib.hid (B1.out.trans (hbw.mono (by omega)))
  have hzw := hbw.size
  have k0 := BX2.cell 0 _ rfl
  have k2 := BX2.cell 2 _ rfl
  have hOk := HST2.out.bo.cell 0 _ rfl
  have hOf := HST2.out.bo.fr 0
  have hOl := HST2.out.bo.lt
  have hRD := Lib.hid (HST2.out.ow.toRd (bytes := 16) (S' := Plus Nowhere base W.heap.size) Flat.keeps (by omega) (Sub.nowhere _) (fun b h1 h2 => .inr ⟨h1, h2⟩))
  have hbW : base ≤ W.heap.size := by omega
  clear hbw B1 HST1 BX1 BX2
  obtain ⟨i0, hi, hz0, hz1', hz2⟩ := info_parts infoStr
  by_cases h2 : k = 2
  · subst h2
    have HX := Lib.hid (show (Ex.mk 2 c s args).names = [s] by rw [HW.out]; simp [Ex.kind, Ex.name])
    cases hh : hasS out s
    · have HM := Lib.hid (show merge out (Ex.mk 2 c s args).names = out ++ [s] by rw [HX.out, merge_one, hh]; rfl)
      go_wp2_with (first | (go_at_call 78; refine (containsS out s _ _ _ hRD.out).mono ?_; rintro e w' ⟨rfl, rfl⟩) | (at_builtin; refine wpList_append_one rfl _ _ 69 rfl i0 _ Try.underlying69 hi hz0 hz1' hz2 rfl (by decide) Flat.keeps HST2.out.ow (x := s) (cs := [Value.string s]) (Tx := Nowhere) ?d0 rfl rfl rfl (Sub.nowhere _) (Sub.nowhere _) not_nowhere ?d1 ?d2 ?d3 ?d4 ?_))
      case d0 => exact ⟨rfl, HOK.out⟩
      case d1 => simp [Value.oneCell']
      case d2 => unfold maxLen; omega
      case d3 => omega
      try (case d4 => exact hbW)
      intro v2 w2 ho2 hg2 hn2
      obtain ⟨A2, c2, rfl⟩ := ho2.form
      obtain ⟨p1, p2, p3⟩ := NSt.push HST2.out hg2 ho2 hn2
      have P := Lib.hid (show NSt base (w2.setCell ⟨O, 0, none⟩ (.slice A2 (out ++ [s]).length c2)) O K (out ++ [s]) (.slice A2 (out ++ [s]).length c2) ∧ But (NT O v) W (w2.setCell ⟨O, 0, none⟩ (.slice A2 (out ++ [s]).length c2)) ∧ New W v (.slice A2 (out ++ [s]).length c2) from ⟨p1, p2, p3⟩)
      rw [List.length_append, List.length_singleton] at P
      have hOk2 := grown_cell hg2 hOk (fun e => (HST2.out.no O e).1 rfl)
      have hOf2 : w2.frozen? ⟨O, 0, none⟩ = false := grown_frozen hg2 hOf hOl (fun e => (HST2.out.no O e).1 rfl)
      clear ho2 hg2 p1 p2 p3 hn2
      go_wp2
      go_end0
      refine ⟨⟨_, rfl⟩, (.slice A2 (out.length + 1) c2), ?_, ?_, ?_⟩
      · rw [HM.out]; exact P.out.1
      · exact (But.of_below HB2.out).trans P.out.2.1
      · exact fun k hk => (P.out.2.2 k hk).imp id (fun h => Nat.le_trans HB2.out.size h)
    · have HM := Lib.hid (show merge out (Ex.mk 2 c s args).names = out by rw [HX.out, merge_one, hh]; rfl)
      go_wp2_with (go_at_call 78; refine (containsS out s _ _ _ hRD.out).mono ?_; rintro e w' ⟨rfl, rfl⟩)
      go_end0
      exact ⟨⟨_, rfl⟩, v, by rw [HM.out]; exact HST2.out, But.of_below HB2.out, New.refl _ _⟩
  · have HX := Lib.hid (show merge out (Ex.mk k c s args).names = out by rw [HW.out]; simp [Ex.kind, h2]; rfl)
    have e2 : (k == 2) = false := by simpa using h2
    clear h2
    go_wp2
    go_end0
    exact ⟨⟨_, rfl⟩, v, by rw [HX.out]; exact HST2.out, But.of_below HB2.out, New.refl _ _⟩
set_option maxHeartbeats 1600000 in
set_option maxRecDepth 100000 in
theorem nin_two (t a b : Ex) (ht : t.two = some (a, b)) (iha : NIn a) (ihb : NIn b) : NIn t := by
  intro base w S V O K out v hS hbs r hst hlen
  have hwt2 := Ex.two_wt ht
  have hla := a.names_len
  obtain ⟨k, c, s, args, v0, rfl, rfl, hk, hc, hs, hargs⟩ := id r
  obtain ⟨A, cap, rfl, _, _, _⟩ := hargs.form
  have bel : Below w.heap.size w (w.alloc (.cells #[.int .i64 k, .int .i64 c, .string s, .slice A args.length cap] 110)) := (Below.refl _ _).alloc (Nat.le_refl _) _
  have RA := Lib.hid (r.go bel (hS.trans (Sub.upto hbs)))
  have HT := Lib.hid ht
  have HW := Lib.hid (Ex.names_two ht)
  have HST := Lib.hid (hst.below bel)
  have BEL := Lib.hid bel
  have HSU := Lib.hid (show Sub S (Upto (w.alloc (.cells #[.int .i64 k, .int .i64 c, .string s, .slice A args.length cap] 110)).heap.size) from hS.trans (Sub.upto (by simp; omega)))
  have HS := Lib.hid hS
  have IHa := Lib.hid iha
  have IHb := Lib.hid ihb
  have HL1 := Lib.hid (show out.length + a.wt ≤ 1073741824 by omega)
  have HL2 := Lib.hid (show (merge out a.names).length + b.wt ≤ 1073741824 by have := merge_len out a.names; omega)
  unfold exV
  clear hargs ht r bel hk hc hs hS hst iha ihb hlen hwt2 hla
  go_enter Try.func80, Try.ntmps80
  go_wp2_with fail
  refine (two_two _ a b HT.out _ S _ HSU.out RA.out).mono ?_
  rintro e w1 ⟨⟨Va, Vb, rfl, ra, rb⟩, b1⟩
  have B1 := Lib.hid (BEL.out.trans (b1.mono (by simp)))
  have HST1 := Lib.hid (HST.out.below b1)
  have hz := BEL.out.size
  have hz1 := b1.size
  rw [World.size_alloc] at hz hz1
  clear b1 HST BEL RA HSU
  obtain ⟨ka, ca, sa, argsa, va, ea, rfl, _, _, _, hka⟩ := id ra
  obtain ⟨Aa, na, rfl, _⟩ := hka.form
  obtain ⟨kb, cb, sb, argsb, vb, eb, rfl, _, _, _, hkb⟩ := id rb
  obtain ⟨Ab, nb, rfl, _⟩ := hkb.form
  have RVa := Lib.hid ra
  have RVb := Lib.hid rb
  unfold exV
  clear ra rb hka hkb ea eb
  go_upto_region 2 with (fail)
  have hbw : Below w1.heap.size w1 ((w1.alloc (.cells #[.int .i64 ka, .int .i64 ca, .string sa, .slice Aa argsa.length na] 110)).alloc (.cells #[.int .i64 kb, .int .i64 cb, .string sb, .slice Ab argsb.length nb] 110)) := ((Below.refl _ _).alloc (Nat.le_refl _) _).alloc (by simp) _
  have hca : Blk base ((w1.alloc (.cells #[.int .i64 ka, .int .i64 ca, .string sa, .slice Aa argsa.length na] 110)).alloc (.cells #[.int .i64 kb, .int .i64 cb, .string sb, .slice Ab argsb.length nb] 110)) w1.heap.size [.int .i64 ka, .int .i64 ca, .string sa, .slice Aa argsa.length na] := (Blk.made w1 _ 110 (base := base) (by omega)).below ((Below.refl _ _).alloc (by simp) _)
  have hcb : Blk base ((w1.alloc (.cells #[.int .i64 ka, .int .i64 ca, .string sa, .slice Aa argsa.length na] 110)).alloc (.cells #[.int .i64 kb, .int .i64 cb, .string sb, .slice Ab argsb.length nb] 110)) (w1.alloc (.cells #[.int .i64 ka, .int .i64 ca, .string sa, .slice Aa argsa.length na] 110)).heap.size [.int .i64 kb, .int .i64 cb, .string sb, .slice Ab argsb.length nb] := Blk.made _ _ 110 (base := base) (by simp; omega)
  rw [World.size_alloc] at hcb
  generalize ((w1.alloc (.cells #[.int .i64 ka, .int .i64 ca, .string sa, .slice Aa argsa.length na] 110)).alloc (.cells #[.int .i64 kb, .int .i64 cb, .string sb, .slice Ab argsb.length nb] 110)) = W at *
  have HST2 := Lib.hid (HST1.out.below hbw)
  have HB2 := Lib.hid (B1.out.trans (hbw.mono (by omega)))
  have HCB := Lib.hid hcb
  have hzw := hbw.size
  have WRa := Lib.hid (RVa.out.go hbw (HS.out.trans (Sub.upto (show base ≤ w1.heap.size by omega))))
  have WRb := Lib.hid (RVb.out.go hbw (HS.out.trans (Sub.upto (show base ≤ w1.heap.size by omega))))
  have hKk := HST2.out.bk.cell 0 _ rfl
  have a0 := hca.cell 0 _ rfl; have a1 := hca.cell 1 _ rfl; have a2 := hca.cell 2 _ rfl; have a3 := hca.cell 3 _ rfl
  have hbW : base ≤ W.heap.size := by omega
  obtain ⟨z, hzz⟩ : ∃ z, z = w1.heap.size := ⟨_, rfl⟩
  rw [← hzz] at a0 a1 a2 a3 HCB
  have hnb := Lib.hid (show ∀ k, NT O v k → k ≠ z + 1 from fun k hk e => by
    rcases hk with h | h
    · have := HST1.out.bo.lt; omega
    · have := (HST1.out.ow.lt k h).2; omega)
  rw [← hzz]
  clear hbw hca hcb B1 HST1 RVa RVb hzz
  have eg : ∀ args w, (callFunc 80 args).run Try.prog w = .ok (.enter 80 args) w := fun args w => by kernel_rfl
  go_wp2_with fail
  refine (IHa.out base _ S _ O K out v HS.out hbW WRa.out HST2.out HL1.out).mono ?_
  rintro e w3 ⟨⟨x, rfl⟩, v3, st3, but3, new3⟩
  have HST3 := Lib.hid st3
  have HCB3 := HCB.out.but but3 (fun h => hnb.out _ h rfl)
  have WRb3 := Lib.hid (WRb.out.keep (Sub.refl _) (but3.same (HS.out.trans (Sub.upto hbW)) (fun k hk h => by have := HST2.out.le k h; have := HS.out k hk; unfold Upto at this; omega)))
  have HBUT := Lib.hid but3
  have HNEW := Lib.hid new3
  have hbW3 : base ≤ w3.heap.size := Nat.le_trans hbW but3.size
  have hKk3 := st3.bk.cell 0 _ rfl
  have b0 := HCB3.cell 0 _ rfl; have b1 := HCB3.cell 1 _ rfl; have b2 := HCB3.cell 2 _ rfl; have b3 := HCB3.cell 3 _ rfl
  clear st3 but3 new3 HCB3 a0 a1 a2 a3 hKk
  go_wp2_with fail
  refine (IHb.out base _ S _ O K (merge out a.names) v3 HS.out hbW3 WRb3.out HST3.out HL2.out).mono ?_
  rintro e w4 ⟨⟨x, rfl⟩, v4, st4, but4, new4⟩
  have HST4 := Lib.hid st4
  have hz34 := HBUT.out.size
  have HB4 := Lib.hid (HBUT.out.step but4 (fun i hi => by
    rcases hi with h | h
    · exact .inl (.inl h)
    · exact (HNEW.out i h).imp .inr id))
  have HN4 := Lib.hid (HNEW.out.trans new4 hz34)
  clear st4 but4 new4
  go_wp2
  go_end0
  refine ⟨⟨_, rfl⟩, v4, ?_, (But.of_below HB2.out).trans HB4.out, fun k hk => (HN4.out k hk).imp id (fun h => Nat.le_trans HB2.out.size h)⟩
  rw [HW.out, merge_assoc]
  exact HST4.out
theorem nin_all (t : Ex) : NIn t := Ex.ind nin_one nin_two t
set_option maxHeartbeats 1000000 in
set_option maxRecDepth 100000 in
/-- expr.Names: each once, as they come first -/
theorem names_any (t : Ex) (w : World) (S : Blocks) (V : Value) (hS : Sub S (Upto w.heap.size)) (r : RdE w S t V) (hwt : t.wt ≤ 1048576) :
    Calls Try.prog 77 #[V] w fun e w' => ∃ x, e = .returned x ∧ RdSs w' (Plus Nowhere w.heap.size w'.heap.size) t.names x ∧ Below w.heap.size w w' := by
  have hla := t.names_len
  have HW := Lib.hid (nil_merge t.names t.names_nodup)
  obtain ⟨k, c, s, args, v0, rfl, rfl, hk, hc, hs, hargs⟩ := id r
  obtain ⟨A, cap, rfl, _, _, _⟩ := hargs.form
  have bel : Below w.heap.size w (((w.alloc (.cells #[.int .i64 k, .int .i64 c, .string s, .slice A args.length cap] 110)).alloc (.cells #[.slice none 0 0] 69)).alloc (.cells #[fnN (w.heap.size + 1 + 1) (w.heap.size + 1)] 147)) := (((Below.refl _ _).alloc (Nat.le_refl _) _).alloc (by simp) _).alloc (by simp; omega) _
  have RA := Lib.hid (r.go bel hS)
  have hb1 := Blk.made w [.int .i64 k, .int .i64 c, .string s, .slice A args.length cap] 110 (base := w.heap.size) (Nat.le_refl _)
  have hb2 := Blk.made (w.alloc (.cells #[.int .i64 k, .int .i64 c, .string s, .slice A args.length cap] 110)) [.slice none 0 0] 69 (base := w.heap.size) (by simp)
  have hb3 := Blk.made ((w.alloc (.cells #[.int .i64 k, .int .i64 c, .string s, .slice A args.length cap] 110)).alloc (.cells #[.slice none 0 0] 69)) [fnN (w.heap.size + 1 + 1) (w.heap.size + 1)] 147 (base := w.heap.size) (by simp; omega)
  have hb1 := (hb1.below ((Below.refl _ _).alloc (Nat.le_refl _) (.cells #[.slice none 0 0] 69))).below ((Below.refl _ _).alloc (Nat.le_refl _) (.cells #[fnN (w.heap.size + 1 + 1) (w.heap.size + 1)] 147))
  have hb2 := hb2.below ((Below.refl _ _).alloc (Nat.le_refl _) (.cells #[fnN (w.heap.size + 1 + 1) (w.heap.size + 1)] 147))
  have hsz : ((((w.alloc (.cells #[.int .i64 k, .int .i64 c, .string s, .slice A args.length cap] 110)).alloc (.cells #[.slice none 0 0] 69)).alloc (.cells #[fnN (w.heap.size + 1 + 1) (w.heap.size + 1)] 147))).heap.size = w.heap.size + 3 := by simp
  simp only [World.size_alloc] at hb2 hb3
  have eg : ∀ args w, (callFunc 80 args).run Try.prog w = .ok (.enter 80 args) w := fun args w => by kernel_rfl
  unfold exV
  clear hargs r hk hc hs
  go_enter Try.func77, Try.ntmps77
  go_upto_region 4 with (fail)
  generalize (((w.alloc (.cells #[.int .i64 k, .int .i64 c, .string s, .slice A args.length cap] 110)).alloc (.cells #[.slice none 0 0] 69)).alloc (.cells #[fnN (w.heap.size + 1 + 1) (w.heap.size + 1)] 147)) = W at *
  have HST := Lib.hid (show NSt w.heap.size W (w.heap.size + 1) (w.heap.size + 1 + 1) [] (.slice none 0 0) from ⟨hb2, hb3, by omega, OwnL.nil _ _ _, fun k hk => by cases hk⟩)
  have HB := Lib.hid bel
  have hKk := hb3.cell 0 _ rfl
  have a0 := hb1.cell 0 _ rfl; have a1 := hb1.cell 1 _ rfl; have a2 := hb1.cell 2 _ rfl; have a3 := hb1.cell 3 _ rfl
  have hlt : w.heap.size < W.heap.size := by omega
  have HS := Lib.hid hS
  clear hb1 hb2 hb3 hsz bel hS
  go_wp2_with fail
  refine (nin_all _ w.heap.size W S _ (w.heap.size + 1) (w.heap.size + 1 + 1) [] (.slice none 0 0) HS.out (Nat.le_of_lt hlt) RA.out HST.out (by simp; omega)).mono ?_
  rintro e w2 ⟨⟨x, rfl⟩, v2, st2, but2, new2⟩
  rw [HW.out] at st2
  obtain ⟨A2, c2, rfl⟩ := st2.ow.form
  have hO := st2.bo.cell 0 _ rfl
  have HRD := Lib.hid (st2.ow.toRd (bytes := 16) (S' := Plus Nowhere w.heap.size w2.heap.size) Flat.keeps (by omega) (Sub.nowhere _) (fun b h1 h2 => .inr ⟨h1, h2⟩))
  have HBW := Lib.hid (HB.out.trans (but2.below (B := w.heap.size) (Nat.le_of_lt hlt) (fun k hk => HST.out.le k hk)))
  clear st2 but2 new2 a0 a1 a2 a3 hKk HST
  go_wp2
  go_ret
  exact ⟨_, rfl, HRD.out, HBW.out⟩
end Go.Proofs.Ytdelngmbpjgphaa
