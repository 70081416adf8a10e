/- The walks of phaser.New and phaser.Play. -/
import Derived.Test.YthbbecmffndgdaaPh2
import Derived.Test.YthbbecmffndgdaaPhRun
import Derived.Test.YthbbecmffndgdaaPairRow
namespace Go.Proofs.Ythbbecmffndgdaa
open Go.RowKit
set_option linter.unusedVariables false
def encO3 (x : PhO) : List Value := [.int .i64 x.kind, .int .i64 x.who, .int .i64 x.by_]
def okO3 (x : PhO) : Prop := inI x.kind ∧ inI x.who ∧ inI x.by_
abbrev RdO3 := RdL (Flat encO3 okO3) 3 24
theorem RdO3.at1 {w : World} {S : Blocks} {l : List PhO} {A : Option Addr} {n cap : Nat} (h : RdO3 w S l (.slice A n cap)) {q : Nat} (hq : q < l.length) :
    ∃ b off, A = some ⟨b, off, none⟩ ∧ S b ∧ okO3 l[q] ∧ w.cell? ⟨b, off + q * 3, none⟩ = some (.int .i64 l[q].kind) ∧ w.cell? ⟨b, off + q * 3 + 1, none⟩ = some (.int .i64 l[q].who) ∧ w.cell? ⟨b, off + q * 3 + 2, none⟩ = some (.int .i64 l[q].by_) := by
  obtain ⟨b, off, hA, hb, hok, hc⟩ := RdL.flat h hq
  exact ⟨b, off, hA, hb, hok, hc 0 _ rfl, by rw [Nat.add_assoc]; exact hc 1 _ rfl, by rw [Nat.add_assoc]; exact hc 2 _ rfl⟩
theorem infoPA : (Try.prog.info? 33).map (fun i => (i.zero, i.size, i.bytes)) = some (some (.agg #[.int .i64 0, .int .i64 0]), 2, 16) := by kernel_rfl
theorem Below.setCells' {B : Nat} {a : World} {b : Nat} (hb : B ≤ b) : ∀ (us : List Value) (o : Nat) (w : World), Below B a w → Below B a (w.setCells b o us)
  | [], o, w, h => h
  | u :: us, o, w, h => Below.setCells' hb us (o + 1) _ (h.setCell (p := ⟨b, o, none⟩) hb u)
theorem phCells_one (s : PhS) : ∀ v ∈ phCells s, v.oneCell' = true := by
  intro v hv
  unfold phCells at hv
  rcases List.mem_append.1 hv with h | h
  · obtain ⟨x, _, rfl⟩ := List.mem_map.1 h; simp [Value.oneCell']
  · rcases List.mem_append.1 h with h | h
    · obtain ⟨x, _, rfl⟩ := List.mem_map.1 h; simp [Value.oneCell']
    · simp at h; subst h; simp [Value.oneCell']
theorem newLen : (phCells newP).length = 33 := phLen ⟨by decide, by decide⟩
theorem results_load {P : Program} {fn : Func} {p : Tmp} {ty : TypeId} (h : fn.results = #[.cell p ty]) (tmps : Array Value) (w : World) (a : Addr) (v : Value) (hp : tmps.getD p undef = .pointer (some a)) (hl : (loadVar ty a).run P w = .ok v w) :
    (results fn tmps).run P w = .ok v w := by
  have hp' : tmps[p]?.getD undef = .pointer (some a) := by simpa using hp
  simp [results, h, hp', asAddr, hl]
def zeroPh : List Value := [.bool false, .bool false, .bool false, .bool false, .bool false, .bool false, .bool false, .bool false, .bool false, .bool false, .bool false, .bool false, .bool false, .bool false, .bool false, .bool false, .bool false, .bool false, .bool false, .bool false, .bool false, .bool false, .bool false, .bool false, .bool false, .bool false, .bool false, .bool false, .bool false, .bool false, .bool false, .bool false, .int .i64 0]
set_option maxHeartbeats 400000 in
set_option maxRecDepth 100000 in
theorem new_any (w : World) : Calls Try.prog 27 #[] w fun e w' => e = .returned (.agg (phCells newP).toArray) ∧ Below w.heap.size w w' := by
  have B2 : Below w.heap.size w ((w.alloc (.cells #[.bool false, .bool false, .bool false, .bool false, .bool false, .bool false, .bool false, .bool false, .bool false, .bool false, .bool false, .bool false, .bool false, .bool false, .bool false, .bool false, .bool false, .bool false, .bool false, .bool false, .bool false, .bool false, .bool false, .bool false, .bool false, .bool false, .bool false, .bool false, .bool false, .bool false, .bool false, .bool false, .int .i64 0] 65)).alloc (.cells #[Value.bool true, .bool false, .bool false, .bool false, .bool false, .bool false, .bool false, .bool false, .bool false, .bool false, .bool false, .bool false, .bool false, .bool false, .bool false, .bool false, .bool false, .bool false, .bool false, .bool false, .bool false, .bool false, .bool false, .bool false, .bool false, .bool false, .bool false, .bool false, .bool false, .bool false, .bool false, .bool false, .int .i64 0] 65)) := ((Below.refl _ _).alloc (Nat.le_refl _) _).alloc (by simp) _
  have k0 := (Blk.made w [.bool false, .bool false, .bool false, .bool false, .bool false, .bool false, .bool false, .bool false, .bool false, .bool false, .bool false, .bool false, .bool false, .bool false, .bool false, .bool false, .bool false, .bool false, .bool false, .bool false, .bool false, .bool false, .bool false, .bool false, .bool false, .bool false, .bool false, .bool false, .bool false, .bool false, .bool false, .bool false, .int .i64 0] 65 (base := w.heap.size) (Nat.le_refl _)).below ((Below.refl _ _).alloc (Nat.le_refl _) (.cells #[Value.bool true, .bool false, .bool false, .bool false, .bool false, .bool false, .bool false, .bool false, .bool false, .bool false, .bool false, .bool false, .bool false, .bool false, .bool false, .bool false, .bool false, .bool false, .bool false, .bool false, .bool false, .bool false, .bool false, .bool false, .bool false, .bool false, .bool false, .bool false, .bool false, .bool false, .bool false, .bool false, .int .i64 0] 65))
  have k1 := Blk.made (w.alloc (.cells #[.bool false, .bool false, .bool false, .bool false, .bool false, .bool false, .bool false, .bool false, .bool false, .bool false, .bool false, .bool false, .bool false, .bool false, .bool false, .bool false, .bool false, .bool false, .bool false, .bool false, .bool false, .bool false, .bool false, .bool false, .bool false, .bool false, .bool false, .bool false, .bool false, .bool false, .bool false, .bool false, .int .i64 0] 65)) [Value.bool true, .bool false, .bool false, .bool false, .bool false, .bool false, .bool false, .bool false, .bool false, .bool false, .bool false, .bool false, .bool false, .bool false, .bool false, .bool false, .bool false, .bool false, .bool false, .bool false, .bool false, .bool false, .bool false, .bool false, .bool false, .bool false, .bool false, .bool false, .bool false, .bool false, .bool false, .bool false, .int .i64 0] 65 (base := w.heap.size) (by simp)
  rw [World.size_alloc] at k1
  have hl : (phCells newP).length = 33 := newLen
  have HI := Lib.hid (show (Try.prog.info? 65).map (·.size) = some (phCells newP).length by rw [hl]; exact infoPh)
  go_enter Try.func27, Try.ntmps27
  go_upto_region 3 with (fail)
  have k1 : Blk w.heap.size ((w.alloc (.cells #[.bool false, .bool false, .bool false, .bool false, .bool false, .bool false, .bool false, .bool false, .bool false, .bool false, .bool false, .bool false, .bool false, .bool false, .bool false, .bool false, .bool false, .bool false, .bool false, .bool false, .bool false, .bool false, .bool false, .bool false, .bool false, .bool false, .bool false, .bool false, .bool false, .bool false, .bool false, .bool false, .int .i64 0] 65)).alloc (.cells #[Value.bool true, .bool false, .bool false, .bool false, .bool false, .bool false, .bool false, .bool false, .bool false, .bool false, .bool false, .bool false, .bool false, .bool false, .bool false, .bool false, .bool false, .bool false, .bool false, .bool false, .bool false, .bool false, .bool false, .bool false, .bool false, .bool false, .bool false, .bool false, .bool false, .bool false, .bool false, .bool false, .int .i64 0] 65)) (w.heap.size + 1) (phCells newP) := k1
  have r1 := Lib.hid (Blk.range (A := []) (B := phCells newP) (C := []) (by simpa using k1) 0 rfl)
  have HTH := Lib.hid (Blk.there k0 0 (phCells newP).length (by rw [newLen]; exact Nat.le_refl _))
  have HB := Lib.hid (Below.setCells' (b := w.heap.size) (Nat.le_refl _) (phCells newP) 0 _ B2)
  have hk2 := Blk.setCells (phCells newP) 0 _ _ k0 (by rw [newLen]; exact Nat.le_refl _)
  have hE2 := setL_mid (phCells newP) [] [.bool false, .bool false, .bool false, .bool false, .bool false, .bool false, .bool false, .bool false, .bool false, .bool false, .bool false, .bool false, .bool false, .bool false, .bool false, .bool false, .bool false, .bool false, .bool false, .bool false, .bool false, .bool false, .bool false, .bool false, .bool false, .bool false, .bool false, .bool false, .bool false, .bool false, .bool false, .bool false, .int .i64 0] [] (by rw [newLen]; rfl)
  rw [List.nil_append, List.append_nil, List.length_nil, List.nil_append, List.append_nil] at hE2
  rw [hE2] at hk2
  have r2 := Lib.hid (Blk.range (A := []) (B := phCells newP) (C := []) (by simpa using hk2) 0 rfl)
  have HONE := Lib.hid (show (phCells newP).toArray.all (·.oneCell') = true from all_oneCell_toArray (phCells_one _))
  have HTH2 := Lib.hid (show World.there ((w.alloc (.cells #[.bool false, .bool false, .bool false, .bool false, .bool false, .bool false, .bool false, .bool false, .bool false, .bool false, .bool false, .bool false, .bool false, .bool false, .bool false, .bool false, .bool false, .bool false, .bool false, .bool false, .bool false, .bool false, .bool false, .bool false, .bool false, .bool false, .bool false, .bool false, .bool false, .bool false, .bool false, .bool false, .int .i64 0] 65)).alloc (.cells #[Value.bool true, .bool false, .bool false, .bool false, .bool false, .bool false, .bool false, .bool false, .bool false, .bool false, .bool false, .bool false, .bool false, .bool false, .bool false, .bool false, .bool false, .bool false, .bool false, .bool false, .bool false, .bool false, .bool false, .bool false, .bool false, .bool false, .bool false, .bool false, .bool false, .bool false, .bool false, .bool false, .int .i64 0] 65)) w.heap.size 0 (phCells newP).toArray.size from HTH.out)
  have HI2 := Lib.hid (show (Try.prog.info? 65).map (·.size) = some (phCells newP).toArray.size from HI.out)
  clear hk2 hE2 k0 k1 hl B2
  obtain ⟨cs, hcs⟩ : ∃ cs, cs = phCells newP := ⟨_, rfl⟩
  rw [← hcs] at r1 r2 HI HI2 HTH HTH2 HONE HB
  have HCS := Lib.hid hcs
  clear hcs
  go_wp2_with (first | ((with_reducible show wpList _ _ _ (⟨some 4, _, _, _, _, _⟩ :: _) _ _); refine wpList_load_mid (op := ⟨some 4, _, _, _, _, _⟩) rfl 65 _ rfl (w.heap.size + 1) 0 rfl _ _ r1.out Try.underlying65 rfl HI.out ?_) | ((with_reducible show wpList _ _ _ (⟨none, .store 65 _ _, _, _, _, _⟩ :: _) _ _); refine wpList_store_mid (op := ⟨none, _, _, _, _, _⟩) rfl 65 _ _ rfl w.heap.size 0 cs.toArray rfl rfl HTH2.out HI2.out HONE.out ?_))
  have HLD := run_loadVar_mid (P := Try.prog) _ w.heap.size 0 65 _ _ r2.out Try.underlying65 rfl HI.out
  refine bodyPost_ret (v := .agg cs.toArray) ?_ ?_ ?_
  · exact results_load Try.results27 _ _ _ _ rfl HLD
  · rfl
  · exact ⟨by rw [← HCS.out], HB.out⟩
theorem there_new (w1 : World) : World.there (w1.alloc (.cells zeroPh.toArray 65)) w1.heap.size 0 (phCells newP).toArray.size := by
  have h := Blk.there (Blk.made w1 zeroPh 65 (base := 0) (Nat.zero_le _)) 0 33 (Nat.le_refl _)
  rw [← newLen] at h
  rw [List.size_toArray]
  exact h
theorem blk_new (w1 : World) : Blk 0 ((w1.alloc (.cells zeroPh.toArray 65)).setCells w1.heap.size 0 (phCells newP)) w1.heap.size (phCells newP) := by
  have hk2 := Blk.setCells (phCells newP) 0 _ _ (Blk.made w1 zeroPh 65 (base := 0) (Nat.zero_le _)) (by rw [newLen]; exact Nat.le_refl _)
  have hE2 := setL_mid (phCells newP) [] zeroPh [] (by rw [newLen]; rfl)
  rw [List.nil_append, List.append_nil, List.length_nil, List.nil_append, List.append_nil] at hE2
  rw [hE2] at hk2
  exact hk2
set_option maxHeartbeats 1000000 in
set_option maxRecDepth 100000 in
theorem phplay_any (ops : List PhO) (w : World) (S : Blocks) (hS : Sub S (Upto w.heap.size)) (v : Value) (r : RdO3 w S ops v) :
    Calls Try.prog 13 #[v] w fun e w' => ∃ x, e = .returned x ∧ RdP w' (Plus Nowhere w.heap.size w'.heap.size) (runP ops).2 x ∧ Below w.heap.size w w' := by
  obtain ⟨i0, hi, hz0, hz1, hz2⟩ := info_parts infoPA
  obtain ⟨A, cap, rfl, hl, hcm, hby⟩ := r.form
  unfold maxLen at hcm
  have R := Lib.hid r
  clear r
  have hN := newLen
  have HN := Lib.hid hN
  clear hN
  have HI := Lib.hid (show (Try.prog.info? 65).map (·.size) = some (phCells newP).toArray.size by rw [List.size_toArray, HN.out]; exact infoPh)
  have HONE := Lib.hid (show (phCells newP).toArray.all (·.oneCell') = true from all_oneCell_toArray (phCells_one _))
  go_enter Try.func13, Try.ntmps13
  go_wp2_with (first | (go_at_call 27; refine (new_any _).mono ?_; rintro e w1 ⟨rfl, hb1⟩) | ((with_reducible show wpList _ _ _ (⟨none, .store 65 _ _, _, _, _, _⟩ :: _) _ _); refine wpList_store_mid (op := ⟨none, _, _, _, _, _⟩) rfl 65 _ _ rfl w1.heap.size 0 (phCells newP).toArray rfl rfl (there_new w1) HI.out HONE.out ?_))
  have hB2 := Below.setCells' (b := w1.heap.size) hb1.size (phCells newP) 0 _ (hb1.alloc hb1.size (.cells zeroPh.toArray 65))
  have hk2 := blk_new w1
  have hge := hb1.size
  clear hb1
  generalize w1.heap.size = z at *
  go_loopw [4, 10] (fun o t wr => ∃ q : Nat, q ≤ ops.length ∧ t = .int .i64 (q : Int) ∧ OwnP 33 wr w.heap.size Nowhere (runP (ops.take q)).2 o ∧ Hid (Blk 0 wr z (phCells (runP (ops.take q)).1)) ∧ Hid (∀ k, o.ownBlock = some k → k ≠ z) ∧ Below w.heap.size w wr) (fun _ t _ => ops.length - (intOf t).toNat)
  case atStart => exact ⟨0, by omega, rfl, OwnL.nil _ _ _, Lib.hid hk2, Lib.hid (fun k hk => by cases hk), hB2⟩
  case round =>
    clear hk2 hB2
    obtain ⟨q, hq, rfl, ho, hB, hne, hb⟩ := hrel
    have HO := Lib.hid ho
    clear ho
    have HL := Lib.hid (show (runP (ops.take q)).2.length = q by rw [(run_ok _).len]; simp; omega)
    by_cases hlt : q < ops.length
    · have HT := Lib.hid (show ops.take (q + 1) = ops.take q ++ [ops[q]] by rw [List.take_succ_eq_append_getElem hlt])
      obtain ⟨b0, off, rfl, hsb, hok, c0, c1, c2⟩ := RdO3.at1 (R.out.go Flat.keeps hb hS (Sub.refl _)) hlt
      have HANS := Lib.hid (doP_ok (ops.take q) ops[q] (by simp; omega))
      generalize hoq : ops[q] = o at *
      clear hoq
      obtain ⟨k, n, m⟩ := o
      dsimp only at c0 c1 c2
      have hOK : PhOk (runP (ops.take q)).1 := ⟨(run_ok (ops.take q)).rel.li, (run_ok (ops.take q)).rel.lh⟩
      have hph : (runP (ops.take q)).1.ph < 9223372036854775807 := by have := (run_ok (ops.take q)).ph; simp at this; omega
      have HB1 := Lib.hid (hB.out.below ((Below.refl _ _).alloc (Nat.le_refl _) (.cells #[.int .i64 k, .int .i64 n, .int .i64 m] 68)))
      have HO1 := Lib.hid (HO.out.keep Flat.keeps ((Below.refl _ _).alloc (Nat.le_refl _) (.cells #[.int .i64 k, .int .i64 n, .int .i64 m] 68)))
      have HBB := Lib.hid (hb.alloc hb.size (.cells #[.int .i64 k, .int .i64 n, .int .i64 m] 68))
      have HDO := Lib.hid (do_any _ hOK hph k n m z _ HB1.out)
      have hzw : z < wr.heap.size := hB.out.lt
      have hlto := Lib.hid (fun k hk => (HO.out.lt k hk).2 : ∀ k, u4.ownBlock = some k → k < wr.heap.size)
      clear hOK hph HB1 HO hB
      go_wp2_with fail
      refine HDO.out.mono ?_
      rintro e w2 ⟨rfl, hB2, hbut⟩
      have hz3 := hbut.size
      simp only [World.size_alloc] at hz3
      have HO3 := Lib.hid (HO1.out.but hbut (fun g hg => hne.out g hg))
      have hb3 := Lib.hid (HBB.out.trans (hbut.below (B := w.heap.size) HBB.out.size (fun k e => by unfold Is at e; omega)))
      have HB3 := Lib.hid hB2
      have hws : w.heap.size ≤ w2.heap.size := by have := hb.size; omega
      have hzw2 : z < w2.heap.size := by omega
      clear hB2 hbut HBB HO1 HDO
      go_wp2_with (at_builtin; refine wpList_append_one rfl _ _ 30 rfl i0 _ Try.underlying30 hi hz0 hz1 hz2 rfl (by decide) Flat.keeps HO3.out (x := (doP (runP (ops.take q)).1 ⟨k, n, m⟩).2) (cs := [Value.int .i64 (doP (runP (ops.take q)).1 ⟨k, n, m⟩).2.1, Value.int .i64 (doP (runP (ops.take q)).1 ⟨k, n, m⟩).2.2]) (Tx := Nowhere) ?c0 rfl rfl rfl (Sub.nowhere _) (Sub.nowhere _) not_nowhere ?c1 ?c2 ?c3 ?c4 ?_)
      case c0 => exact ⟨rfl, HANS.out⟩
      case c1 => simp [Value.oneCell']
      case c2 => rw [HL.out]; simp [maxLen]; omega
      case c3 => rw [HL.out]; omega
      case c4 => exact hws
      intro v2 w3 ho4 hg4 hown
      have HB4 := Lib.hid (show Blk 0 w3 z (phCells (runP (ops.take (q + 1))).1) by
        rw [HT.out, runP_snoc]
        exact HB3.out.but (But.of_grown hg4) (fun e => hne.out z e rfl))
      have HO4 := Lib.hid (show OwnP 33 w3 w.heap.size Nowhere (runP (ops.take (q + 1))).2 v2 by
        rw [HT.out, runP_snoc]; exact ho4)
      have HX4 := Lib.hid (show ∀ k, v2.ownBlock = some k → k ≠ z from fun g hg => by
        rcases hown with h | h
        · rw [h] at hg; exact hne.out g hg
        · rw [h] at hg
          injection hg with hg
          omega)
      have hb4 : Below w.heap.size w w3 := hb3.out.grown hg4 hb3.out.size (fun g hg => (HO3.out.lt g hg).1)
      clear ho4 hg4 hown hb3 HO3 HB3 HT HL
      go_wp2
      go_roundw
      case rel => exact ⟨q + 1, by omega, by go_num, HO4.out, HB4, HX4, hb4⟩
      case measure => simp [intOf]; omega
    · have hqn : q = ops.length := by omega
      subst hqn
      have hz := hb.size
      have H1 := Lib.hid (show RdP wr (Plus Nowhere w.heap.size wr.heap.size) (runP ops).2 u4 by
        have h := HO.out
        rw [List.take_length] at h
        refine h.toRd (bytes := 16) Flat.keeps (by rw [(run_ok _).len]; omega) (Sub.nowhere _) (fun b h1 h2 => .inr ⟨h1, h2⟩))
      clear HO HL hB hne
      go_wp2
      go_ret
      exact ⟨_, rfl, H1.out, hb⟩
end Go.Proofs.Ythbbecmffndgdaa
