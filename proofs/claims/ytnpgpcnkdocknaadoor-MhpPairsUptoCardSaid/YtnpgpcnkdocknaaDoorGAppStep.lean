/- Texts merged: Tq2, Tq3, AppStep. -/
import Derived.Test.YtnpgpcnkdocknaaDoorGContP
import Derived.Test.YtnpgpcnkdocknaaDoorGPrI
import Derived.BigRegion
import Derived.Test.YtnpgpcnkdocknaaDoorGMks
import Derived.Test.YtnpgpcnkdocknaaDoorGBsWs
import Derived.Test.YtnpgpcnkdocknaaDoorGScW
import Derived.RangeFuncBox
import Derived.Test.YtnpgpcnkdocknaaDoorGRdEW
import Derived.Deep.AppendLies
namespace Go.Proofs.YtnpgpcnkdocknaaDoor
open Go.RowKit
set_option linter.unusedVariables false
/-- each once, the lesser number first -/
def fstP (l : List (Int × Int)) : List (Int × Int) := l.foldl (fun out x => if out.contains (nmP x) then out else out ++ [nmP x]) []
theorem fstP_snoc (l : List (Int × Int)) (x : Int × Int) : fstP (l ++ [x]) = if (fstP l).contains (nmP x) then fstP l else fstP l ++ [nmP x] := by
  unfold fstP; rw [List.foldl_append]; rfl
theorem snoc_ind {α : Type} {p : List α → Prop} (h0 : p []) (h : ∀ l x, p l → p (l ++ [x])) (l : List α) : p l := by
  have : ∀ (n : Nat) (l : List α), l.length = n → p l := by
    intro n
    induction n with
    | zero => intro l hl; rw [List.length_eq_zero_iff.1 hl]; exact h0
    | succ n ih =>
      intro l hl
      rcases List.eq_nil_or_concat l with rfl | ⟨l', x, rfl⟩
      · exact h0
      · rw [List.concat_eq_append]; exact h _ _ (ih l' (by simpa using hl))
  exact this _ l rfl
theorem fstP_ok (l : List (Int × Int)) : (∀ x, x ∈ fstP l ↔ ∃ y ∈ l, nmP y = x) ∧ (fstP l).Nodup ∧ (fstP l).length ≤ l.length := by
  refine snoc_ind (p := fun l => (∀ x, x ∈ fstP l ↔ ∃ y ∈ l, nmP y = x) ∧ (fstP l).Nodup ∧ (fstP l).length ≤ l.length) ?_ ?_ l
  · refine ⟨fun x => ?_, List.nodup_nil, Nat.le_refl _⟩
    simp [fstP]
  · rintro l x ⟨h1, h2, h3⟩
    have hm : ∀ z, (∃ y ∈ l ++ [x], nmP y = z) ↔ (∃ y ∈ l, nmP y = z) ∨ nmP x = z := fun z => by
      constructor
      · rintro ⟨y, hy, e⟩
        rcases List.mem_append.1 hy with hy | hy
        · exact .inl ⟨y, hy, e⟩
        · rw [List.mem_singleton.1 hy] at e; exact .inr e
      · rintro (⟨y, hy, e⟩ | e)
        · exact ⟨y, List.mem_append_left _ hy, e⟩
        · exact ⟨x, by simp, e⟩
    rw [fstP_snoc]
    split
    · rename_i hc
      rw [List.contains_iff_mem] at hc
      refine ⟨fun z => ?_, h2, by rw [List.length_append]; omega⟩
      rw [hm, h1]
      exact ⟨.inl, fun h => h.elim id (fun e => by rw [← e]; exact (h1 _).1 hc)⟩
    · rename_i hc
      have hc' : nmP x ∉ fstP l := fun h => hc (List.contains_iff_mem.2 h)
      refine ⟨fun z => ?_, ?_, by simp; omega⟩
      · rw [hm, List.mem_append, List.mem_singleton, h1]
        exact ⟨fun h => h.imp id (fun e => e.symm), fun h => h.imp id (fun e => e.symm)⟩
      · rw [List.nodup_append]
        exact ⟨h2, by simp, fun a ha b hb e => hc' (by rw [List.mem_singleton.1 hb] at e; exact e ▸ ha)⟩
theorem lt_of_nle {a b : Int × Int} (h : ¬ ltP b a) (hne : a ≠ b) : ltP a b := by
  obtain ⟨a1, a2⟩ := a
  obtain ⟨b1, b2⟩ := b
  unfold ltP at *
  have : ¬ (a1 = b1 ∧ a2 = b2) := fun h => hne (by rw [h.1, h.2])
  dsimp only at *
  omega
theorem nm_ok {x : Int × Int} (h : okPN x) : okPN (nmP x) := by unfold okPN nmP at *; dsimp only; omega
theorem okPN.pr {x : Int × Int} (h : okPN x) : okPr x := by unfold okPN at h; unfold okPr inI; omega
set_option maxHeartbeats 2000000 in
set_option maxRecDepth 100000 in
theorem opairs_any (l : List (Int × Int)) (hok : ∀ x ∈ l, okPN x) (hlb : l.length ≤ 1099511627776) (w : World) (S : Blocks) (v : Value) (hS : Sub S (Upto w.heap.size)) (r : RdP w S l v) :
    Calls Tryd.prog 17 #[v] w fun e w' => ∃ A c M, e = .returned (.slice A M.length c) ∧ RdP w' (Plus Nowhere w.heap.size w'.heap.size) M (.slice A M.length c) ∧ M.Pairwise ltP ∧ (∀ x, x ∈ M ↔ ∃ y ∈ l, nmP y = x) ∧ Below w.heap.size w w' := by
  obtain ⟨A, cap, rfl, hl, hcm, hby⟩ := r.form
  unfold maxLen at hcm
  obtain ⟨i0, hi, hz0, hz1, hz2⟩ := info_parts infoPr
  have R := Lib.hid r
  have HS := Lib.hid hS
  have HOK := Lib.hid hok
  clear r hS hok
  go_enter Tryd.func17, Tryd.ntmps17
  go_wp2
  go_loopw [3, 8] (fun o' t wr => ∃ (q : Nat) (o : Value), o = o' ∧ q ≤ l.length ∧ t = .int .i64 q ∧ Hid (OwnP 30 wr w.heap.size Nowhere (fstP (l.take q)) o) ∧ Below w.heap.size w wr) (fun _ t _ => l.length - (intOf t).toNat)
  case atStart => exact ⟨0, _, rfl, by omega, rfl, Lib.hid (OwnL.nil _ _ _), Below.refl _ _⟩
  case round =>
    obtain ⟨q, o, rfl, hq, rfl, O, hb⟩ := hrel
    have hln := (fstP_ok (l.take q)).2.2
    rw [List.length_take] at hln
    have HLN := Lib.hid (show (fstP (l.take q)).length ≤ q by omega)
    have HLEN := Lib.hid (show (fstP (l.take q)).length ≤ 1099511627776 by omega)
    clear hln
    by_cases hlt : q < l.length
    · skip
      obtain ⟨b, off, rfl, hbb, _, hc0, hc1⟩ := RdP.at1 (R.out.go Flat.keeps hb HS.out (Sub.refl _)) hlt
      have HT := Lib.hid (show fstP (l.take (q + 1)) = if (fstP (l.take q)).contains (nmP l[q]) then fstP (l.take q) else fstP (l.take q) ++ [nmP l[q]] by rw [List.take_succ_eq_append_getElem hlt, fstP_snoc])
      have hox := HOK.out _ (List.getElem_mem hlt)
      rcases hx : l[q] with ⟨x, y⟩
      rw [hx] at hc0 hc1 HT hox
      have HNO := Lib.hid (nm_ok hox)
      dsimp only at hc0 hc1
      have hsz := hb.size
      have HB := Lib.hid hb
      have b1 : Below wr.heap.size wr (wr.alloc (.cells #[.int .i64 x, .int .i64 y] 30)) := (Below.refl _ _).alloc (Nat.le_refl _) _
      have BX := Lib.hid (Blk.made wr [.int .i64 x, .int .i64 y] 30 (base := 0) (Nat.zero_le _))
      have O1 := Lib.hid (O.out.keep Flat.keeps b1)
      have HB1 := Lib.hid (HB.out.trans (b1.mono hsz))
      have hzW : wr.heap.size < ((wr.alloc (.cells #[.int .i64 x, .int .i64 y] 30))).heap.size := by simp
      have hdw := hsz
      have HOD := Lib.hid (show ∀ j, o.ownBlock = some j → j ≠ wr.heap.size from fun j hj => by have := (O.out.lt j hj).2; omega)
      go_upto_region 5 with (fail)
      generalize (wr.alloc (.cells #[.int .i64 x, .int .i64 y] 30)) = W1 at *
      obtain ⟨d, hd⟩ : ∃ d, d = wr.heap.size := ⟨_, rfl⟩
      rw [← hd] at BX hzW HOD
      rw [← hd]
      have hdge : w.heap.size ≤ d := by omega
      clear hd hb hc0 hc1 hbb b1 hx hox
      have k0 := BX.out.cell 0 _ rfl
      have k1 := BX.out.cell 1 _ rfl
      have f0 := BX.out.fr 0
      have f1 := BX.out.fr 1
      obtain ⟨mn, hmn⟩ : ∃ mn, mn = min x y := ⟨_, rfl⟩
      obtain ⟨mx, hmx⟩ : ∃ mx, mx = max x y := ⟨_, rfl⟩
      have HN := Lib.hid (show nmP (x, y) = (mn, mx) by unfold nmP; rw [hmn, hmx])
      have HMN := Lib.hid hmn
      have HMX := Lib.hid hmx
      clear hmn hmx
      go_cut [5] (fun u wx => u = .pointer (some ⟨d, 0, none⟩) ∧ wx = (W1.setCell ⟨d, 0, none⟩ (.int .i64 mn)).setCell ⟨d, 1, none⟩ (.int .i64 mx))
      case first =>
        go_wp2
        all_goals (go_meet; exact ⟨rfl, by rw [HMN.out, HMX.out]⟩)
      case rest =>
        obtain ⟨rfl, rfl⟩ := hcut
        rw [HN.out] at HT HNO
        have hbt := (But.setCell (T := Is d) (But.refl _ W1) (p := ⟨d, 0, none⟩) rfl (.int .i64 mn)).setCell (p := ⟨d, 1, none⟩) rfl (.int .i64 mx)
        have BX2 := Lib.hid (((BX.out.set (i := 0) (by simp) (.int .i64 mn)).set (i := 1) (by simp) (.int .i64 mx)) : Blk 0 _ d [.int .i64 mn, .int .i64 mx])
        have O2 := Lib.hid (O1.out.but hbt (fun b e hb => HOD.out b e hb))
        have HB2 := Lib.hid (HB1.out.trans (hbt.below (B := w.heap.size) HB1.out.size (fun k e => by unfold Is at e; omega)))
        generalize (W1.setCell ⟨d, 0, none⟩ (.int .i64 mn)).setCell ⟨d, 1, none⟩ (.int .i64 mx) = W2 at *
        have hR2 := O2.out.toRd (bytes := 16) (S' := Plus Nowhere w.heap.size W2.heap.size) Flat.keeps (by have := HLEN.out; omega) (Sub.nowhere _) (fun b h1 h2 => .inr ⟨h1, h2⟩)
        obtain ⟨Ao, co, rfl, _⟩ := hR2.form
        have HC := Lib.hid (containsPr (fstP (l.take q)) mn mx W2 _ _ plus_upto hR2)
        have k0 := BX2.out.cell 0 _ rfl
        have k1 := BX2.out.cell 1 _ rfl
        obtain ⟨z, hz⟩ : ∃ z, z = (fstP (l.take q)).contains (mn, mx) := ⟨_, rfl⟩
        rw [← hz] at HC HT
        clear hR2 hbt BX O1 HB1 HB hz
        go_wp2_with fail
        refine HC.out.mono ?_
        rintro e w3 ⟨rfl, hb3⟩
        have O3 := Lib.hid (O2.out.keep Flat.keeps hb3)
        have BX3 := Lib.hid (BX2.out.below hb3)
        have HB3 := Lib.hid (HB2.out.trans (hb3.mono HB2.out.size))
        clear hb3 HC k0 k1
        cases z with
        | true =>
          have HF := Lib.hid (show fstP (l.take (q + 1)) = fstP (l.take q) by rw [HT.out]; rfl)
          clear HT
          go_wp2_with fail
          go_roundw
          case rel => exact ⟨q + 1, _, rfl, by omega, by go_num, Lib.hid (by rw [HF.out]; exact O3.out), HB3.out⟩
          case measure => simp [intOf]; omega
        | false =>
          have HF := Lib.hid (show fstP (l.take q) ++ [(mn, mx)] = fstP (l.take (q + 1)) by rw [HT.out]; rfl)
          clear HT
          have k0 := BX3.out.cell 0 _ rfl
          have k1 := BX3.out.cell 1 _ rfl
          go_wp2_with (at_builtin; refine wpList_append_one rfl _ _ 24 rfl i0 _ Tryd.underlying24 hi hz0 hz1 hz2 rfl (by decide) Flat.keeps O3.out (x := (mn, mx)) (cs := [.int .i64 mn, .int .i64 mx]) (Tx := Nowhere) ?d0 rfl rfl rfl (Sub.nowhere _) (Sub.nowhere _) not_nowhere ?d1 ?d2 ?d3 ?d4 ?_)
          case d0 => exact ⟨rfl, HNO.out.pr⟩
          case d1 => simp [Value.oneCell']
          case d2 => have := HLEN.out; unfold maxLen; omega
          case d3 => have := HLEN.out; omega
          try (case d4 => exact HB3.out.size)
          intro v9 w9 ho9 hg9 _
          rw [HF.out] at ho9
          have HO9 := Lib.hid ho9
          have HB9 := Lib.hid (HB3.out.grown hg9 HB3.out.size (fun j hj => (O3.out.lt j hj).1))
          clear ho9 hg9
          go_wp2_with fail
          go_roundw
          case rel => exact ⟨q + 1, _, rfl, by omega, by go_num, HO9, HB9.out⟩
          case measure => simp [intOf]; omega
    · skip
      have hqe : q = l.length := by omega
      subst hqe
      rw [List.take_length] at O HLN HLEN
      obtain ⟨hm, hnd, _⟩ := fstP_ok l
      have HM := Lib.hid hm
      have HND := Lib.hid hnd
      have HOKF := Lib.hid (show ∀ x ∈ fstP l, okPN x from fun x hx => by
        obtain ⟨y, hy, rfl⟩ := (hm x).1 hx
        exact nm_ok (HOK.out y hy))
      have HB := Lib.hid hb
      clear hm hnd hb
      rcases Nat.eq_zero_or_pos (fstP l).length with h0 | h0
      · have hnil : fstP l = [] := List.eq_nil_of_length_eq_zero h0
        rw [hnil] at O
        obtain ⟨Ao, co, he, _, hcm2, _⟩ := (O.out.toRd (bytes := 16) (S' := fun _ => True) Flat.keeps (by simp) (Sub.nowhere _) (fun _ _ _ => trivial)).form
        simp only [List.length_nil] at he
        subst he
        have HN := Lib.hid hnil
        clear O h0 hnil
        go_wp2_with fail
        refine (sortP_none Ao co _ _).mono ?_
        rintro e w' ⟨⟨x, rfl⟩, rfl⟩
        go_wp2_with fail
        go_ret
        refine ⟨Ao, co, [], rfl, RdL.nil hcm2, List.Pairwise.nil, fun x => ?_, HB.out⟩
        rw [← HM.out, HN.out]
      · obtain ⟨g, c, rfl, hge, hgl, hlc, hcm2, hfr, hcell⟩ := O.out.flat h0
        have HROW := Lib.hid (show RowAt encP 2 0 wr g (fstP l) from ⟨Nat.zero_le _, hgl, fun i x hx j v hv => by
          obtain ⟨h1, h2⟩ := List.getElem?_eq_some_iff.1 hx
          subst h2
          exact (hcell i h1).2 j v hv, hfr⟩)
        have HLC := Lib.hid hlc
        have HCM := Lib.hid hcm2
        clear O hcell hfr hlc hcm2
        go_wp2_with fail
        refine (sortP_any (fstP l) g c _ HROW.out (by have := HLEN.out; omega) HOKF.out).mono ?_
        rintro e w2 ⟨⟨x, rfl⟩, M, hp, hs, hrow, hb2⟩
        have HB2 := Lib.hid (HB.out.trans (hb2.below (B := w.heap.size) HB.out.size (fun k e => by unfold Is at e; omega)))
        have hlM : M.length = (fstP l).length := hp.length_eq
        have hz2' := hb2.size
        have HR := Lib.hid (show RdP w2 (Plus Nowhere w.heap.size w2.heap.size) M (.slice (some ⟨g, 0, none⟩) M.length c) from
          ⟨_, c, M.map encP, rfl, by rw [hlM]; exact HLC.out, HCM.out, by rw [hlM]; have := HLEN.out; omega, by simp, ⟨fun cs hcs => by obtain ⟨x, _, rfl⟩ := List.mem_map.1 hcs; rfl, fun _ => ⟨g, 0, rfl, .inr ⟨hge, by omega⟩, fun i cs hi j v hv => by
            rw [List.getElem?_map] at hi
            obtain ⟨y, hy, rfl⟩ := Option.map_eq_some_iff.1 hi
            rw [Nat.zero_add]
            exact hrow.cell i y hy j v hv⟩⟩, fun i e cs hi hc => by
            rw [List.getElem?_map, hi] at hc
            simp at hc; subst hc
            exact ⟨rfl, (HOKF.out e (hp.mem_iff.1 (List.mem_of_getElem? hi))).pr⟩⟩)
        have HMM := Lib.hid (show ∀ x, x ∈ M ↔ ∃ y ∈ l, nmP y = x from fun x => by rw [hp.mem_iff, HM.out])
        have HPW := Lib.hid (show M.Pairwise ltP from ((hs.and (hp.nodup_iff.2 HND.out)).imp (fun h => lt_of_nle h.1 h.2)))
        rw [← hlM]
        clear hp hs hrow hb2 HROW hlM
        go_wp2_with fail
        go_ret
        exact ⟨_, c, M, rfl, HR.out, HPW.out, HMM.out, HB2.out⟩
/-- the box and the row that it held: what may be written -/
def XBo (B : Nat) (o : Value) : Blocks := fun k => k = B ∨ o.ownBlock = some k
/-- block B holds a row of one's own, L; since w, where it held o, naught but these was written -/
structure CrA (B base : Nat) (w : World) (o : Value) (L : List (Int × Int)) (wr : World) (o' : Value) : Prop where
  box : Boxed wr B 24 o'
  own : OwnP 30 wr base Nowhere L o'
  but : But (XBo B o) w wr
  row : ∀ k, o'.ownBlock = some k → o.ownBlock = some k ∨ w.heap.size ≤ k
  ne : ∀ k, o'.ownBlock = some k → k ≠ B
theorem CrA.start {B base : Nat} {w : World} {o : Value} {L : List (Int × Int)} (h1 : Boxed w B 24 o) (h2 : OwnP 30 w base Nowhere L o) (h3 : ∀ k, o.ownBlock = some k → k ≠ B) : CrA B base w o L w o :=
  ⟨h1, h2, But.refl _ _, fun k h => .inl h, h3⟩
/-- .. a pair more -/
theorem CrA.app {B base : Nat} {w : World} {o : Value} {L L' : List (Int × Int)} {wr W w1 : World} {o' v' : Value} (h : CrA B base w o L wr o') (hb : Below wr.heap.size wr W) (ho : OwnP 30 w1 base Nowhere L' v') (hg : W.grownBy w1 o'.ownBlock) (hn : v'.ownBlock = o'.ownBlock ∨ ∃ k, v'.ownBlock = some k ∧ W.heap.size ≤ k) (hB : B < w.heap.size) :
    CrA B base w o L' (w1.setCell ⟨B, 0, none⟩ v') v' := by
  have hW : wr.heap.size ≤ W.heap.size := hb.size
  have hwr := h.but.size
  have hrow : ∀ k, o'.ownBlock = some k → XBo B o k ∨ w.heap.size ≤ k := fun k e => (h.row k e).imp .inr id
  have b1 : But (XBo B o) w W := h.but.trans (But.of_below hb)
  have b2 : But (XBo B o) w w1 := ⟨hg.os.trans b1.os, hg.tape.trans b1.tape, hg.output.trans b1.output, Nat.le_trans b1.size hg.size, fun k hk hx => (hg.block k (Nat.lt_of_lt_of_le hk b1.size) (fun e => (hrow k e.symm).elim hx (fun h => by omega))).trans (b1.block k hk hx)⟩
  have hvr : ∀ k, v'.ownBlock = some k → (o.ownBlock = some k ∨ w.heap.size ≤ k) ∧ k ≠ B := fun k e => by
    rcases hn with hn | hn
    · rw [hn] at e; exact ⟨h.row k e, h.ne k e⟩
    · obtain ⟨m, hm, hn⟩ := hn
      rw [hm] at e; injection e with e; subst e; exact ⟨.inr (by omega), by omega⟩
  have bxW : Boxed W B 24 o' := (hb.block B h.box.lt).trans h.box
  have bx1 : Boxed w1 B 24 o' := bxW.kept hg (fun e => h.ne B e.symm rfl)
  exact ⟨bx1.set v', ho.but (But.setCell (T := Is B) (But.refl _ _) (p := ⟨B, 0, none⟩) rfl v') (fun b e hb => (hvr b e).2 hb), b2.setCell (p := ⟨B, 0, none⟩) (.inl rfl) v', fun k e => (hvr k e).1, fun k e => (hvr k e).2⟩
theorem crsI_nil (b : List Int) : crsI [] b = [] := rfl
theorem crsI_snoc (a b : List Int) (x : Int) : crsI (a ++ [x]) b = crsI a b ++ b.map fun y => (x, y) := by
  unfold crsI; rw [List.flatMap_append]; simp
set_option maxHeartbeats 1000000 in
set_option maxRecDepth 100000 in
theorem cross_any (B base : Nat) (a b : List Int) (L : List (Int × Int)) (w : World) (o va vb : Value) (S T : Blocks) (hbs : base ≤ w.heap.size) (hC : CrA B base w o L w o) (hS : Sub S (Upto w.heap.size)) (hT : Sub T (Upto w.heap.size)) (hSx : ∀ k, S k → ¬ XBo B o k) (hTx : ∀ k, T k → ¬ XBo B o k)
    (ra : RdI w S a va) (rb : RdI w T b vb) (hlen : L.length + a.length * b.length ≤ 1099511627776) (hoa : ∀ x ∈ a, inI x) (hob : ∀ x ∈ b, inI x) :
    Calls Tryd.prog 15 #[va, vb, .pointer (some ⟨B, 0, none⟩)] w fun e w' => e = .returned (.tuple #[]) ∧ ∃ o', CrA B base w o (L ++ crsI a b) w' o' := by
  obtain ⟨A, ca, rfl, hla, hca, _⟩ := ra.form
  obtain ⟨A', cb, rfl, hlb, hcb, _⟩ := rb.form
  unfold maxLen at hca hcb
  obtain ⟨i0, hi, hz0, hz1, hz2⟩ := info_parts infoPr
  have hB : B < w.heap.size := hC.box.lt
  have RA := Lib.hid ra
  have RB := Lib.hid rb
  have C0 := Lib.hid hC
  have HSX := Lib.hid hSx
  have HTX := Lib.hid hTx
  have HS := Lib.hid hS
  have HT := Lib.hid hT
  have HOA := Lib.hid hoa
  have HOB := Lib.hid hob
  clear ra rb hC hSx hTx hS hT hoa hob
  go_enter Tryd.func15, Tryd.ntmps15
  go_wp2
  go_loopw [11] (fun t wr => ∃ (i : Nat) (o' : Value), i ≤ a.length ∧ t = .int .i64 i ∧ Hid (CrA B base w o (L ++ crsI (a.take i) b) wr o')) (fun t _ => a.length - (intOf t).toNat)
  case atStart => exact ⟨0, o, by omega, rfl, by rw [List.take_zero, crsI_nil, List.append_nil]; exact C0⟩
  case round =>
    clear C0
    obtain ⟨i, o', hin, rfl, C⟩ := hrel
    by_cases hlt : i < a.length
    · skip
      obtain ⟨b0, off, rfl, _, hoki, hc⟩ := RdI.at1 (RA.out.keep Flat.keeps (Sub.refl _) (C.out.but.same HS.out HSX.out)) hlt
      have HSN := Lib.hid (show crsI (a.take (i + 1)) b = crsI (a.take i) b ++ b.map fun y => (a[i], y) by rw [List.take_succ_eq_append_getElem hlt, crsI_snoc])
      have hai := HOA.out _ (List.getElem_mem hlt)
      have hll := crsI_len (a.take i) b
      rw [List.length_take, Nat.min_eq_left (by omega)] at hll
      have hmul : i * b.length + b.length ≤ a.length * b.length := by
        have := Nat.mul_le_mul_right b.length (show i + 1 ≤ a.length from hlt)
        rw [Nat.add_mul, Nat.one_mul] at this
        exact this
      have HLL := Lib.hid (show (L ++ crsI (a.take i) b).length + b.length ≤ 1099511627776 by rw [List.length_append, hll]; omega)
      obtain ⟨x, hx⟩ : ∃ x, x = a[i] := ⟨_, rfl⟩
      rw [← hx] at hc HSN hai
      obtain ⟨L1, hL1⟩ : ∃ L1, L1 = L ++ crsI (a.take i) b := ⟨_, rfl⟩
      rw [← hL1] at HLL C
      have HL1 := Lib.hid hL1
      have C1 := Lib.hid (show CrA B base w o (L1 ++ (b.take 0).map fun y => (x, y)) wr o' by simpa using C.out)
      clear hx hll hmul hL1 C
      go_wp2
      go_loopw [17] (fun t wr => ∃ (j : Nat) (o' : Value), j ≤ b.length ∧ t = .int .i64 j ∧ Hid (CrA B base w o (L1 ++ (b.take j).map fun y => (x, y)) wr o')) (fun t _ => b.length - (intOf t).toNat)
      case atStart => exact ⟨0, o', by omega, rfl, C1⟩
      case round =>
        clear C1 hc
        obtain ⟨j, o2, hjn, rfl, C⟩ := hrel
        by_cases hltj : j < b.length
        · skip
          obtain ⟨b1, off1, rfl, _, hokj, hc⟩ := RdI.at1 (RB.out.keep Flat.keeps (Sub.refl _) (C.out.but.same HT.out HTX.out)) hltj
          have HSJ := Lib.hid (show (L1 ++ (b.take j).map fun y => (x, y)) ++ [(x, b[j])] = L1 ++ (b.take (j + 1)).map fun y => (x, y) by rw [List.take_succ_eq_append_getElem hltj, List.map_append, List.append_assoc]; rfl)
          have hbj := HOB.out _ (List.getElem_mem hltj)
          have HLJ := Lib.hid (show (L1 ++ (b.take j).map fun y => (x, y)).length + 1 ≤ 1099511627776 by have := HLL.out; rw [List.length_append, List.length_map, List.length_take]; omega)
          obtain ⟨y, hy⟩ : ∃ y, y = b[j] := ⟨_, rfl⟩
          rw [← hy] at hc HSJ hbj
          obtain ⟨L2, hL2⟩ : ∃ L2, L2 = L1 ++ (b.take j).map fun y => (x, y) := ⟨_, rfl⟩
          rw [← hL2] at C HSJ HLJ
          clear hL2
          obtain ⟨L3, hL3⟩ : ∃ L3, L3 = L1 ++ (b.take (j + 1)).map fun y => (x, y) := ⟨_, rfl⟩
          rw [← hL3] at HSJ
          have HL3 := Lib.hid hL3
          clear hL3
          have cB := C.out.box.cell
          have fB := C.out.box.frozen
          have hzr := C.out.but.size
          clear hy
          go_wp2_with (at_builtin; refine wpList_append_one rfl _ _ 24 rfl i0 _ Tryd.underlying24 hi hz0 hz1 hz2 rfl (by decide) Flat.keeps C.out.own (x := (x, y)) (cs := [.int .i64 x, .int .i64 y]) (Tx := Nowhere) ?d0 rfl rfl rfl (Sub.nowhere _) (Sub.nowhere _) not_nowhere ?d1 ?d2 ?d3 ?d4 ?_)
          case d0 => exact ⟨rfl, hai, hbj⟩
          case d1 => simp [Value.oneCell']
          case d2 => have := HLJ.out; unfold maxLen; omega
          case d3 => have := HLJ.out; omega
          try (case d4 => omega)
          intro v2 w2 ho2 hg2 hk2
          rw [HSJ.out] at ho2
          have C2 := Lib.hid (C.out.app (Below.refl _ _) ho2 hg2 (hk2.imp id (fun h => ⟨_, h, by omega⟩)) hB)
          have bx2 : Boxed w2 B 24 o2 := C.out.box.kept hg2 (fun e => C.out.ne B e.symm rfl)
          have cB2 := bx2.cell
          have fB2 := bx2.frozen
          obtain ⟨A9, c9, rfl⟩ := ho2.form
          clear ho2 hg2 hk2 C bx2 cB fB
          go_wp2_with fail
          go_roundw
          case rel => exact ⟨j + 1, _, by omega, by go_num, by rw [← HL3.out]; exact C2⟩
          case measure => simp [intOf]; omega
        · skip
          have hje : j = b.length := by omega
          subst hje
          rw [List.take_length] at C
          have C2 := Lib.hid (show CrA B base w o (L ++ crsI (a.take (i + 1)) b) wr o2 by rw [HSN.out, ← List.append_assoc, ← HL1.out]; exact C.out)
          clear C
          go_wp2
          go_roundw
          case rel => exact ⟨i + 1, _, by omega, by go_num, C2⟩
          case measure => simp [intOf]; omega
    · have hie : i = a.length := by omega
      subst hie
      rw [List.take_length] at C
      go_wp2
      go_end0
      exact ⟨rfl, o', C.out⟩
section
variable {P : Program} {α : Type} {rd : World → Blocks → α → List Value → Prop} {size bytes : Nat} {E : TypeId} {w : World} {base : Nat} {S Tx U : Blocks} {l m : List α} {v : Value} {A : Option Addr} {n c : Nat}
/-- 'append(s, y...)' at a step of a region that draws -/
theorem step_append_list {ops : Array Oper} {o : Oper} {a : Act} {K : Act → World → Prop} {Q : Exit → Act → World → Prop} {Z : Prop} (hgd : o.guard = none) (s y : Operand) (t : TypeId) (ho : o.op = .call { callee := .builtin .append, args := #[s, y], argTypes := #[t, t] })
    (hs : a.eval s = v) (hy : a.eval y = .slice A n c)
    (i : TypeInfo) (z : Value) (ht : P.underlying t = some (.slice E)) (hi : P.info? E = some i) (hz : i.zero = some z) (hsize : i.size = size) (hby : i.bytes = bytes) (hzs : z.cells.size = size) (hsz : 0 < size)
    (hr : Keeps rd) (hx : RdL (fun w' _ e cs => rd w' Tx e cs) size bytes w U m (.slice A n c)) (hown : OwnL rd size E w base S l v) (t1 : Sub Tx S) (t2 : Sub Tx (Upto w.heap.size)) (t3 : ∀ k, v.ownBlock = some k → ¬ Tx k)
    (h1 : ∀ e cs, rd w Tx e cs → ∀ u ∈ cs, u.oneCell' = true) (h63 : l.length + m.length ≤ maxLen) (hbytes : (l.length + m.length) * bytes ≤ 140737488355328) (hbase : base ≤ w.heap.size)
    (h : ∀ v' w', OwnL rd size E w' base S (l ++ m) v' → w.grownBy w' v.ownBlock → (v'.ownBlock = v.ownBlock ∨ v'.ownBlock = some w.heap.size) → K (a.put o.dst v') w') :
    if Region.wanted o (yielded ops a.tmps) = true then Oper.wp P o a w K Q else Z := by
  have hw : Region.wanted o (yielded ops a.tmps) = true := by simp [Region.wanted, hgd]
  rw [if_pos hw]
  exact wp_append_list s y t ho i z ht hi hz hsize hby hzs hsz hr hown hx hs hy t1 t2 t3 h1 h63 hbytes hbase h
end
theorem rdI_one {w : World} {S : Blocks} {g : Nat} {x : Int} (h : w.cell? ⟨g, 0, none⟩ = some (.int .i64 x)) (hx : inI x) (hg : S g) : RdI w S [x] (.slice (some ⟨g, 0, none⟩) 1 1) :=
  ⟨_, 1, [[.int .i64 x]], rfl, Nat.le_refl _, by simp [maxLen], by simp, rfl, ⟨by simp, fun _ => ⟨g, 0, rfl, hg, fun i cs hi j v hv => by
    match i, hi with
    | 0, hi =>
      simp at hi; subst hi
      match j, hv with
      | 0, hv => simp at hv; subst hv; simpa using h⟩⟩, fun i e cs hi hc => by
    match i, hi, hc with
    | 0, hi, hc => simp at hi hc; subst hi hc; exact ⟨rfl, hx⟩⟩
theorem frozen_of_heap {w w' : World} {b o : Nat} {sp : Option Nat} (h : w'.heap[b]? = w.heap[b]?) : w'.frozen? ⟨b, o, sp⟩ = w.frozen? ⟨b, o, sp⟩ := by
  simp only [World.frozen?, h]
theorem rd_one {α : Type} {enc : α → List Value} {ok : α → Prop} {size bytes : Nat} {w : World} {S : Blocks} {g : Nat} {x : α} (hlen : (enc x).length = size) (h : ∀ (j : Nat) v, (enc x)[j]? = some v → w.cell? ⟨g, j, none⟩ = some v) (hx : ok x) (hg : S g) (hb : bytes ≤ 140737488355328) : RdL (Flat enc ok) size bytes w S [x] (.slice (some ⟨g, 0, none⟩) 1 1) :=
  ⟨_, 1, [enc x], rfl, Nat.le_refl _, by simp [maxLen], by simpa using hb, rfl, ⟨by simpa using hlen, fun _ => ⟨g, 0, rfl, hg, fun i cs hi j v hv => by
    match i, hi with
    | 0, hi => simp at hi; subst hi; simpa using h j v hv⟩⟩, fun i e cs hi hc => by
    match i, hi, hc with
    | 0, hi, hc => simp at hi hc; subst hi hc; exact ⟨rfl, hx⟩⟩
theorem cells_newAt (w : World) (vs : List Value) (E : TypeId) {g : Nat} (h : w.heap.size = g) : ∀ (j : Nat) v, vs[j]? = some v → (w.alloc (.cells vs.toArray E)).drew.cell? ⟨g, j, none⟩ = some v := by
  subst h
  intro j v hv
  have h := heap_alloc_new w (.cells vs.toArray E)
  show (w.alloc (.cells vs.toArray E)).cell? ⟨w.heap.size, j, none⟩ = some v
  unfold World.cell?
  simp only [h]
  simpa using hv
theorem grown_frozen {w w' : World} {row : Option Nat} (h : w.grownBy w' row) {b o : Nat} (hf : w.frozen? ⟨b, o, none⟩ = false) (hlt : b < w.heap.size) (hn : row ≠ some b) : w'.frozen? ⟨b, o, none⟩ = false := by
  rw [frozen_of_heap (h.block b hlt (fun e => hn e.symm))]; exact hf
theorem Sub.plus_mono2 {S : Blocks} (n m : Nat) : Sub (Plus Nowhere n m) (Plus S n m) := fun b h => h.elim (fun h => h.elim) .inr
theorem cell_new1 (w : World) (x : Value) (E : TypeId) : (w.alloc (.cells #[x] E)).cell? ⟨w.heap.size, 0, none⟩ = some x := by simp
theorem cell_newAt (w : World) (x : Value) (E : TypeId) {g : Nat} (h : w.heap.size = g) : (w.alloc (.cells #[x] E)).drew.cell? ⟨g, 0, none⟩ = some x := by subst h; exact cell_new1 w x E
theorem cell_oldAt (w : World) (x : Value) (E : TypeId) (o : Obj) : ((w.alloc (.cells #[x] E)).alloc o).drew.cell? ⟨w.heap.size, 0, none⟩ = some x :=
  (World.cell?_alloc_lt (w.alloc (.cells #[x] E)) o ⟨w.heap.size, 0, none⟩ (by simp)).trans (cell_new1 w x E)
theorem ownBlock_ne {g k n c : Nat} (h : g ≠ k) : (Value.slice (some ⟨g, 0, none⟩) n c).ownBlock ≠ some k := fun e => h (Option.some.inj e)
/-- the world after an append keeps the cells of other blocks -/
theorem grown_cell {w w' : World} {row : Option Nat} (h : w.grownBy w' row) {b o : Nat} {v : Value} (hc : w.cell? ⟨b, o, none⟩ = some v) (hn : row ≠ some b) : w'.cell? ⟨b, o, none⟩ = some v := by
  have hlt : b < w.heap.size := World.block_lt_of_cell? w _ hc
  rw [World.cell?_of_block (a := ⟨b, o, none⟩) (h.block b hlt (fun e => hn e.symm))]; exact hc
section
variable {α : Type} {rd : World → Blocks → α → List Value → Prop} {size bytes : Nat} {w : World} {S : Blocks} {l : List α}
theorem OwnL.emptyAt {E : TypeId} {base g : Nat} (hb : base ≤ w.heap.size) (hg : w.heap.size = g) : OwnL rd size E (w.alloc (.cells #[] E)) base S [] (.slice (some ⟨g, 0, none⟩) 0 0) := by
  subst hg; exact OwnL.empty w hb
/-- behind the first k of it -/
theorem RdL.drop {A : Option Addr} {n cap k : Nat} (h : RdL rd size bytes w S l (.slice A n cap)) (hk : k ≤ l.length) :
    RdL rd size bytes w S (l.drop k) (.slice (A.map fun a => a.add (k * size)) (n - k) (cap - k)) := by
  obtain ⟨A', cap', css, h1, h2, h3, h4, h5, h6, h7⟩ := h
  injection h1 with e1 e2 e3
  subst e1 e2 e3
  refine ⟨_, _, css.drop k, by rw [List.length_drop], by rw [List.length_drop]; omega, by omega, ?_, by simp [h5], ⟨fun cs hcs => h6.1 cs (List.mem_of_mem_drop hcs), fun hne => ?_⟩, fun i e cs hi hc => ?_⟩
  · rw [List.length_drop]; exact Nat.le_trans (Nat.mul_le_mul_right _ (by omega)) h4
  · obtain ⟨b, off, hA, hb, hc⟩ := h6.2 (by intro h; subst h; simp at hne)
    subst hA
    refine ⟨b, off + k * size, by simp only [Option.map_some, Addr.add]; split <;> simp_all, hb, fun i cs hi j v hv => ?_⟩
    rw [List.getElem?_drop] at hi
    have := hc (k + i) cs hi j v hv
    rw [Nat.add_mul] at this
    rw [show off + k * size + (i * size + j) = off + (k * size + i * size + j) by omega]
    exact this
  · rw [List.getElem?_drop] at hi hc
    exact h7 _ e cs hi hc
/-- the same at an end of the capacity: where it lies says nothing -/
theorem RdL.any {A A' : Option Addr} {cap cap' : Nat} (h : RdL rd size bytes w S [] (.slice A 0 cap)) (hc : cap' ≤ maxLen) : RdL rd size bytes w S [] (.slice A' 0 cap') := RdL.nil hc
end
end Go.Proofs.YtnpgpcnkdocknaaDoor
