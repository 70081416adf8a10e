/- The reader of KParse: forms, part by part (printed by wip/tools/gen_kq8.py). -/
import Derived.Test.YtijahadmaggncaaDoorKq7
namespace Go.Proofs.YtijahadmaggncaaDoor
open Go.RowKit
set_option linter.unusedVariables false
def strP : Pt' → Str
  | .w s => s
  | .n => ⟨#[110]⟩
  | .a => ⟨#[97]⟩
  | .b => ⟨#[98]⟩
  | .B => ⟨#[66]⟩
/-- a word that is none of the parts' letters -/
def wordP (x : Str) : Prop := (x.toList == [110]) = false ∧ (x.toList == [97]) = false ∧ (x.toList == [98]) = false ∧ (x.toList == [66]) = false ∧ okS x
set_option maxHeartbeats 16000000 in
set_option maxRecDepth 100000 in
theorem kform_any (n : Nat) (hn : KSs n) (ps : List Pt') (hps : ∀ x, Pt'.w x ∈ ps → wordP x) (hpl : ps.length ≤ 100) (k f : Nat) (L : List LTok) (w : World) (a : Nat) (out : PR St) (ho : formG n (stsG n []) ps noSt (L.drop a) = some out) (h : RkAt k L w f) (ha : a ≤ L.length) (hf : f ≤ a)
    (S : Blocks) (v : Value) (hS : ∀ b, S b → b ≠ k ∧ b < w.heap.size) (hv : RdSs w S (ps.map strP) v) :
    Calls Tryd.prog 85 #[.pointer (some ⟨k, 0, none⟩), .int .i64 (a : Int), v] w (KOut k L w (rdSt w.heap.size k) out) := by
  have hlt := h.lt
  have hll := h.len.1
  obtain ⟨Av, cv, rfl, hvl, hvm, _⟩ := hv.form
  unfold maxLen at hvm
  rw [List.length_map] at hvl ⊢
  have bl0 : Below w.heap.size w (w.alloc (.cells #[.int .i64 0, .string ⟨#[]⟩, .int .i64 0, .int .i64 0, .string ⟨#[]⟩, .slice none 0 0, .int .i64 0, .int .i64 0, .string ⟨#[]⟩, .slice none 0 0, .slice none 0 0, .slice none 0 0] 76)) := (Below.refl _ _).alloc (Nat.le_refl _) _
  have HS0 := Lib.hid (show KSt 0 [] k w.heap.size w.heap.size L w (w.alloc (.cells #[.int .i64 0, .string ⟨#[]⟩, .int .i64 0, .int .i64 0, .string ⟨#[]⟩, .slice none 0 0, .int .i64 0, .int .i64 0, .string ⟨#[]⟩, .slice none 0 0, .slice none 0 0, .slice none 0 0] 76)) f 0 ⟨#[]⟩ noX noX [] [] none none none none 0 0 0 0 from
    KSt.made (z := []) (d := 0) h hlt (Nat.le_refl _) (Nat.le_refl _) (by decide) (by decide) (But.refl _ _) (rdE.no _ _ _) (rdS.nil _ _ _) (Nat.le_refl _) (fun h => absurd rfl h))
  have HV := Lib.hid hv
  have HS := Lib.hid hS
  have HN := Lib.hid hn
  have HPS := Lib.hid hps
  have HE0 := Lib.hid ho
  obtain ⟨d, hd⟩ : ∃ d, d = w.heap.size := ⟨_, rfl⟩
  have hdk : ¬ d = k := by omega
  have hkd : k < d := by omega
  have hdw : w.heap.size ≤ d := by omega
  have HDW := Lib.hid hd
  rw [← hd] at HS0
  clear h bl0 hv hS hn hps ho
  go_enter Tryd.func85, Tryd.ntmps85
  go_upto_region 1 with (fail)
  rw [← hd]
  clear hd
  generalize (w.alloc (.cells #[.int .i64 0, .string ⟨#[]⟩, .int .i64 0, .int .i64 0, .string ⟨#[]⟩, .slice none 0 0, .int .i64 0, .int .i64 0, .string ⟨#[]⟩, .slice none 0 0, .slice none 0 0, .slice none 0 0] 76)) = W0 at *
  go_wp2_with fail
  go_loopw [1, 8, 13] (fun u1 u8 u13 wr => ∃ (j b g : Nat) (s : Str) (x1 x2 : Ex) (l : List St) (A1 A2 A3 : Option Addr) (c1 c2 c3 : Nat), u1 = .int .i64 (b : Int) ∧ u13 = .int .i64 (j : Int) ∧ j ≤ ps.length ∧ b ≤ L.length ∧ g ≤ b ∧ Hid (formG n (stsG n []) (ps.drop j) (.mk 0 s x1 x2 l []) (L.drop b) = some out) ∧ Hid (KSt 0 [] k d d L w wr g 0 s x1 x2 l [] A1 A2 A3 none c1 c2 c3 0)) (fun _ _ t _ => ps.length - (intOf t).toNat)
  case atStart => exact ⟨0, a, f, _, _, _, _, _, _, _, _, _, _, rfl, rfl, Nat.zero_le _, ha, hf, HE0, HS0⟩
  case round =>
    clear HS0 HE0 ha hf
    obtain ⟨j, b, g, s, x1, x2, l, A1, A2, A3, c1, c2, c3, rfl, rfl, hj, hb, hgb, HE, HK⟩ := hrel
    have hlw := HK.out.lw
    have hdl := HK.out.lt
    have hkl := HK.out.pW
    by_cases hlt2 : j < ps.length
    · have r := RdL.keep HV.out Flat.keeps (Sub.refl _) (HK.out.bt.same (fun b hb => (HS.out b hb).2) (fun b hb e => (HS.out b hb).1 e))
      have hjm : j < (ps.map strP).length := by rw [List.length_map]; exact hlt2
      obtain ⟨b0, off, rfl, hb0, hok, hc⟩ := RdSs.at1 r hjm
      rw [List.getElem_map] at hc
      have hb1 := (HS.out b0 hb0)
      have hb0k : ¬ b0 = k := hb1.1
      have hb0d : ¬ b0 = d := by have := hb1.2; have := HDW.out; omega
      have hb0w : b0 < wr.heap.size := by have := HK.out.bt.size; have := hb1.2; omega
      have hmem : ps[j] ∈ ps := List.getElem_mem hlt2
      have HPX := Lib.hid (fun x (e : ps[j] = .w x) => HPS.out x (e ▸ hmem))
      have he := HE.out
      rw [List.drop_eq_getElem_cons hlt2, formG] at he
      generalize ps[j] = p at he hc HPX
      have HE2 := Lib.hid he
      clear HE he r hjm hok hb0 hb1 hmem
      cases p with
      | w x =>
        · skip
          obtain ⟨q1, q2, q3, q4, hox⟩ := HPX.out x rfl
          have bl1 : Below wr.heap.size wr (wr.alloc (.cells #[.string x] 9)) := (Below.refl _ _).alloc (Nat.le_refl _) _
          have HC0 := Lib.hid (kwords_any (HK.out.ps.below bl1) b hb hgb (show WordsAt k (wr.alloc (.cells #[.string x] 9)) [x] (.slice (some ⟨wr.heap.size, 0, none⟩) 1 1) from words1 wr x hox hkl))
          have hc9 : wr.cell? ⟨b0, off + j, none⟩ = some (.string x) := hc
          clear hc
          rcases PO.bind_some HE2.out with ⟨q, e1, e2⟩ | ⟨S2, q, e1, e2⟩
          · have e1' := e1
            simp only [partG] at e1'
            rcases PO.bind_some e1' with ⟨q5, e3, e4⟩ | ⟨u5, q5, e3, e4⟩
            · injection e4 with e5
              subst e5
              have HO := Lib.hid e2
              have e9 := Option.some.inj e3
              rw [e9] at HC0
              have HC := HC0
              clear HC0 e9
              clear e1 e1' e2 e3 HE2 HPX
              go_upto_region 14 with (go_at_call 122; refine HC.out.mono ?_; rintro e w9 ⟨z9, g9, rfl, hfr, hp9, hb9⟩)
              have HK2 := Lib.hid (HK.out.step ((But.of_b bl1).trans hb9) hp9)
              have HFR := Lib.hid hfr
              clear HK HC hp9 hb9 bl1 hfr
              have y0 := HK2.out.box.cell 0 _ rfl; have y1 := HK2.out.box.cell 1 _ rfl; have y2 := HK2.out.box.cell 2 _ rfl; have y3 := HK2.out.box.cell 3 _ rfl; have y4 := HK2.out.box.cell 4 _ rfl; have y5 := HK2.out.box.cell 5 _ rfl; have y6 := HK2.out.box.cell 6 _ rfl; have y7 := HK2.out.box.cell 7 _ rfl; have y8 := HK2.out.box.cell 8 _ rfl; have y9 := HK2.out.box.cell 9 _ rfl; have y10 := HK2.out.box.cell 10 _ rfl; have y11 := HK2.out.box.cell 11 _ rfl
              have f0 := HK2.out.box.fr 0; have f1 := HK2.out.box.fr 1; have f2 := HK2.out.box.fr 2; have f3 := HK2.out.box.fr 3; have f4 := HK2.out.box.fr 4; have f5 := HK2.out.box.fr 5; have f6 := HK2.out.box.fr 6; have f7 := HK2.out.box.fr 7; have f8 := HK2.out.box.fr 8; have f9 := HK2.out.box.fr 9; have f10 := HK2.out.box.fr 10; have f11 := HK2.out.box.fr 11
              go_wp2
              exact ret_kstbox Tryd.results85 HK2.out.box rfl HK2.out hdw (.inr rfl) hkd (.inr ⟨_, HO.out, HFR.out, rfl⟩) rfl rfl rfl rfl (by simp only [setL, List.length_nil])
            · cases e4
          · have e1' := e1
            simp only [partG] at e1'
            rcases PO.bind_some e1' with ⟨q5, e3, e4⟩ | ⟨u5, q5, e3, e4⟩
            · cases e4
            · simp only [Option.some.injEq, PR.ok.injEq] at e4
              obtain ⟨rfl, rfl⟩ := e4
              have HE4 := Lib.hid e2
              have e9 := Option.some.inj e3
              rw [e9] at HC0
              have HC := HC0
              clear HC0 e9
              clear e1 e1' e2 e3 HE2 HPX
              go_upto_region 14 with (go_at_call 122; refine HC.out.mono ?_; rintro e w9 ⟨b9, g9, rfl, hbr9, hbl9, hgb9, hp9, hb9⟩)
              have HK2 := Lib.hid (HK.out.step ((But.of_b bl1).trans hb9) hp9)
              have HE5 := Lib.hid (show formG n (stsG n []) (ps.drop (j + 1)) (.mk 0 s x1 x2 l []) (L.drop b9) = some out by rw [hbr9]; exact HE4.out)
              clear HK HC hp9 hb9 bl1 hbr9 HE4
              go_wp2
              go_roundw
              case rel => exact ⟨j + 1, b9, g9, s, x1, x2, l, A1, A2, A3, c1, c2, c3, by go_num, by go_num, by omega, hbl9, hgb9, HE5, HK2⟩
              case measure => simp [intOf]; omega
      | n =>
        · skip
          have hc9 : wr.cell? ⟨b0, off + j, none⟩ = some (.string ⟨#[110]⟩) := hc
          clear hc
          have HC0 := Lib.hid (krname_any HK.out.ps b hb hgb)
          rcases PO.bind_some HE2.out with ⟨q, e1, e2⟩ | ⟨S2, q, e1, e2⟩
          · have e1' := e1
            simp only [partG] at e1'
            rcases PO.bind_some e1' with ⟨q5, e3, e4⟩ | ⟨u5, q5, e3, e4⟩
            · injection e4 with e5
              subst e5
              have HO := Lib.hid e2
              have e9 := Option.some.inj e3
              rw [e9] at HC0
              have HC := HC0
              clear HC0 e9
              clear e1 e1' e2 e3 HE2 HPX
              go_upto_region 14 with (go_at_call 120; refine HC.out.mono ?_; rintro e w9 ⟨x9, z9, g9, rfl, ⟨s9, rfl, hs9⟩, hfr, hp9, hb9⟩; have hk9 := HK.out.step hb9 hp9; have y0 := hk9.box.cell 1 _ rfl; have f0 := hk9.box.fr 1)
              have HK2 := Lib.hid (hk9.setName (s' := s9) (by omega))
              change Code.wp _ _ _ _ (setL w9 d 1 [.string s9])
              generalize (setL w9 d 1 [.string s9]) = W9 at *
              have HFR := Lib.hid hfr
              clear HK HC hp9 hb9 hk9 hfr y0 f0
              have y0 := HK2.out.box.cell 0 _ rfl; have y1 := HK2.out.box.cell 1 _ rfl; have y2 := HK2.out.box.cell 2 _ rfl; have y3 := HK2.out.box.cell 3 _ rfl; have y4 := HK2.out.box.cell 4 _ rfl; have y5 := HK2.out.box.cell 5 _ rfl; have y6 := HK2.out.box.cell 6 _ rfl; have y7 := HK2.out.box.cell 7 _ rfl; have y8 := HK2.out.box.cell 8 _ rfl; have y9 := HK2.out.box.cell 9 _ rfl; have y10 := HK2.out.box.cell 10 _ rfl; have y11 := HK2.out.box.cell 11 _ rfl
              have f0 := HK2.out.box.fr 0; have f1 := HK2.out.box.fr 1; have f2 := HK2.out.box.fr 2; have f3 := HK2.out.box.fr 3; have f4 := HK2.out.box.fr 4; have f5 := HK2.out.box.fr 5; have f6 := HK2.out.box.fr 6; have f7 := HK2.out.box.fr 7; have f8 := HK2.out.box.fr 8; have f9 := HK2.out.box.fr 9; have f10 := HK2.out.box.fr 10; have f11 := HK2.out.box.fr 11
              go_wp2
              exact ret_kstbox Tryd.results85 HK2.out.box rfl HK2.out hdw (.inr rfl) hkd (.inr ⟨_, HO.out, HFR.out, rfl⟩) rfl rfl rfl rfl (by simp only [setL, List.length_nil])
            · cases e4
          · have e1' := e1
            simp only [partG] at e1'
            rcases PO.bind_some e1' with ⟨q5, e3, e4⟩ | ⟨u5, q5, e3, e4⟩
            · cases e4
            · simp only [Option.some.injEq, PR.ok.injEq] at e4
              obtain ⟨rfl, rfl⟩ := e4
              have HE4 := Lib.hid e2
              have e9 := Option.some.inj e3
              rw [e9] at HC0
              have HC := HC0
              clear HC0 e9
              clear e1 e1' e2 e3 HE2 HPX
              go_upto_region 14 with (go_at_call 120; refine HC.out.mono ?_; rintro e w9 ⟨x9, b9, g9, rfl, ⟨rfl, hs9⟩, hbr9, hbl9, hgb9, hp9, hb9⟩; have hk9 := HK.out.step hb9 hp9; have y0 := hk9.box.cell 1 _ rfl; have f0 := hk9.box.fr 1)
              have HK2 := Lib.hid (hk9.setName (s' := u5) (by omega))
              change Code.wp _ _ _ _ (setL w9 d 1 [.string u5])
              generalize (setL w9 d 1 [.string u5]) = W9 at *
              have HE5 := Lib.hid (show formG n (stsG n []) (ps.drop (j + 1)) (.mk 0 u5 x1 x2 l []) (L.drop b9) = some out by rw [hbr9]; exact HE4.out)
              clear HK HC hp9 hb9 hk9 hbr9 HE4 y0 f0
              go_wp2
              go_roundw
              case rel => exact ⟨j + 1, b9, g9, u5, x1, x2, l, A1, A2, A3, c1, c2, c3, by go_num, by go_num, by omega, hbl9, hgb9, HE5, HK2⟩
              case measure => simp [intOf]; omega
      | a =>
        · skip
          have hc9 : wr.cell? ⟨b0, off + j, none⟩ = some (.string ⟨#[97]⟩) := hc
          clear hc
          rcases PO.bind_some HE2.out with ⟨q, e1, e2⟩ | ⟨S2, q, e1, e2⟩
          · have e1' := e1
            simp only [partG] at e1'
            rcases PO.bind_some e1' with ⟨q5, e3, e4⟩ | ⟨u5, q5, e3, e4⟩
            · injection e4 with e5
              subst e5
              have HO := Lib.hid e2
              have HC := Lib.hid (kexpr_any n k g L wr b _ e3 HK.out.ps hb hgb)
              clear e1 e1' e2 e3 HE2 HPX
              go_upto_region 14 with (go_at_call 121; refine HC.out.mono ?_; rintro e w9 ⟨x9, z9, g9, rfl, ⟨t9, hx9⟩, hfr, hp9, hb9⟩; obtain ⟨A9, c9, rfl⟩ := hx9.form; have hk9 := HK.out.step hb9 hp9; have y0 := hk9.box.cell 2 _ rfl; have f0 := hk9.box.fr 2; have y1 := hk9.box.cell 3 _ rfl; have f1 := hk9.box.fr 3; have y2 := hk9.box.cell 4 _ rfl; have f2 := hk9.box.fr 4; have y3 := hk9.box.cell 5 _ rfl; have f3 := hk9.box.fr 5)
              have HK2 := Lib.hid (hk9.setA (rdE.to hx9 (lo' := d) (y' := d) hlw (.inl hdl)))
              change Code.wp _ _ _ _ (setL w9 d 2 [.int .i64 t9.kind, .int .i64 t9.num, .string t9.name, .slice A9 t9.args.length c9])
              generalize (setL w9 d 2 [.int .i64 t9.kind, .int .i64 t9.num, .string t9.name, .slice A9 t9.args.length c9]) = W9 at *
              have HFR := Lib.hid hfr
              clear HK HC hp9 hb9 hk9 hfr hx9 y0 y1 y2 y3 f0 f1 f2 f3
              have y0 := HK2.out.box.cell 0 _ rfl; have y1 := HK2.out.box.cell 1 _ rfl; have y2 := HK2.out.box.cell 2 _ rfl; have y3 := HK2.out.box.cell 3 _ rfl; have y4 := HK2.out.box.cell 4 _ rfl; have y5 := HK2.out.box.cell 5 _ rfl; have y6 := HK2.out.box.cell 6 _ rfl; have y7 := HK2.out.box.cell 7 _ rfl; have y8 := HK2.out.box.cell 8 _ rfl; have y9 := HK2.out.box.cell 9 _ rfl; have y10 := HK2.out.box.cell 10 _ rfl; have y11 := HK2.out.box.cell 11 _ rfl
              have f0 := HK2.out.box.fr 0; have f1 := HK2.out.box.fr 1; have f2 := HK2.out.box.fr 2; have f3 := HK2.out.box.fr 3; have f4 := HK2.out.box.fr 4; have f5 := HK2.out.box.fr 5; have f6 := HK2.out.box.fr 6; have f7 := HK2.out.box.fr 7; have f8 := HK2.out.box.fr 8; have f9 := HK2.out.box.fr 9; have f10 := HK2.out.box.fr 10; have f11 := HK2.out.box.fr 11
              go_wp2
              exact ret_kstbox Tryd.results85 HK2.out.box rfl HK2.out hdw (.inr rfl) hkd (.inr ⟨_, HO.out, HFR.out, rfl⟩) rfl rfl rfl rfl (by simp only [setL, List.length_nil])
            · cases e4
          · have e1' := e1
            simp only [partG] at e1'
            rcases PO.bind_some e1' with ⟨q5, e3, e4⟩ | ⟨u5, q5, e3, e4⟩
            · cases e4
            · simp only [Option.some.injEq, PR.ok.injEq] at e4
              obtain ⟨rfl, rfl⟩ := e4
              have HE4 := Lib.hid e2
              have HC := Lib.hid (kexpr_any n k g L wr b _ e3 HK.out.ps hb hgb)
              clear e1 e1' e2 e3 HE2 HPX
              go_upto_region 14 with (go_at_call 121; refine HC.out.mono ?_; rintro e w9 ⟨x9, b9, g9, rfl, hx9, hbr9, hbl9, hgb9, hp9, hb9⟩; obtain ⟨A9, c9, rfl⟩ := hx9.form; have hk9 := HK.out.step hb9 hp9; have y0 := hk9.box.cell 2 _ rfl; have f0 := hk9.box.fr 2; have y1 := hk9.box.cell 3 _ rfl; have f1 := hk9.box.fr 3; have y2 := hk9.box.cell 4 _ rfl; have f2 := hk9.box.fr 4; have y3 := hk9.box.cell 5 _ rfl; have f3 := hk9.box.fr 5)
              have HK2 := Lib.hid (hk9.setA (rdE.to hx9 (lo' := d) (y' := d) hlw (.inl hdl)))
              change Code.wp _ _ _ _ (setL w9 d 2 [.int .i64 u5.kind, .int .i64 u5.num, .string u5.name, .slice A9 u5.args.length c9])
              generalize (setL w9 d 2 [.int .i64 u5.kind, .int .i64 u5.num, .string u5.name, .slice A9 u5.args.length c9]) = W9 at *
              have HE5 := Lib.hid (show formG n (stsG n []) (ps.drop (j + 1)) (.mk 0 s u5 x2 l []) (L.drop b9) = some out by rw [hbr9]; exact HE4.out)
              clear HK HC hp9 hb9 hk9 hx9 hbr9 HE4 y0 y1 y2 y3 f0 f1 f2 f3
              go_wp2
              go_roundw
              case rel => exact ⟨j + 1, b9, g9, s, u5, x2, l, A9, A2, A3, c9, c2, c3, by go_num, by go_num, by omega, hbl9, hgb9, HE5, HK2⟩
              case measure => simp [intOf]; omega
      | b =>
        · skip
          have hc9 : wr.cell? ⟨b0, off + j, none⟩ = some (.string ⟨#[98]⟩) := hc
          clear hc
          rcases PO.bind_some HE2.out with ⟨q, e1, e2⟩ | ⟨S2, q, e1, e2⟩
          · have e1' := e1
            simp only [partG] at e1'
            rcases PO.bind_some e1' with ⟨q5, e3, e4⟩ | ⟨u5, q5, e3, e4⟩
            · injection e4 with e5
              subst e5
              have HO := Lib.hid e2
              have HC := Lib.hid (kexpr_any n k g L wr b _ e3 HK.out.ps hb hgb)
              clear e1 e1' e2 e3 HE2 HPX
              go_upto_region 14 with (go_at_call 121; refine HC.out.mono ?_; rintro e w9 ⟨x9, z9, g9, rfl, ⟨t9, hx9⟩, hfr, hp9, hb9⟩; obtain ⟨A9, c9, rfl⟩ := hx9.form; have hk9 := HK.out.step hb9 hp9; have y0 := hk9.box.cell 6 _ rfl; have f0 := hk9.box.fr 6; have y1 := hk9.box.cell 7 _ rfl; have f1 := hk9.box.fr 7; have y2 := hk9.box.cell 8 _ rfl; have f2 := hk9.box.fr 8; have y3 := hk9.box.cell 9 _ rfl; have f3 := hk9.box.fr 9)
              have HK2 := Lib.hid (hk9.setB (rdE.to hx9 (lo' := d) (y' := d) hlw (.inl hdl)))
              change Code.wp _ _ _ _ (setL w9 d 6 [.int .i64 t9.kind, .int .i64 t9.num, .string t9.name, .slice A9 t9.args.length c9])
              generalize (setL w9 d 6 [.int .i64 t9.kind, .int .i64 t9.num, .string t9.name, .slice A9 t9.args.length c9]) = W9 at *
              have HFR := Lib.hid hfr
              clear HK HC hp9 hb9 hk9 hfr hx9 y0 y1 y2 y3 f0 f1 f2 f3
              have y0 := HK2.out.box.cell 0 _ rfl; have y1 := HK2.out.box.cell 1 _ rfl; have y2 := HK2.out.box.cell 2 _ rfl; have y3 := HK2.out.box.cell 3 _ rfl; have y4 := HK2.out.box.cell 4 _ rfl; have y5 := HK2.out.box.cell 5 _ rfl; have y6 := HK2.out.box.cell 6 _ rfl; have y7 := HK2.out.box.cell 7 _ rfl; have y8 := HK2.out.box.cell 8 _ rfl; have y9 := HK2.out.box.cell 9 _ rfl; have y10 := HK2.out.box.cell 10 _ rfl; have y11 := HK2.out.box.cell 11 _ rfl
              have f0 := HK2.out.box.fr 0; have f1 := HK2.out.box.fr 1; have f2 := HK2.out.box.fr 2; have f3 := HK2.out.box.fr 3; have f4 := HK2.out.box.fr 4; have f5 := HK2.out.box.fr 5; have f6 := HK2.out.box.fr 6; have f7 := HK2.out.box.fr 7; have f8 := HK2.out.box.fr 8; have f9 := HK2.out.box.fr 9; have f10 := HK2.out.box.fr 10; have f11 := HK2.out.box.fr 11
              go_wp2
              exact ret_kstbox Tryd.results85 HK2.out.box rfl HK2.out hdw (.inr rfl) hkd (.inr ⟨_, HO.out, HFR.out, rfl⟩) rfl rfl rfl rfl (by simp only [setL, List.length_nil])
            · cases e4
          · have e1' := e1
            simp only [partG] at e1'
            rcases PO.bind_some e1' with ⟨q5, e3, e4⟩ | ⟨u5, q5, e3, e4⟩
            · cases e4
            · simp only [Option.some.injEq, PR.ok.injEq] at e4
              obtain ⟨rfl, rfl⟩ := e4
              have HE4 := Lib.hid e2
              have HC := Lib.hid (kexpr_any n k g L wr b _ e3 HK.out.ps hb hgb)
              clear e1 e1' e2 e3 HE2 HPX
              go_upto_region 14 with (go_at_call 121; refine HC.out.mono ?_; rintro e w9 ⟨x9, b9, g9, rfl, hx9, hbr9, hbl9, hgb9, hp9, hb9⟩; obtain ⟨A9, c9, rfl⟩ := hx9.form; have hk9 := HK.out.step hb9 hp9; have y0 := hk9.box.cell 6 _ rfl; have f0 := hk9.box.fr 6; have y1 := hk9.box.cell 7 _ rfl; have f1 := hk9.box.fr 7; have y2 := hk9.box.cell 8 _ rfl; have f2 := hk9.box.fr 8; have y3 := hk9.box.cell 9 _ rfl; have f3 := hk9.box.fr 9)
              have HK2 := Lib.hid (hk9.setB (rdE.to hx9 (lo' := d) (y' := d) hlw (.inl hdl)))
              change Code.wp _ _ _ _ (setL w9 d 6 [.int .i64 u5.kind, .int .i64 u5.num, .string u5.name, .slice A9 u5.args.length c9])
              generalize (setL w9 d 6 [.int .i64 u5.kind, .int .i64 u5.num, .string u5.name, .slice A9 u5.args.length c9]) = W9 at *
              have HE5 := Lib.hid (show formG n (stsG n []) (ps.drop (j + 1)) (.mk 0 s x1 u5 l []) (L.drop b9) = some out by rw [hbr9]; exact HE4.out)
              clear HK HC hp9 hb9 hk9 hx9 hbr9 HE4 y0 y1 y2 y3 f0 f1 f2 f3
              go_wp2
              go_roundw
              case rel => exact ⟨j + 1, b9, g9, s, x1, u5, l, A1, A9, A3, c1, c9, c3, by go_num, by go_num, by omega, hbl9, hgb9, HE5, HK2⟩
              case measure => simp [intOf]; omega
      | B =>
        · skip
          have hc9 : wr.cell? ⟨b0, off + j, none⟩ = some (.string ⟨#[66]⟩) := hc
          clear hc
          rcases PO.bind_some HE2.out with ⟨q, e1, e2⟩ | ⟨S2, q, e1, e2⟩
          · have e1' := e1
            simp only [partG] at e1'
            rcases PO.bind_some e1' with ⟨q5, e3, e4⟩ | ⟨u5, q5, e3, e4⟩
            · injection e4 with e5
              subst e5
              have HO := Lib.hid e2
              have HC := Lib.hid (kblk_any n HN.out k g L wr b _ e3 HK.out.ps hb hgb)
              clear e1 e1' e2 e3 HE2 HPX
              go_upto_region 14 with (go_at_call 87; refine HC.out.mono ?_; rintro e w9 ⟨x9, z9, g9, rfl, ⟨t9, hx9⟩, hfr, hp9, hb9⟩; obtain ⟨A9, c9, rfl⟩ := hx9.form; have hk9 := HK.out.step hb9 hp9; have y0 := hk9.box.cell 10 _ rfl; have f0 := hk9.box.fr 10)
              have HK2 := Lib.hid (hk9.setBody (rdS.to hx9 (lo' := d) (y' := d) hlw (.inl hdl)))
              change Code.wp _ _ _ _ (setL w9 d 10 [.slice A9 t9.length c9])
              generalize (setL w9 d 10 [.slice A9 t9.length c9]) = W9 at *
              have HFR := Lib.hid hfr
              clear HK HC hp9 hb9 hk9 hfr hx9 y0 f0
              have y0 := HK2.out.box.cell 0 _ rfl; have y1 := HK2.out.box.cell 1 _ rfl; have y2 := HK2.out.box.cell 2 _ rfl; have y3 := HK2.out.box.cell 3 _ rfl; have y4 := HK2.out.box.cell 4 _ rfl; have y5 := HK2.out.box.cell 5 _ rfl; have y6 := HK2.out.box.cell 6 _ rfl; have y7 := HK2.out.box.cell 7 _ rfl; have y8 := HK2.out.box.cell 8 _ rfl; have y9 := HK2.out.box.cell 9 _ rfl; have y10 := HK2.out.box.cell 10 _ rfl; have y11 := HK2.out.box.cell 11 _ rfl
              have f0 := HK2.out.box.fr 0; have f1 := HK2.out.box.fr 1; have f2 := HK2.out.box.fr 2; have f3 := HK2.out.box.fr 3; have f4 := HK2.out.box.fr 4; have f5 := HK2.out.box.fr 5; have f6 := HK2.out.box.fr 6; have f7 := HK2.out.box.fr 7; have f8 := HK2.out.box.fr 8; have f9 := HK2.out.box.fr 9; have f10 := HK2.out.box.fr 10; have f11 := HK2.out.box.fr 11
              go_wp2
              exact ret_kstbox Tryd.results85 HK2.out.box rfl HK2.out hdw (.inr rfl) hkd (.inr ⟨_, HO.out, HFR.out, rfl⟩) rfl rfl rfl rfl (by simp only [setL, List.length_nil])
            · cases e4
          · have e1' := e1
            simp only [partG] at e1'
            rcases PO.bind_some e1' with ⟨q5, e3, e4⟩ | ⟨u5, q5, e3, e4⟩
            · cases e4
            · simp only [Option.some.injEq, PR.ok.injEq] at e4
              obtain ⟨rfl, rfl⟩ := e4
              have HE4 := Lib.hid e2
              have HC := Lib.hid (kblk_any n HN.out k g L wr b _ e3 HK.out.ps hb hgb)
              clear e1 e1' e2 e3 HE2 HPX
              go_upto_region 14 with (go_at_call 87; refine HC.out.mono ?_; rintro e w9 ⟨x9, b9, g9, rfl, hx9, hbr9, hbl9, hgb9, hp9, hb9⟩; obtain ⟨A9, c9, rfl⟩ := hx9.form; have hk9 := HK.out.step hb9 hp9; have y0 := hk9.box.cell 10 _ rfl; have f0 := hk9.box.fr 10)
              have HK2 := Lib.hid (hk9.setBody (rdS.to hx9 (lo' := d) (y' := d) hlw (.inl hdl)))
              change Code.wp _ _ _ _ (setL w9 d 10 [.slice A9 u5.length c9])
              generalize (setL w9 d 10 [.slice A9 u5.length c9]) = W9 at *
              have HE5 := Lib.hid (show formG n (stsG n []) (ps.drop (j + 1)) (.mk 0 s x1 x2 u5 []) (L.drop b9) = some out by rw [hbr9]; exact HE4.out)
              clear HK HC hp9 hb9 hk9 hx9 hbr9 HE4 y0 f0
              go_wp2
              go_roundw
              case rel => exact ⟨j + 1, b9, g9, s, x1, x2, u5, A1, A2, A9, c1, c2, c9, by go_num, by go_num, by omega, hbl9, hgb9, HE5, HK2⟩
              case measure => simp [intOf]; omega
    · have hje : j = ps.length := by omega
      subst hje
      have HO := Lib.hid (show out = .ok (.mk 0 s x1 x2 l []) (L.drop b) by have h := HE.out; rw [List.drop_length, formG] at h; exact (Option.some.inj h).symm)
      clear HE
      have y0 := HK.out.box.cell 0 _ rfl; have y1 := HK.out.box.cell 1 _ rfl; have y2 := HK.out.box.cell 2 _ rfl; have y3 := HK.out.box.cell 3 _ rfl; have y4 := HK.out.box.cell 4 _ rfl; have y5 := HK.out.box.cell 5 _ rfl; have y6 := HK.out.box.cell 6 _ rfl; have y7 := HK.out.box.cell 7 _ rfl; have y8 := HK.out.box.cell 8 _ rfl; have y9 := HK.out.box.cell 9 _ rfl; have y10 := HK.out.box.cell 10 _ rfl; have y11 := HK.out.box.cell 11 _ rfl
      have f0 := HK.out.box.fr 0; have f1 := HK.out.box.fr 1; have f2 := HK.out.box.fr 2; have f3 := HK.out.box.fr 3; have f4 := HK.out.box.fr 4; have f5 := HK.out.box.fr 5; have f6 := HK.out.box.fr 6; have f7 := HK.out.box.fr 7; have f8 := HK.out.box.fr 8; have f9 := HK.out.box.fr 9; have f10 := HK.out.box.fr 10; have f11 := HK.out.box.fr 11
      go_wp2
      exact ret_kstbox Tryd.results85 HK.out.box rfl HK.out hdw (.inr rfl) hkd (.inl ⟨_, b, HO.out, rfl, hb, hgb, rfl, rfl⟩) rfl rfl rfl rfl (by simp only [setL, List.length_nil])
end Go.Proofs.YtijahadmaggncaaDoor
