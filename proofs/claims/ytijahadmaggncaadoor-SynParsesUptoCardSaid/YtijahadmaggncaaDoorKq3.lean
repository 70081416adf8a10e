/- The reader of KParse: signs. -/
import Derived.Test.YtijahadmaggncaaDoorGStX
import Derived.Test.YtijahadmaggncaaDoorPq4
namespace Go.Proofs.YtijahadmaggncaaDoor
open Go.RowKit
set_option linter.unusedVariables false
def lvlT : Nat → Str
  | 0 => ⟨#[60, 44, 61, 61]⟩
  | 1 => ⟨#[43, 44, 45]⟩
  | _ => ⟨#[42, 44, 47, 44, 37]⟩
theorem split0 : splitF ⟨#[60, 44, 61, 61]⟩ = [(⟨#[60]⟩ : Str), (⟨#[61, 61]⟩ : Str)] := by decide +kernel
theorem split1 : splitF ⟨#[43, 44, 45]⟩ = [(⟨#[43]⟩ : Str), (⟨#[45]⟩ : Str)] := by decide +kernel
theorem split2 : splitF ⟨#[42, 44, 47, 44, 37]⟩ = [(⟨#[42]⟩ : Str), (⟨#[47]⟩ : Str), (⟨#[37]⟩ : Str)] := by decide +kernel
theorem splitT : ∀ lvl, lvl ≤ 2 → splitF (lvlT lvl) = lvlS lvl
  | 0, _ => split0
  | 1, _ => split1
  | 2, _ => split2
  | n + 3, h => by omega
theorem klevels_any (lvl : Nat) (h : lvl ≤ 2) (w : World) : Calls Tryd.prog 173 #[.int .i64 (lvl : Int)] w fun e w' => e = .returned (.string (lvlT lvl)) ∧ Below w.heap.size w w' := by
  have hc : lvl = 0 ∨ lvl = 1 ∨ lvl = 2 := by omega
  rcases hc with rfl | rfl | rfl
  all_goals
    go_enter Tryd.func173, Tryd.ntmps173
    go_wp2
    go_ret
    exact ⟨rfl, (Below.refl _ _).alloc (Nat.le_refl _) _⟩
def sevS : List Str := [bz [43], bz [45], bz [42], bz [47], bz [37], bz [60], bz [61, 61]]
theorem sev_sign : ∀ (j : Nat) (h : j < 7), signK (sevS[j]'h) = (j : Int) + 3 := by decide +kernel
theorem signK_of {s x : Str} (h : (x.toList == s.toList) = true) : signK s = signK x := by
  rw [beq_iff_eq] at h
  unfold signK; rw [h]
set_option maxHeartbeats 1000000 in
set_option maxRecDepth 100000 in
theorem ksign_any (s : Str) (hs : ∃ x ∈ sevS, (x.toList == s.toList) = true) (w : World) : Calls Tryd.prog 155 #[.string s] w fun e w' => e = .returned (.int .i64 (signK s)) ∧ Below w.heap.size w w' := by
  have HS := Lib.hid hs
  clear hs
  go_enter Tryd.func155, Tryd.ntmps155
  go_wp2
  have B1 : Below w.heap.size w (w.alloc (.cells #[.string ⟨#[43]⟩, .string ⟨#[45]⟩, .string ⟨#[42]⟩, .string ⟨#[47]⟩, .string ⟨#[37]⟩, .string ⟨#[60]⟩, .string ⟨#[61, 61]⟩] 9)) := (Below.refl _ _).alloc (Nat.le_refl _) _
  have K1 := Lib.hid (show Blk 0 (w.alloc (.cells #[.string ⟨#[43]⟩, .string ⟨#[45]⟩, .string ⟨#[42]⟩, .string ⟨#[47]⟩, .string ⟨#[37]⟩, .string ⟨#[60]⟩, .string ⟨#[61, 61]⟩] 9)) w.heap.size (sevS.map Value.string) from Blk.made w _ _ (Nat.zero_le _))
  obtain ⟨d, hd⟩ : ∃ d, d = w.heap.size := ⟨_, rfl⟩
  rw [← hd] at K1 ⊢
  clear hd
  generalize w.alloc (.cells #[.string ⟨#[43]⟩, .string ⟨#[45]⟩, .string ⟨#[42]⟩, .string ⟨#[47]⟩, .string ⟨#[37]⟩, .string ⟨#[60]⟩, .string ⟨#[61, 61]⟩] 9) = W1 at *
  go_loop [7] (fun t => ∃ j : Nat, j ≤ 7 ∧ t = .int .i64 (j : Int) ∧ Hid (∀ i (h : i < 7), i < j → (sevS[i].toList == s.toList) = false)) (fun t => 7 - (intOf t).toNat)
  case atStart => exact ⟨0, by omega, rfl, Lib.hid (fun i _ h => by omega)⟩
  case round =>
    obtain ⟨j, hj, rfl, HN⟩ := hrel
    by_cases hlt : j < 7
    · have hc := K1.out.mapAt (List.getElem?_eq_getElem (show j < sevS.length from hlt))
      have HV := Lib.hid (sev_sign j hlt)
      have HNX := Lib.hid (fun (e : (sevS[j].toList == s.toList) = false) => show ∀ i (h : i < 7), i < j + 1 → (sevS[i].toList == s.toList) = false from fun i h hi => by
        rcases Nat.lt_or_ge i j with h2 | h2
        · exact HN.out i h h2
        · have : i = j := by omega
          subst this; exact e)
      generalize sevS[j] = x at hc HV HNX
      cases hx : (x.toList == s.toList)
      · have HN2 := Lib.hid (HNX.out hx)
        clear HNX HN
        go_wp2
        go_round
        case rel => exact ⟨j + 1, by omega, by go_num, HN2⟩
        case measure => simp [intOf]; omega
      · have HG := Lib.hid (show signK s = (j : Int) + 3 by rw [signK_of hx, HV.out])
        clear HNX HN
        go_wp2
        go_ret
        exact ⟨by rw [HG.out]; rfl, B1⟩
    · have hj7 : j = 7 := by omega
      subst hj7
      exfalso
      obtain ⟨x, hx, h2⟩ := HS.out
      obtain ⟨i, hi, rfl⟩ := List.getElem_of_mem hx
      have := HN.out i hi hi
      rw [this] at h2; cases h2
theorem any_in {l : List Str} {ts : List LTok} (h : ¬ anyG l ts = ⟨#[]⟩) : anyG l ts ∈ l := by
  induction l with
  | nil => exact absurd rfl h
  | cons s l ih =>
    rw [anyG] at h ⊢
    split
    · exact List.mem_cons_self ..
    · rename_i h2
      rw [if_neg h2] at h
      exact List.mem_cons_of_mem _ (ih h)
theorem lvl_sev {lvl : Nat} {s : Str} (h : s ∈ lvlS lvl) : ∃ x ∈ sevS, (x.toList == s.toList) = true := by
  refine ⟨s, ?_, by simp⟩
  match lvl, h with
  | 0, h => simp only [lvlS, List.mem_cons, List.not_mem_nil, or_false] at h; rcases h with rfl | rfl <;> simp [sevS]
  | 1, h => simp only [lvlS, List.mem_cons, List.not_mem_nil, or_false] at h; rcases h with rfl | rfl <;> simp [sevS]
  | n + 2, h => simp only [lvlS, List.mem_cons, List.not_mem_nil, or_false] at h; rcases h with rfl | rfl | rfl <;> simp [sevS]
set_option maxHeartbeats 1000000 in
set_option maxRecDepth 100000 in
theorem krsign_any {k f : Nat} {L : List LTok} {w : World} (h : RkAt k L w f) (a : Nat) (ha : a ≤ L.length) (hf : f ≤ a) (lvl : Nat) (hl : lvl ≤ 2) :
    Calls Tryd.prog 154 #[.pointer (some ⟨k, 0, none⟩), .int .i64 (a : Int), .int .i64 (lvl : Int)] w fun e w' => ∃ b : Nat, e = .returned (.tuple #[.string (anyG (lvlS lvl) (L.drop a)), .int .i64 (b : Int)]) ∧ (¬ anyG (lvlS lvl) (L.drop a) = ⟨#[]⟩ → b = a + 1) ∧ RkAt k L w' a ∧ But (Is k) w w' := by
  have hll := h.len.1
  have hok := ok_lvl lvl
  have hn1 : (lvlS lvl).length ≤ 3 := by
    match lvl with
    | 0 => simp [lvlS]
    | 1 => simp [lvlS]
    | n + 2 => simp [lvlS]
  have hn0 : 0 < (lvlS lvl).length := by
    match lvl with
    | 0 => simp [lvlS]
    | 1 => simp [lvlS]
    | n + 2 => simp [lvlS]
  have HKL := Lib.hid (klevels_any lvl hl w)
  have HSP := Lib.hid (fun W => ksplit_any (lvlT lvl) (by match lvl, hl with
    | 0, _ => decide
    | 1, _ => decide
    | 2, _ => decide) W)
  rw [splitT lvl hl] at HSP
  have H := Lib.hid h
  have hkw := h.lt
  obtain ⟨Z, hZ⟩ : ∃ Z, Z = anyG (lvlS lvl) (L.drop a) := ⟨_, rfl⟩
  rw [← hZ]
  generalize lvlS lvl = l at *
  have HZ := Lib.hid hZ
  clear h hZ hok
  go_enter Tryd.func154, Tryd.ntmps154
  go_wp2_with (first | (go_at_call 173; refine HKL.out.mono ?_; rintro e w1 ⟨rfl, hb1⟩) | (go_at_call 172; refine (HSP.out _).mono ?_; rintro e w2 ⟨v, rfl, ho, hb2⟩; obtain ⟨A, cap, rfl⟩ := ho.form))
  have HP2 := Lib.hid ((H.out.below hb1).below hb2)
  have HR2 := Lib.hid (show RdSs w2 (fun b => w1.heap.size ≤ b ∧ b < w2.heap.size) l (.slice A l.length cap) from ho.rd (by omega))
  have HB2 := Lib.hid ((But.of_b (T := Is k) hb1).trans (But.of_b hb2))
  have hz1 := hb1.size
  have hz2 := hb2.size
  clear ho hb1 hb2 H HKL HSP
  go_loopw [14] (fun t wr => ∃ (j g : Nat), j ≤ l.length ∧ t = .int .i64 (j : Int) ∧ g ≤ a ∧ (0 < j → g = a) ∧ Hid (Z = anyG (l.drop j) (L.drop a)) ∧ Hid (RkAt k L wr g) ∧ Hid (But (Is k) w2 wr)) (fun t _ => l.length - (intOf t).toNat)
  case atStart => exact ⟨0, f, by omega, rfl, hf, fun h => by omega, HZ, HP2, Lib.hid (But.refl _ _)⟩
  case round =>
    obtain ⟨j, g, hj, rfl, hg, hjg, HK, HP, HB⟩ := hrel
    clear HP2 HZ
    by_cases hlt : j < l.length
    · have r := HR2.out.keep Flat.keeps (Sub.refl _) (HB.out.same (fun b hb => hb.2) (fun b hb e => by unfold Is at e; have := hb.1; omega))
      obtain ⟨b0, off, rfl, hb0, hok, hc⟩ := RdSs.at1 r hlt
      have HD := Lib.hid (show l.drop j = l[j] :: l.drop (j + 1) from List.drop_eq_getElem_cons hlt)
      generalize l[j] = x at hc hok HD
      have HI := Lib.hid (kword_any HP.out a ha hg x)
      clear r hb0
      cases hx : isT x (L.drop a)
      · have HK2 := Lib.hid (show Z = anyG (l.drop (j + 1)) (L.drop a) by rw [HK.out, HD.out, anyG, if_neg (by rw [hx]; simp)])
        rw [hx] at HI
        clear HK HD hx
        go_wp2_with (go_at_call 86; refine HI.out.mono ?_; rintro e w3 ⟨rfl, h1, hb1⟩)
        go_roundw
        case rel => exact ⟨j + 1, a, by omega, by go_num, Nat.le_refl _, fun _ => rfl, HK2, Lib.hid h1, Lib.hid (HB.out.trans hb1)⟩
        case measure => simp [intOf]; omega
      · have HK2 := Lib.hid (show Z = x by rw [HK.out, HD.out, anyG, if_pos hx])
        rw [hx] at HI
        clear HK HD hx
        go_wp2_with (go_at_call 86; refine HI.out.mono ?_; rintro e w3 ⟨rfl, h1, hb1⟩)
        go_ret2
        exact ⟨a + 1, by rw [HK2.out]; rfl, fun _ => rfl, h1, HB2.out.trans (HB.out.trans hb1)⟩
    · have hkl : j = l.length := by omega
      subst hkl
      have HK2 := Lib.hid (show Z = ⟨#[]⟩ by rw [HK.out, List.drop_length]; rfl)
      obtain rfl := hjg hn0
      go_wp2_with fail
      go_ret2
      exact ⟨_, by rw [HK2.out]; rfl, fun h => absurd HK2.out h, HP.out, HB2.out.trans HB.out⟩
end Go.Proofs.YtijahadmaggncaaDoor
