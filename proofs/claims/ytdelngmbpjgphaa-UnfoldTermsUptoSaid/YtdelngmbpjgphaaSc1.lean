/- The walks of the reference's Merge and lnot. -/
import Derived.Test.YtdelngmbpjgphaaStrL
import Derived.Test.YtdelngmbpjgphaaAppZ
namespace Go.Proofs.Ytdelngmbpjgphaa
open Go.RowKit
set_option linter.unusedVariables false
abbrev FrS := Fr encS okS 1 16
theorem merge_len (a b : List Str) : (merge a b).length ≤ a.length + b.length := by
  induction b generalizing a with
  | nil => exact Nat.le_refl _
  | cons x b ih =>
    rw [merge_cons]
    refine Nat.le_trans (ih _) ?_
    split <;> simp <;> omega
theorem lnot_len (a b : List Str) : (lnot a b).length ≤ a.length := List.length_filter_le _ _
theorem merge_step {l : List Str} {x : Str} (a b : List Str) {q : Nat} (hq : q < b.length) (hl : l = merge a (b.take q)) (hx : x = b[q]) :
    merge a (b.take (q + 1)) = if hasS l x = true then l else l ++ [x] := by
  subst hl hx
  rw [List.take_succ_eq_append_getElem hq, merge_snoc]
  unfold hasS
  by_cases h : b[q] ∈ merge a (b.take q) <;> simp [h]
theorem lnot_step (a b : List Str) {q : Nat} (hq : q < a.length) : lnot (a.take (q + 1)) b = if hasS b a[q] = true then lnot (a.take q) b else lnot (a.take q) b ++ [a[q]] := by
  unfold lnot
  rw [List.take_succ_eq_append_getElem hq, List.filter_append]
  by_cases h : a[q] ∈ b <;> simp [h, hasS]
set_option maxHeartbeats 1000000 in
set_option maxRecDepth 100000 in
theorem merge_new (a b : List Str) (w : World) (v u : Value) (r0 : FrS w a v) (r1 : FrS w b u) (hlen : a.length + b.length ≤ 1073741824) :
    Calls Try.prog 72 #[v, u] w fun e w' => ∃ x, e = .returned x ∧ RdSs w' (Plus Nowhere w.heap.size w'.heap.size) (merge a b) x ∧ Below w.heap.size w w' := by
  obtain ⟨S, hS, r⟩ := r0
  obtain ⟨T, hT, r'⟩ := r1
  obtain ⟨A, cap, rfl, hl, hcm, hby⟩ := r.form
  obtain ⟨A', cap', rfl, hl', hcm', _⟩ := r'.form
  unfold maxLen at hcm hcm'
  obtain ⟨i0, hi, hz0, hz1, hz2⟩ := info_parts infoStr
  have hb0 : Below w.heap.size w (w.alloc (.cells #[] 9)) := (Below.refl _ _).alloc (Nat.le_refl _) _
  have ho : OwnSs 9 (w.alloc (.cells #[] 9)) w.heap.size Nowhere [] (.slice (some ⟨w.heap.size, 0, none⟩) 0 0) := OwnL.empty w (Nat.le_refl _)
  have hx := (r.go Flat.keeps hb0 hS (Sub.refl _)).bare Nowhere
  have R1 := Lib.hid r'
  have HT := Lib.hid hT
  clear r r' hT hS
  go_enter Try.func72, Try.ntmps72
  go_wp2_with (at_builtin; refine wpList_append_list rfl _ _ 69 rfl i0 _ Try.underlying69 hi hz0 hz1 hz2 rfl (by decide) Flat.keeps ho hx rfl rfl (Sub.nowhere _) (Sub.nowhere _) not_nowhere oneS ?c3 ?c4 ?c5 ?_)
  case c3 => simp; unfold maxLen; omega
  case c4 => simp; omega
  case c5 => simp
  intro v1 w1 ho1 hg1 _
  have hb1 : Below w.heap.size w w1 := hb0.grown hg1 (by simp) (fun k hk => by simp [Value.ownBlock] at hk; omega)
  clear hg1 hb0 ho hx
  go_wp2_with fail
  go_loopw [5, 16] (fun o t wr => ∃ q : Nat, q ≤ b.length ∧ t = .int .i64 q ∧ Hid (OwnSs 9 wr w.heap.size Nowhere (merge a (b.take q)) o) ∧ Below w.heap.size w wr) (fun _ t _ => b.length - (intOf t).toNat)
  case atStart => exact ⟨0, by omega, rfl, Lib.hid ho1, hb1⟩
  case round =>
    clear ho1 hb1
    obtain ⟨q, hq, rfl, HO, hb⟩ := hrel
    have HML := Lib.hid (merge_len a (b.take q))
    obtain ⟨l, hlm⟩ : ∃ l, l = merge a (b.take q) := ⟨_, rfl⟩
    rw [← hlm] at HO HML
    have HLM := Lib.hid hlm
    clear hlm
    have hll : l.length ≤ a.length + q := by have := HML.out; simp at this; omega
    by_cases hlt : q < b.length
    · obtain ⟨bb, off, rfl, hsb, hok, hc⟩ := RdSs.at1 R1.out hlt
      have e0 := (hb.cell (p := ⟨bb, off + q, none⟩) (HT.out _ hsb)).trans hc
      have HST := Lib.hid (merge_step a b hlt HLM.out rfl)
      obtain ⟨x, hx⟩ : ∃ x, x = b[q] := ⟨_, rfl⟩
      rw [← hx] at e0 HST hok
      have HRD := Lib.hid (HO.out.toRd (bytes := 16) (S' := Plus Nowhere w.heap.size wr.heap.size) Flat.keeps (by omega) (Sub.nowhere _) (fun b h1 h2 => .inr ⟨h1, h2⟩))
      obtain ⟨A2, c2, rfl, hl2, hcm2, _⟩ := HRD.out.form
      unfold maxLen at hcm2
      have hq0 : (0 : Int) ≤ (q : Int) := by omega
      have hq1 : (q : Int) < (b.length : Int) := by omega
      have HOK := Lib.hid hok
      clear hc hx hok
      go_wp2_with fail
      go_loop [8, 22] (fun h t => ∃ k : Nat, k ≤ l.length ∧ t = .int .i64 k ∧ h = .bool (hasS (l.take k) x)) (fun _ t => l.length - (intOf t).toNat)
      case atStart => exact ⟨0, by omega, rfl, by rw [List.take_zero, hasS_nil]⟩
      case round =>
        obtain ⟨k, hk, rfl, rfl⟩ := hrel
        by_cases hlk : k < l.length
        · obtain ⟨b2, off2, rfl, hsb2, _, hc2⟩ := RdSs.at1 HRD.out hlk
          have HK := Lib.hid (hasS_take l x hlk)
          have hk0 : (0 : Int) ≤ (k : Int) := by omega
          have hk1 : (k : Int) < (l.length : Int) := by omega
          cases hh : hasS (l.take k) x
          · by_cases he : x = l[k]
            · have es := str_eq he
              have HK2 := Lib.hid (show hasS (l.take (k + 1)) x = true by rw [HK.out]; simp [he])
              clear HK he hh
              go_wp2
              go_round
              case rel => exact ⟨k + 1, by omega, by go_num, by rw [HK2.out]⟩
              case measure => simp [intOf]; omega
            · have es := str_ne he
              have HK2 := Lib.hid (show hasS (l.take (k + 1)) x = false by rw [HK.out, hh]; simp [he])
              clear HK he hh
              go_wp2
              go_round
              case rel => exact ⟨k + 1, by omega, by go_num, by rw [HK2.out]⟩
              case measure => simp [intOf]; omega
          · have HK2 := Lib.hid (show hasS (l.take (k + 1)) x = true by rw [HK.out, hh]; rfl)
            clear HK hh
            go_wp2
            go_round
            case rel => exact ⟨k + 1, by omega, by go_num, by rw [HK2.out]⟩
            case measure => simp [intOf]; omega
        · have hke : k = l.length := by omega
          subst hke
          rw [List.take_length]
          have hsz := hb.size
          cases hh : hasS l x
          · have HN := Lib.hid (show merge a (b.take (q + 1)) = l ++ [x] by rw [HST.out, hh]; rfl)
            clear hh HST HRD
            go_wp2_with (at_builtin; refine wpList_append_one rfl _ _ 69 rfl i0 _ Try.underlying69 hi hz0 hz1 hz2 rfl (by decide) Flat.keeps HO.out (x := x) (cs := [Value.string x]) (Tx := Nowhere) ?d0 rfl rfl rfl (Sub.nowhere _) (Sub.nowhere _) not_nowhere ?d1 ?d2 ?d3 ?d4 ?_)
            case d0 => exact ⟨rfl, HOK.out⟩
            case d1 => simp [Value.oneCell']
            case d2 => unfold maxLen; omega
            case d3 => omega
            try (case d4 => exact hsz)
            intro v2 w2 ho2 hg2 _
            have hb2 : Below w.heap.size w w2 := hb.grown hg2 hsz (fun g hg => (HO.out.lt g hg).1)
            have HO2 := Lib.hid ho2
            clear ho2 hg2 HO
            go_wp2
            go_roundw
            case rel => exact ⟨q + 1, by omega, by go_num, Lib.hid (by rw [HN.out]; exact HO2.out), hb2⟩
            case measure => simp [intOf]; omega
          · have HN := Lib.hid (show merge a (b.take (q + 1)) = l by rw [HST.out, hh]; rfl)
            clear hh HST HRD
            go_wp2
            go_roundw
            case rel => exact ⟨q + 1, by omega, by go_num, Lib.hid (by rw [HN.out]; exact HO.out), hb⟩
            case measure => simp [intOf]; omega
    · have hql : q = b.length := by omega
      subst hql
      have HR := Lib.hid (HO.out.toRd (bytes := 16) (S' := Plus Nowhere w.heap.size wr.heap.size) Flat.keeps (by omega) (Sub.nowhere _) (fun b h1 h2 => .inr ⟨h1, h2⟩))
      rw [List.take_length] at HLM
      clear HO HML
      go_wp2
      go_ret
      exact ⟨_, rfl, by rw [← HLM.out]; exact HR.out, hb⟩
theorem merge_any (a b : List Str) (w : World) (v u : Value) (r0 : FrS w a v) (r1 : FrS w b u) (hlen : a.length + b.length ≤ 1073741824) :
    Calls Try.prog 72 #[v, u] w fun e w' => ∃ x, e = .returned x ∧ FrS w' (merge a b) x ∧ Below w.heap.size w w' := by
  refine (merge_new a b w v u r0 r1 hlen).mono ?_
  rintro e w' ⟨x, rfl, h, hb⟩
  exact ⟨x, rfl, ⟨_, Sub.plus_upto (Sub.nowhere _), h⟩, hb⟩
set_option maxHeartbeats 1000000 in
set_option maxRecDepth 100000 in
theorem lnot_any (a b : List Str) (w : World) (v u : Value) (r0 : FrS w a v) (r1 : FrS w b u) (hlen : a.length ≤ 1073741824) :
    Calls Try.prog 70 #[v, u] w fun e w' => ∃ x, e = .returned x ∧ FrS w' (lnot a b) x ∧ Below w.heap.size w w' := by
  obtain ⟨S, hS, r⟩ := r0
  obtain ⟨T, hT, r'⟩ := r1
  obtain ⟨A, cap, rfl, hl, hcm, hby⟩ := r.form
  obtain ⟨A', cap', rfl, hl', hcm', _⟩ := r'.form
  unfold maxLen at hcm hcm'
  obtain ⟨i0, hi, hz0, hz1, hz2⟩ := info_parts infoStr
  have R0 := Lib.hid r
  have HS := Lib.hid hS
  have R1 := Lib.hid r'
  have HT := Lib.hid hT
  clear r r' hT hS
  go_enter Try.func70, Try.ntmps70
  go_wp2_with fail
  go_loopw [5, 13] (fun o t wr => ∃ q : Nat, q ≤ a.length ∧ t = .int .i64 q ∧ Hid (OwnSs 9 wr w.heap.size Nowhere (lnot (a.take q) b) o) ∧ Below w.heap.size w wr) (fun _ t _ => a.length - (intOf t).toNat)
  case atStart => exact ⟨0, by omega, rfl, Lib.hid (OwnL.nil _ _ _), Below.refl _ _⟩
  case round =>
    obtain ⟨q, hq, rfl, HO, hb⟩ := hrel
    have HML := Lib.hid (lnot_len (a.take q) b)
    by_cases hlt : q < a.length
    · obtain ⟨bb, off, rfl, hsb, hok, hc⟩ := RdSs.at1 R0.out hlt
      have e0 := (hb.cell (p := ⟨bb, off + q, none⟩) (HS.out _ hsb)).trans hc
      have HST := Lib.hid (lnot_step a b hlt)
      obtain ⟨x, hx⟩ : ∃ x, x = a[q] := ⟨_, rfl⟩
      rw [← hx] at e0 HST hok
      have HRD := Lib.hid (R1.out.go Flat.keeps hb HT.out (Sub.refl _))
      have hq0 : (0 : Int) ≤ (q : Int) := by omega
      have hq1 : (q : Int) < (a.length : Int) := by omega
      have HOK := Lib.hid hok
      clear hc hx hok
      go_wp2_with fail
      go_loop [8, 19] (fun h t => ∃ k : Nat, k ≤ b.length ∧ t = .int .i64 k ∧ h = .bool (hasS (b.take k) x)) (fun _ t => b.length - (intOf t).toNat)
      case atStart => exact ⟨0, by omega, rfl, by rw [List.take_zero, hasS_nil]⟩
      case round =>
        obtain ⟨k, hk, rfl, rfl⟩ := hrel
        by_cases hlk : k < b.length
        · obtain ⟨b2, off2, rfl, hsb2, _, hc2⟩ := RdSs.at1 HRD.out hlk
          have HK := Lib.hid (hasS_take b x hlk)
          have hk0 : (0 : Int) ≤ (k : Int) := by omega
          have hk1 : (k : Int) < (b.length : Int) := by omega
          cases hh : hasS (b.take k) x
          · by_cases he : x = b[k]
            · have es := str_eq he.symm
              have HK2 := Lib.hid (show hasS (b.take (k + 1)) x = true by rw [HK.out]; simp [he])
              clear HK he hh
              go_wp2
              go_round
              case rel => exact ⟨k + 1, by omega, by go_num, by rw [HK2.out]⟩
              case measure => simp [intOf]; omega
            · have es := str_ne (fun e => he (Eq.symm e) : ¬ b[k] = x)
              have HK2 := Lib.hid (show hasS (b.take (k + 1)) x = false by rw [HK.out, hh]; simp [he])
              clear HK he hh
              go_wp2
              go_round
              case rel => exact ⟨k + 1, by omega, by go_num, by rw [HK2.out]⟩
              case measure => simp [intOf]; omega
          · have HK2 := Lib.hid (show hasS (b.take (k + 1)) x = true by rw [HK.out, hh]; rfl)
            clear HK hh
            go_wp2
            go_round
            case rel => exact ⟨k + 1, by omega, by go_num, by rw [HK2.out]⟩
            case measure => simp [intOf]; omega
        · have hke : k = b.length := by omega
          subst hke
          rw [List.take_length]
          have hsz := hb.size
          have hll : (lnot (a.take q) b).length ≤ q := by have := HML.out; simp at this; omega
          cases hh : hasS b x
          · have HN := Lib.hid (show lnot (a.take (q + 1)) b = lnot (a.take q) b ++ [x] by rw [HST.out, hh]; rfl)
            clear hh HST HRD
            generalize lnot (a.take q) b = l at *
            go_wp2_with (at_builtin; refine wpList_append_one rfl _ _ 69 rfl i0 _ Try.underlying69 hi hz0 hz1 hz2 rfl (by decide) Flat.keeps HO.out (x := x) (cs := [Value.string x]) (Tx := Nowhere) ?d0 rfl rfl rfl (Sub.nowhere _) (Sub.nowhere _) not_nowhere ?d1 ?d2 ?d3 ?d4 ?_)
            case d0 => exact ⟨rfl, HOK.out⟩
            case d1 => simp [Value.oneCell']
            case d2 => unfold maxLen; omega
            case d3 => omega
            try (case d4 => exact hsz)
            intro v2 w2 ho2 hg2 _
            have hb2 : Below w.heap.size w w2 := hb.grown hg2 hsz (fun g hg => (HO.out.lt g hg).1)
            have HO2 := Lib.hid ho2
            clear ho2 hg2 HO
            go_wp2
            go_roundw
            case rel => exact ⟨q + 1, by omega, by go_num, Lib.hid (by rw [HN.out]; exact HO2.out), hb2⟩
            case measure => simp [intOf]; omega
          · have HN := Lib.hid (show lnot (a.take (q + 1)) b = lnot (a.take q) b by rw [HST.out, hh]; rfl)
            clear hh HST HRD
            go_wp2
            go_roundw
            case rel => exact ⟨q + 1, by omega, by go_num, Lib.hid (by rw [HN.out]; exact HO.out), hb⟩
            case measure => simp [intOf]; omega
    · have hql : q = a.length := by omega
      subst hql
      have hll : (lnot (a.take a.length) b).length ≤ a.length := by have := HML.out; simp at this ⊢; omega
      have HR := Lib.hid (HO.out.toRd (bytes := 16) (S' := Plus Nowhere w.heap.size wr.heap.size) Flat.keeps (by omega) (Sub.nowhere _) (fun b h1 h2 => .inr ⟨h1, h2⟩))
      have HLN := Lib.hid (show lnot (a.take a.length) b = lnot a b by rw [List.take_length])
      clear HO HML hll
      go_wp2
      go_ret
      exact ⟨_, rfl, ⟨_, Sub.plus_upto (Sub.nowhere _), by rw [← HLN.out]; exact HR.out⟩, hb⟩
end Go.Proofs.Ytdelngmbpjgphaa
