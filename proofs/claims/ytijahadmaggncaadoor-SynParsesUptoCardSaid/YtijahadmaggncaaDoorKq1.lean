/- The reader of KParse: its block; word, words, name. -/
import Derived.Test.YtijahadmaggncaaDoorPq2
namespace Go.Proofs.YtijahadmaggncaaDoor
open Go.RowKit
set_option linter.unusedVariables false
/-- block k: the reader: its tokens, and the farthest one that was looked at -/
def RkAt (k : Nat) (L : List LTok) (w : World) (f : Nat) : Prop := ∃ v, Blk 0 w k [v, .int .i64 (f : Int)] ∧ RdToks w (Upto k) L v ∧ (∀ t ∈ L, tokOk t) ∧ L.length ≤ 1048576 ∧ f ≤ L.length
section
variable {k f : Nat} {L : List LTok} {w w' : World}
theorem RkAt.lt (h : RkAt k L w f) : k < w.heap.size := by obtain ⟨v, h, _⟩ := h; exact h.lt
theorem RkAt.below (h : RkAt k L w f) (hb : Below w.heap.size w w') : RkAt k L w' f := by
  have hlt := h.lt
  obtain ⟨v, h, r, o⟩ := h
  exact ⟨v, h.below hb, r.go Flat.keeps (hb.mono (Nat.le_of_lt hlt)) (Sub.refl _) (Sub.refl _), o⟩
theorem RkAt.but {z : Nat} (h : RkAt k L w f) (hb : But (Is z) w w') (hz : k < z) : RkAt k L w' f := by
  have hlt := h.lt
  obtain ⟨v, h, r, o⟩ := h
  exact ⟨v, h.but hb (fun e => by unfold Is at e; omega), r.keep Flat.keeps (Sub.refl _) (hb.same (fun j hj => Nat.lt_trans hj hlt) (fun j hj e => by unfold Is at e; unfold Upto at hj; omega)), o⟩
theorem RkAt.len (h : RkAt k L w f) : L.length ≤ 1048576 ∧ f ≤ L.length := by obtain ⟨v, _, _, _, h1, h2⟩ := h; exact ⟨h1, h2⟩
theorem RkAt.toks (h : RkAt k L w f) : ∀ t ∈ L, tokOk t := by obtain ⟨v, _, _, h, _⟩ := h; exact h
theorem RkAt.open_ (h : RkAt k L w f) : ∃ A cap, w.cell? ⟨k, 0, none⟩ = some (.slice A L.length cap) ∧ w.cell? ⟨k, 1, none⟩ = some (.int .i64 (f : Int)) ∧ w.frozen? ⟨k, 1, none⟩ = false ∧
    (∀ g, g ≤ L.length → RkAt k L (w.setCell ⟨k, 1, none⟩ (.int .i64 (g : Int))) g) := by
  obtain ⟨v, h, r, o⟩ := h
  obtain ⟨A, cap, rfl, h1, h2, _⟩ := r.form
  exact ⟨A, cap, h.cell 0 _ rfl, h.cell 1 _ rfl, h.fr 1, fun g hg => ⟨_, h.set (i := 1) (by simp) _, r.stored Flat.keeps (fun hk => Nat.lt_irrefl _ hk) _, o.1, o.2.1, hg⟩⟩
theorem RkAt.tok (h : RkAt k L w f) {a : Nat} {t : LTok} {r : List LTok} (hd : L.drop a = t :: r) : ∃ b off cap, w.cell? ⟨k, 0, none⟩ = some (.slice (some ⟨b, off, none⟩) L.length cap) ∧ a < L.length ∧ b < k ∧ okT t ∧ L.drop (a + 1) = r ∧
    w.cell? ⟨b, off + a * 3, none⟩ = some (.int .i64 t.kind) ∧ w.cell? ⟨b, off + a * 3 + 1, none⟩ = some (.int .i64 t.pos) ∧ w.cell? ⟨b, off + a * 3 + 2, none⟩ = some (.string t.str) := by
  have hlt : a < L.length := by
    rcases Nat.lt_or_ge a L.length with h' | h'
    · exact h'
    · rw [List.drop_eq_nil_of_le h'] at hd; cases hd
  rw [List.drop_eq_getElem_cons hlt] at hd
  injection hd with h1 h2
  obtain ⟨v, h, rr, o⟩ := h
  obtain ⟨A, cap, rfl, _⟩ := rr.form
  obtain ⟨b, off, rfl, hb, hok, hc⟩ := RdL.flat rr (q := a) hlt
  rw [h1] at hok hc
  refine ⟨b, off, cap, h.cell 0 _ rfl, hlt, hb, hok, h2, ?_, ?_, ?_⟩
  · have := hc 0 _ rfl; simpa using this
  · have := hc 1 _ rfl; simpa [Nat.add_assoc] using this
  · have := hc 2 _ rfl; simpa [Nat.add_assoc] using this
end
theorem drop_end {L : List LTok} {a : Nat} (ha : a ≤ L.length) (h : L.drop a = []) : a = L.length := by
  rcases Nat.lt_or_ge a L.length with h' | h'
  · rw [List.drop_eq_getElem_cons h'] at h; cases h
  · omega
set_option maxHeartbeats 1000000 in
set_option maxRecDepth 100000 in
theorem kword_any {k f : Nat} {L : List LTok} {w : World} (h : RkAt k L w f) (a : Nat) (ha : a ≤ L.length) (hf : f ≤ a) (s : Str) :
    Calls Tryd.prog 86 #[.pointer (some ⟨k, 0, none⟩), .int .i64 (a : Int), .string s] w fun e w' => e = .returned (.bool (isT s (L.drop a))) ∧ RkAt k L w' a ∧ But (Is k) w w' := by
  have hll := h.len.1
  obtain ⟨A, cap, c0, c1, f1, hset⟩ := h.open_
  have HS := Lib.hid (hset a ha)
  have HB := Lib.hid ((But.refl (Is k) w).setCell (p := ⟨k, 1, none⟩) (show Is k k from rfl) (.int .i64 (a : Int)))
  have hmax : max (f : Int) (a : Int) = (a : Int) := by omega
  cases hd : L.drop a with
  | nil =>
    have hae := drop_end ha hd
    have hge : ¬ (a : Int) < (L.length : Int) := by omega
    clear h hset hd hae
    go_enter Tryd.func86, Tryd.ntmps86
    go_wp2
    go_ret
    exact ⟨rfl, HS.out, HB.out⟩
  | cons t r =>
    obtain ⟨b, off, cap2, k9, hlt, hbk, hok, hr, k0, k1, k2⟩ := h.tok hd
    have hlt' : (a : Int) < (L.length : Int) := by omega
    have HI := Lib.hid (show isT s (t :: r) = (t.str.toList == s.toList) from rfl)
    rw [c0] at k9
    injection k9 with k9
    injection k9 with e1 e2 e3
    subst e1
    have hbk2 : ¬ b = k := by omega
    generalize t.str = y at *
    clear h hset hd hr e2 e3
    go_enter Tryd.func86, Tryd.ntmps86
    go_wp2
    go_ret
    exact ⟨by rw [HI.out]; rfl, HS.out, HB.out⟩
/-- a row of words in blocks that are not the reader's -/
def KwOut (k : Nat) (L : List LTok) (w : World) (o : PR Unit) (e : Ending) (w' : World) : Prop :=
  match o with
  | .ok _ r => ∃ b f : Nat, e = .returned (.tuple #[.int .i64 (b : Int), .bool true]) ∧ L.drop b = r ∧ b ≤ L.length ∧ f ≤ b ∧ RkAt k L w' f ∧ But (Is k) w w'
  | .no r => ∃ (z : Int) (f : Nat), e = .returned (.tuple #[.int .i64 z, .bool false]) ∧ L.drop f = r ∧ RkAt k L w' f ∧ But (Is k) w w'
set_option maxHeartbeats 1000000 in
set_option maxRecDepth 100000 in
theorem kwords_any {k f : Nat} {L : List LTok} {w : World} {l : List Str} {v : Value} (h : RkAt k L w f) (a : Nat) (ha : a ≤ L.length) (hf : f ≤ a) (r : WordsAt k w l v) :
    Calls Tryd.prog 122 #[.pointer (some ⟨k, 0, none⟩), .int .i64 (a : Int), v] w (KwOut k L w (wantG l (L.drop a))) := by
  have hll := h.len.1
  have hfm : ∃ A cap, v = .slice A l.length cap ∧ l.length ≤ 9223372036854775807 := by
    obtain ⟨S, hS, r⟩ := r
    obtain ⟨A, cap, rfl, h1, h2, _⟩ := r.form
    unfold maxLen at h2
    exact ⟨A, cap, rfl, by omega⟩
  obtain ⟨A, cap, rfl, hl⟩ := hfm
  have R := Lib.hid r
  have H := Lib.hid h
  obtain ⟨Z, hZ⟩ : ∃ Z, Z = wantG l (L.drop a) := ⟨_, rfl⟩
  rw [← hZ]
  have HZ := Lib.hid hZ
  clear r h hZ
  go_enter Tryd.func122, Tryd.ntmps122
  go_wp2
  go_loopw [1, 12] (fun u t wr => ∃ (j b f : Nat), j ≤ l.length ∧ u = .int .i64 (b : Int) ∧ t = .int .i64 (j : Int) ∧ b ≤ L.length ∧ f ≤ b ∧ Hid (Z = wantG (l.drop j) (L.drop b)) ∧ Hid (RkAt k L wr f) ∧ Hid (But (Is k) w wr)) (fun _ t _ => l.length - (intOf t).toNat)
  case atStart => exact ⟨0, a, f, by omega, rfl, rfl, ha, hf, HZ, H, Lib.hid (But.refl _ _)⟩
  case round =>
    obtain ⟨j, b, g, hj, rfl, rfl, hb, hg, HK, HP, HB⟩ := hrel
    clear H HZ
    by_cases hlt : j < l.length
    · obtain ⟨S, hS, r⟩ := R.out.go HB.out
      obtain ⟨b0, off, rfl, hb0, hok, hc⟩ := r.at1 hlt
      have HD := Lib.hid (show l.drop j = l[j] :: l.drop (j + 1) from List.drop_eq_getElem_cons hlt)
      generalize l[j] = x at hc hok HD
      have HI := Lib.hid (kword_any HP.out b hb hg x)
      clear r hS hb0
      cases hx : isT x (L.drop b)
      · have HK2 := Lib.hid (show Z = .no (L.drop b) by rw [HK.out, HD.out, wantG, if_neg (by rw [hx]; simp)])
        rw [hx] at HI
        clear HK HD hx
        go_wp2_with (go_at_call 86; refine HI.out.mono ?_; rintro e w1 ⟨rfl, h1, hb1⟩)
        go_ret2
        rw [HK2.out]
        exact ⟨_, b, rfl, rfl, h1, HB.out.trans hb1⟩
      · obtain ⟨t, q2, hd, _⟩ := isT_true hx
        obtain ⟨_, _, _, _, hbl, _, _, hdr, _⟩ := HP.out.tok hd
        have HK2 := Lib.hid (show Z = wantG (l.drop (j + 1)) (L.drop (b + 1)) by rw [HK.out, HD.out, wantG, if_pos hx, hd, hdr]; rfl)
        rw [hx] at HI
        clear HK HD hx hd hdr
        go_wp2_with (go_at_call 86; refine HI.out.mono ?_; rintro e w1 ⟨rfl, h1, hb1⟩)
        go_roundw
        case rel => exact ⟨j + 1, b + 1, b, by omega, by go_num, by go_num, by omega, by omega, HK2, Lib.hid h1, Lib.hid (HB.out.trans hb1)⟩
        case measure => simp [intOf]; omega
    · have hkl : j = l.length := by omega
      subst hkl
      have HK2 := Lib.hid (show Z = .ok () (L.drop b) by rw [HK.out, List.drop_length]; rfl)
      go_wp2_with fail
      go_ret2
      rw [HK2.out]
      exact ⟨b, g, rfl, rfl, hb, hg, HP.out, HB.out⟩
/-- what a reading function of the reader does -/
def KOut {α : Type} (k : Nat) (L : List LTok) (w : World) (rd : World → α → Value → Prop) (o : PR α) (e : Ending) (w' : World) : Prop :=
  match o with
  | .ok x r => ∃ (V : Value) (b f : Nat), e = .returned (.tuple #[V, .int .i64 (b : Int), .bool true]) ∧ rd w' x V ∧ L.drop b = r ∧ b ≤ L.length ∧ f ≤ b ∧ RkAt k L w' f ∧ But (Is k) w w'
  | .no r => ∃ (V : Value) (z : Int) (f : Nat), e = .returned (.tuple #[V, .int .i64 z, .bool false]) ∧ (∃ x, rd w' x V) ∧ L.drop f = r ∧ RkAt k L w' f ∧ But (Is k) w w'
def strS (_ : World) (s : Str) (x : Value) : Prop := x = .string s ∧ s.size ≤ 1048576
set_option maxHeartbeats 1000000 in
set_option maxRecDepth 100000 in
theorem krname_any {k f : Nat} {L : List LTok} {w : World} (h : RkAt k L w f) (a : Nat) (ha : a ≤ L.length) (hf : f ≤ a) :
    Calls Tryd.prog 120 #[.pointer (some ⟨k, 0, none⟩), .int .i64 (a : Int)] w (KOut k L w strS (nameG (L.drop a))) := by
  have hll := h.len.1
  have htk := h.toks
  obtain ⟨A, cap, c0, c1, f1, hset⟩ := h.open_
  have HS := Lib.hid (hset a ha)
  have HB := Lib.hid ((But.refl (Is k) w).setCell (p := ⟨k, 1, none⟩) (show Is k k from rfl) (.int .i64 (a : Int)))
  have hmax : max (f : Int) (a : Int) = (a : Int) := by omega
  cases hd : L.drop a with
  | nil =>
    have hae := drop_end ha hd
    have hge : ¬ (a : Int) < (L.length : Int) := by omega
    have HD := Lib.hid hd
    clear h hset hd hae htk
    go_enter Tryd.func120, Tryd.ntmps120
    go_wp2
    go_ret3
    exact ⟨_, _, a, rfl, ⟨⟨#[]⟩, rfl, by decide⟩, HD.out, HS.out, HB.out⟩
  | cons t r =>
    obtain ⟨b, off, cap2, k9, hlt, hbk, hok, hr, k0, k1, k2⟩ := h.tok hd
    have hlt' : (a : Int) < (L.length : Int) := by omega
    have htt := htk t (by have : t ∈ L.drop a := by rw [hd]; exact List.mem_cons_self ..
                          exact List.mem_of_mem_drop this)
    rw [c0] at k9
    injection k9 with k9
    injection k9 with e1 e2 e3
    subst e1
    have hbk2 : ¬ b = k := by omega
    have hkw := h.lt
    have hbw : b < w.heap.size := by omega
    have HD := Lib.hid hd
    have HR := Lib.hid hr
    have HSZ := Lib.hid htt.2
    obtain ⟨Z, hZ⟩ : ∃ Z, Z = nameG (t :: r) := ⟨_, rfl⟩
    rw [← hZ]
    by_cases hk : t.kind = 2
    · have hkn := htt.1.name hk
      have hk2 : (t.kind == 2) = true := by simpa using hk
      have hsz : t.str.size ≤ 1048576 := htt.2
      have HNM := Lib.hid (fun W => kname_any t.str (by omega) W)
      have HT1 := Lib.hid (fun w1 (hb1 : Below (w.setCell ⟨k, 1, none⟩ (.int .i64 (a : Int))).heap.size (w.setCell ⟨k, 1, none⟩ (.int .i64 (a : Int))) w1) => show w1.cell? ⟨k, 0, none⟩ = some (.slice (some ⟨b, off, none⟩) L.length cap) ∧ w1.cell? ⟨b, off + a * 3 + 2, none⟩ = some (.string t.str) from by
        refine ⟨(hb1.cell (p := ⟨k, 0, none⟩) (by rw [size_setCell]; exact hkw)).trans ?_, (hb1.cell (p := ⟨b, off + a * 3 + 2, none⟩) (by rw [size_setCell]; exact hbw)).trans ?_⟩
        · rw [World.cell?_setCell_other _ _ _ _ (by simp)]; exact c0
        · rw [World.cell?_setCell_other _ _ _ _ (by simp)]; exact k2)
      cases hx : keptB t.str
      · have HZ := Lib.hid (show Z = .ok t.str r by rw [hZ, nameG, if_pos ⟨hk, hx⟩])
        rw [hkn, hx] at HNM
        clear h hset hd hr e2 e3 htk htt hkn hx hZ hk
        generalize t.str = y at *
        go_enter Tryd.func120, Tryd.ntmps120
        go_wp2_with (go_at_call 68; refine (HNM.out _).mono ?_; rintro e w1 ⟨rfl, hb1⟩; obtain ⟨g0, g2⟩ := HT1.out w1 hb1)
        go_ret3
        rw [HZ.out]
        exact ⟨_, a + 1, a, rfl, ⟨rfl, hsz⟩, HR.out, by omega, by omega, HS.out.below hb1, HB.out.trans (But.of_b hb1)⟩
      · have HZ := Lib.hid (show Z = .no (t :: r) by rw [hZ, nameG, if_neg (by rw [hx]; simp)])
        rw [hkn, hx] at HNM
        clear h hset hd hr e2 e3 htk htt hkn hx hZ hk
        generalize t.str = y at *
        go_enter Tryd.func120, Tryd.ntmps120
        go_wp2_with (go_at_call 68; refine (HNM.out _).mono ?_; rintro e w1 ⟨rfl, hb1⟩)
        go_ret3
        rw [HZ.out]
        exact ⟨_, _, a, rfl, ⟨⟨#[]⟩, rfl, by decide⟩, HD.out, HS.out.below hb1, HB.out.trans (But.of_b hb1)⟩
    · have hk2 : (t.kind == 2) = false := by simpa using hk
      have HZ := Lib.hid (show Z = .no (t :: r) by rw [hZ, nameG, if_neg (by intro h; exact hk h.1)])
      clear h hset hd hr e2 e3 htk htt hZ hk
      go_enter Tryd.func120, Tryd.ntmps120
      go_wp2
      go_ret3
      rw [HZ.out]
      exact ⟨_, _, a, rfl, ⟨⟨#[]⟩, rfl, by decide⟩, HD.out, HS.out, HB.out⟩
end Go.Proofs.YtijahadmaggncaaDoor
