/- The walks of lex.Join and of the reference's JJoin. -/
import Derived.Test.YtijahadmaggncaaDoorLex3
import Derived.Test.YtijahadmaggncaaDoorBldLib
namespace Go.Proofs.YtijahadmaggncaaDoor
open Go.RowKit
set_option linter.unusedVariables false
/-- a token that came in -/
structure ATok where
  kind : Int
  pos : Int
  text : List UInt8
def encA (t : ATok) : List Value := [.int .i64 t.kind, .int .i64 t.pos, .string ⟨t.text.toArray⟩]
def okA (t : ATok) : Prop := inI t.kind ∧ inI t.pos ∧ t.text.length ≤ 9223372036854775807
abbrev RdATs := RdL (Flat encA okA) 3 32
/-- the first q texts, with a blank between -/
def jnF (l : List ATok) : Nat → List UInt8
  | 0 => []
  | q + 1 => jnF l q ++ (if q = 0 then [] else [32]) ++ ((l[q]?).map ATok.text).getD []
def jjF (l : List ATok) : Nat → List UInt8
  | 0 => []
  | q + 1 => jjF l q ++ (32 :: ((l[q]?).map ATok.text).getD [])
theorem jj_jn (l : List ATok) (q : Nat) : jjF l (q + 1) = 32 :: jnF l (q + 1) := by
  induction q with
  | zero => simp [jjF, jnF]
  | succ q ih =>
    conv => lhs; unfold jjF
    rw [ih]
    conv => rhs; unfold jnF
    simp
def textsL (l : List ATok) : Nat := (l.map fun t => t.text.length + 1).sum
theorem jnF_len (l : List ATok) : ∀ q, q ≤ l.length → (jnF l q).length ≤ textsL (l.take q) := by
  intro q
  induction q with
  | zero => intro _; simp [jnF]
  | succ q ih =>
    intro h
    have h1 := ih (by omega)
    unfold jnF textsL
    unfold textsL at h1
    rw [List.take_succ_eq_append_getElem h, List.map_append, List.sum_append, List.getElem?_eq_getElem h]
    simp only [List.length_append, Option.map_some, Option.getD_some, List.map_cons, List.map_nil, List.sum_cons, List.sum_nil]
    split <;> simp only [List.length_nil, List.length_cons] <;> omega
theorem textsL_take (l : List ATok) (q : Nat) : textsL (l.take q) ≤ textsL l := by
  unfold textsL
  conv => rhs; rw [← List.take_append_drop q l]
  rw [List.map_append, List.sum_append]
  omega
theorem jjF_len (l : List ATok) (q : Nat) (h : q ≤ l.length) : (jjF l q).length ≤ textsL l + 1 := by
  cases q with
  | zero => simp [jjF]
  | succ q =>
    rw [jj_jn]
    have h1 := jnF_len l (q + 1) h
    have h2 := textsL_take l (q + 1)
    simp only [List.length_cons]
    omega
theorem toks_at {w : World} {S : Blocks} {l : List ATok} {A : Option Addr} {n cap : Nat} (r : RdATs w S l (.slice A n cap)) {q : Nat} (hq : q < l.length) :
    ∃ b off, A = some ⟨b, off, none⟩ ∧ S b ∧ okA l[q] ∧ w.cell? ⟨b, off + q * 3, none⟩ = some (.int .i64 l[q].kind) ∧ w.cell? ⟨b, off + q * 3 + 1, none⟩ = some (.int .i64 (l[q].pos : Int)) ∧ w.cell? ⟨b, off + q * 3 + 2, none⟩ = some (.string ⟨l[q].text.toArray⟩) := by
  obtain ⟨b, off, hA, hb, hok, hc⟩ := r.flat hq
  exact ⟨b, off, hA, hb, hok, hc 0 _ rfl, hc 1 _ rfl, hc 2 _ rfl⟩
set_option maxHeartbeats 1000000 in
set_option maxRecDepth 100000 in
theorem jjoin_any (l : List ATok) (w : World) (S : Blocks) (v : Value) (hS : Sub S (Upto w.heap.size)) (r : RdATs w S l v) (hT : textsL l ≤ 140737488355000) :
    Calls Tryd.prog 21 #[v] w fun e w' => e = .returned (.string ⟨(jnF l l.length).toArray⟩) ∧ Below w.heap.size w w' := by
  obtain ⟨A, cap, rfl, hl, hcm, hby⟩ := r.form
  unfold maxLen at hcm
  have R := Lib.hid r
  clear r
  have HLEN := Lib.hid (jjF_len l)
  obtain ⟨n, hn⟩ : ∃ n, n = l.length := ⟨_, rfl⟩
  have HN := Lib.hid hn
  rw [← hn] at hl hby ⊢
  have HW := Lib.hid (show n = l.length from hn)
  clear hn
  go_enter Tryd.func21, Tryd.ntmps21
  go_wp2_with fail
  go_loopw [3, 8] (fun s u wr => ∃ (q : Nat) (x : ByteArray), q ≤ n ∧ u = .int .i64 (q : Int) ∧ s = .string x ∧ Hid (x.data.toList = jjF l q) ∧ Below w.heap.size w wr) (fun _ u _ => n - (intOf u).toNat)
  case atStart => exact ⟨0, ⟨#[]⟩, Nat.zero_le _, rfl, rfl, Lib.hid rfl, Below.refl _ _⟩
  case round =>
    obtain ⟨q, x, hq, rfl, rfl, HX, hb⟩ := hrel
    by_cases hlt : q < n
    · obtain ⟨b, off, rfl, hbS, hok, e0, e1, e2⟩ := toks_at R.out (q := q) (by rw [← HN.out]; exact hlt)
      have hbw : b < w.heap.size := hS b hbS
      replace e0 := (hb.cell (p := ⟨b, off + q * 3, none⟩) hbw).trans e0
      replace e1 := (hb.cell (p := ⟨b, off + q * 3 + 1, none⟩) hbw).trans e1
      replace e2 := (hb.cell (p := ⟨b, off + q * 3 + 2, none⟩) hbw).trans e2
      have HQ := Lib.hid (show l[q]? = some (l[q]'(by rw [← HN.out]; exact hlt)) from List.getElem?_eq_getElem _)
      obtain ⟨t, ht⟩ : ∃ t, t = l[q]'(by rw [← HN.out]; exact hlt) := ⟨_, rfl⟩
      rw [← ht] at e0 e1 e2 HQ
      clear ht hok
      obtain ⟨y, hy⟩ : ∃ y : ByteArray, y = ⟨t.text.toArray⟩ := ⟨_, rfl⟩
      have HY := Lib.hid (show y.data.toList = t.text by rw [hy])
      rw [← hy] at e2
      clear hy
      have c0 := (Blk.made wr [.int .i64 t.kind, .int .i64 (t.pos : Int), .string y] 55 (base := 0) (Nat.zero_le _)).cell 2 _ rfl
      have q0 : (0 : Int) ≤ (q : Int) := by omega
      have q1 : (q : Int) < (n : Int) := by omega
      have hqw2 : wrap64 ((q : Int) + 1) = (q : Int) + 1 := IntWalk.wrap64_in _ (by omega)
      have HXL := Lib.hid (show x.data.toList.length + 1 + y.size ≤ 140737488355328 from by
        have h1 := HLEN.out (q + 1) (by rw [← HN.out]; omega)
        rw [HX.out, Lib.size_eq y, HY.out]
        unfold jjF at h1
        rw [HQ.out] at h1
        simp only [List.length_append, List.length_cons, Option.map_some, Option.getD_some] at h1
        omega)
      have hxy : x.size + 1 + y.size ≤ 140737488355328 := by have := HXL.out; rwa [← Lib.size_eq] at this
      have hy1 : 1 + y.size ≤ 9223372036854775807 := by omega
      have hy2 : x.size + (1 + y.size) ≤ 9223372036854775807 := by omega
      clear HXL
      have HX2 := Lib.hid (show (x ++ ((⟨#[32]⟩ : ByteArray) ++ y)).data.toList = jjF l (q + 1) from by
        unfold jjF
        rw [HQ.out]
        simp only [ByteArray.data_append, Array.toList_append, HX.out, HY.out, Option.map_some, Option.getD_some]
        rfl)
      have B2 := hb.alloc hb.size (.cells #[.int .i64 t.kind, .int .i64 (t.pos : Int), .string y] 55)
      clear hb
      go_wp2_with fail
      go_roundw
      case rel => exact ⟨q + 1, _, by omega, by go_num, rfl, HX2, B2⟩
      case measure => simp [intOf]; omega
    · have hqn : q = n := by omega
      subst hqn
      by_cases h0 : 0 < q
      · have hxs : x.size = (jnF l q).length + 1 := by
          rw [Lib.size_eq, HX.out]
          obtain ⟨p, rfl⟩ : ∃ p, q = p + 1 := ⟨q - 1, by omega⟩
          rw [jj_jn]; rfl
        have HZ := Lib.hid (show x.extract 1 x.size = ⟨(jnF l q).toArray⟩ from by
          apply of_list
          rw [Lib.extract_data, HX.out, hxs]
          obtain ⟨p, rfl⟩ : ∃ p, q = p + 1 := ⟨q - 1, by omega⟩
          rw [jj_jn, List.drop_succ_cons, List.drop_zero, Nat.add_sub_cancel, List.take_length])
        have h1x : 1 ≤ x.size := by omega
        clear hxs
        go_wp2_with fail
        go_ret
        exact ⟨by rw [HZ.out]; rfl, hb⟩
      · have hq0 : q = 0 := by omega
        subst hq0
        have HZ := Lib.hid (show x = ⟨#[]⟩ from of_list _ _ (by rw [HX.out]; rfl))
        go_wp2_with fail
        go_ret
        exact ⟨by rw [HZ.out]; rfl, hb⟩
end Go.Proofs.YtijahadmaggncaaDoor
