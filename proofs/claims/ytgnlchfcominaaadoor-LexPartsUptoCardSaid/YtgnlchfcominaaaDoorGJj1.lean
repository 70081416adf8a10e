/- Texts merged: BldLib, Jj1. -/
import Derived.Shelf.Strings.BuilderF
import Derived.Shelf.Strings.BuilderK
import Derived.Test.YtgnlchfcominaaaDoorBase
import Derived.Test.YtgnlchfcominaaaDoorLex3
/- strings.Builder at this dump, by the shelf's contracts. -/
namespace Go.Proofs.YtgnlchfcominaaaDoor
open Go.Shelf Go.RowKit
set_option linter.unusedVariables false
def laysWB_ren : Go.Shelf.Ren := ⟨fun | 167 => 21 | 240 => 39 | 276 => 55 | n => n, fun | 70 => 45 | 5 => 5 | 75 => 50 | 0 => 0 | 72 => 48 | 37 => 46 | 4 => 4 | 164 => 96 | 80 => 54 | 9 => 9 | 20 => 20 | n => n, fun | n => n⟩
theorem laysWB : Go.Proofs.Lays.n167 Tryd.prog laysWB_ren where
  mixed := by kernel_rfl
  f167 := Tryd.func21.trans (congrArg some (by kernel_rfl))
  f240 := Tryd.func39.trans (congrArg some (by kernel_rfl))
  f276 := Tryd.func55.trans (congrArg some (by kernel_rfl))
  t0 := Tryd.underlying0
  a0 := Tryd.isAgg0
  z0 := Tryd.sizeOf0
  v0 := Tryd.zeroValue0
  t4 := Tryd.underlying4
  a4 := Tryd.isAgg4
  z4 := Tryd.sizeOf4
  v4 := Tryd.zeroValue4
  t5 := Tryd.underlying5
  a5 := Tryd.isAgg5
  z5 := Tryd.sizeOf5
  v5 := Tryd.zeroValue5
  t9 := Tryd.underlying9
  a9 := Tryd.isAgg9
  z9 := Tryd.sizeOf9
  v9 := Tryd.zeroValue9
  t20 := Tryd.underlying20
  a20 := Tryd.isAgg20
  z20 := Tryd.sizeOf20
  v20 := Tryd.zeroValue20
  t37 := Tryd.underlying46
  a37 := Tryd.isAgg46
  z37 := Tryd.sizeOf46
  v37 := Tryd.zeroValue46
  t70 := Tryd.underlying45
  a70 := Tryd.isAgg45
  z70 := Tryd.sizeOf45
  v70 := Tryd.zeroValue45
  t72 := Tryd.underlying48
  a72 := Tryd.isAgg48
  z72 := Tryd.sizeOf48
  v72 := Tryd.zeroValue48
  t75 := Tryd.underlying50
  a75 := Tryd.isAgg50
  z75 := Tryd.sizeOf50
  v75 := Tryd.zeroValue50
  t164 := Tryd.underlying96
  a164 := Tryd.isAgg96
  z164 := Tryd.sizeOf96
  v164 := Tryd.zeroValue96
def laysWS_ren : Go.Shelf.Ren := ⟨fun | 166 => 22 | 240 => 39 | 276 => 55 | n => n, fun | 70 => 45 | 9 => 9 | 3 => 3 | 75 => 50 | 0 => 0 | 72 => 48 | 37 => 46 | 4 => 4 | 164 => 96 | 80 => 54 | 5 => 5 | 20 => 20 | n => n, fun | n => n⟩
theorem laysWS : Go.Proofs.Lays.n166 Tryd.prog laysWS_ren where
  mixed := by kernel_rfl
  f166 := Tryd.func22.trans (congrArg some (by kernel_rfl))
  f240 := Tryd.func39.trans (congrArg some (by kernel_rfl))
  f276 := Tryd.func55.trans (congrArg some (by kernel_rfl))
  t0 := Tryd.underlying0
  a0 := Tryd.isAgg0
  z0 := Tryd.sizeOf0
  v0 := Tryd.zeroValue0
  t3 := Tryd.underlying3
  a3 := Tryd.isAgg3
  z3 := Tryd.sizeOf3
  v3 := Tryd.zeroValue3
  t4 := Tryd.underlying4
  a4 := Tryd.isAgg4
  z4 := Tryd.sizeOf4
  v4 := Tryd.zeroValue4
  t9 := Tryd.underlying9
  a9 := Tryd.isAgg9
  z9 := Tryd.sizeOf9
  v9 := Tryd.zeroValue9
  t20 := Tryd.underlying20
  a20 := Tryd.isAgg20
  z20 := Tryd.sizeOf20
  v20 := Tryd.zeroValue20
  t37 := Tryd.underlying46
  a37 := Tryd.isAgg46
  z37 := Tryd.sizeOf46
  v37 := Tryd.zeroValue46
  t70 := Tryd.underlying45
  a70 := Tryd.isAgg45
  z70 := Tryd.sizeOf45
  v70 := Tryd.zeroValue45
  t72 := Tryd.underlying48
  a72 := Tryd.isAgg48
  z72 := Tryd.sizeOf48
  v72 := Tryd.zeroValue48
  t75 := Tryd.underlying50
  a75 := Tryd.isAgg50
  z75 := Tryd.sizeOf50
  v75 := Tryd.zeroValue50
  t164 := Tryd.underlying96
  a164 := Tryd.isAgg96
  z164 := Tryd.sizeOf96
  v164 := Tryd.zeroValue96
def laysBS_ren : Go.Shelf.Ren := ⟨fun | 169 => 23 | n => n, fun | 70 => 45 | 9 => 9 | 0 => 0 | 72 => 48 | 37 => 46 | 127 => 84 | 3 => 3 | 5 => 5 | 20 => 20 | n => n, fun | n => n⟩
theorem laysBS : Go.Proofs.Lays.n169 Tryd.prog laysBS_ren where
  mixed := by kernel_rfl
  f169 := Tryd.func23.trans (congrArg some (by kernel_rfl))
  t0 := Tryd.underlying0
  a0 := Tryd.isAgg0
  z0 := Tryd.sizeOf0
  v0 := Tryd.zeroValue0
  t3 := Tryd.underlying3
  a3 := Tryd.isAgg3
  z3 := Tryd.sizeOf3
  v3 := Tryd.zeroValue3
  t9 := Tryd.underlying9
  a9 := Tryd.isAgg9
  z9 := Tryd.sizeOf9
  v9 := Tryd.zeroValue9
  t37 := Tryd.underlying46
  a37 := Tryd.isAgg46
  z37 := Tryd.sizeOf46
  v37 := Tryd.zeroValue46
  t70 := Tryd.underlying45
  a70 := Tryd.isAgg45
  z70 := Tryd.sizeOf45
  v70 := Tryd.zeroValue45
  t72 := Tryd.underlying48
  a72 := Tryd.isAgg48
  z72 := Tryd.sizeOf48
  v72 := Tryd.zeroValue48
  t127 := Tryd.underlying84
  a127 := Tryd.isAgg84
  z127 := Tryd.sizeOf84
  v127 := Tryd.zeroValue84
theorem extraWB : Builder.Extra Tryd.prog laysWB_ren where
  sizeBuilder := by kernel_rfl
  liesBuilder := by kernel_rfl
  t5 := Tryd.underlying5
  a5 := Tryd.isAgg5
  z5 := Tryd.sizeOf5
  v5 := Tryd.zeroValue5
  infoByte := by kernel_rfl
  cellsByte := by kernel_rfl
  sizeByte := by kernel_rfl
  neB5 := by decide
theorem extraWS : Builder.Extra Tryd.prog laysWS_ren where
  sizeBuilder := by kernel_rfl
  liesBuilder := by kernel_rfl
  t5 := Tryd.underlying5
  a5 := Tryd.isAgg5
  z5 := Tryd.sizeOf5
  v5 := Tryd.zeroValue5
  infoByte := by kernel_rfl
  cellsByte := by kernel_rfl
  sizeByte := by kernel_rfl
  neB5 := by decide
theorem extraBS : Builder.Extra Tryd.prog laysBS_ren where
  sizeBuilder := by kernel_rfl
  liesBuilder := by kernel_rfl
  t5 := Tryd.underlying5
  a5 := Tryd.isAgg5
  z5 := Tryd.sizeOf5
  v5 := Tryd.zeroValue5
  infoByte := by kernel_rfl
  cellsByte := by kernel_rfl
  sizeByte := by kernel_rfl
  neB5 := by decide
/-- a builder that holds these bytes -/
def IsB (B b : Nat) (l : List UInt8) (w : World) : Prop := Lib.IsBuilderF 48 5 B b (Lib.byteCells l) w
theorem own_go {w w' : World} {B e size n : Nat} {v : Value} {xs : List Value} (h : w.ownsRowF B e size v n xs) (hb : Below w.heap.size w w') : w'.ownsRowF B e size v n xs := by
  obtain ⟨hl, h3⟩ := h
  rcases h3 with h3 | ⟨g, cap, cur, fz, hv, hbg, hg, h4⟩
  · exact ⟨hl, .inl h3⟩
  · exact ⟨hl, .inr ⟨g, cap, cur, fz, hv, hbg, (hb.block g (Array.getElem?_eq_some_iff.1 hg).1).trans hg, h4⟩⟩
theorem builderAt_go {T e : TypeId} {B b : Nat} {p : Value} {bs : List Value} {w w' : World} (h : Lib.BuilderAtF T e B b p bs w) (hb : Below w.heap.size w w') : Lib.BuilderAtF T e B b p bs w' := by
  obtain ⟨h0, v, h1, h2, h3⟩ := h
  exact ⟨h0, v, (hb.block b (Array.getElem?_eq_some_iff.1 h1).1).trans h1, own_go h2 hb, h3⟩
theorem IsB.go {B b : Nat} {l : List UInt8} {w w' : World} (h : IsB B b l w) (hb : Below w.heap.size w w') : IsB B b l w' := h.elim (fun h => .inl (builderAt_go h hb)) (fun h => .inr (builderAt_go h hb))
theorem isB_fresh (w : World) : IsB w.heap.size w.heap.size [] (w.alloc (.cells #[.pointer none, .slice none 0 0] 48)) := Lib.IsBuilderF.of (Lib.fresh_isBuilder 48 5 w)
theorem wb_n (B b : Nat) (l : List UInt8) (c : UInt8) (w : World) (h : IsB B b l w) (hlen : l.length + 1 ≤ 140737488355328) (hBw : B ≤ w.heap.size) :
    Calls Tryd.prog 21 #[.pointer (some ⟨b, 0, none⟩), .int .u8 (c.toNat : Int)] w fun e w' => e = .returned .nilIface ∧ IsB B b (l ++ [c]) w' ∧ Below B w w' ∧ Lib.OthersKept 5 (some b) w w' := by
  refine (Any.Builder_WriteByte_k laysWB extraWB B b (Lib.byteCells l) (c.toNat : Int) w h (by rw [Lib.byteCells_length]; exact hlen) hBw).mono ?_
  rintro e w' ⟨he, h1, h2, h3⟩
  refine ⟨he, .inr ?_, h2, h3⟩
  rw [Lib.byteCells_append]
  exact h1
theorem ws_n (B b : Nat) (l : List UInt8) (s : ByteArray) (w : World) (h : IsB B b l w) (hlen : l.length + s.size ≤ 140737488355328) (hBw : B ≤ w.heap.size) :
    Calls Tryd.prog 22 #[.pointer (some ⟨b, 0, none⟩), .string s] w fun e w' => e = .returned (.tuple #[.int .i64 s.size, .nilIface]) ∧ IsB B b (l ++ s.data.toList) w' ∧ Below B w w' := by
  refine (Any.Builder_WriteString_f laysWS extraWS B b (Lib.byteCells l) s w h (by rw [Lib.byteCells_length]; exact hlen) hBw).mono ?_
  rintro e w' ⟨he, h1, h2⟩
  refine ⟨he, .inr ?_, h2⟩
  rw [Lib.byteCells_append]
  exact h1
theorem bs_n (B b : Nat) (l : List UInt8) (w : World) (h : IsB B b l w) (hBw : B ≤ w.heap.size) :
    Calls Tryd.prog 23 #[.pointer (some ⟨b, 0, none⟩)] w fun e w' => e = .returned (.string ⟨l.toArray⟩) ∧ Below B w w' := (Any.Builder_String_any_f laysBS extraBS B b l w h hBw).mono fun _ _ ⟨h1, _, h2⟩ => ⟨h1, h2⟩
/-- a box of another type than bytes is as it was -/
theorem kept_cell {b : Nat} {w w' : World} {g : Nat} {cs : Array Value} {E : TypeId} {fz : Nat × Nat} (h : Lib.OthersKept 5 (some b) w w') (hg : w.heap[g]? = some (.cells cs E fz)) (hne : g ≠ b) (hE : E ≠ 5) (i : Nat) : w'.cell? ⟨g, i, none⟩ = cs[i]? := by
  have := h g _ hg (fun e => hne (Option.some.inj e)) (fun c z e => by injection e with _ e2 _; exact hE e2)
  simp [World.cell?, this]
end Go.Proofs.YtgnlchfcominaaaDoor
/- The walks of lex.Join and of the reference's JJoin. -/
namespace Go.Proofs.YtgnlchfcominaaaDoor
open Go.RowKit
set_option linter.unusedVariables false
/-- a token that came in -/
structure ATok where
  kind : Int
  pos : Int
  text : List UInt8
def encA (t : ATok) : List Value := [.int .i64 t.kind, .int .i64 t.pos, .string ⟨t.text.toArray⟩]
def okA (t : ATok) : Prop := inI t.kind ∧ inI t.pos ∧ t.text.length ≤ 9223372036854775807
abbrev RdATs := RdL (Flat encA okA) 3 32
/-- the first q texts, with a blank between -/
def jnF (l : List ATok) : Nat → List UInt8
  | 0 => []
  | q + 1 => jnF l q ++ (if q = 0 then [] else [32]) ++ ((l[q]?).map ATok.text).getD []
def jjF (l : List ATok) : Nat → List UInt8
  | 0 => []
  | q + 1 => jjF l q ++ (32 :: ((l[q]?).map ATok.text).getD [])
theorem jj_jn (l : List ATok) (q : Nat) : jjF l (q + 1) = 32 :: jnF l (q + 1) := by
  induction q with
  | zero => simp [jjF, jnF]
  | succ q ih =>
    conv => lhs; unfold jjF
    rw [ih]
    conv => rhs; unfold jnF
    simp
def textsL (l : List ATok) : Nat := (l.map fun t => t.text.length + 1).sum
theorem jnF_len (l : List ATok) : ∀ q, q ≤ l.length → (jnF l q).length ≤ textsL (l.take q) := by
  intro q
  induction q with
  | zero => intro _; simp [jnF]
  | succ q ih =>
    intro h
    have h1 := ih (by omega)
    unfold jnF textsL
    unfold textsL at h1
    rw [List.take_succ_eq_append_getElem h, List.map_append, List.sum_append, List.getElem?_eq_getElem h]
    simp only [List.length_append, Option.map_some, Option.getD_some, List.map_cons, List.map_nil, List.sum_cons, List.sum_nil]
    split <;> simp only [List.length_nil, List.length_cons] <;> omega
theorem textsL_take (l : List ATok) (q : Nat) : textsL (l.take q) ≤ textsL l := by
  unfold textsL
  conv => rhs; rw [← List.take_append_drop q l]
  rw [List.map_append, List.sum_append]
  omega
theorem jjF_len (l : List ATok) (q : Nat) (h : q ≤ l.length) : (jjF l q).length ≤ textsL l + 1 := by
  cases q with
  | zero => simp [jjF]
  | succ q =>
    rw [jj_jn]
    have h1 := jnF_len l (q + 1) h
    have h2 := textsL_take l (q + 1)
    simp only [List.length_cons]
    omega
theorem toks_at {w : World} {S : Blocks} {l : List ATok} {A : Option Addr} {n cap : Nat} (r : RdATs w S l (.slice A n cap)) {q : Nat} (hq : q < l.length) :
    ∃ b off, A = some ⟨b, off, none⟩ ∧ S b ∧ okA l[q] ∧ w.cell? ⟨b, off + q * 3, none⟩ = some (.int .i64 l[q].kind) ∧ w.cell? ⟨b, off + q * 3 + 1, none⟩ = some (.int .i64 (l[q].pos : Int)) ∧ w.cell? ⟨b, off + q * 3 + 2, none⟩ = some (.string ⟨l[q].text.toArray⟩) := by
  obtain ⟨b, off, hA, hb, hok, hc⟩ := r.flat hq
  exact ⟨b, off, hA, hb, hok, hc 0 _ rfl, hc 1 _ rfl, hc 2 _ rfl⟩
set_option maxHeartbeats 1000000 in
set_option maxRecDepth 100000 in
theorem jjoin_any (l : List ATok) (w : World) (S : Blocks) (v : Value) (hS : Sub S (Upto w.heap.size)) (r : RdATs w S l v) (hT : textsL l ≤ 140737488355000) :
    Calls Tryd.prog 10 #[v] w fun e w' => e = .returned (.string ⟨(jnF l l.length).toArray⟩) ∧ Below w.heap.size w w' := by
  obtain ⟨A, cap, rfl, hl, hcm, hby⟩ := r.form
  unfold maxLen at hcm
  have R := Lib.hid r
  clear r
  have HLEN := Lib.hid (jjF_len l)
  obtain ⟨n, hn⟩ : ∃ n, n = l.length := ⟨_, rfl⟩
  have HN := Lib.hid hn
  rw [← hn] at hl hby ⊢
  have HW := Lib.hid (show n = l.length from hn)
  clear hn
  go_enter Tryd.func10, Tryd.ntmps10
  go_wp2_with fail
  go_loopw [3, 8] (fun s u wr => ∃ (q : Nat) (x : ByteArray), q ≤ n ∧ u = .int .i64 (q : Int) ∧ s = .string x ∧ Hid (x.data.toList = jjF l q) ∧ Below w.heap.size w wr) (fun _ u _ => n - (intOf u).toNat)
  case atStart => exact ⟨0, ⟨#[]⟩, Nat.zero_le _, rfl, rfl, Lib.hid rfl, Below.refl _ _⟩
  case round =>
    obtain ⟨q, x, hq, rfl, rfl, HX, hb⟩ := hrel
    by_cases hlt : q < n
    · obtain ⟨b, off, rfl, hbS, hok, e0, e1, e2⟩ := toks_at R.out (q := q) (by rw [← HN.out]; exact hlt)
      have hbw : b < w.heap.size := hS b hbS
      replace e0 := (hb.cell (p := ⟨b, off + q * 3, none⟩) hbw).trans e0
      replace e1 := (hb.cell (p := ⟨b, off + q * 3 + 1, none⟩) hbw).trans e1
      replace e2 := (hb.cell (p := ⟨b, off + q * 3 + 2, none⟩) hbw).trans e2
      have HQ := Lib.hid (show l[q]? = some (l[q]'(by rw [← HN.out]; exact hlt)) from List.getElem?_eq_getElem _)
      obtain ⟨t, ht⟩ : ∃ t, t = l[q]'(by rw [← HN.out]; exact hlt) := ⟨_, rfl⟩
      rw [← ht] at e0 e1 e2 HQ
      clear ht hok
      obtain ⟨y, hy⟩ : ∃ y : ByteArray, y = ⟨t.text.toArray⟩ := ⟨_, rfl⟩
      have HY := Lib.hid (show y.data.toList = t.text by rw [hy])
      rw [← hy] at e2
      clear hy
      have c0 := (Blk.made wr [.int .i64 t.kind, .int .i64 (t.pos : Int), .string y] 28 (base := 0) (Nat.zero_le _)).cell 2 _ rfl
      have q0 : (0 : Int) ≤ (q : Int) := by omega
      have q1 : (q : Int) < (n : Int) := by omega
      have hqw2 : wrap64 ((q : Int) + 1) = (q : Int) + 1 := IntWalk.wrap64_in _ (by omega)
      have HXL := Lib.hid (show x.data.toList.length + 1 + y.size ≤ 140737488355328 from by
        have h1 := HLEN.out (q + 1) (by rw [← HN.out]; omega)
        rw [HX.out, Lib.size_eq y, HY.out]
        unfold jjF at h1
        rw [HQ.out] at h1
        simp only [List.length_append, List.length_cons, Option.map_some, Option.getD_some] at h1
        omega)
      have hxy : x.size + 1 + y.size ≤ 140737488355328 := by have := HXL.out; rwa [← Lib.size_eq] at this
      have hy1 : 1 + y.size ≤ 9223372036854775807 := by omega
      have hy2 : x.size + (1 + y.size) ≤ 9223372036854775807 := by omega
      clear HXL
      have HX2 := Lib.hid (show (x ++ ((⟨#[32]⟩ : ByteArray) ++ y)).data.toList = jjF l (q + 1) from by
        unfold jjF
        rw [HQ.out]
        simp only [ByteArray.data_append, Array.toList_append, HX.out, HY.out, Option.map_some, Option.getD_some]
        rfl)
      have B2 := hb.alloc hb.size (.cells #[.int .i64 t.kind, .int .i64 (t.pos : Int), .string y] 28)
      clear hb
      go_wp2_with fail
      go_roundw
      case rel => exact ⟨q + 1, _, by omega, by go_num, rfl, HX2, B2⟩
      case measure => simp [intOf]; omega
    · have hqn : q = n := by omega
      subst hqn
      by_cases h0 : 0 < q
      · have hxs : x.size = (jnF l q).length + 1 := by
          rw [Lib.size_eq, HX.out]
          obtain ⟨p, rfl⟩ : ∃ p, q = p + 1 := ⟨q - 1, by omega⟩
          rw [jj_jn]; rfl
        have HZ := Lib.hid (show x.extract 1 x.size = ⟨(jnF l q).toArray⟩ from by
          apply of_list
          rw [Lib.extract_data, HX.out, hxs]
          obtain ⟨p, rfl⟩ : ∃ p, q = p + 1 := ⟨q - 1, by omega⟩
          rw [jj_jn, List.drop_succ_cons, List.drop_zero, Nat.add_sub_cancel, List.take_length])
        have h1x : 1 ≤ x.size := by omega
        clear hxs
        go_wp2_with fail
        go_ret
        exact ⟨by rw [HZ.out]; rfl, hb⟩
      · have hq0 : q = 0 := by omega
        subst hq0
        have HZ := Lib.hid (show x = ⟨#[]⟩ from of_list _ _ (by rw [HX.out]; rfl))
        go_wp2_with fail
        go_ret
        exact ⟨by rw [HZ.out]; rfl, hb⟩
end Go.Proofs.YtgnlchfcominaaaDoor
