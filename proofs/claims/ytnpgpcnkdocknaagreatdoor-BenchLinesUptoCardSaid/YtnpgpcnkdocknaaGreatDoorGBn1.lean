/- Texts merged: BldLib, Jj1, Kp8, Kp9, OpenEx, Open2, OpenH, OpenOne, Bn1. -/
import Derived.Shelf.Strings.BuilderF
import Derived.Shelf.Strings.BuilderK
import Derived.Test.YtnpgpcnkdocknaaGreatDoorBase
import Derived.Test.YtnpgpcnkdocknaaGreatDoorGPq2
import Derived.Test.YtnpgpcnkdocknaaGreatDoorKp7
import Derived.Test.YtnpgpcnkdocknaaGreatDoorGAppZ
import Derived.OpenShut
import Derived.Test.YtnpgpcnkdocknaaGreatDoorGEtW
import Derived.Test.YtnpgpcnkdocknaaGreatDoorGPb3
import Derived.Test.YtnpgpcnkdocknaaGreatDoorLex2
namespace Go.Proofs.YtnpgpcnkdocknaaGreatDoor
open Go.Shelf Go.RowKit
set_option linter.unusedVariables false
def laysWB_ren : Go.Shelf.Ren := ⟨fun | 167 => 36 | 240 => 61 | 276 => 85 | n => n, fun | 70 => 65 | 5 => 5 | 75 => 92 | 0 => 0 | 72 => 68 | 37 => 66 | 4 => 4 | 164 => 135 | 80 => 72 | 9 => 9 | 20 => 20 | n => n, fun | n => n⟩
theorem laysWB : Go.Proofs.Lays.n167 Tryz.prog laysWB_ren where
 mixed := by kernel_rfl
 f167 := Tryz.func36.trans (congrArg some (by kernel_rfl))
 f240 := Tryz.func61.trans (congrArg some (by kernel_rfl))
 f276 := Tryz.func85.trans (congrArg some (by kernel_rfl))
 t0 := Tryz.underlying0
 a0 := Tryz.isAgg0
 z0 := Tryz.sizeOf0
 v0 := Tryz.zeroValue0
 t4 := Tryz.underlying4
 a4 := Tryz.isAgg4
 z4 := Tryz.sizeOf4
 v4 := Tryz.zeroValue4
 t5 := Tryz.underlying5
 a5 := Tryz.isAgg5
 z5 := Tryz.sizeOf5
 v5 := Tryz.zeroValue5
 t9 := Tryz.underlying9
 a9 := Tryz.isAgg9
 z9 := Tryz.sizeOf9
 v9 := Tryz.zeroValue9
 t20 := Tryz.underlying20
 a20 := Tryz.isAgg20
 z20 := Tryz.sizeOf20
 v20 := Tryz.zeroValue20
 t37 := Tryz.underlying66
 a37 := Tryz.isAgg66
 z37 := Tryz.sizeOf66
 v37 := Tryz.zeroValue66
 t70 := Tryz.underlying65
 a70 := Tryz.isAgg65
 z70 := Tryz.sizeOf65
 v70 := Tryz.zeroValue65
 t72 := Tryz.underlying68
 a72 := Tryz.isAgg68
 z72 := Tryz.sizeOf68
 v72 := Tryz.zeroValue68
 t75 := Tryz.underlying92
 a75 := Tryz.isAgg92
 z75 := Tryz.sizeOf92
 v75 := Tryz.zeroValue92
 t164 := Tryz.underlying135
 a164 := Tryz.isAgg135
 z164 := Tryz.sizeOf135
 v164 := Tryz.zeroValue135
def laysWS_ren : Go.Shelf.Ren := ⟨fun | 166 => 35 | 240 => 61 | 276 => 85 | n => n, fun | 70 => 65 | 9 => 9 | 3 => 3 | 75 => 92 | 0 => 0 | 72 => 68 | 37 => 66 | 4 => 4 | 164 => 135 | 80 => 72 | 5 => 5 | 20 => 20 | n => n, fun | n => n⟩
theorem laysWS : Go.Proofs.Lays.n166 Tryz.prog laysWS_ren where
 mixed := by kernel_rfl
 f166 := Tryz.func35.trans (congrArg some (by kernel_rfl))
 f240 := Tryz.func61.trans (congrArg some (by kernel_rfl))
 f276 := Tryz.func85.trans (congrArg some (by kernel_rfl))
 t0 := Tryz.underlying0
 a0 := Tryz.isAgg0
 z0 := Tryz.sizeOf0
 v0 := Tryz.zeroValue0
 t3 := Tryz.underlying3
 a3 := Tryz.isAgg3
 z3 := Tryz.sizeOf3
 v3 := Tryz.zeroValue3
 t4 := Tryz.underlying4
 a4 := Tryz.isAgg4
 z4 := Tryz.sizeOf4
 v4 := Tryz.zeroValue4
 t9 := Tryz.underlying9
 a9 := Tryz.isAgg9
 z9 := Tryz.sizeOf9
 v9 := Tryz.zeroValue9
 t20 := Tryz.underlying20
 a20 := Tryz.isAgg20
 z20 := Tryz.sizeOf20
 v20 := Tryz.zeroValue20
 t37 := Tryz.underlying66
 a37 := Tryz.isAgg66
 z37 := Tryz.sizeOf66
 v37 := Tryz.zeroValue66
 t70 := Tryz.underlying65
 a70 := Tryz.isAgg65
 z70 := Tryz.sizeOf65
 v70 := Tryz.zeroValue65
 t72 := Tryz.underlying68
 a72 := Tryz.isAgg68
 z72 := Tryz.sizeOf68
 v72 := Tryz.zeroValue68
 t75 := Tryz.underlying92
 a75 := Tryz.isAgg92
 z75 := Tryz.sizeOf92
 v75 := Tryz.zeroValue92
 t164 := Tryz.underlying135
 a164 := Tryz.isAgg135
 z164 := Tryz.sizeOf135
 v164 := Tryz.zeroValue135
def laysBS_ren : Go.Shelf.Ren := ⟨fun | 169 => 26 | n => n, fun | 70 => 65 | 9 => 9 | 0 => 0 | 72 => 68 | 37 => 66 | 127 => 107 | 3 => 3 | 5 => 5 | 20 => 20 | n => n, fun | n => n⟩
theorem laysBS : Go.Proofs.Lays.n169 Tryz.prog laysBS_ren where
 mixed := by kernel_rfl
 f169 := Tryz.func26.trans (congrArg some (by kernel_rfl))
 t0 := Tryz.underlying0
 a0 := Tryz.isAgg0
 z0 := Tryz.sizeOf0
 v0 := Tryz.zeroValue0
 t3 := Tryz.underlying3
 a3 := Tryz.isAgg3
 z3 := Tryz.sizeOf3
 v3 := Tryz.zeroValue3
 t9 := Tryz.underlying9
 a9 := Tryz.isAgg9
 z9 := Tryz.sizeOf9
 v9 := Tryz.zeroValue9
 t37 := Tryz.underlying66
 a37 := Tryz.isAgg66
 z37 := Tryz.sizeOf66
 v37 := Tryz.zeroValue66
 t70 := Tryz.underlying65
 a70 := Tryz.isAgg65
 z70 := Tryz.sizeOf65
 v70 := Tryz.zeroValue65
 t72 := Tryz.underlying68
 a72 := Tryz.isAgg68
 z72 := Tryz.sizeOf68
 v72 := Tryz.zeroValue68
 t127 := Tryz.underlying107
 a127 := Tryz.isAgg107
 z127 := Tryz.sizeOf107
 v127 := Tryz.zeroValue107
theorem extraWB : Builder.Extra Tryz.prog laysWB_ren where
 sizeBuilder := by kernel_rfl
 liesBuilder := by kernel_rfl
 t5 := Tryz.underlying5
 a5 := Tryz.isAgg5
 z5 := Tryz.sizeOf5
 v5 := Tryz.zeroValue5
 infoByte := by kernel_rfl
 cellsByte := by kernel_rfl
 sizeByte := by kernel_rfl
 neB5 := by decide
theorem extraWS : Builder.Extra Tryz.prog laysWS_ren where
 sizeBuilder := by kernel_rfl
 liesBuilder := by kernel_rfl
 t5 := Tryz.underlying5
 a5 := Tryz.isAgg5
 z5 := Tryz.sizeOf5
 v5 := Tryz.zeroValue5
 infoByte := by kernel_rfl
 cellsByte := by kernel_rfl
 sizeByte := by kernel_rfl
 neB5 := by decide
theorem extraBS : Builder.Extra Tryz.prog laysBS_ren where
 sizeBuilder := by kernel_rfl
 liesBuilder := by kernel_rfl
 t5 := Tryz.underlying5
 a5 := Tryz.isAgg5
 z5 := Tryz.sizeOf5
 v5 := Tryz.zeroValue5
 infoByte := by kernel_rfl
 cellsByte := by kernel_rfl
 sizeByte := by kernel_rfl
 neB5 := by decide
def IsB (B b : Nat) (l : List UInt8) (w : World) : Prop := Lib.IsBuilderF 68 5 B b (Lib.byteCells l) w
theorem own_go {w w' : World} {B e size n : Nat} {v : Value} {xs : List Value} (h : w.ownsRowF B e size v n xs) (hb : Below w.heap.size w w') : w'.ownsRowF B e size v n xs := by
 obtain ⟨hl, h3⟩ := h
 rcases h3 with h3 | ⟨g, cap, cur, fz, hv, hbg, hg, h4⟩
 ·exact ⟨hl, .inl h3⟩
 ·exact ⟨hl, .inr ⟨g, cap, cur, fz, hv, hbg, (hb.block g (Array.getElem?_eq_some_iff.1 hg).1).trans hg, h4⟩⟩
theorem builderAt_go {T e : TypeId} {B b : Nat} {p : Value} {bs : List Value} {w w' : World} (h : Lib.BuilderAtF T e B b p bs w) (hb : Below w.heap.size w w') : Lib.BuilderAtF T e B b p bs w' := by
 obtain ⟨h0, v, h1, h2, h3⟩ := h
 exact ⟨h0, v, (hb.block b (Array.getElem?_eq_some_iff.1 h1).1).trans h1, own_go h2 hb, h3⟩
theorem IsB.go {B b : Nat} {l : List UInt8} {w w' : World} (h : IsB B b l w) (hb : Below w.heap.size w w') : IsB B b l w' := h.elim (fun h => .inl (builderAt_go h hb)) (fun h => .inr (builderAt_go h hb))
theorem isB_fresh (w : World) : IsB w.heap.size w.heap.size [] (w.alloc (.cells #[.pointer none, .slice none 0 0] 68)) := Lib.IsBuilderF.of (Lib.fresh_isBuilder 68 5 w)
theorem wb_n (B b : Nat) (l : List UInt8) (c : UInt8) (w : World) (h : IsB B b l w) (hlen : l.length + 1 ≤ 140737488355328) (hBw : B ≤ w.heap.size) :
    Calls Tryz.prog 36 #[.pointer (some ⟨b, 0, none⟩), .int .u8 (c.toNat : Int)] w fun e w' => e = .returned .nilIface ∧ IsB B b (l ++ [c]) w' ∧ Below B w w' ∧ Lib.OthersKept 5 (some b) w w' := by
 refine (Any.Builder_WriteByte_k laysWB extraWB B b (Lib.byteCells l) (c.toNat : Int) w h (by rw [Lib.byteCells_length]; exact hlen) hBw).mono ?_
 rintro e w' ⟨he, h1, h2, h3⟩
 refine ⟨he, .inr ?_, h2, h3⟩
 rw [Lib.byteCells_append]
 exact h1
theorem ws_n (B b : Nat) (l : List UInt8) (s : ByteArray) (w : World) (h : IsB B b l w) (hlen : l.length + s.size ≤ 140737488355328) (hBw : B ≤ w.heap.size) :
    Calls Tryz.prog 35 #[.pointer (some ⟨b, 0, none⟩), .string s] w fun e w' => e = .returned (.tuple #[.int .i64 s.size, .nilIface]) ∧ IsB B b (l ++ s.data.toList) w' ∧ Below B w w' := by
 refine (Any.Builder_WriteString_f laysWS extraWS B b (Lib.byteCells l) s w h (by rw [Lib.byteCells_length]; exact hlen) hBw).mono ?_
 rintro e w' ⟨he, h1, h2⟩
 refine ⟨he, .inr ?_, h2⟩
 rw [Lib.byteCells_append]
 exact h1
theorem bs_n (B b : Nat) (l : List UInt8) (w : World) (h : IsB B b l w) (hBw : B ≤ w.heap.size) :
    Calls Tryz.prog 26 #[.pointer (some ⟨b, 0, none⟩)] w fun e w' => e = .returned (.string ⟨l.toArray⟩) ∧ Below B w w' := (Any.Builder_String_any_f laysBS extraBS B b l w h hBw).mono fun _ _ ⟨h1, _, h2⟩ => ⟨h1, h2⟩
end Go.Proofs.YtnpgpcnkdocknaaGreatDoor
namespace Go.Proofs.YtnpgpcnkdocknaaGreatDoor
open Go.RowKit
set_option linter.unusedVariables false
structure ATok where
 kind : Int
 pos : Int
 text : List UInt8
def encA (t : ATok) : List Value := [.int .i64 t.kind, .int .i64 t.pos, .string ⟨t.text.toArray⟩]
def okA (t : ATok) : Prop := inI t.kind ∧ inI t.pos ∧ t.text.length ≤ 9223372036854775807
abbrev RdATs := RdL (Flat encA okA) 3 32
def jnF (l : List ATok) : Nat → List UInt8
 | 0 => []
 | q + 1 => jnF l q ++ (if q = 0 then [] else [32]) ++ ((l[q]?).map ATok.text).getD []
def jjF (l : List ATok) : Nat → List UInt8
 | 0 => []
 | q + 1 => jjF l q ++ (32 :: ((l[q]?).map ATok.text).getD [])
theorem jj_jn (l : List ATok) (q : Nat) : jjF l (q + 1) = 32 :: jnF l (q + 1) := by
 induction q with
 | zero => simp [jjF, jnF]
 | succ q ih =>
  conv => lhs; unfold jjF
  rw [ih]
  conv => rhs; unfold jnF
  simp
def textsL (l : List ATok) : Nat := (l.map fun t => t.text.length + 1).sum
theorem jnF_len (l : List ATok) : ∀ q, q ≤ l.length → (jnF l q).length ≤ textsL (l.take q) := by
 intro q
 induction q with
 | zero => intro _; simp [jnF]
 | succ q ih =>
  intro h
  have h1 := ih (by omega)
  unfold jnF textsL
  unfold textsL at h1
  rw [List.take_succ_eq_append_getElem h, List.map_append, List.sum_append, List.getElem?_eq_getElem h]
  simp only [List.length_append, Option.map_some, Option.getD_some, List.map_cons, List.map_nil, List.sum_cons, List.sum_nil]
  split <;> simp only [List.length_nil, List.length_cons] <;> omega
theorem textsL_take (l : List ATok) (q : Nat) : textsL (l.take q) ≤ textsL l := by
 unfold textsL
 conv => rhs; rw [← List.take_append_drop q l]
 rw [List.map_append, List.sum_append]
 omega
theorem jjF_len (l : List ATok) (q : Nat) (h : q ≤ l.length) : (jjF l q).length ≤ textsL l + 1 := by
 cases q with
 | zero => simp [jjF]
 | succ q =>
  rw [jj_jn]
  have h1 := jnF_len l (q + 1) h
  have h2 := textsL_take l (q + 1)
  simp only [List.length_cons]
  omega
theorem toks_at {w : World} {S : Blocks} {l : List ATok} {A : Option Addr} {n cap : Nat} (r : RdATs w S l (.slice A n cap)) {q : Nat} (hq : q < l.length) :
    ∃ b off, A = some ⟨b, off, none⟩ ∧ S b ∧ okA l[q] ∧ w.cell? ⟨b, off + q * 3, none⟩ = some (.int .i64 l[q].kind) ∧ w.cell? ⟨b, off + q * 3 + 1, none⟩ = some (.int .i64 (l[q].pos : Int)) ∧ w.cell? ⟨b, off + q * 3 + 2, none⟩ = some (.string ⟨l[q].text.toArray⟩) := by
 obtain ⟨b, off, hA, hb, hok, hc⟩ := r.flat hq
 exact ⟨b, off, hA, hb, hok, hc 0 _ rfl, hc 1 _ rfl, hc 2 _ rfl⟩
set_option maxHeartbeats 1000000 in
set_option maxRecDepth 100000 in
theorem jjoin_any (l : List ATok) (w : World) (S : Blocks) (v : Value) (hS : Sub S (Upto w.heap.size)) (r : RdATs w S l v) (hT : textsL l ≤ 140737488355000) :
    Calls Tryz.prog 17 #[v] w fun e w' => e = .returned (.string ⟨(jnF l l.length).toArray⟩) ∧ Below w.heap.size w w' := by
 obtain ⟨A, cap, rfl, hl, hcm, hby⟩ := r.form
 unfold maxLen at hcm
 have R := hid r
 clear r
 have HLEN := hid (jjF_len l)
 obtain ⟨n, hn⟩ : ∃ n, n = l.length := ⟨_, rfl⟩
 have HN := hid hn
 rw [← hn] at hl hby ⊢
 have HW := hid (show n = l.length from hn)
 clear hn
 go_enter Tryz.func17, Tryz.ntmps17
 go_wp2_with fail
 go_loopw [3, 8] (fun s u wr => ∃ (q : Nat) (x : ByteArray), q ≤ n ∧ u = .int .i64 (q : Int) ∧ s = .string x ∧ Hid (x.data.toList = jjF l q) ∧ Below w.heap.size w wr) (fun _ u _ => n - (intOf u).toNat)
 case atStart => exact ⟨0, ⟨#[]⟩, Nat.zero_le _, rfl, rfl, hid rfl, Below.refl _ _⟩
 case round =>
  obtain ⟨q, x, hq, rfl, rfl, HX, hb⟩ := hrel
  by_cases hlt : q < n
  ·obtain ⟨b, off, rfl, hbS, hok, e0, e1, e2⟩ := toks_at R.out (q := q) (by rw [← HN.out]; exact hlt)
   have hbw : b < w.heap.size := hS b hbS
   replace e0 := (hb.cell (p := ⟨b, off + q * 3, none⟩) hbw).trans e0
   replace e1 := (hb.cell (p := ⟨b, off + q * 3 + 1, none⟩) hbw).trans e1
   replace e2 := (hb.cell (p := ⟨b, off + q * 3 + 2, none⟩) hbw).trans e2
   have HQ := hid (show l[q]? = some (l[q]'(by rw [← HN.out]; exact hlt)) from List.getElem?_eq_getElem _)
   obtain ⟨t, ht⟩ : ∃ t, t = l[q]'(by rw [← HN.out]; exact hlt) := ⟨_, rfl⟩
   rw [← ht] at e0 e1 e2 HQ
   clear ht hok
   obtain ⟨y, hy⟩ : ∃ y : ByteArray, y = ⟨t.text.toArray⟩ := ⟨_, rfl⟩
   have HY := hid (show y.data.toList = t.text by rw [hy])
   rw [← hy] at e2
   clear hy
   have c0 := (Blk.made wr [.int .i64 t.kind, .int .i64 (t.pos : Int), .string y] 49 (base := 0) (Nat.zero_le _)).cell 2 _ rfl
   have q0 : (0 : Int) ≤ (q : Int) := by omega
   have q1 : (q : Int) < (n : Int) := by omega
   have hqw2 : wrap64 ((q : Int) + 1) = (q : Int) + 1 := IntWalk.wrap64_in _ (by omega)
   have HXL := hid (show x.data.toList.length + 1 + y.size ≤ 140737488355328 from by
    have h1 := HLEN.out (q + 1) (by rw [← HN.out]; omega)
    rw [HX.out, Lib.size_eq y, HY.out]
    unfold jjF at h1
    rw [HQ.out] at h1
    simp only [List.length_append, List.length_cons, Option.map_some, Option.getD_some] at h1
    omega)
   have hxy : x.size + 1 + y.size ≤ 140737488355328 := by have := HXL.out; rwa [← Lib.size_eq] at this
   have hy1 : 1 + y.size ≤ 9223372036854775807 := by omega
   have hy2 : x.size + (1 + y.size) ≤ 9223372036854775807 := by omega
   clear HXL
   have HX2 := hid (show (x ++ ((⟨#[32]⟩ : ByteArray) ++ y)).data.toList = jjF l (q + 1) from by
    unfold jjF
    rw [HQ.out]
    simp only [ByteArray.data_append, Array.toList_append, HX.out, HY.out, Option.map_some, Option.getD_some]
    rfl)
   have B2 := hb.alloc hb.size (.cells #[.int .i64 t.kind, .int .i64 (t.pos : Int), .string y] 49)
   clear hb
   go_wp2_with fail
   go_roundw
   case rel => exact ⟨q + 1, _, by omega, by go_num, rfl, HX2, B2⟩
   case measure => simp [intOf]; omega
  ·have hqn : q = n := by omega
   subst hqn
   by_cases h0 : 0 < q
   ·have hxs : x.size = (jnF l q).length + 1 := by
      rw [Lib.size_eq, HX.out]
      obtain ⟨p, rfl⟩ : ∃ p, q = p + 1 := ⟨q - 1, by omega⟩
      rw [jj_jn]; rfl
    have HZ := hid (show x.extract 1 x.size = ⟨(jnF l q).toArray⟩ from by
     apply of_list
     rw [Lib.extract_data, HX.out, hxs]
     obtain ⟨p, rfl⟩ : ∃ p, q = p + 1 := ⟨q - 1, by omega⟩
     rw [jj_jn, List.drop_succ_cons, List.drop_zero, Nat.add_sub_cancel, List.take_length])
    have h1x : 1 ≤ x.size := by omega
    clear hxs
    go_wp2_with fail
    go_ret
    exact ⟨by rw [HZ.out]; rfl, hb⟩
   ·have hq0 : q = 0 := by omega
    subst hq0
    have HZ := hid (show x = ⟨#[]⟩ from of_list _ _ (by rw [HX.out]; rfl))
    go_wp2_with fail
    go_ret
    exact ⟨by rw [HZ.out]; rfl, hb⟩
theorem kstmts_any (l : List St) : KxL l := St.indL (fun l h => kstmts_one l (fun k s a b body els hm => kstmt_any k s a b body els (h k s a b body els hm).1 (h k s a b body els hm).2)) l
def tkW (s : Str) : ATok := ⟨0, 0, s.data.toList⟩
theorem putL_ge (ls : List Str) : ∀ (acc : List UInt8), (∀ x ∈ ls, x.size ≠ 0) → acc.length + ls.length ≤ (putL acc ls).length := by
 induction ls with
 | nil => intro acc _; exact Nat.le_refl _
 | cons s r ih =>
  intro acc h
  have h1 := ih (putB acc s) (fun x hx => h x (by simp [hx]))
  have h2 : s.data.toList.length ≠ 0 := by rw [Array.length_toList]; exact h s (by simp)
  have h3 : acc.length + 1 ≤ (putB acc s).length := by
   unfold putB
   split <;> simp only [List.length_append, List.length_singleton] <;> omega
  show acc.length + (r.length + 1) ≤ (putL (putB acc s) r).length
  omega
theorem jn_take (out : List Str) (h : ∀ x ∈ out, x.size ≠ 0) : ∀ q, q ≤ out.length → jnF (out.map tkW) q = putL [] (out.take q) := by
 intro q
 induction q with
 | zero => intro _; rfl
 | succ q ih =>
  intro hq
  have hlt : q < out.length := by omega
  rw [jnF, ih (by omega), List.take_succ_eq_append_getElem hlt, putL_app]
  have e : ((out.map tkW)[q]?).map ATok.text = some (out[q].data.toList) := by
   rw [List.getElem?_map, List.getElem?_eq_getElem hlt]; rfl
  rw [e]
  show _ = putB (putL [] (out.take q)) out[q]
  unfold putB
  have hge := putL_ge (out.take q) [] (fun x hx => h x (List.mem_of_mem_take hx))
  rw [List.length_take_of_le (by omega)] at hge
  by_cases h0 : q = 0
  ·subst h0
   rfl
  ·rw [if_neg h0, if_neg (by simp only [List.length_nil] at hge; omega)]
   rfl
theorem jn_put (out : List Str) (h : ∀ x ∈ out, x.size ≠ 0) : jnF (out.map tkW) (out.map tkW).length = putL [] out := by
 rw [List.length_map, jn_take out h _ (Nat.le_refl _), List.take_of_length_le (Nat.le_refl _)]
theorem texts_tsz (out : List Str) : textsL (out.map tkW) = tsz out := by
 unfold textsL tsz
 rw [List.map_map]
 congr 1
theorem encA_tk (s : Str) : encA (tkW s) = [.int .i64 0, .int .i64 0, .string s] := by
 unfold encA tkW
 show [Value.int .i64 0, .int .i64 0, .string ⟨s.data.toList.toArray⟩] = _
 rw [Array.toArray_toList]
theorem okA_tk {s : Str} (h : okS s) : okA (tkW s) := ⟨show inI 0 by unfold inI; decide, show inI 0 by unfold inI; decide, by show s.data.toList.length ≤ _; rw [Array.length_toList]; unfold okS at h; show s.size ≤ _; omega⟩
set_option maxHeartbeats 2000000 in
set_option maxRecDepth 100000 in
theorem kprint_any (l : List St) (w : World) (S : Blocks) (V : Value) (hS : Sub S (Upto w.heap.size)) (r : RdSts w S l V) (hF : PowT w) (hwt : St.wts l ≤ 67108864) :
    Calls Tryz.prog 6 #[V] w fun e w' => e = .returned (.tuple #[.string (printS l), .int .i64 (printE l)]) ∧ Below w.heap.size w w' := by
 obtain ⟨i0, hi, hz0, hz1, hz2⟩ := info_parts infoTok
 have HC := hid (kstmts_any l w S V hS r hF hwt)
 have HTR := hid (tkL_TR l)
 clear r hF hS
 go_enter Tryz.func6, Tryz.ntmps6
 go_wp2_with (go_at_call 16; refine (calls_hid HC.out).mono ?_)
 rintro e w1 hh
 obtain ⟨x, out, rfl, o1, b1, t1, q1⟩ := hh.out
 clear hh HC
 obtain ⟨Ax, cx, rfl⟩ := o1.form
 have B1 := hid b1
 have hz1' := b1.size
 have hlo := tsz_len out
 have RX := hid (o1.rd (by omega))
 have T1' := hid t1
 have Q1 := hid q1
 clear o1 b1 t1 q1
 obtain ⟨ok, hok⟩ : ∃ ok, ok = (tkL true l).2 := ⟨_, rfl⟩
 have HOK := hid hok
 rw [← hok]
 clear hok
 cases ok
 ·have hf : (tkL false l).2 = false := by rw [← HTR.out.1]; exact HOK.out.symm
  have E1 := hid (show printS l = ⟨#[]⟩ by unfold printS; rw [hf]; rfl)
  have E2 := hid (show printE l = 1 by unfold printE; rw [hf]; rfl)
  clear hf
  go_wp2
  go_ret2
  exact ⟨by rw [E1.out, E2.out]; rfl, B1.out⟩
 ·have hf : (tkL false l).2 = true := by rw [← HTR.out.1]; exact HOK.out.symm
  have ho : out = (tkL false l).1 := (Q1.out HOK.out.symm).trans (HTR.out.2 hf)
  have E1 := hid (show printS l = ⟨(jnF (out.map tkW) (out.map tkW).length).toArray⟩ by unfold printS; rw [hf, if_pos rfl, ho, jn_put _ (tkL_ne false l hf)])
  have E2 := hid (show printE l = 0 by unfold printE; rw [hf]; rfl)
  have t2 := T1'.out
  clear hf ho
  go_wp2_with fail
  go_loopw [6, 18] (fun o t wr => ∃ q : Nat, q ≤ out.length ∧ t = .int .i64 q ∧ Hid (OwnL (Flat encA okA) 3 49 wr w1.heap.size Nowhere ((out.take q).map tkW) o) ∧ Hid (Below w1.heap.size w1 wr)) (fun _ t _ => out.length - (intOf t).toNat)
  case atStart => exact ⟨0, by omega, rfl, hid (by rw [List.take_zero]; exact OwnL.nil _ _ _), hid (Below.refl _ _)⟩
  case round =>
   obtain ⟨q, hq, rfl, HO, HB⟩ := hrel
   by_cases hlt : q < out.length
   ·have hza := HB.out.size
    have RPq := RX.out.go Flat.keeps HB.out (fun b h => h.2) (Sub.refl _)
    obtain ⟨bq, oq, hA, hbq, hokp, hcp⟩ := RdSs.at1 RPq hlt
    subst hA
    have HT := hid (show (out.take (q + 1)).map tkW = (out.take q).map tkW ++ [tkW out[q]] by rw [List.take_succ_eq_append_getElem hlt, List.map_append]; rfl)
    have hll : ((out.take q).map tkW).length = q := by rw [List.length_map, List.length_take_of_le (by omega)]
    obtain ⟨p, hp⟩ : ∃ p, out[q] = p := ⟨_, rfl⟩
    rw [hp] at hokp hcp HT
    have HFL := hid (fun (W : World) => (show Flat encA okA W Nowhere (tkW p) [.int .i64 0, .int .i64 0, .string p] from ⟨(encA_tk p).symm, okA_tk hokp⟩))
    have hlm : ((out.take q).map tkW).length + 1 ≤ maxLen := by rw [hll]; unfold maxLen; omega
    have hlb : (((out.take q).map tkW).length + 1) * 32 ≤ 140737488355328 := by rw [hll]; omega
    clear RPq hp hll
    go_wp2_with (at_builtin; refine wpList_append_one rfl _ _ 40 rfl i0 _ Tryz.underlying40 hi hz0 hz1 hz2 rfl (by decide) Flat.keeps HO.out (x := tkW p) (cs := [.int .i64 0, .int .i64 0, .string p]) (Tx := Nowhere) (HFL.out _) rfl rfl rfl (Sub.nowhere _) (Sub.nowhere _) not_nowhere (by simp [Value.oneCell']) hlm hlb hza ?_)
    intro v2 w2 ho hg hk2
    have HO2 := hid (show OwnL (Flat encA okA) 3 49 w2 w1.heap.size Nowhere ((out.take (q + 1)).map tkW) v2 from by rw [HT.out]; first | exact ho | (rw [List.map_take]; exact ho))
    have HB2 := hid (HB.out.grown hg hza (fun g hg => (HO.out.lt g hg).1))
    clear ho hg hk2 HO HB hlm hlb
    go_wp2_with fail
    go_roundw
    case rel => exact ⟨q + 1, by omega, by go_num, HO2, HB2⟩
    case measure => simp [intOf]; omega
   ·have hql : q = out.length := by omega
    subst hql
    rw [List.take_of_length_le (Nat.le_refl _)] at HO
    have htx : textsL (out.map tkW) ≤ 140737488355000 := by rw [texts_tsz]; omega
    have hLl : (out.map tkW).length = out.length := List.length_map ..
    generalize out.map tkW = L at *
    obtain ⟨A9, c9, rfl⟩ := HO.out.form
    have RT := hid (HO.out.toRd (bytes := 32) (S' := fun b => w1.heap.size ≤ b ∧ b < wr.heap.size) Flat.keeps (by omega) (Sub.nowhere _) (fun b h1 h2 => ⟨h1, h2⟩))
    have hpu : Sub (fun b => w1.heap.size ≤ b ∧ b < wr.heap.size) (Upto wr.heap.size) := fun b h => h.2
    have B2 := hid (B1.out.trans (HB.out.mono hz1'))
    have hz2' := B2.out.size
    clear HO HB hLl
    go_wp2_with (go_at_call 17; refine (jjoin_any L wr _ _ hpu RT.out htx).mono ?_)
    rintro e w3 ⟨rfl, b3⟩
    have B3 := hid (B2.out.trans (b3.mono hz2'))
    clear b3
    go_wp2
    go_ret2
    exact ⟨by rw [E1.out, E2.out]; rfl, B3.out⟩
end Go.Proofs.YtnpgpcnkdocknaaGreatDoor
namespace Go.Proofs.YtnpgpcnkdocknaaGreatDoor
open Go.ChangeShapes Go.WideShapes Go.ChangeAt Go.RowKit Go.Deep
set_option linter.unusedVariables false
instance : Inhabited Ex := ⟨.mk 0 0 ⟨#[]⟩ []⟩
instance : Inhabited St := ⟨.mk 0 ⟨#[]⟩ default default [] []⟩
instance : Inhabited Tm := ⟨.mk 0 0 false 0 []⟩
theorem cellsInt : Tryz.prog.cellsOf 3 = 1 := by kernel_rfl
section
variable {H : Type} {enc : TypeId × Value → H} {w : World} {spare : Nat → Bool} {held : Bool}
end
section
variable {H : Type} {enc : TypeId × Value → H} {w : World} {spare : Nat → Bool} {held : Bool}
end
theorem cellsHp : Tryz.prog.cellsOf 24 = 8 := by kernel_rfl
section
variable {H : Type} {enc : TypeId × Value → H} {w : World} {spare : Nat → Bool} {held : Bool}
theorem heap_open {fuel : Nat} {cs : List Value} {x : DataW H × List MemPlace} (h : DataW.trod enc Tryz.prog w 0 spare held fuel 24 cs = some x) :
    ∃ l : List Int, cs = l.map (Value.int .i64) ∧ l.length = 8 ∧ ∀ z ∈ l, inI z := by
 obtain ⟨xs, m, rfl, rfl, hlen, hl, hg⟩ := DataW.trod_array Tryz.underlying24 h
 rw [cellsHp] at hlen
 rw [cellsInt] at hg
 obtain ⟨c0, c1, c2, c3, c4, c5, c6, c7, rfl⟩ := len8 hlen
 obtain ⟨y0, y1, y2, y3, y4, y5, y6, y7, rfl⟩ := len8 hl
 have g0 := hg 0 (by omega); have g1 := hg 1 (by omega); have g2 := hg 2 (by omega); have g3 := hg 3 (by omega); have g4 := hg 4 (by omega); have g5 := hg 5 (by omega); have g6 := hg 6 (by omega); have g7 := hg 7 (by omega)
 simp only [List.drop_succ_cons, List.drop_zero, List.take_succ_cons, List.take_zero, Nat.mul_one, List.getElem?_cons_zero, List.getElem?_cons_succ] at g0 g1 g2 g3 g4 g5 g6 g7
 obtain ⟨z0, e0, _, wz0⟩ := DataW.trod_int Tryz.underlying3 g0; obtain ⟨z1, e1, _, wz1⟩ := DataW.trod_int Tryz.underlying3 g1; obtain ⟨z2, e2, _, wz2⟩ := DataW.trod_int Tryz.underlying3 g2; obtain ⟨z3, e3, _, wz3⟩ := DataW.trod_int Tryz.underlying3 g3; obtain ⟨z4, e4, _, wz4⟩ := DataW.trod_int Tryz.underlying3 g4; obtain ⟨z5, e5, _, wz5⟩ := DataW.trod_int Tryz.underlying3 g5; obtain ⟨z6, e6, _, wz6⟩ := DataW.trod_int Tryz.underlying3 g6; obtain ⟨z7, e7, _, wz7⟩ := DataW.trod_int Tryz.underlying3 g7
 simp only [List.cons.injEq, and_true] at e0 e1 e2 e3 e4 e5 e6 e7
 subst e0 e1 e2 e3 e4 e5 e6 e7
 refine ⟨[z0, z1, z2, z3, z4, z5, z6, z7], rfl, rfl, ?_⟩
 intro z hz
 simp only [List.mem_cons, List.not_mem_nil, or_false] at hz
 rcases hz with h | h | h | h | h | h | h | h
 ·rw [h]; exact inI_wf wz0
 ·rw [h]; exact inI_wf wz1
 ·rw [h]; exact inI_wf wz2
 ·rw [h]; exact inI_wf wz3
 ·rw [h]; exact inI_wf wz4
 ·rw [h]; exact inI_wf wz5
 ·rw [h]; exact inI_wf wz6
 ·rw [h]; exact inI_wf wz7
end
end Go.Proofs.YtnpgpcnkdocknaaGreatDoor
namespace Go.Proofs.YtnpgpcnkdocknaaGreatDoor
set_option linter.unusedVariables false
theorem sum_one {α : Type} (l : List α) : (l.map fun _ => 1).sum = l.length := by
 induction l with
 | nil => rfl
 | cons a r ih => simp only [List.map_cons, List.sum_cons, List.length_cons, ih]; omega
end Go.Proofs.YtnpgpcnkdocknaaGreatDoor
namespace Go.Proofs.YtnpgpcnkdocknaaGreatDoor
open Go.RowKit
set_option linter.unusedVariables false
def lineB (word : List UInt8) : List Int → List UInt8
 | [] => word
 | n :: r => lineB (word ++ (32 :: Lib.itoa n)) r
def lineS (word : Str) (ns : List Int) : Str := ⟨(lineB word.data.toList ns).toArray⟩
theorem lineB_snoc : ∀ (ns : List Int) (word : List UInt8) (n : Int), lineB word (ns ++ [n]) = lineB word ns ++ (32 :: Lib.itoa n) := by
 intro ns
 induction ns with
 | nil => intro word n; rfl
 | cons m ns ih => intro word n; simp only [List.cons_append, lineB]; exact ih _ _
theorem itoa_len (n : Int) (h : inI n) : (Lib.itoa n).length ≤ 20 := by
 have := itoaS_size n h.1 h.2
 unfold itoaS at this
 simpa [ByteArray.size] using this
theorem lineB_len : ∀ (ns : List Int) (word : List UInt8), (∀ n ∈ ns, inI n) → (lineB word ns).length ≤ word.length + 21 * ns.length := by
 intro ns
 induction ns with
 | nil => intro word h; simp [lineB]
 | cons m ns ih =>
  intro word h
  have h1 := itoa_len m (h m (List.mem_cons_self ..))
  have h2 := ih (word ++ (32 :: Lib.itoa m)) (fun n hn => h n (List.mem_cons_of_mem _ hn))
  simp only [lineB, List.length_append, List.length_cons] at *
  omega
set_option maxHeartbeats 1000000 in
set_option maxRecDepth 100000 in
theorem line_n (word : Str) (hw : word.size ≤ 100) (ns : List Int) (hn : ns.length ≤ 1000) (w : World) (S : Blocks) (v : Value) (hS : Sub S (Upto w.heap.size)) (r : RdI w S ns v) (hT : PowT w) :
    Calls Tryz.prog 19 #[.string word, v] w fun e w' => e = .returned (.string (lineS word ns)) ∧ Below w.heap.size w w' := by
 obtain ⟨A, cap, rfl, hl, hcm, hby⟩ := r.form
 unfold maxLen at hcm
 have R := hid r
 have HT := hid hT
 have HI := hid (RdL.oks r)
 have HWL := hid (data_len word)
 clear r hT
 have HLEN := hid (fun q (h : q ≤ ns.length) => lineB_len (ns.take q) word.data.toList (fun n hn => HI.out n (List.mem_of_mem_take hn)))
 have I0 := hid (isB_fresh w)
 have hb0 : Below w.heap.size w (w.alloc (.cells #[.pointer none, .slice none 0 0] 68)) := (Below.refl _ _).alloc (Nat.le_refl _) _
 have hlt0 : w.heap.size < (w.alloc (.cells #[.pointer none, .slice none 0 0] 68)).heap.size := (Array.getElem?_eq_some_iff.1 (heap_alloc_new w _)).1
 go_enter Tryz.func19, Tryz.ntmps19
 go_upto_region 2 with (fail)
 generalize w.alloc (.cells #[.pointer none, .slice none 0 0] 68) = W1 at *
 go_upto_region 3 with (go_at_call 35; refine (ws_n w.heap.size w.heap.size [] word _ I0.out (by simp; omega) hb0.size).mono ?_; rintro e w1 ⟨rfl, I1, hb1⟩)
 have B1 := hb0.trans hb1
 have hz1 := hb1.size
 have hlt1 : w.heap.size < w1.heap.size := by omega
 have I1 := hid (show IsB w.heap.size w.heap.size (lineB word.data.toList (ns.take 0)) w1 from I1)
 clear hb0 hb1 I0 hlt0 hz1
 go_wp2_with fail
 go_loopw [12] (fun u wr => ∃ q : Nat, q ≤ ns.length ∧ u = .int .i64 (q : Int) ∧ Hid (IsB w.heap.size w.heap.size (lineB word.data.toList (ns.take q)) wr) ∧ w.heap.size < wr.heap.size ∧ Below w.heap.size w wr) (fun u _ => ns.length - (intOf u).toNat)
 case atStart => exact ⟨0, Nat.zero_le _, rfl, I1, hlt1, B1⟩
 case round =>
  clear I1 B1
  obtain ⟨q, hq, rfl, HIB, hlw, hb⟩ := hrel
  have hsz := hb.size
  by_cases hlt : q < ns.length
  ·have RW := RdL.go R.out Flat.keeps hb hS (Sub.refl _)
   obtain ⟨b0, off, rfl, hb0, hok, hc⟩ := RdI.at1 RW hlt
   have HX := hid (show (lineB word.data.toList (ns.take q) ++ [32]) ++ (⟨(Lib.itoa ns[q]).toArray⟩ : ByteArray).data.toList = lineB word.data.toList (ns.take (q + 1)) by
    rw [List.take_succ_eq_append_getElem hlt, lineB_snoc, List.append_assoc]; rfl)
   have HL := HLEN.out q hq
   have hql : (ns.take q).length ≤ 1000 := by rw [List.length_take]; omega
   rw [HWL.out] at HL
   have hit := itoa_len ns[q] hok
   generalize ns[q] = z at *
   have hys : (⟨(Lib.itoa z).toArray⟩ : ByteArray).size ≤ 20 := by simpa [ByteArray.size] using hit
   have hzl := hok.1
   have hzu := hok.2
   have HIT := hid (fun W (h : PowT W) => itoa_n z hzl hzu W h)
   generalize (⟨(Lib.itoa z).toArray⟩ : ByteArray) = y at *
   clear RW hit HLEN
   have hcl : (lineB word.data.toList (ns.take q)).length ≤ 30000 := by omega
   go_wp2_with (go_at_call 36; refine (wb_n w.heap.size w.heap.size (lineB word.data.toList (ns.take q)) 32 _ HIB.out (by omega) hsz).mono ?_)
   rintro e w3 ⟨rfl, I3, hb3, hk3⟩
   have B3 := hb.trans hb3
   have hs3 := B3.size
   have hz3 := hb3.size
   have I3 := hid I3
   clear hk3 HIB hb hb3
   go_wp2_with (go_at_call 33; refine (HIT.out _ (HT.out.go B3)).mono ?_)
   rintro e w4 ⟨rfl, hb4⟩
   have B4 := B3.trans (hb4.mono hs3)
   have I4 := hid (I3.out.go hb4)
   have hs4 := B4.size
   have hz4 := hb4.size
   clear I3 B3 hb4
   go_wp2_with (go_at_call 35; refine (ws_n w.heap.size w.heap.size (lineB word.data.toList (ns.take q) ++ [32]) y _ I4.out (by simp only [List.length_append, List.length_singleton]; omega) hs4).mono ?_)
   rintro e w5 ⟨rfl, I5, hb5⟩
   rw [HX.out] at I5
   have I5 := hid I5
   have B5 := B4.trans hb5
   have hz5 := hb5.size
   clear I4 hb5 B4
   go_wp2_with fail
   go_roundw
   case rel => exact ⟨q + 1, by omega, by go_num, I5, by omega, B5⟩
   case measure => simp [intOf]; omega
  ·have hqn : q = ns.length := by omega
   subst hqn
   have HR := hid (show lineS word ns = ⟨(lineB word.data.toList (ns.take ns.length)).toArray⟩ by rw [List.take_length]; rfl)
   go_wp2_with (go_at_call 26; refine (bs_n w.heap.size w.heap.size _ _ HIB.out hsz).mono ?_; rintro e w3 ⟨rfl, hb3⟩)
   go_ret
   exact ⟨by rw [HR.out, List.take_length]; rfl, hb.trans hb3⟩
theorem app_bytes (a : List UInt8) (y : ByteArray) : (⟨a.toArray⟩ : ByteArray) ++ ((⟨#[32]⟩ : ByteArray) ++ y) = ⟨(a ++ (32 :: y.data.toList)).toArray⟩ := by
 refine of_list _ _ ?_
 simp [ByteArray.data_append]
set_option maxHeartbeats 1000000 in
set_option maxRecDepth 100000 in
theorem yline_n (word : Str) (hw : word.size ≤ 100) (ns : List Int) (hn : ns.length ≤ 1000) (w : World) (S : Blocks) (v : Value) (hS : Sub S (Upto w.heap.size)) (r : RdI w S ns v) (hT : PowT w) :
    Calls Tryz.prog 20 #[.string word, v] w fun e w' => e = .returned (.string (lineS word ns)) ∧ Below w.heap.size w w' := by
 obtain ⟨A, cap, rfl, hl, hcm, hby⟩ := r.form
 unfold maxLen at hcm
 have R := hid r
 have HT := hid hT
 have HI := hid (RdL.oks r)
 have HWL := hid (data_len word)
 clear r hT
 have HLEN := hid (fun q (h : q ≤ ns.length) => lineB_len (ns.take q) word.data.toList (fun n hn => HI.out n (List.mem_of_mem_take hn)))
 go_enter Tryz.func20, Tryz.ntmps20
 go_wp2_with fail
 go_loopw [0, 9] (fun s u wr => ∃ (q : Nat) (y : Str), q ≤ ns.length ∧ s = .string y ∧ u = .int .i64 (q : Int) ∧ Hid (y = ⟨(lineB word.data.toList (ns.take q)).toArray⟩) ∧ Below w.heap.size w wr) (fun _ u _ => ns.length - (intOf u).toNat)
 case atStart => exact ⟨0, word, Nat.zero_le _, rfl, rfl, hid (of_list _ _ rfl), Below.refl _ _⟩
 case round =>
  obtain ⟨q, acc, hq, rfl, rfl, HY, hb⟩ := hrel
  have hsz := hb.size
  by_cases hlt : q < ns.length
  ·have RW := RdL.go R.out Flat.keeps hb hS (Sub.refl _)
   obtain ⟨b0, off, rfl, hb0, hok, hc⟩ := RdI.at1 RW hlt
   have HL := HLEN.out q hq
   have hql : (ns.take q).length ≤ 1000 := by rw [List.length_take]; omega
   rw [HWL.out] at HL
   have hit := itoa_len ns[q] hok
   have HX := hid (fun (z : Str) (e : z = ⟨(Lib.itoa ns[q]).toArray⟩) => show acc ++ ((⟨#[32]⟩ : ByteArray) ++ z) = ⟨(lineB word.data.toList (ns.take (q + 1))).toArray⟩ by
    rw [HY.out, app_bytes, e, List.take_succ_eq_append_getElem hlt, lineB_snoc])
   have hac : acc.size ≤ 30000 := by rw [HY.out]; simp only [ByteArray.size, List.size_toArray]; omega
   generalize ns[q] = z at *
   have hzl := hok.1
   have hzu := hok.2
   obtain ⟨y, hy⟩ : ∃ y : Str, y = ⟨(Lib.itoa z).toArray⟩ := ⟨_, rfl⟩
   have hys : y.size ≤ 20 := by rw [hy]; simpa [ByteArray.size] using hit
   have HIT := hid (fun W (h : PowT W) => fj_n z hzl hzu W h)
   rw [← hy] at HIT
   have HX2 := hid (HX.out y hy)
   clear RW hit HLEN HX hy HL
   have h1y : (⟨#[32]⟩ : ByteArray).size + y.size ≤ 9223372036854775807 := by have : (⟨#[32]⟩ : ByteArray).size = 1 := rfl; omega
   go_wp2_with (go_at_call 37; refine (HIT.out _ (HT.out.go hb)).mono ?_)
   rintro e w4 ⟨rfl, hb4⟩
   have B4 := hb.trans (hb4.mono hsz)
   clear hb hb4
   go_wp2_with fail
   go_roundw
   case rel => exact ⟨q + 1, _, by omega, rfl, by go_num, hid HX2.out, B4⟩
   case measure => simp [intOf]; omega
  ·have hqn : q = ns.length := by omega
   subst hqn
   have HR := hid (show lineS word ns = acc by rw [HY.out, List.take_length]; rfl)
   go_wp2_with fail
   go_ret
   exact ⟨by rw [HR.out]; rfl, hb⟩
end Go.Proofs.YtnpgpcnkdocknaaGreatDoor
