/- Texts merged: Lex1, LexLib, Flat, But, Blk. -/
import Derived.Test.YtnpgpcnkdocknaaGreatDoorGPqSpec
import Derived.Shelf.Strings.Prefix
import Derived.Shelf.Small.Strs
import Derived.Test.YtnpgpcnkdocknaaGreatDoorBase
import Derived.Laws.MakeOwn
import Derived.Laws.OwnMore
namespace Go.Proofs.YtnpgpcnkdocknaaGreatDoor
open Go.RowKit
set_option linter.unusedVariables false
set_option maxHeartbeats 400000 in
theorem digit_any (c : UInt8) (w : World) : Calls Tryz.prog 63 #[.int .u8 (c.toNat : Int)] w fun e w' => e = .returned (.bool (digB c)) ∧ w = w' := by
 by_cases h1 : 48 ≤ c.toNat
 ·by_cases h2 : c.toNat ≤ 57
  ·have HB := hid (show digB c = true by simp [digB, h1, h2])
   have h1 : (48 : Int) ≤ (c.toNat : Int) := by omega
   have h2 : (c.toNat : Int) ≤ 57 := by omega
   go_enter Tryz.func63, Tryz.ntmps63
   go_wp2
   go_ret
   exact ⟨by rw [HB.out]; rfl, rfl⟩
  ·have HB := hid (show digB c = false by unfold digB; rw [decide_eq_false h2]; simp)
   have h1 : (48 : Int) ≤ (c.toNat : Int) := by omega
   have h2 : ¬ (c.toNat : Int) ≤ 57 := by omega
   go_enter Tryz.func63, Tryz.ntmps63
   go_wp2
   go_ret
   exact ⟨by rw [HB.out]; rfl, rfl⟩
 ·have HB := hid (show digB c = false by unfold digB; rw [decide_eq_false h1]; rfl)
  have h1 : ¬ (48 : Int) ≤ (c.toNat : Int) := by omega
  go_enter Tryz.func63, Tryz.ntmps63
  go_wp2
  go_ret
  exact ⟨by rw [HB.out]; rfl, rfl⟩
set_option maxHeartbeats 400000 in
theorem letter_any (c : UInt8) (w : World) : Calls Tryz.prog 65 #[.int .u8 (c.toNat : Int)] w fun e w' => e = .returned (.bool (letB c)) ∧ w = w' := by
 by_cases h1 : 97 ≤ c.toNat
 ·by_cases h2 : c.toNat ≤ 122
  ·have HB := hid (show letB c = true by simp [letB, h1, h2])
   have h1 : (97 : Int) ≤ (c.toNat : Int) := by omega
   have h2 : (c.toNat : Int) ≤ 122 := by omega
   go_enter Tryz.func65, Tryz.ntmps65
   go_wp2
   go_ret
   exact ⟨by rw [HB.out]; rfl, rfl⟩
  ·have HB := hid (show letB c = false by unfold letB; rw [decide_eq_false h2]; simp)
   have h1 : (97 : Int) ≤ (c.toNat : Int) := by omega
   have h2 : ¬ (c.toNat : Int) ≤ 122 := by omega
   go_enter Tryz.func65, Tryz.ntmps65
   go_wp2
   go_ret
   exact ⟨by rw [HB.out]; rfl, rfl⟩
 ·have HB := hid (show letB c = false by unfold letB; rw [decide_eq_false h1]; rfl)
  have h1 : ¬ (97 : Int) ≤ (c.toNat : Int) := by omega
  go_enter Tryz.func65, Tryz.ntmps65
  go_wp2
  go_ret
  exact ⟨by rw [HB.out]; rfl, rfl⟩
set_option maxHeartbeats 400000 in
theorem blank_any (c : UInt8) (w : World) : Calls Tryz.prog 39 #[.int .u8 (c.toNat : Int)] w fun e w' => e = .returned (.bool (blkB c)) ∧ w = w' := by
 obtain ⟨b1, h1⟩ : ∃ b, ((c.toNat : Int) == 32) = b := ⟨_, rfl⟩
 obtain ⟨b2, h2⟩ : ∃ b, ((c.toNat : Int) == 10) = b := ⟨_, rfl⟩
 obtain ⟨b3, h3⟩ : ∃ b, ((c.toNat : Int) == 9) = b := ⟨_, rfl⟩
 have HB := hid (show blkB c = (b1 || b2 || b3) by
  rw [← h1, ← h2, ← h3]
  unfold blkB
  congr 1
  ·congr 1
   ·rw [Bool.eq_iff_iff]; simp; omega
   ·rw [Bool.eq_iff_iff]; simp; omega
  ·rw [Bool.eq_iff_iff]; simp; omega)
 cases b1
 ·cases b2
  ·go_enter Tryz.func39, Tryz.ntmps39
   go_wp2
   go_ret
   exact ⟨by rw [HB.out]; cases b3 <;> rfl, rfl⟩
  ·go_enter Tryz.func39, Tryz.ntmps39
   go_wp2
   go_ret
   exact ⟨by rw [HB.out]; rfl, rfl⟩
 ·go_enter Tryz.func39, Tryz.ntmps39
  go_wp2
  go_ret
  exact ⟨by rw [HB.out]; rfl, rfl⟩
set_option maxHeartbeats 400000 in
theorem next1_any (c : UInt8) (w : World) : Calls Tryz.prog 66 #[.int .u8 (c.toNat : Int)] w fun e w' => e = .returned (.bool (nameB c)) ∧ w = w' := by
 cases hl : letB c
 ·have HB := hid (show nameB c = digB c by unfold nameB; rw [hl]; rfl)
  go_enter Tryz.func66, Tryz.ntmps66
  go_wp2_with fail
  refine (letter_any c _).mono ?_
  rintro e w' ⟨rfl, rfl⟩
  rw [hl]
  go_wp2_with fail
  refine (digit_any c _).mono ?_
  rintro e w' ⟨rfl, rfl⟩
  go_wp2
  go_ret
  exact ⟨by rw [HB.out]; rfl, rfl⟩
 ·have HB := hid (show nameB c = true by unfold nameB; rw [hl]; rfl)
  go_enter Tryz.func66, Tryz.ntmps66
  go_wp2_with fail
  refine (letter_any c _).mono ?_
  rintro e w' ⟨rfl, rfl⟩
  rw [hl]
  go_wp2_with fail
  go_ret
  exact ⟨by rw [HB.out]; rfl, rfl⟩
set_option maxHeartbeats 400000 in
theorem run_any (F : FuncId) (p : UInt8 → Bool) (hF : ∀ (args : Array Value) (w : World), (callFunc F args).run Tryz.prog w = .ok (.enter F args) w)
    (H : ∀ (c : UInt8) (w : World), Calls Tryz.prog F #[.int .u8 (c.toNat : Int)] w fun e w' => e = .returned (.bool (p c)) ∧ w = w')
    (s : ByteArray) (a : Nat) (ha : a ≤ s.size) (hs : s.size ≤ 9223372036854775807) (w : World) :
    Calls Tryz.prog 38 #[.string s, .int .i64 (a : Int), .func (.func F) #[] #[]] w fun e w' => e = .returned (.int .i64 ((runL p s.data.toList a : Nat) : Int)) ∧ w = w' := by
 have HH := hid H
 have HL := hid (show s.data.toList.length = s.size by simp)
 clear H
 go_enter Tryz.func38, Tryz.ntmps38
 go_wp2
 go_loop [1] (fun t => ∃ k : Nat, k ≤ s.size ∧ t = .int .i64 (k : Int) ∧ Hid (runL p s.data.toList a = runL p s.data.toList k)) (fun t => s.size - (intOf t).toNat)
 case atStart => exact ⟨a, ha, rfl, hid rfl⟩
 case round =>
  obtain ⟨k, hk, rfl, HR⟩ := hrel
  by_cases hlt : k < s.size
  ·have hlt' : k < s.data.toList.length := by rw [HL.out]; exact hlt
   have hsk : s.data.toList[k] = s[k]'hlt := by rw [Array.getElem_toList]; rfl
   cases hp : p (s[k]'hlt)
   ·have HS := hid (show runL p s.data.toList a = k by rw [HR.out, runL_stop hlt' (by rw [hsk]; exact hp)])
    clear hlt' hsk
    go_wp2_with fail
    refine (HH.out (s[k]'hlt) _).mono ?_
    rintro e w' ⟨rfl, rfl⟩
    rw [hp]
    go_wp2_with fail
    go_ret
    exact ⟨by rw [HS.out]; rfl, rfl⟩
   ·have HS := hid (show runL p s.data.toList a = runL p s.data.toList (k + 1) by rw [HR.out, runL_step hlt' (by rw [hsk]; exact hp)])
    clear hlt' hsk
    go_wp2_with fail
    refine (HH.out (s[k]'hlt) _).mono ?_
    rintro e w' ⟨rfl, rfl⟩
    rw [hp]
    go_wp2_with fail
    go_round
    case rel => exact ⟨k + 1, by omega, by go_num, HS⟩
    case measure => simp [intOf]; omega
  ·have HS := hid (show runL p s.data.toList a = k by rw [HR.out, runL_end (by rw [HL.out]; omega)])
   go_wp2_with fail
   go_ret
   exact ⟨by rw [HS.out]; rfl, rfl⟩
end Go.Proofs.YtnpgpcnkdocknaaGreatDoor
namespace Go.Proofs.YtnpgpcnkdocknaaGreatDoor
open Go.Shelf Go.RowKit
set_option linter.unusedVariables false
def lays99_ren : Go.Shelf.Ren := ⟨fun | 99 => 67 | 206 => 90 | n => n, fun | 9 => 9 | 4 => 4 | 3 => 3 | n => n, fun | n => n⟩
theorem lays99 : Go.Proofs.Lays.n99 Tryz.prog lays99_ren where
 mixed := by kernel_rfl
 f99 := Tryz.func67.trans (congrArg some (by kernel_rfl))
 f206 := Tryz.func90.trans (congrArg some (by kernel_rfl))
 t3 := Tryz.underlying3
 a3 := Tryz.isAgg3
 z3 := Tryz.sizeOf3
 v3 := Tryz.zeroValue3
 t4 := Tryz.underlying4
 a4 := Tryz.isAgg4
 z4 := Tryz.sizeOf4
 v4 := Tryz.zeroValue4
 t9 := Tryz.underlying9
 a9 := Tryz.isAgg9
 z9 := Tryz.sizeOf9
 v9 := Tryz.zeroValue9
def lays137_ren : Go.Shelf.Ren := ⟨fun | 137 => 68 | 217 => 91 | 266 => 114 | n => n, fun | 9 => 9 | 5 => 5 | 3 => 3 | n => n, fun | n => n⟩
theorem lays137 : Go.Proofs.Lays.n137 Tryz.prog lays137_ren where
 mixed := by kernel_rfl
 f137 := Tryz.func68.trans (congrArg some (by kernel_rfl))
 f217 := Tryz.func91.trans (congrArg some (by kernel_rfl))
 f266 := Tryz.func114.trans (congrArg some (by kernel_rfl))
 t3 := Tryz.underlying3
 a3 := Tryz.isAgg3
 z3 := Tryz.sizeOf3
 v3 := Tryz.zeroValue3
 t5 := Tryz.underlying5
 a5 := Tryz.isAgg5
 z5 := Tryz.sizeOf5
 v5 := Tryz.zeroValue5
 t9 := Tryz.underlying9
 a9 := Tryz.isAgg9
 z9 := Tryz.sizeOf9
 v9 := Tryz.zeroValue9
theorem hasPrefix_n (s p : ByteArray) (w : World) : Calls Tryz.prog 67 #[.string s, .string p] w fun e w' => e = .returned (.bool (Lib.hasPrefix s.data.toList p.data.toList)) ∧ w = w' := (Any.strings_HasPrefix lays99 s p w).mono fun _ _ h => ⟨h.1, h.2.symm⟩
theorem indexByte_n (s : ByteArray) (c : Int) (w : World) : Calls Tryz.prog 68 #[.string s, .int .u8 c] w fun e w' => e = .returned (.int .i64 (Lib.indexByte s.data.toList c.toNat.toUInt8)) ∧ w = w' := (Any.strings_IndexByte lays137 s c w).mono fun _ _ h => ⟨h.1, h.2.symm⟩
end Go.Proofs.YtnpgpcnkdocknaaGreatDoor
namespace Go.Proofs.YtnpgpcnkdocknaaGreatDoor
open Go.RowKit
set_option linter.unusedVariables false

def Flat {α : Type} (enc : α → List Value) (ok : α → Prop) : World → Blocks → α → List Value → Prop := fun _ _ x cs => cs = enc x ∧ ok x
theorem Flat.keeps {α : Type} {enc : α → List Value} {ok : α → Prop} : Keeps (Flat enc ok) := fun _ _ _ _ _ _ _ _ h => h

def encU (x : Nat) : List Value := [.int .u64 (x : Int)]
def okU (x : Nat) : Prop := x < 18446744073709551616
abbrev RdU := RdL (Flat encU okU) 1 8
def encI (x : Int) : List Value := [.int .i64 x]
abbrev RdI := RdL (Flat encI inI) 1 8

section
variable {α : Type} {enc : α → List Value} {ok : α → Prop} {size bytes : Nat} {E : TypeId} {w w' : World} {base : Nat} {S S' : Blocks} {l : List α} {v : Value}
theorem RdL.flat {A : Option Addr} {n cap : Nat} (h : RdL (Flat enc ok) size bytes w S l (.slice A n cap)) {q : Nat} (hq : q < l.length) :
    ∃ b off, A = some ⟨b, off, none⟩ ∧ S b ∧ ok l[q] ∧ ∀ (j : Nat) v, (enc l[q])[j]? = some v → w.cell? ⟨b, off + (q * size + j), none⟩ = some v := by
 obtain ⟨b, off, cs, hA, hb, _, hc, rfl, hok⟩ := h.at_ hq
 exact ⟨b, off, hA, hb, hok, hc⟩
theorem RdL.one {f : α → Value} {A : Option Addr} {n cap : Nat} (h : RdL (Flat (fun x => [f x]) ok) 1 bytes w S l (.slice A n cap)) {q : Nat} (hq : q < l.length) :
    ∃ b off, A = some ⟨b, off, none⟩ ∧ S b ∧ ok l[q] ∧ w.cell? ⟨b, off + q, none⟩ = some (f l[q]) := by
 obtain ⟨b, off, hA, hb, hok, hc⟩ := h.flat hq
 have := hc 0 (f l[q]) rfl
 simp only [Nat.mul_one, Nat.add_zero] at this
 exact ⟨b, off, hA, hb, hok, this⟩
theorem RdL.bare (h : RdL (Flat enc ok) size bytes w S l v) (T : Blocks) : RdL (fun w' _ e cs => Flat enc ok w' T e cs) size bytes w S l v := h
theorem RdL.oks {A : Option Addr} {n cap : Nat} (h : RdL (Flat enc ok) size bytes w S l (.slice A n cap)) : ∀ x ∈ l, ok x := by
 intro x hx
 obtain ⟨q, hq, rfl⟩ := List.getElem_of_mem hx
 obtain ⟨_, _, _, _, h2, _⟩ := h.flat hq
 exact h2
theorem RdL.take {rd : World → Blocks → α → List Value → Prop} {A : Option Addr} {n cap m : Nat} (h : RdL rd size bytes w S l (.slice A n cap)) (hm : m ≤ l.length) : RdL rd size bytes w S (l.take m) (.slice A m cap) := by
 obtain ⟨A', cap', css, h1, h2, h3, h4, h5, h6, h7⟩ := h
 injection h1 with e1 e2 e3
 subst e1 e2 e3
 have hl : (l.take m).length = m := by simp; omega
 refine ⟨A, cap, css.take m, by rw [hl], by omega, h3, ?_, by simp; omega, ⟨fun cs hcs => h6.1 cs (List.mem_of_mem_take hcs), fun hne => ?_⟩, fun i e cs hi hc => ?_⟩
 ·rw [hl]; exact Nat.le_trans (Nat.mul_le_mul_right _ hm) h4
 ·obtain ⟨b, off, hA, hb, hc⟩ := h6.2 (by intro h; subst h; simp at hne)
  refine ⟨b, off, hA, hb, fun i cs hi j v hv => hc i cs ?_ j v hv⟩
  rw [List.getElem?_take] at hi
  split at hi
  ·exact hi
  ·cases hi
 ·rw [List.getElem?_take] at hi hc
  split at hi
  ·rename_i hlt
   rw [if_pos hlt] at hc
   exact h7 i e cs hi hc
  ·cases hi

theorem OwnL.flat (h : OwnL (Flat enc ok) size E w base S l v) (hne : 0 < l.length) : ∃ g cap, v = .slice (some ⟨g, 0, none⟩) l.length cap ∧ base ≤ g ∧ g < w.heap.size ∧ l.length ≤ cap ∧ cap ≤ maxLen ∧
    (∀ o, w.frozen? ⟨g, o, none⟩ = false) ∧ ∀ (q : Nat) (hq : q < l.length), ok l[q] ∧ ∀ (j : Nat) u, (enc l[q])[j]? = some u → w.cell? ⟨g, q * size + j, none⟩ = some u := by
 obtain ⟨T, css, _, _, _, h1, h2, h3, h4⟩ := h
 have hc := fun g hg => h3.cells (g := g) hg
 rcases h3.2 with ⟨rfl, h0⟩ | ⟨g, cap, cur, rfl, hbg, hg, hn, hcap, hsz, htake⟩
 ·omega
 ·refine ⟨g, cap, rfl, hbg, (Array.getElem?_eq_some_iff.1 hg).1, hn, hcap, fun o => by simp [World.frozen?, hg], fun q hq => ?_⟩
  have hqc : css[q]? = some css[q] := List.getElem?_eq_getElem (by omega)
  obtain ⟨e, hok⟩ := h4 q _ _ (List.getElem?_eq_getElem hq) hqc
  refine ⟨hok, fun j u hu => ?_⟩
  rw [← e] at hu
  have := hc g rfl (q * size + j) u (flatten_at h2 hqc hu)
  have hadd : (⟨g, 0, none⟩ : Addr).add (q * size + j) = ⟨g, q * size + j, none⟩ := by unfold Addr.add; split <;> simp_all
  rwa [hadd] at this
theorem OwnL.oks (h : OwnL (Flat enc ok) size E w base S l v) : ∀ x ∈ l, ok x := by
 intro x hx
 obtain ⟨q, hq, rfl⟩ := List.getElem_of_mem hx
 obtain ⟨_, _, _, _, _, _, _, _, h2⟩ := h.flat (by omega)
 exact (h2 q hq).1
end
section
variable {α : Type} {f : α → Value} {ok : α → Prop} {E : TypeId} {w w' : World} {base : Nat} {S S' : Blocks} {l : List α}
theorem flat_one {css : List (List Value)} {l : List α} (h1 : css.length = l.length) (h4 : ∀ (i : Nat) e cs, l[i]? = some e → css[i]? = some cs → cs = [f e] ∧ ok e) : css.flatten = l.map f := by
 induction l generalizing css with
 | nil => simp at h1; subst h1; rfl
 | cons x r ih =>
  match css, h1 with
  | c :: cr, h1 =>
   have := (h4 0 x c rfl rfl).1
   subst this
   simp only [List.flatten_cons, List.map_cons, List.singleton_append, List.cons.injEq, true_and]
   exact ih (by simpa using h1) (fun i e cs a b => h4 (i + 1) e cs (by simpa using a) (by simpa using b))
theorem OwnL.set1 {g n cap : Nat} (h : OwnL (Flat (fun x => [f x]) ok) 1 E w base S l (.slice (some ⟨g, 0, none⟩) n cap)) {q : Nat} (hq : q < l.length) (x : α) (hx : ok x) :
    OwnL (Flat (fun x => [f x]) ok) 1 E (w.setCell ⟨g, q, none⟩ (f x)) base S (l.set q x) (.slice (some ⟨g, 0, none⟩) n cap) := by
 obtain ⟨T, css, t1, t2, t3, h1, h2, h3, h4⟩ := h
 have hflat := flat_one (f := f) (ok := ok) h1 h4
 rw [hflat] at h3
 obtain ⟨hl, h3⟩ := h3
 rcases h3 with ⟨hv, _⟩ | ⟨g', cap', cur, hv, hbg, hg, hn, hcap, hsz, htake⟩
 ·cases hv
 ·injection hv with e1 e2 e3
  injection e1 with e1
  injection e1 with e1
  subst e1 e2 e3
  have hm : ((l.set q x).map fun y => [f y]).flatten = (l.map f).set q (f x) := by
   rw [← List.map_set]
   induction (l.set q x) with
   | nil => rfl
   | cons a r ih => simp [ih]
  refine ⟨T, (l.set q x).map fun y => [f y], t1, by simpa [World.setCell] using t2, t3, by simp, (fun cs hcs => by obtain ⟨y, _, rfl⟩ := List.mem_map.1 hcs; rfl), ⟨by rw [hm]; simp, .inr ⟨g, cap, cur.setIfInBounds q (f x), by simp, hbg, ?_, by simpa using hn, hcap, by simpa using hsz, ?_⟩⟩, fun i e cs hi hc => ?_⟩
  ·simp [World.setCell, Array.getElem?_modify, hg]
  ·rw [hm, ← htake]
   simp only [List.length_set, Nat.mul_one, Array.toList_setIfInBounds]
   rw [List.take_set]
  ·rw [List.getElem?_map] at hc
   rw [hi] at hc
   simp at hc
   subst hc
   refine ⟨rfl, ?_⟩
   rcases Nat.lt_or_ge i l.length with hil | hil
   ·by_cases hiq : q = i
    ·subst hiq
     rw [List.getElem?_set_self hq] at hi
     simp at hi; subst hi; exact hx
    ·rw [List.getElem?_set_ne hiq] at hi
     have hic : css[i]? = some css[i] := List.getElem?_eq_getElem (by omega)
     exact (h4 i e _ hi hic).2
   ·rw [List.getElem?_eq_none (by simpa using hil)] at hi
    cases hi
theorem OwnL.made {n : Nat} (x : α) (hx : ok x) (hb : base ≤ w.heap.size) (hn : n ≤ maxLen) : OwnL (Flat (fun x => [f x]) ok) 1 E (w.alloc (.cells (Array.replicate n (f x)) E)) base S (List.replicate n x) (.slice (some ⟨w.heap.size, 0, none⟩) n n) := by
 refine ⟨fun _ => False, (List.replicate n x).map fun y => [f y], fun _ h => h.elim, fun _ h => h.elim, fun _ _ h => h, by simp, by simp, ⟨by simp, .inr ⟨w.heap.size, n, Array.replicate n (f x), by simp, hb, heap_alloc_new w _, by simp, hn, by simp, ?_⟩⟩, fun i e cs hi hc => ?_⟩
 ·have hm : ((List.replicate n x).map fun y => [f y]).flatten = List.replicate n (f x) := by
    induction n with
    | zero => rfl
    | succ n ih => simp [List.replicate_succ]
  rw [hm]
  simp
 ·rw [List.getElem?_map, hi] at hc
  simp at hc
  subst hc
  rw [List.getElem?_replicate] at hi
  split at hi
  ·simp at hi; subst hi; exact ⟨rfl, hx⟩
  ·cases hi
end
def Nowhere : Blocks := fun _ => False
theorem Sub.nowhere (S : Blocks) : Sub Nowhere S := fun _ h => h.elim
theorem not_nowhere {v : Value} : ∀ k, v.ownBlock = some k → ¬ Nowhere k := fun _ _ h => h
theorem RdU.at1 {w : World} {S : Blocks} {l : List Nat} {A : Option Addr} {n cap : Nat} (h : RdU w S l (.slice A n cap)) {q : Nat} (hq : q < l.length) :
    ∃ b off, A = some ⟨b, off, none⟩ ∧ S b ∧ l[q] < 18446744073709551616 ∧ w.cell? ⟨b, off + q, none⟩ = some (.int .u64 ((l[q] : Nat) : Int)) :=
 RdL.one (f := fun (x : Nat) => Value.int .u64 (x : Int)) (ok := okU) h hq
theorem RdI.at1 {w : World} {S : Blocks} {l : List Int} {A : Option Addr} {n cap : Nat} (h : RdI w S l (.slice A n cap)) {q : Nat} (hq : q < l.length) :
    ∃ b off, A = some ⟨b, off, none⟩ ∧ S b ∧ inI l[q] ∧ w.cell? ⟨b, off + q, none⟩ = some (.int .i64 l[q]) :=
 RdL.one (f := fun (x : Int) => Value.int .i64 x) (ok := inI) h hq
abbrev OwnU := OwnL (Flat encU okU) 1
abbrev OwnI := OwnL (Flat encI inI) 1
theorem OwnU.open_ {E : TypeId} {w : World} {base : Nat} {S : Blocks} {l : List Nat} {v : Value} (h : OwnU E w base S l v) (hne : 0 < l.length) : ∃ g cap, v = .slice (some ⟨g, 0, none⟩) l.length cap ∧ base ≤ g ∧ g < w.heap.size ∧ l.length ≤ cap ∧ cap ≤ maxLen ∧
    (∀ o, w.frozen? ⟨g, o, none⟩ = false) ∧ ∀ (q : Nat) (hq : q < l.length), l[q] < 18446744073709551616 ∧ w.cell? ⟨g, q, none⟩ = some (.int .u64 ((l[q] : Nat) : Int)) := by
 obtain ⟨g, cap, h1, h2, h3, h4, h5, h6, h7⟩ := h.flat hne
 exact ⟨g, cap, h1, h2, h3, h4, h5, h6, fun q hq => ⟨(h7 q hq).1, by simpa using (h7 q hq).2 0 _ rfl⟩⟩
theorem OwnI.open_ {E : TypeId} {w : World} {base : Nat} {S : Blocks} {l : List Int} {v : Value} (h : OwnI E w base S l v) (hne : 0 < l.length) : ∃ g cap, v = .slice (some ⟨g, 0, none⟩) l.length cap ∧ base ≤ g ∧ g < w.heap.size ∧ l.length ≤ cap ∧ cap ≤ maxLen ∧
    (∀ o, w.frozen? ⟨g, o, none⟩ = false) ∧ ∀ (q : Nat) (hq : q < l.length), inI l[q] ∧ w.cell? ⟨g, q, none⟩ = some (.int .i64 l[q]) := by
 obtain ⟨g, cap, h1, h2, h3, h4, h5, h6, h7⟩ := h.flat hne
 exact ⟨g, cap, h1, h2, h3, h4, h5, h6, fun q hq => ⟨(h7 q hq).1, by simpa using (h7 q hq).2 0 _ rfl⟩⟩
structure But (T : Blocks) (w w' : World) : Prop where
 os : w'.os = w.os
 tape : w'.tape = w.tape
 output : w'.output = w.output
 size : w.heap.size ≤ w'.heap.size
 block : ∀ k, k < w.heap.size → ¬ T k → w'.heap[k]? = w.heap[k]?
def Is (b : Nat) : Blocks := fun k => k = b
theorem But.refl (T : Blocks) (w : World) : But T w w := ⟨rfl, rfl, rfl, Nat.le_refl _, fun _ _ _ => rfl⟩
theorem But.trans {T : Blocks} {a b c : World} (h : But T a b) (k : But T b c) : But T a c :=
 ⟨k.os.trans h.os, k.tape.trans h.tape, k.output.trans h.output, Nat.le_trans h.size k.size, fun i hi ht => (k.block i (Nat.lt_of_lt_of_le hi h.size) ht).trans (h.block i hi ht)⟩
theorem But.sub {T U : Blocks} {a b : World} (h : But T a b) (hs : Sub T U) : But U a b := ⟨h.os, h.tape, h.output, h.size, fun k hk ht => h.block k hk (fun e => ht (hs _ e))⟩
theorem But.drewN {T : Blocks} {a b : World} (h : But T a b) (n : Nat) : But T a (b.drewN n) := ⟨h.os, h.tape, h.output, h.size, h.block⟩
theorem But.drew {T : Blocks} {a b : World} (h : But T a b) : But T a b.drew := ⟨h.os, h.tape, h.output, h.size, h.block⟩
theorem But.of_below {T : Blocks} {a b : World} (h : Below a.heap.size a b) : But T a b := ⟨h.os, h.tape, h.output, h.size, fun k hk _ => h.block k hk⟩
theorem But.alloc {T : Blocks} {a b : World} (h : But T a b) (o : Obj) : But T a (b.alloc o) := h.trans (.of_below ((Below.refl _ _).alloc (Nat.le_refl _) _))
theorem But.setCell {T : Blocks} {a b : World} (h : But T a b) {p : Addr} (hp : T p.block) (u : Value) : But T a (b.setCell p u) :=
 h.trans ⟨rfl, rfl, rfl, by simp [World.setCell], fun k hk ht => by
  have hne : p.block ≠ k := fun e => ht (e ▸ hp)
  simp [World.setCell, Array.getElem?_modify, hne]⟩
theorem But.setNew {T : Blocks} {a b : World} (h : But T a b) {p : Addr} (hp : T p.block ∨ a.heap.size ≤ p.block) (u : Value) : But T a (b.setCell p u) :=
 ⟨h.os, h.tape, h.output, by rw [size_setCell]; exact h.size, fun k hk ht => by
  have hne : p.block ≠ k := fun e => hp.elim (fun h => ht (e ▸ h)) (fun h => by omega)
  have h2 : (b.setCell p u).heap[k]? = b.heap[k]? := by simp [World.setCell, Array.getElem?_modify, hne]
  exact h2.trans (h.block k hk ht)⟩
theorem But.below {T : Blocks} {B : Nat} {a b : World} (h : But T a b) (hB : B ≤ a.heap.size) (hT : ∀ k, T k → B ≤ k) : Below B a b :=
 ⟨h.os, h.tape, h.output, h.size, fun k hk => h.block k (by omega) (fun e => by have := hT k e; omega)⟩
theorem But.cell {T : Blocks} {w w' : World} (h : But T w w') {p : Addr} {v : Value} (hT : ¬ T p.block) (hc : w.cell? p = some v) : w'.cell? p = some v := by
 have hlt : p.block < w.heap.size := World.block_lt_of_cell? w _ hc
 rw [World.cell?_of_block (h.block _ hlt hT)]; exact hc
theorem But.same {T S : Blocks} {w w' : World} (h : But T w w') (hS : Sub S (Upto w.heap.size)) (hT : ∀ k, S k → ¬ T k) : Same S w w' :=
 fun p hp => World.cell?_of_block (h.block _ (hS _ hp) (hT _ hp))
theorem frozen_of_block {w w' : World} {b o : Nat} {sp : Option Nat} (h : w'.heap[b]? = w.heap[b]?) : w'.frozen? ⟨b, o, sp⟩ = w.frozen? ⟨b, o, sp⟩ := by
 simp only [World.frozen?, h]
theorem OwnL.but {α : Type} {enc : α → List Value} {ok : α → Prop} {size : Nat} {E : TypeId} {w w' : World} {base : Nat} {S T : Blocks} {l : List α} {v : Value} (h : OwnL (Flat enc ok) size E w base S l v) (hb : But T w w') (hT : ∀ k, v.ownBlock = some k → ¬ T k) : OwnL (Flat enc ok) size E w' base S l v := by
 obtain ⟨U, css, t1, t2, t3, h1, h2, h3, h4⟩ := h
 refine ⟨U, css, t1, t2.lift hb.size, t3, h1, h2, ?_, h4⟩
 obtain ⟨e, h3⟩ := h3
 refine ⟨e, ?_⟩
 rcases h3 with h3 | ⟨g, cap, cur, rfl, hbg, hg, hn, hcap, hsz, htake⟩
 ·exact .inl h3
 ·refine .inr ⟨g, cap, cur, rfl, hbg, ?_, hn, hcap, hsz, htake⟩
  rw [hb.block g (Array.getElem?_eq_some_iff.1 hg).1 (hT g rfl)]; exact hg
theorem But.of_grown {w w' : World} {row : Option Nat} (h : w.grownBy w' row) : But (fun k => row = some k) w w' :=
 ⟨h.os, h.tape, h.output, h.size, fun k hk ht => h.block k hk (fun e => ht e.symm)⟩
structure Blk (base : Nat) (w : World) (b : Nat) (vs : List Value) : Prop where
 ge : base ≤ b
 lt : b < w.heap.size
 cell : ∀ (q : Nat) v, vs[q]? = some v → w.cell? ⟨b, q, none⟩ = some v
 fr : ∀ o, w.frozen? ⟨b, o, none⟩ = false
section
variable {base : Nat} {w w' : World} {b : Nat} {vs : List Value}
theorem Blk.but {T : Blocks} (r : Blk base w b vs) (h : But T w w') (ht : ¬ T b) : Blk base w' b vs :=
 ⟨r.ge, Nat.lt_of_lt_of_le r.lt h.size, fun q v hq => h.cell ht (r.cell q v hq), fun o => (frozen_of_block (h.block _ r.lt ht)).trans (r.fr o)⟩
theorem Blk.below (r : Blk base w b vs) (h : Below w.heap.size w w') : Blk base w' b vs := r.but (T := Nowhere) (But.of_below h) (fun h => h)
theorem Blk.drewN (r : Blk base w b vs) (n : Nat) : Blk base (w.drewN n) b vs := ⟨r.ge, r.lt, r.cell, r.fr⟩
theorem Blk.drew (r : Blk base w b vs) : Blk base w.drew b vs := ⟨r.ge, r.lt, r.cell, r.fr⟩
theorem Blk.set (r : Blk base w b vs) {i : Nat} (hi : i < vs.length) (x : Value) : Blk base (w.setCell ⟨b, i, none⟩ x) b (vs.set i x) := by
 refine ⟨r.ge, by rw [size_setCell]; exact r.lt, fun q v hq => ?_, fun o => by rw [World.frozen?_setCell]; exact r.fr o⟩
 rw [List.getElem?_set] at hq
 by_cases e : i = q
 ·subst e
  rw [if_pos rfl, if_pos hi] at hq
  injection hq with hq; subst hq
  exact World.cell?_setCell_same' _ _ _ (by rw [r.cell i vs[i] (List.getElem?_eq_getElem hi)]; rfl)
 ·rw [if_neg e] at hq
  rw [World.cell?_setCell_other _ _ _ _ (fun h => e (by injection h with _ h))]
  exact r.cell q v hq
theorem Blk.other (r : Blk base w b vs) {p : Addr} (hp : p.block ≠ b) (x : Value) : Blk base (w.setCell p x) b vs := by
 refine ⟨r.ge, by rw [size_setCell]; exact r.lt, fun q v hq => ?_, fun o => by rw [World.frozen?_setCell]; exact r.fr o⟩
 rw [World.cell?_setCell_other _ _ _ _ (fun h => hp (by rw [h]))]
 exact r.cell q v hq
theorem Blk.made (w : World) (vs : List Value) (E : TypeId) {base : Nat} (hb : base ≤ w.heap.size) : Blk base (w.alloc (.cells vs.toArray E)) w.heap.size vs := by
 have h := heap_alloc_new w (.cells vs.toArray E)
 refine ⟨hb, by simp, fun q v hq => ?_, fun o => ?_⟩
 ·unfold World.cell?
  simp only [h]
  simpa using hq
 ·unfold World.frozen?
  simp only [h]
  simp
theorem Blk.rebase (r : Blk base w b vs) {base' : Nat} (h : base' ≤ base) : Blk base' w b vs := ⟨Nat.le_trans h r.ge, r.lt, r.cell, r.fr⟩
end
theorem Blk.mapAt {α : Type} {f : α → Value} {base : Nat} {w : World} {b : Nat} {l : List α} (r : Blk base w b (l.map f)) {q : Nat} {x : α} (h : l[q]? = some x) : w.cell? ⟨b, q, none⟩ = some (f x) :=
 r.cell q _ (by rw [List.getElem?_map, h]; rfl)
end Go.Proofs.YtnpgpcnkdocknaaGreatDoor
