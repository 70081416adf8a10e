/- Texts merged: Ls1, PairRow, PrI. -/
import Derived.Test.YtnpgpcnkdocknaaDoorGMks
import Derived.Test.YtnpgpcnkdocknaaDoorGPopFold
import Derived.RangeFuncBox
import Derived.Test.YtnpgpcnkdocknaaDoorGRdEW
import Derived.Test.YtnpgpcnkdocknaaDoorRows
import Derived.Test.YtnpgpcnkdocknaaDoorBase
namespace Go.Proofs.YtnpgpcnkdocknaaDoor
open Go.RowKit Go.Shelf
set_option linter.unusedVariables false
attribute [local go_sem] Oper.semAt_some
theorem infoLs : (Tryd.prog.info? 3).map (fun i => (i.zero, i.size, i.bytes)) = some (some (.int .i64 0), 1, 8) := by kernel_rfl
def encN (x : Nat) : Value := .int .i64 (x : Int)
def castN (l : List Nat) : List Int := l.map fun (x : Nat) => (x : Int)
theorem castN_flat : ∀ l : List Nat, ((castN l).map (fun x => [Value.int .i64 x])).flatten = l.map encN
  | [] => rfl
  | x :: r => by
    show [Value.int .i64 (x : Int)] ++ ((castN r).map (fun x => [Value.int .i64 x])).flatten = encN x :: r.map encN
    rw [castN_flat r]; rfl
/-- a row of the call's own that holds numbers reads as their list -/
theorem own_reads {W : World} {base : Nat} {l : List Nat} {v : Value} (h : W.ownsRow base 3 1 v l.length (l.map encN)) (hl : ∀ x ∈ l, inI (x : Int)) (hb : l.length * 8 ≤ 140737488355328) :
    RdI W (Plus Nowhere base W.heap.size) (castN l) v := by
  have ho : OwnI 3 W base Nowhere (castN l) v := by
    refine ⟨Nowhere, (castN l).map (fun x => [Value.int .i64 x]), Sub.refl _, Sub.nowhere _, fun _ _ h => h, by simp, by simp, ?_, fun i e cs hi hc => ?_⟩
    · have e1 := castN_flat l
      rw [e1]
      simpa [castN] using h
    · rw [List.getElem?_map, hi] at hc
      simp at hc; subst hc
      refine ⟨rfl, ?_⟩
      obtain ⟨x, hx, rfl⟩ := List.mem_map.1 (List.mem_of_getElem? hi)
      exact hl x hx
  exact ho.toRd (bytes := 8) Flat.keeps (by simpa [castN] using hb) (Sub.nowhere _) (fun b h1 h2 => .inr ⟨h1, h2⟩)
set_option maxHeartbeats 1600000 in
set_option maxRecDepth 100000 in
theorem list_any (l : List Nat) (hsm : l.length ≤ 1048576) (w : World) (S : Blocks) (v : Value) (hS : Sub S (Upto w.heap.size)) (hT : Tab w) (re : RdU w S l v) :
    Calls Tryd.prog 14 #[v] w fun e w' => ∃ u, e = .returned u ∧ RdI w' (Plus Nowhere w.heap.size w'.heap.size) (castN (memB l l.length)) u ∧ Below w.heap.size w w' := by
  obtain ⟨A, cap, rfl, hl, hcm, hby⟩ := re.form
  have hml : (memB l l.length).length ≤ 64 * l.length := by
    rw [memB_filter]; exact Nat.le_trans (List.length_filter_le _ _) (by simp)
  have hmi : ∀ x ∈ memB l l.length, inI (x : Int) := by
    intro x hx
    rw [memB_filter] at hx
    have := List.mem_range.1 (List.mem_filter.1 hx).1
    unfold inI; omega
  obtain ⟨i0, hi, hz0, hz1, hz2⟩ := info_parts infoLs
  have RE := Lib.hid re
  have HS := Lib.hid hS
  have HT := Lib.hid hT
  clear re hS hT
  refine (callsIn_wide (n := 3)).1 ?_
  refine callsIn_of_wp_marks Tryd.func14 rfl trivial ?_ rfl
  simp only [Tryd.ntmps14, List.size_toArray, List.length_cons, List.length_nil, Nat.reduceAdd, Nat.reduceSub, Array.replicate_succ, Array.replicate_zero, List.push_toArray, List.append_toArray, List.nil_append, List.cons_append]
  gi_wp2
  refine ⟨trivial, ?_⟩
  refine (all_in _ _ _ _ _).mono ?_
  rintro e w2 ⟨rfl, rfl⟩
  gi_wp2
  have b1 : Below w.heap.size w (((w.alloc (.cells #[.slice none 0 0] 26))).alloc (.cells #[.slice A l.length cap] 45)) := ((Below.refl _ _).alloc (Nat.le_refl _) _).alloc (by simp) _
  have hcS : (((w.alloc (.cells #[.slice none 0 0] 26))).alloc (.cells #[.slice A l.length cap] 45)).cell? ⟨((w.alloc (.cells #[.slice none 0 0] 26))).heap.size, 0, none⟩ = some (.slice A l.length cap) := (Boxed.new _ _ _).cell
  have hbx : Boxed (((w.alloc (.cells #[.slice none 0 0] 26))).alloc (.cells #[.slice A l.length cap] 45)) w.heap.size 26 (.slice none 0 0) := (Boxed.new w 26 (.slice none 0 0)).alloc _
  have REW := Lib.hid (RE.out.keep Flat.keeps (Sub.refl _) (same_of_below b1 HS.out))
  have TW := HT.out.go b1
  have hsz0 : (((w.alloc (.cells #[.slice none 0 0] 26))).alloc (.cells #[.slice A l.length cap] 45)).heap.size = w.heap.size + 1 + 1 := by simp
  rw [show ((w.alloc (.cells #[.slice none 0 0] 26))).heap.size = w.heap.size + 1 by simp] at hcS
  obtain ⟨W0, hW0⟩ : ∃ W0, ((w.alloc (.cells #[.slice none 0 0] 26))).alloc (.cells #[.slice A l.length cap] 45) = W0 := ⟨_, rfl⟩
  rw [hW0] at hcS hbx b1 REW TW hsz0 ⊢
  clear hW0
  have hg0 : 0 < w.heap.size := HT.out.2
  refine wpIn_rangeFunc_ownH rfl (by omega) (gf := 23) (lb := #[.pointer (some ⟨w.heap.size + 1, 0, none⟩)]) rfl trivial (enters_of Tryd.func23 (by kernel_rfl) rfl)
    (all_stops _ (by omega) (w.heap.size + 1) w.heap.size A cap l S HS.out W0 (by omega) (by omega) TW hg0 hcS REW.out) belowK_t (belowK_b (by omega)) (Below.refl _ _) (fun _ => rfl)
    (fun pre W => (∃ v, Boxed W w.heap.size 26 v ∧ W.ownsRow w.heap.size 3 1 v pre.length (pre.map encN) ∧ True) ∧ Below w.heap.size w W)
    (fun c pre W => False)
    (OwnFrom.and (Own.from (holdsRow_own w.heap.size w.heap.size 26 3 1 List.length (List.map encN) (fun _ _ => True)) _) (ownFrom_below (Nat.le_refl _) (by omega)))
    (fun c => fun _ _ _ _ h _ _ => h)
    ⟨⟨_, hbx, World.ownsRow_nil _ _ _ _, trivial⟩, b1⟩
    (fun x a' W => a' = { tmps := #[.slice A l.length cap, undef, .slice none 0 0, .pointer (some ⟨w.heap.size, 0, none⟩), .int .i64 (x : Int), .slice A l.length cap, .func (.func 23) #[] #[.pointer (some ⟨w.heap.size + 1, 0, none⟩)], .int .i64 (x : Int), undef, undef, undef, undef, undef], defers := [] })
    (fun x a' _ X Y row hs hg hr => hs)
    ?assign ?body ?done ?stop
  case assign =>
    rintro l' pre x W K ⟨hI, hB1⟩ hK
    gi_wp2
    exact hK _ _ (KeepsFrom.refl _ _) (Below.refl _ _) ⟨hI, hB1⟩ rfl
  case body =>
    rintro l' pre x a' W hl' ⟨r, hr⟩ ⟨⟨v, hv, hrow, _⟩, hB1⟩ rfl hlt
    have hsz := hB1.size
    have cv := hv.cell
    have fv := hv.frozen
    gi_wp2_with (gi_at_builtin; refine wpListIn_append_own _ rfl _ _ 26 rfl w.heap.size 3 i0 _ 1 8 Tryd.underlying26 hi hz0 hz1 hz2 rfl (by decide) v pre.length (pre.map encN) ?hs (hrow.alloc _) ⟨W.heap.size, 0, none⟩ 1 1 [encN x] ?hx rfl ?hc ?h1c ?m1 ?m2 ?m3 ?_)
    case hs => rfl
    case hx => rfl
    case hc =>
      intro j u hj
      match j, hj with
      | 0, hj => simp at hj; subst hj; exact (Boxed.new W 3 _).cell
    case h1c => intro u hu; simp at hu; subst hu; rfl
    case m1 => unfold maxLen; omega
    case m2 => omega
    case m3 => simp; omega
    intro v' w1 hown' hgrow _
    obtain ⟨hx1, hx2, hx3, hx4, hx5⟩ := hv.appended (by decide) hrow hsz (Nat.le_refl _) hown' hgrow
    obtain ⟨g, c, rfl⟩ := ownsRow_succ hown'
    have cv1 := hx1.cell
    have fv1 := hx1.frozen
    clear hown' hgrow
    gi_wp2
    exact ⟨hx4.from _, hx5, ⟨⟨_, hx2, by simpa using hx3, trivial⟩, hB1.trans hx5⟩⟩
    skip
  case done =>
    rintro D ys W hD hys ⟨⟨v, hv, hrow, _⟩, hB1⟩ hK
    have cv := hv.cell
    gi_wp2
    refine ⟨by simp, .inl ⟨_, _, rfl, run_takeDeferred hK, ?_⟩⟩
    refine ⟨v, ?_, v, ?_⟩
    · simp [results, Tryd.f14, go_sem]
    · have e : ys = memB l l.length := hys
      subst e
      exact ⟨rfl, own_reads (ownsRow_putObj hrow (.deferred none) hK rfl) hmi (by omega), hB1.trans (belowK_b (w := w) (Nat.le_refl _) W D _ _ (by omega) hK rfl rfl)⟩
    skip
  case stop =>
    rintro D c' pre W hD hpre h hK
    exact h.elim
end Go.Proofs.YtnpgpcnkdocknaaDoor
namespace Go.Proofs.YtnpgpcnkdocknaaDoor
open Go.RowKit
set_option linter.unusedVariables false
def encP (x : Int × Int) : List Value := [.int .i64 x.1, .int .i64 x.2]
def okPr (x : Int × Int) : Prop := inI x.1 ∧ inI x.2
abbrev RdP := RdL (Flat encP okPr) 2 16
abbrev OwnP := OwnL (Flat encP okPr) 2
theorem RdP.at1 {w : World} {S : Blocks} {l : List (Int × Int)} {A : Option Addr} {n cap : Nat} (h : RdP w S l (.slice A n cap)) {q : Nat} (hq : q < l.length) :
    ∃ b off, A = some ⟨b, off, none⟩ ∧ S b ∧ okPr l[q] ∧ w.cell? ⟨b, off + q * 2, none⟩ = some (.int .i64 l[q].1) ∧ w.cell? ⟨b, off + q * 2 + 1, none⟩ = some (.int .i64 l[q].2) := by
  obtain ⟨b, off, hA, hb, hok, hc⟩ := RdL.flat h hq
  exact ⟨b, off, hA, hb, hok, hc 0 _ rfl, by rw [Nat.add_assoc]; exact hc 1 _ rfl⟩
theorem encP_len (y : Int × Int) : (encP y).length = 2 := rfl
theorem infoPr : (Tryd.prog.info? 30).map (fun i => (i.zero, i.size, i.bytes)) = some (some (.agg #[.int .i64 0, .int .i64 0]), 2, 16) := by kernel_rfl
end Go.Proofs.YtnpgpcnkdocknaaDoor
