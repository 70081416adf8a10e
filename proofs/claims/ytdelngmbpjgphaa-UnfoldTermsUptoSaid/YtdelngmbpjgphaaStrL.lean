/- Slices of strings: slices.Index, Contains, Equal; the reference's Merge. -/
import Derived.Test.YtdelngmbpjgphaaGAppStep
import Derived.Test.YtdelngmbpjgphaaGScSpec
import Derived.Laws.Strings
namespace Go.Proofs.Ytdelngmbpjgphaa
open Go.RowKit
set_option linter.unusedVariables false
def encS (s : Str) : List Value := [.string s]
def okS (s : Str) : Prop := s.size ≤ 140737488355328
abbrev RdSs := RdL (Flat encS okS) 1 16
abbrev OwnSs := OwnL (Flat encS okS) 1
theorem RdSs.at1 {w : World} {S : Blocks} {l : List Str} {A : Option Addr} {n cap : Nat} (h : RdSs w S l (.slice A n cap)) {q : Nat} (hq : q < l.length) :
    ∃ b off, A = some ⟨b, off, none⟩ ∧ S b ∧ okS l[q] ∧ w.cell? ⟨b, off + q, none⟩ = some (.string l[q]) :=
  RdL.one (f := fun (x : Str) => Value.string x) (ok := okS) h hq
theorem oneS {w : World} {S : Blocks} : ∀ (e : Str) (cs : List Value), Flat encS okS w S e cs → ∀ u ∈ cs, u.oneCell' = true := by
  rintro e _ ⟨rfl, _⟩ u hu
  simp only [encS, List.mem_singleton] at hu
  subst hu; rfl
theorem infoStr : (Try.prog.info? 9).map (fun i => (i.zero, i.size, i.bytes)) = some (some (.string ⟨#[]⟩), 1, 16) := by kernel_rfl
theorem str_ne {a b : Str} (h : ¬ a = b) : (a.toList == b.toList) = false := by
  rw [beq_eq_false_iff_ne]
  intro e
  rw [ByteArray.toList_eq, ByteArray.toList_eq] at e
  exact h (ByteArray.ext (Array.toList_inj.mp e))
theorem str_eq {a b : Str} (h : a = b) : (a.toList == b.toList) = true := by rw [h]; simp
def hasS (l : List Str) (x : Str) : Bool := decide (x ∈ l)
def FoundS (k : Int) (l : List Str) (x : Str) : Prop := decide (0 ≤ k) = hasS l x
theorem hasS_nil (x : Str) : hasS [] x = false := by simp [hasS]
theorem hasS_snoc (l : List Str) (x y : Str) : hasS (l ++ [y]) x = (hasS l x || decide (x = y)) := by
  unfold hasS
  by_cases h1 : x ∈ l <;> by_cases h2 : x = y <;> simp [h1, h2]
theorem hasS_take (l : List Str) (x : Str) {q : Nat} (h : q < l.length) : hasS (l.take (q + 1)) x = (hasS (l.take q) x || decide (x = l[q])) := by
  rw [List.take_succ_eq_append_getElem h, hasS_snoc]
theorem hasS_of_take {l : List Str} {x : Str} {q : Nat} (h : hasS (l.take q) x = true) : hasS l x = true := by
  unfold hasS at h ⊢
  simp only [decide_eq_true_eq] at h ⊢
  exact List.mem_of_mem_take h
set_option maxHeartbeats 400000 in
/-- at its first place, or -1 -/
theorem indexS (l : List Str) (x : Str) (w : World) (S : Blocks) (v : Value) (r : RdSs w S l v) :
    Calls Try.prog 81 #[v, .string x] w fun e w' => (∃ k : Int, e = .returned (.int .i64 k) ∧ -1 ≤ k ∧ k ≤ l.length ∧ FoundS k l x) ∧ w = w' := by
  obtain ⟨A, cap, rfl, hl, hcm, hby⟩ := r.form
  unfold maxLen at hcm
  go_enter Try.func81, Try.ntmps81
  go_wp2
  go_loop [8] (fun t => ∃ q : Nat, q ≤ l.length ∧ t = .int .i64 q ∧ Hid (hasS (l.take q) x = false)) (fun t => l.length - (intOf t).toNat)
  case atStart => exact ⟨0, by omega, rfl, Lib.hid (hasS_nil x)⟩
  case round =>
    obtain ⟨q, hq, rfl, HQ⟩ := hrel
    by_cases hlt : q < l.length
    · obtain ⟨b, off, rfl, _, hok, hc⟩ := RdSs.at1 r hlt
      have HT := Lib.hid (hasS_take l x hlt)
      by_cases he : x = l[q]
      · have HZ := show FoundS (q : Int) l x by
          unfold FoundS
          have h1 : hasS (l.take (q + 1)) x = true := by rw [HT.out]; simp [he]
          rw [hasS_of_take h1]; simp
        have es := str_eq he
        clear HT r he
        go_wp2
        go_ret
        exact ⟨⟨(q : Int), rfl, by omega, by omega, HZ⟩, rfl⟩
      · have HQ2 := Lib.hid (show hasS (l.take (q + 1)) x = false by rw [HT.out, HQ.out]; simp [he])
        have es := str_ne he
        clear HT r he
        go_wp2
        go_round
        case rel => exact ⟨q + 1, by omega, by go_num, HQ2⟩
        case measure => simp [intOf]; omega
    · have hqn : q = l.length := by omega
      subst hqn
      have HZ := show FoundS (-1) l x by
        unfold FoundS
        have h := HQ.out
        rw [List.take_length] at h
        rw [h]; rfl
      clear HQ r
      go_wp2
      go_ret
      exact ⟨⟨-1, rfl, by omega, by omega, HZ⟩, rfl⟩
set_option maxHeartbeats 400000 in
theorem containsS (l : List Str) (x : Str) (w : World) (S : Blocks) (v : Value) (r : RdSs w S l v) :
    Calls Try.prog 78 #[v, .string x] w fun e w' => e = .returned (.bool (hasS l x)) ∧ w = w' := by
  have R := Lib.hid r
  clear r
  go_enter Try.func78, Try.ntmps78
  go_wp2_with fail
  refine (indexS l x _ _ _ R.out).mono ?_
  rintro e w' ⟨⟨k, rfl, h1, h2, h3⟩, rfl⟩
  go_wp2
  go_ret
  exact ⟨by rw [← h3]; rfl, rfl⟩
end Go.Proofs.Ytdelngmbpjgphaa
