/- The walk of the reference's kstmt. (printed by gen_kp6.py) -/
import Derived.Test.YtijahadmaggncaaDoorKp4
import Derived.Test.YtijahadmaggncaaDoorKp5
import Derived.Test.YtijahadmaggncaaDoorRegPre
namespace Go.Proofs.YtijahadmaggncaaDoor
open Go.RowKit
set_option linter.unusedVariables false
section
variable (s : Str) (a b : Ex) (body els : List St)
/-- what a form's word stands for -/
def ptK (p : Str) : Tks := if p.data.toList = [110] then tname s else if p.data.toList = [97] then tkE true a false else if p.data.toList = [98] then tkE true b false else if p.data.toList = [66] then tblk (tkL true body) else if p.data.toList = [69] then tblk (tkL true els) else T1 [p]
/-- and how much it takes at most -/
def mpK (p : Str) : Nat := if p.data.toList = [110] then s.size + 1 else if p.data.toList = [97] then 64 * a.wt else if p.data.toList = [98] then 64 * b.wt else if p.data.toList = [66] then 64 * St.wts body + 4 else if p.data.toList = [69] then 64 * St.wts els + 4 else p.size + 1
end
def formK (q : Nat) (e : Bool) : Str := if e = true ∧ q = 5 then ⟨#[105, 102, 32, 97, 32, 66, 32, 101, 108, 115, 101, 32, 69]⟩ else ([⟨#[108, 101, 116, 32, 110, 32, 61, 32, 97, 32, 59]⟩, ⟨#[108, 111, 97, 100, 32, 110, 32, 61, 32, 91, 32, 97, 32, 93, 32, 59]⟩, ⟨#[115, 116, 111, 114, 101, 32, 91, 32, 97, 32, 93, 32, 61, 32, 98, 32, 59]⟩, ⟨#[97, 115, 121, 110, 99, 32, 66]⟩, ⟨#[102, 105, 110, 105, 115, 104, 32, 66]⟩, ⟨#[105, 102, 32, 97, 32, 66]⟩, ⟨#[102, 111, 114, 32, 110, 32, 61, 32, 97, 32, 116, 111, 32, 98, 32, 66]⟩] : List Str)[q]?.getD ⟨#[]⟩
theorem seqT_false : ∀ (l : List Tks) (x : Tks), x ∈ l → x.2 = false → (seqT l).2 = false := by
  intro l x hx hf
  obtain ⟨p, r, rfl⟩ := List.append_of_mem hx
  have key : ∀ (l : List Tks) (y : Tks), y.2 = false → (l.foldl tcat y).2 = false := by
    intro l
    induction l with
    | nil => intro y h; exact h
    | cons z l ih => intro y h; exact ih _ (by show (y.2 && z.2) = false; rw [h, Bool.false_and])
  unfold seqT
  rw [List.foldl_append]
  exact key r _ (by show ((p.foldl tcat (T1 [])).2 && x.2) = false; rw [hf, Bool.and_false])
theorem fld0 : fieldsF ⟨#[108, 101, 116, 32, 110, 32, 61, 32, 97, 32, 59]⟩ = [(⟨#[108, 101, 116]⟩ : Str), (⟨#[110]⟩ : Str), (⟨#[61]⟩ : Str), (⟨#[97]⟩ : Str), (⟨#[59]⟩ : Str)] := by decide +kernel
theorem fld1 : fieldsF ⟨#[108, 111, 97, 100, 32, 110, 32, 61, 32, 91, 32, 97, 32, 93, 32, 59]⟩ = [(⟨#[108, 111, 97, 100]⟩ : Str), (⟨#[110]⟩ : Str), (⟨#[61]⟩ : Str), (⟨#[91]⟩ : Str), (⟨#[97]⟩ : Str), (⟨#[93]⟩ : Str), (⟨#[59]⟩ : Str)] := by decide +kernel
theorem fld2 : fieldsF ⟨#[115, 116, 111, 114, 101, 32, 91, 32, 97, 32, 93, 32, 61, 32, 98, 32, 59]⟩ = [(⟨#[115, 116, 111, 114, 101]⟩ : Str), (⟨#[91]⟩ : Str), (⟨#[97]⟩ : Str), (⟨#[93]⟩ : Str), (⟨#[61]⟩ : Str), (⟨#[98]⟩ : Str), (⟨#[59]⟩ : Str)] := by decide +kernel
theorem fld3 : fieldsF ⟨#[97, 115, 121, 110, 99, 32, 66]⟩ = [(⟨#[97, 115, 121, 110, 99]⟩ : Str), (⟨#[66]⟩ : Str)] := by decide +kernel
theorem fld4 : fieldsF ⟨#[102, 105, 110, 105, 115, 104, 32, 66]⟩ = [(⟨#[102, 105, 110, 105, 115, 104]⟩ : Str), (⟨#[66]⟩ : Str)] := by decide +kernel
theorem fld5 : fieldsF ⟨#[105, 102, 32, 97, 32, 66]⟩ = [(⟨#[105, 102]⟩ : Str), (⟨#[97]⟩ : Str), (⟨#[66]⟩ : Str)] := by decide +kernel
theorem fld6 : fieldsF ⟨#[102, 111, 114, 32, 110, 32, 61, 32, 97, 32, 116, 111, 32, 98, 32, 66]⟩ = [(⟨#[102, 111, 114]⟩ : Str), (⟨#[110]⟩ : Str), (⟨#[61]⟩ : Str), (⟨#[97]⟩ : Str), (⟨#[116, 111]⟩ : Str), (⟨#[98]⟩ : Str), (⟨#[66]⟩ : Str)] := by decide +kernel
theorem fld7 : fieldsF ⟨#[105, 102, 32, 97, 32, 66, 32, 101, 108, 115, 101, 32, 69]⟩ = [(⟨#[105, 102]⟩ : Str), (⟨#[97]⟩ : Str), (⟨#[66]⟩ : Str), (⟨#[101, 108, 115, 101]⟩ : Str), (⟨#[69]⟩ : Str)] := by decide +kernel
theorem parts_forms (k : Int) (s : Str) (a b : Ex) (body els : List St) {q : Nat} (hq : q < 7) (hk : k = 1 + (q : Int)) :
    partsK true k s a b (tkL true body) (tkL true els) (!els.isEmpty) = (fieldsF (formK q (!els.isEmpty))).map (ptK s a b body els) ∧ ((fieldsF (formK q (!els.isEmpty))).map (mpK s a b body els)).sum ≤ 64 * (St.mk k s a b body els).wt := by
  subst hk
  simp only [St.wt]
  generalize (!els.isEmpty) = e
  match q, hq with
  | 0, _ => rw [show formK 0 e = ⟨#[108, 101, 116, 32, 110, 32, 61, 32, 97, 32, 59]⟩ by cases e <;> rfl, fld0]; exact ⟨rfl, by show (4 + ((s.size + 1) + (2 + (64 * a.wt + (2 + 0))))) ≤ _; omega⟩
  | 1, _ => rw [show formK 1 e = ⟨#[108, 111, 97, 100, 32, 110, 32, 61, 32, 91, 32, 97, 32, 93, 32, 59]⟩ by cases e <;> rfl, fld1]; exact ⟨rfl, by show (5 + ((s.size + 1) + (2 + (2 + (64 * a.wt + (2 + (2 + 0))))))) ≤ _; omega⟩
  | 2, _ => rw [show formK 2 e = ⟨#[115, 116, 111, 114, 101, 32, 91, 32, 97, 32, 93, 32, 61, 32, 98, 32, 59]⟩ by cases e <;> rfl, fld2]; exact ⟨rfl, by show (6 + (2 + (64 * a.wt + (2 + (2 + (64 * b.wt + (2 + 0))))))) ≤ _; omega⟩
  | 3, _ => rw [show formK 3 e = ⟨#[97, 115, 121, 110, 99, 32, 66]⟩ by cases e <;> rfl, fld3]; exact ⟨rfl, by show (6 + ((64 * St.wts body + 4) + 0)) ≤ _; omega⟩
  | 4, _ => rw [show formK 4 e = ⟨#[102, 105, 110, 105, 115, 104, 32, 66]⟩ by cases e <;> rfl, fld4]; exact ⟨rfl, by show (7 + ((64 * St.wts body + 4) + 0)) ≤ _; omega⟩
  | 5, _ =>
    cases e
    · rw [show formK 5 false = ⟨#[105, 102, 32, 97, 32, 66]⟩ from rfl, fld5]; exact ⟨rfl, by show (3 + (64 * a.wt + ((64 * St.wts body + 4) + 0))) ≤ _; omega⟩
    · rw [show formK 5 true = ⟨#[105, 102, 32, 97, 32, 66, 32, 101, 108, 115, 101, 32, 69]⟩ from rfl, fld7]; exact ⟨rfl, by show (3 + (64 * a.wt + ((64 * St.wts body + 4) + (5 + ((64 * St.wts els + 4) + 0))))) ≤ _; omega⟩
  | 6, _ => rw [show formK 6 e = ⟨#[102, 111, 114, 32, 110, 32, 61, 32, 97, 32, 116, 111, 32, 98, 32, 66]⟩ by cases e <;> rfl, fld6]; exact ⟨rfl, by show (4 + ((s.size + 1) + (2 + (64 * a.wt + (3 + (64 * b.wt + ((64 * St.wts body + 4) + 0))))))) ≤ _; omega⟩
  | n + 7, h => omega
end Go.Proofs.YtijahadmaggncaaDoor
