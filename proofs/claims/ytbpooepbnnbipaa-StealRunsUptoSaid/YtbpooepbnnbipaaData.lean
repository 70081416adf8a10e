/- The recursive data of the program as plain Lean data, and what it means that cells read as such data. -/
import Derived.Test.YtbpooepbnnbipaaBase
namespace Go.Proofs.Ytbpooepbnnbipaa
open Go.RowKit
set_option linter.unusedVariables false

inductive Ex where
  | mk (kind n : Int) (name : ByteArray) (args : List Ex)
inductive St where
  | mk (kind : Int) (name : ByteArray) (a b : Ex) (body els : List St)
inductive Tm where
  | mk (kind cell : Int) (write : Bool) (label : Int) (kids : List Tm)

def Ex.kind : Ex → Int | .mk k _ _ _ => k
def Ex.num : Ex → Int | .mk _ n _ _ => n
def Ex.name : Ex → ByteArray | .mk _ _ s _ => s
def Ex.args : Ex → List Ex | .mk _ _ _ a => a

inductive RdEx (w : World) (S : Blocks) : Ex → List Value → Prop
  | mk (k n : Int) (s : ByteArray) (args : List Ex) (A : Option Addr) (cap : Nat) (css : List (List Value)) (hk : inI k) (hn : inI n) (hs : s.size ≤ 140737488355328)
      (hl : args.length ≤ cap) (hm : cap ≤ maxLen) (hc : args.length * 56 ≤ 140737488355328) (hcl : css.length = args.length) (ha : Arr w S 4 A css) (hr : ∀ (i : Nat) e cs, args[i]? = some e → css[i]? = some cs → RdEx w S e cs) :
      RdEx w S (.mk k n s args) [.int .i64 k, .int .i64 n, .string s, .slice A args.length cap]
abbrev RdExs := RdL RdEx 4 56
theorem RdEx.keeps : Keeps RdEx := by
  intro w w' S S' x cs hB hk h
  induction h with
  | mk k n s args A cap css hkk hn hs hl hm hc hcl ha hr ih => exact .mk k n s args A cap css hkk hn hs hl hm hc hcl (ha.keep hB hk) ih
theorem RdEx.len {w : World} {S : Blocks} {e : Ex} {cs : List Value} (h : RdEx w S e cs) : cs.length = 4 := by cases h; rfl
theorem RdEx.open_ {w : World} {S : Blocks} {k n : Int} {s : ByteArray} {args : List Ex} {cs : List Value} (h : RdEx w S (.mk k n s args) cs) :
    inI k ∧ inI n ∧ s.size ≤ 140737488355328 ∧ ∃ v, cs = [.int .i64 k, .int .i64 n, .string s, v] ∧ RdExs w S args v := by
  cases h with
  | mk _ _ _ _ A cap css hkk hn hs hl hm hc hcl ha hr => exact ⟨hkk, hn, hs, _, rfl, A, cap, css, rfl, hl, hm, hc, hcl, ha, hr⟩
theorem RdEx.shut {w : World} {S : Blocks} {k n : Int} {s : ByteArray} {args : List Ex} {v : Value} (hk : inI k) (hn : inI n) (hs : s.size ≤ 140737488355328) (h : RdExs w S args v) :
    RdEx w S (.mk k n s args) [.int .i64 k, .int .i64 n, .string s, v] := by
  obtain ⟨A, cap, css, rfl, hl, hm, hc, hcl, ha, hr⟩ := h
  exact .mk k n s args A cap css hk hn hs hl hm hc hcl ha hr

theorem RdEx.cells {w : World} {S : Blocks} {e : Ex} {cs : List Value} (h : RdEx w S e cs) : ∃ k n s A c c', cs = [.int .i64 k, .int .i64 n, .string s, .slice A c c'] := by
  cases h with
  | mk k n s args A cap css _ _ _ _ _ _ _ _ _ => exact ⟨k, n, s, A, _, cap, rfl⟩

inductive RdSt (w : World) (S : Blocks) : St → List Value → Prop
  | mk (k : Int) (s : ByteArray) (a b : Ex) (body els : List St) (a0 a1 a2 a3 b0 b1 b2 b3 : Value) (A A' : Option Addr) (cap cap' : Nat) (css css' : List (List Value)) (hk : inI k) (hs : s.size ≤ 140737488355328)
      (h1 : RdEx w S a [a0, a1, a2, a3]) (h2 : RdEx w S b [b0, b1, b2, b3])
      (hl : body.length ≤ cap) (hm : cap ≤ maxLen) (hc : body.length * 184 ≤ 140737488355328) (hcl : css.length = body.length) (ha : Arr w S 12 A css) (hr : ∀ (i : Nat) e cs, body[i]? = some e → css[i]? = some cs → RdSt w S e cs)
      (hl' : els.length ≤ cap') (hm' : cap' ≤ maxLen) (hc' : els.length * 184 ≤ 140737488355328) (hcl' : css'.length = els.length) (ha' : Arr w S 12 A' css') (hr' : ∀ (i : Nat) e cs, els[i]? = some e → css'[i]? = some cs → RdSt w S e cs) :
      RdSt w S (.mk k s a b body els) [.int .i64 k, .string s, a0, a1, a2, a3, b0, b1, b2, b3, .slice A body.length cap, .slice A' els.length cap']
abbrev RdSts := RdL RdSt 12 184
theorem RdSt.keeps : Keeps RdSt := by
  intro w w' S S' x cs hB hk h
  induction h with
  | mk k s a b body els a0 a1 a2 a3 b0 b1 b2 b3 A A' cap cap' css css' hkk hs h1 h2 hl hm hc hcl ha hr hl' hm' hc' hcl' ha' hr' ih ih' =>
    exact .mk k s a b body els a0 a1 a2 a3 b0 b1 b2 b3 A A' cap cap' css css' hkk hs (RdEx.keeps _ _ _ _ _ _ hB hk h1) (RdEx.keeps _ _ _ _ _ _ hB hk h2) hl hm hc hcl (ha.keep hB hk) ih hl' hm' hc' hcl' (ha'.keep hB hk) ih'
theorem RdSt.open_ {w : World} {S : Blocks} {k : Int} {s : ByteArray} {a b : Ex} {body els : List St} {cs : List Value} (h : RdSt w S (.mk k s a b body els) cs) :
    inI k ∧ s.size ≤ 140737488355328 ∧ ∃ a0 a1 a2 a3 b0 b1 b2 b3 v v', cs = [.int .i64 k, .string s, a0, a1, a2, a3, b0, b1, b2, b3, v, v'] ∧ RdEx w S a [a0, a1, a2, a3] ∧ RdEx w S b [b0, b1, b2, b3] ∧ RdSts w S body v ∧ RdSts w S els v' := by
  cases h with
  | mk _ _ _ _ _ _ a0 a1 a2 a3 b0 b1 b2 b3 A A' cap cap' css css' hkk hs h1 h2 hl hm hc hcl ha hr hl' hm' hc' hcl' ha' hr' =>
    exact ⟨hkk, hs, a0, a1, a2, a3, b0, b1, b2, b3, _, _, rfl, h1, h2, ⟨A, cap, css, rfl, hl, hm, hc, hcl, ha, hr⟩, ⟨A', cap', css', rfl, hl', hm', hc', hcl', ha', hr'⟩⟩
/-- every cell of a statement written out -/
theorem RdSt.cells {w : World} {S : Blocks} {k : Int} {s : ByteArray} {a b : Ex} {body els : List St} {cs : List Value} (h : RdSt w S (.mk k s a b body els) cs) :
    ∃ k1 n1 s1 A1 c1 m1 k2 n2 s2 A2 c2 m2 A3 m3 A4 m4, cs = [.int .i64 k, .string s, .int .i64 k1, .int .i64 n1, .string s1, .slice A1 c1 m1, .int .i64 k2, .int .i64 n2, .string s2, .slice A2 c2 m2, .slice A3 body.length m3, .slice A4 els.length m4] ∧
      inI k ∧ s.size ≤ 140737488355328 ∧ RdEx w S a [.int .i64 k1, .int .i64 n1, .string s1, .slice A1 c1 m1] ∧ RdEx w S b [.int .i64 k2, .int .i64 n2, .string s2, .slice A2 c2 m2] ∧
      RdSts w S body (.slice A3 body.length m3) ∧ RdSts w S els (.slice A4 els.length m4) := by
  obtain ⟨hk, hs, a0, a1, a2, a3, b0, b1, b2, b3, v, v', rfl, h1, h2, h3, h4⟩ := h.open_
  obtain ⟨k1, n1, s1, A1, c1, m1, e1⟩ := h1.cells
  obtain ⟨k2, n2, s2, A2, c2, m2, e2⟩ := h2.cells
  obtain ⟨A3, m3, rfl, _, _⟩ := h3.form
  obtain ⟨A4, m4, rfl, _, _⟩ := h4.form
  simp only [List.cons.injEq, and_true] at e1 e2
  obtain ⟨rfl, rfl, rfl, rfl⟩ := e1
  obtain ⟨rfl, rfl, rfl, rfl⟩ := e2
  exact ⟨k1, n1, s1, A1, c1, m1, k2, n2, s2, A2, c2, m2, A3, m3, A4, m4, rfl, hk, hs, h1, h2, h3, h4⟩
theorem RdSt.shut {w : World} {S : Blocks} {k : Int} {s : ByteArray} {a b : Ex} {body els : List St} {a0 a1 a2 a3 b0 b1 b2 b3 v v' : Value} (hk : inI k) (hs : s.size ≤ 140737488355328)
    (h1 : RdEx w S a [a0, a1, a2, a3]) (h2 : RdEx w S b [b0, b1, b2, b3]) (h3 : RdSts w S body v) (h4 : RdSts w S els v') :
    RdSt w S (.mk k s a b body els) [.int .i64 k, .string s, a0, a1, a2, a3, b0, b1, b2, b3, v, v'] := by
  obtain ⟨A, cap, css, rfl, hl, hm, hc, hcl, ha, hr⟩ := h3
  obtain ⟨A', cap', css', rfl, hl', hm', hc', hcl', ha', hr'⟩ := h4
  exact .mk k s a b body els a0 a1 a2 a3 b0 b1 b2 b3 A A' cap cap' css css' hk hs h1 h2 hl hm hc hcl ha hr hl' hm' hc' hcl' ha' hr'

inductive RdTm (w : World) (S : Blocks) : Tm → List Value → Prop
  | mk (k c : Int) (wr : Bool) (lb : Int) (kids : List Tm) (A : Option Addr) (cap : Nat) (css : List (List Value)) (hk : inI k) (hn : inI c) (hs : inI lb)
      (hl : kids.length ≤ cap) (hm : cap ≤ maxLen) (hc : kids.length * 56 ≤ 140737488355328) (hcl : css.length = kids.length) (ha : Arr w S 5 A css) (hr : ∀ (i : Nat) e cs, kids[i]? = some e → css[i]? = some cs → RdTm w S e cs) :
      RdTm w S (.mk k c wr lb kids) [.int .i64 k, .int .i64 c, .bool wr, .int .i64 lb, .slice A kids.length cap]
abbrev RdTms := RdL RdTm 5 56
theorem RdTm.keeps : Keeps RdTm := by
  intro w w' S S' x cs hB hk h
  induction h with
  | mk k n s lb args A cap css hkk hn hs hl hm hc hcl ha hr ih => exact .mk k n s lb args A cap css hkk hn hs hl hm hc hcl (ha.keep hB hk) ih
theorem RdTm.open_ {w : World} {S : Blocks} {k c : Int} {wr : Bool} {lb : Int} {kids : List Tm} {cs : List Value} (h : RdTm w S (.mk k c wr lb kids) cs) :
    inI k ∧ inI c ∧ inI lb ∧ ∃ v, cs = [.int .i64 k, .int .i64 c, .bool wr, .int .i64 lb, v] ∧ RdTms w S kids v := by
  cases h with
  | mk _ _ _ _ _ A cap css hkk hn hs hl hm hc hcl ha hr => exact ⟨hkk, hn, hs, _, rfl, A, cap, css, rfl, hl, hm, hc, hcl, ha, hr⟩
theorem RdTm.shut {w : World} {S : Blocks} {k c : Int} {wr : Bool} {lb : Int} {kids : List Tm} {v : Value} (hk : inI k) (hn : inI c) (hs : inI lb) (h : RdTms w S kids v) :
    RdTm w S (.mk k c wr lb kids) [.int .i64 k, .int .i64 c, .bool wr, .int .i64 lb, v] := by
  obtain ⟨A, cap, css, rfl, hl, hm, hc, hcl, ha, hr⟩ := h
  exact .mk k c wr lb kids A cap css hk hn hs hl hm hc hcl ha hr

theorem one_size {α : Type} [SizeOf α] {l : List α} {q : Nat} (hq : q < l.length) : SizeOf.sizeOf l[q] < SizeOf.sizeOf l := List.sizeOf_lt_of_mem (List.getElem_mem hq)
end Go.Proofs.Ytbpooepbnnbipaa
