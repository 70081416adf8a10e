/- What syn.Parse's deferred closure does; what a text is as a program. -/
import Derived.Test.YtijahadmaggncaaDoorPq9
import Derived.Defers
import Derived.Recover
namespace Go.Proofs.YtijahadmaggncaaDoor
open Go.RowKit
set_option linter.unusedVariables false
set_option maxHeartbeats 1000000 in
set_option maxRecDepth 100000 in
theorem catch_idle (a b c : Nat) (w : World) :
    CallsD Tryd.prog 23 #[.pointer (some ⟨a, 0, none⟩), .pointer (some ⟨b, 0, none⟩), .pointer (some ⟨c, 0, none⟩)] .returning w fun e u' w' => e = .returned (.tuple #[]) ∧ u' = .returning ∧ w' = w := by
  refine callsD_of_wpS Tryd.func23 rfl fun c₀ cs hu => ?_
  apply wpS_seq
  apply wpS_region
  simp [wpOpsS, go_sem, recoverD, hu, Tryd.ntmps23, Exit.thenS]
  change Code.wpS _ _ _ { tmps := #[.pointer (some ⟨a, 0, none⟩), .pointer (some ⟨b, 0, none⟩), .pointer (some ⟨c, 0, none⟩), .nilIface, undef, undef, .nilIface, undef, undef, undef, undef, undef, undef, undef, undef, undef, undef, undef, undef], defers := [] } _ _
  refine wpS_of_wp ?_
  go_wp2
  cases c₀
  simp_all [bodyPostS, results, Tryd.results23]
set_option maxHeartbeats 1000000 in
set_option maxRecDepth 100000 in
theorem catch_misfit (a b c : Nat) (z : Int) (older : List PanicEntry) (w : World) (va vb vc : Value) (hA : Blk 0 w a [va]) (hB : Blk 0 w b [vb]) (hC : Blk 0 w c [vc]) (hab : a ≠ b) (hac : a ≠ c) (hbc : b ≠ c) :
    CallsD Tryd.prog 23 #[.pointer (some ⟨a, 0, none⟩), .pointer (some ⟨b, 0, none⟩), .pointer (some ⟨c, 0, none⟩)] (.panicking ({ v := misV z, recovered := false } :: older)) w fun e u' w' =>
      e = .returned (.tuple #[]) ∧ u' = .panicking ({ v := misV z, recovered := true } :: older) ∧ Blk 0 w' a [.slice none 0 0] ∧ Blk 0 w' b [.int .i64 z] ∧ Blk 0 w' c [.int .i64 1] ∧ But (fun k => k = a ∨ k = b ∨ k = c) w w' := by
  have hta : ∀ (w : World), (Instr.typeAssert (.iface 60 (.agg #[.int .i64 z])) 20 60 true).run Tryd.prog w = .ok (.tuple #[.agg #[.int .i64 z], .bool true]) w := fun _ => by rfl
  refine callsD_of_wpS Tryd.func23 rfl fun c₀ cs hu => ?_
  unfold misV at hu ⊢
  apply wpS_seq
  apply wpS_region
  simp [wpOpsS, go_sem, recoverD, hu, Tryd.ntmps23, Exit.thenS]
  change Code.wpS _ _ _ { tmps := #[.pointer (some ⟨a, 0, none⟩), .pointer (some ⟨b, 0, none⟩), .pointer (some ⟨c, 0, none⟩), .iface 60 (.agg #[.int .i64 z]), undef, undef, .iface 60 (.agg #[.int .i64 z]), undef, undef, undef, undef, undef, undef, undef, undef, undef, undef, undef, undef], defers := [] } _ _
  refine wpS_of_wp ?_
  have a0 := hA.cell 0 _ rfl
  have a1 := hA.fr 0
  have b0 := hB.cell 0 _ rfl
  have b1 := hB.fr 0
  have c0 := hC.cell 0 _ rfl
  have c1 := hC.fr 0
  have la := hA.lt
  have lb := hB.lt
  have lc := hC.lt
  go_upto_region 5 with (fail)
  go_region
  have hA1 : Blk 0 (w.setCell ⟨a, 0, none⟩ (.slice none 0 0)) a [.slice none 0 0] := hA.set (i := 0) (by simp) _
  have hA2 := (hA1.other (p := ⟨b, 0, none⟩) (fun e => hab e.symm) (.int .i64 z)).other (p := ⟨c, 0, none⟩) (fun e => hac e.symm) (.int .i64 1)
  have hB1 : Blk 0 ((w.setCell ⟨a, 0, none⟩ (.slice none 0 0)).setCell ⟨b, 0, none⟩ (.int .i64 z)) b [.int .i64 z] := (hB.other (p := ⟨a, 0, none⟩) hab _).set (i := 0) (by simp) _
  have hB2 := hB1.other (p := ⟨c, 0, none⟩) (fun e => hbc e.symm) (.int .i64 1)
  have hC2 : Blk 0 (((w.setCell ⟨a, 0, none⟩ (.slice none 0 0)).setCell ⟨b, 0, none⟩ (.int .i64 z)).setCell ⟨c, 0, none⟩ (.int .i64 1)) c [.int .i64 1] := ((hC.other (p := ⟨a, 0, none⟩) hac _).other (p := ⟨b, 0, none⟩) hbc _).set (i := 0) (by simp) _
  have bt : But (fun k => k = a ∨ k = b ∨ k = c) w ((((w.setCell ⟨a, 0, none⟩ (.slice none 0 0)).setCell ⟨b, 0, none⟩ (.int .i64 z)).setCell ⟨c, 0, none⟩ (.int .i64 1)).alloc (.cells #[.int .i64 z] 60)).drew := ((((But.refl _ _).setCell (p := ⟨a, 0, none⟩) (.inl rfl) _).setCell (p := ⟨b, 0, none⟩) (.inr (.inl rfl)) _).setCell (p := ⟨c, 0, none⟩) (.inr (.inr rfl)) _).alloc _ |>.drew
  have bl := ((Below.refl (((w.setCell ⟨a, 0, none⟩ (.slice none 0 0)).setCell ⟨b, 0, none⟩ (.int .i64 z)).setCell ⟨c, 0, none⟩ (.int .i64 1)).heap.size _).alloc (Nat.le_refl _) (.cells #[.int .i64 z] 60)).drew
  have hfin := And.intro (hA2.below bl) (And.intro (hB2.below bl) (And.intro (hC2.below bl) bt))
  have HFIN := Lib.hid hfin
  clear hA1 hA2 hB1 hB2 hC2 bt bl hfin hA hB hC a0 a1 b0 b1 c0 c1 la lb lc hta
  generalize ((((w.setCell ⟨a, 0, none⟩ (.slice none 0 0)).setCell ⟨b, 0, none⟩ (.int .i64 z)).setCell ⟨c, 0, none⟩ (.int .i64 1)).alloc (.cells #[.int .i64 z] 60)).drew = WF at *
  go_wp2
  cases c₀
  simp [bodyPostS, results, Tryd.results23]
  exact HFIN.out
/-- what lex makes is no more, and no longer, than the text -/
theorem lexG_len (l : List UInt8) : ∀ (n a : Nat) (out : List LTok), out.length ≤ a → a ≤ l.length → (∀ t ∈ out, t.text.length ≤ l.length) → (lexG l n a out).1.length ≤ l.length ∧ ∀ t ∈ (lexG l n a out).1, t.text.length ≤ l.length := by
  intro n
  induction n with
  | zero => intro a out h1 h2 h3; exact ⟨Nat.le_trans h1 h2, h3⟩
  | succ n ih =>
    intro a out h1 h2 h3
    rw [lexG]
    split
    · split
      · exact ⟨Nat.zero_le _, fun t ht => by cases ht⟩
      · rename_i k x hk
        obtain ⟨t1, t2, t3, t4⟩ := tokL_some hk
        rw [List.length_drop] at t3
        have hge := runL_ge (p := blkB) (l := l) (a := a + x.length)
        refine ih _ _ (by simp only [List.length_append, List.length_cons, List.length_nil]; omega) (runL_le (by omega)) (fun t ht => ?_)
        rcases List.mem_append.1 ht with h4 | h4
        · exact h3 t h4
        · rw [List.mem_singleton.1 h4]; show x.length ≤ _; omega
    · exact ⟨Nat.le_trans h1 h2, h3⟩
theorem lexR_len (l : List UInt8) : (lexR l).1.length ≤ l.length ∧ ∀ t ∈ (lexR l).1, t.text.length ≤ l.length :=
  lexG_len l _ _ [] (Nat.zero_le _) (runL_le (Nat.zero_le _)) (fun t ht => by cases ht)
/-- what a text is, as a program -/
def parT (en : Int) (o : PR (List St)) : List St × Int × Int :=
  match o with
  | .ok l [] => (l, 0, 0)
  | .ok l (t :: r) => ([], t.pos, 1)
  | .no r => ([], placeG en r, 1)
def parG (l : List UInt8) : List St × Int × Int :=
  if (lexR l).2.2 = 0 then
    match stsG (6 * (lexR l).1.length + 1) [] (lexR l).1 with
    | some o => parT l.length o
    | none => ([], 0, 0)
  else ([], (lexR l).2.1, (lexR l).2.2)
def ParOut (R : List St × Int × Int) (w : World) (e : Ending) (w' : World) : Prop := ∃ x, e = .returned (.tuple #[x, .int .i64 R.2.1, .int .i64 R.2.2]) ∧ RdSts w' (Plus Nowhere w.heap.size w'.heap.size) R.1 x ∧ Below w.heap.size w w'
end Go.Proofs.YtijahadmaggncaaDoor
