/- The walks of mhp.span and of the looker's mix: a range over a function within another one's, whose body stores into a row of sets. -/
import Derived.Test.YtnpgpcnkdocknaaDoorGInfoU
import Derived.Test.YtnpgpcnkdocknaaDoorGMks
import Derived.Test.YtnpgpcnkdocknaaDoorGRegW
import Derived.Test.YtnpgpcnkdocknaaDoorRegPW
import Derived.RangeFuncBox
import Derived.Shelf.RegionOpen
namespace Go.Proofs.YtnpgpcnkdocknaaDoor
open Go.RowKit Go.Shelf
set_option linter.unusedVariables false
attribute [local go_sem] Oper.semAt_some
theorem rngB_succ (a m n : Nat) : rngB a (m + 1) n = (rngB a m n || decide (n = a + m)) := by
  refine bool_ext ?_
  rw [Bool.or_eq_true, rngB_iff, rngB_iff, decide_eq_true_iff]
  omega
set_option maxHeartbeats 600000 in
theorem span_any (a m : Nat) (ha : a + m ≤ 65536) (w : World) :
    Calls Tryd.prog 21 #[.int .i64 a, .int .i64 m] w fun e w' => ∃ L u, e = .returned u ∧ SetIs L (rngB a m) ∧ RdU w' (Plus Nowhere w.heap.size w'.heap.size) L u ∧ Below w.heap.size w w' := by
  go_enter Tryd.func21, Tryd.ntmps21
  go_wp2
  go_loopw [5, 8] (fun s t wr => ∃ (q : Nat) (L : List Nat), q ≤ m ∧ t = .int .i64 q ∧ RdU wr (Plus Nowhere w.heap.size wr.heap.size) L s ∧ Hid (SetIs L (rngB a q)) ∧ Below w.heap.size w wr) (fun _ t _ => m - (intOf t).toNat)
  case atStart => exact ⟨0, [], by omega, rfl, RdL.nil (by unfold maxLen; omega), Lib.hid (SetIs.nil.congr fun n => (rngB_zero a n).symm), Below.refl _ _⟩
  case round =>
    obtain ⟨q, L, hq, rfl, hs, HL, hb⟩ := hrel
    by_cases hlt : q < m
    · have HF := Lib.hid (show addL L ((a : Int) + (q : Int)) = orB L (a + q) by unfold addL; rw [if_pos (by simp [inTick]; omega), show ((a : Int) + (q : Int)).toNat = a + q by omega])
      have HA := Lib.hid (add_any L ((a : Int) + (q : Int)) wr _ _ plus_upto hs)
      have hsz := hb.size
      have HB := Lib.hid hb
      have HL2 := Lib.hid ((HL.out.add (a + q)).congr (Q := rngB a (q + 1)) (fun n => (rngB_succ a q n).symm))
      clear hs hb
      go_wp2_with (go_at_call 30; refine HA.out.mono ?_; rintro e w' ⟨u, rfl, hu, hb2⟩)
      go_roundw
      case rel => exact ⟨q + 1, _, by omega, by go_num, by rw [← HF.out]; exact hu.keep Flat.keeps (plus_in hsz hb2.size) (Same.refl _ _), HL2, HB.out.trans (hb2.mono hsz)⟩
      case measure => simp [intOf]; omega
    · have e : q = m := by omega
      subst e
      have HS := Lib.hid hs
      clear hs
      go_wp2
      go_ret
      exact ⟨L, _, rfl, HL.out, HS.out, hb⟩
/-- the looker in block b: its row of sets in block g -/
def Lk (b g n : Nat) (R : Nat → Nat → Bool) (w : World) : Prop := w.cell? ⟨b, 0, none⟩ = some (.slice (some ⟨g, 0, none⟩) n n) ∧ b ≠ g ∧ ∃ vs, SetsAt 0 w g n R vs
theorem Lk.congr {b g n : Nat} {R Q : Nat → Nat → Bool} {w : World} (h : Lk b g n R w) (e : ∀ i j, i < n → R i j = Q i j) : Lk b g n Q w := by
  obtain ⟨h1, h2, vs, h3⟩ := h
  exact ⟨h1, h2, vs, h3.congr e⟩
theorem Lk.below {b g n : Nat} {R : Nat → Nat → Bool} {w w' : World} (h : Lk b g n R w) (hb : Below w.heap.size w w') : Lk b g n R w' := by
  obtain ⟨h1, h2, vs, h3⟩ := h
  exact ⟨(hb.cell (p := ⟨b, 0, none⟩) (World.block_lt_of_cell? w _ h1)).trans h1, h2, vs, h3.below hb⟩
theorem Lk.turn {β : Type} {b g n top : Nat} (R : β → Nat → Nat → Bool) (hg : g < top) : OwnFrom top (fun (s : β) W => Lk b g n (R s) W) := by
  rintro s W W' row ⟨h1, h2, h3⟩ hgr hr
  exact ⟨cell_kept h1 hgr (fun r e => (hr r e).2), h2, SetsAt.turn R hg s W W' row h3 hgr hr⟩
/-- what has been mixed: of those in pre each with each of B -/
def mxR (R : Nat → Nat → Bool) (pre : List Nat) (B : Nat → Bool) (i j : Nat) : Bool := R i j || mixB (fun m => pre.contains m) B i j
/-- .. and x with those in q -/
def mxR2 (R : Nat → Nat → Bool) (pre : List Nat) (B : Nat → Bool) (x : Nat) (q : List Nat) (i j : Nat) : Bool := mxR R pre B i j || mixB (fun m => decide (m = x)) (fun m => q.contains m) i j
theorem mxR_nil (R : Nat → Nat → Bool) (B : Nat → Bool) (i j : Nat) : mxR R [] B i j = R i j := by
  refine bool_ext ?_
  unfold mxR
  rw [Bool.or_eq_true, mixB_iff]
  simp
theorem mxR2_nil (R : Nat → Nat → Bool) (pre : List Nat) (B : Nat → Bool) (x i j : Nat) : mxR2 R pre B x [] i j = mxR R pre B i j := by
  refine bool_ext ?_
  unfold mxR2
  rw [Bool.or_eq_true, mixB_iff]
  simp
theorem mxR2_snoc (R : Nat → Nat → Bool) (pre : List Nat) (B : Nat → Bool) (x y : Nat) (q : List Nat) (i j : Nat) : mxR2 R pre B x (q ++ [y]) i j = if i = min x y then (mxR2 R pre B x q i j || decide (j = max x y)) else mxR2 R pre B x q i j := by
  refine bool_ext ?_
  unfold mxR2
  split
  · rename_i h
    simp only [Bool.or_eq_true, mixB_iff, List.contains_append, decide_eq_true_eq, List.contains_cons, List.contains_nil, Bool.or_false, beq_iff_eq]
    constructor
    · rintro (h1 | ⟨h0, ⟨h1, h2 | h2⟩ | ⟨h1, h2 | h2⟩⟩)
      · exact .inl (.inl h1)
      · exact .inl (.inr ⟨h0, .inl ⟨h1, h2⟩⟩)
      · right; omega
      · exact .inl (.inr ⟨h0, .inr ⟨h1, h2⟩⟩)
      · right; omega
    · rintro ((h1 | ⟨h0, ⟨h1, h2⟩ | ⟨h1, h2⟩⟩) | h1)
      · exact .inl h1
      · exact .inr ⟨h0, .inl ⟨h1, .inl h2⟩⟩
      · exact .inr ⟨h0, .inr ⟨h1, .inl h2⟩⟩
      · refine .inr ⟨by omega, ?_⟩
        rcases Nat.le_total x y with hxy | hxy
        · exact .inl ⟨by omega, .inr (by omega)⟩
        · exact .inr ⟨by omega, .inr (by omega)⟩
  · rename_i h
    simp only [Bool.or_eq_true, mixB_iff, List.contains_append, decide_eq_true_eq, List.contains_cons, List.contains_nil, Bool.or_false, beq_iff_eq]
    constructor
    · rintro (h1 | ⟨h0, ⟨h1, h2 | h2⟩ | ⟨h1, h2 | h2⟩⟩)
      · exact .inl h1
      · exact .inr ⟨h0, .inl ⟨h1, h2⟩⟩
      · omega
      · exact .inr ⟨h0, .inr ⟨h1, h2⟩⟩
      · omega
    · rintro (h1 | ⟨h0, ⟨h1, h2⟩ | ⟨h1, h2⟩⟩)
      · exact .inl h1
      · exact .inr ⟨h0, .inl ⟨h1, .inl h2⟩⟩
      · exact .inr ⟨h0, .inr ⟨h1, .inl h2⟩⟩
theorem mxR_snoc {R : Nat → Nat → Bool} {pre : List Nat} {B : Nat → Bool} {x : Nat} {q : List Nat} (hq : ∀ m, q.contains m = B m) (i j : Nat) : mxR R (pre ++ [x]) B i j = mxR2 R pre B x q i j := by
  refine bool_ext ?_
  unfold mxR2 mxR
  simp only [Bool.or_eq_true, mixB_iff, List.contains_append, decide_eq_true_eq, List.contains_cons, List.contains_nil, Bool.or_false, beq_iff_eq, hq]
  constructor
  · rintro (h1 | ⟨h0, ⟨h1 | h1, h2⟩ | ⟨h1 | h1, h2⟩⟩)
    · exact .inl (.inl h1)
    · exact .inl (.inr ⟨h0, .inl ⟨h1, h2⟩⟩)
    · exact .inr ⟨h0, .inl ⟨h1, h2⟩⟩
    · exact .inl (.inr ⟨h0, .inr ⟨h1, h2⟩⟩)
    · exact .inr ⟨h0, .inr ⟨h1, h2⟩⟩
  · rintro ((h1 | ⟨h0, ⟨h1, h2⟩ | ⟨h1, h2⟩⟩) | ⟨h0, ⟨h1, h2⟩ | ⟨h1, h2⟩⟩)
    · exact .inl h1
    · exact .inr ⟨h0, .inl ⟨.inl h1, h2⟩⟩
    · exact .inr ⟨h0, .inr ⟨.inl h1, h2⟩⟩
    · exact .inr ⟨h0, .inl ⟨.inr h1, h2⟩⟩
    · exact .inr ⟨h0, .inr ⟨.inr h1, h2⟩⟩
theorem mem_set {l : List Nat} {P : Nat → Bool} (h : SetIs l P) (m : Nat) : (memB l l.length).contains m = P m := by
  refine bool_ext ?_
  rw [List.contains_iff_mem, memB_filter, List.mem_filter, List.mem_range, h.bit]
  refine ⟨fun h => h.2, fun hp => ⟨?_, hp⟩⟩
  rcases Nat.lt_or_ge m (64 * l.length) with h1 | h1
  · exact h1
  · exfalso
    rw [← h.bit] at hp
    unfold bitB at hp
    rw [List.getElem?_eq_none (by omega)] at hp
    simp at hp
theorem RdL.form5 {α : Type} {rd : World → Blocks → α → List Value → Prop} {size bytes : Nat} {w : World} {S : Blocks} {l : List α} {v : Value} (h : RdL rd size bytes w S l v) : ∃ A cap, v = .slice A l.length cap := by
  obtain ⟨A, cap, e, _⟩ := h.form
  exact ⟨A, cap, e⟩
set_option maxHeartbeats 2000000 in
set_option maxRecDepth 100000 in
theorem mix_any (b g n : Nat) (hn : n ≤ 65536) (R : Nat → Nat → Bool) (la lb : List Nat) (PA PB : Nat → Bool) (hA : SetIs la PA) (hB : SetIs lb PB) (hAn : ∀ i, PA i = true → i < n) (hBn : ∀ i, PB i = true → i < n) (w : World) (S T : Blocks) (va vb : Value)
    (hS : Sub S (Upto w.heap.size)) (hSg : ¬ S g) (hT : Sub T (Upto w.heap.size)) (hTg : ¬ T g) (hTb : Tab w) (hgt : 0 ≠ g) (K : Lk b g n R w) (ra : RdU w S la va) (rb : RdU w T lb vb) :
    Calls Tryd.prog 20 #[.pointer (some ⟨b, 0, none⟩), va, vb] w fun e w' => e = .returned (.tuple #[]) ∧ Lk b g n (fun i j => R i j || mixB PA PB i j) w' ∧ But (Is g) w w' := by
  obtain ⟨A, ca, rfl, hla, hca, _⟩ := ra.form
  obtain ⟨A', cb, rfl, hlb, hcb, _⟩ := rb.form
  unfold maxLen at hca hcb
  have hbg : b ≠ g := K.2.1
  have hgw : g < w.heap.size := K.2.2.choose_spec.out.lt
  have HA := Lib.hid hA
  have HB := Lib.hid hB
  have KK := Lib.hid K
  have RA := Lib.hid ra
  have RB := Lib.hid rb
  have HS := Lib.hid hS
  have HT := Lib.hid hT
  have TB := Lib.hid hTb
  have hg0 : 0 < w.heap.size := hTb.2
  clear hA hB K ra rb hS hT hTb
  refine (callsIn_wide (n := 6)).1 ?_
  refine callsIn_of_wp_marks Tryd.func20 rfl trivial ?_ rfl
  simp only [Tryd.ntmps20, List.size_toArray, List.length_cons, List.length_nil, Nat.reduceAdd, Nat.reduceSub, Array.replicate_succ, Array.replicate_zero, List.push_toArray, List.append_toArray, List.nil_append, List.cons_append]
  gi_wp2
  refine ⟨trivial, ?_⟩
  refine (all_in _ _ _ _ _).mono ?_
  rintro e w2 ⟨rfl, rfl⟩
  gi_wp2
  have b0 : Below w.heap.size w (((w.alloc (.cells #[.pointer (some ⟨b, 0, none⟩)] 40)).alloc (.cells #[.slice A' lb.length cb] 45)).alloc (.cells #[.slice A la.length ca] 45)) := (((Below.refl _ w).alloc (Nat.le_refl _) _).alloc (by simp) _).alloc (by simp; omega) _
  have z3 : Boxed (((w.alloc (.cells #[.pointer (some ⟨b, 0, none⟩)] 40)).alloc (.cells #[.slice A' lb.length cb] 45)).alloc (.cells #[.slice A la.length ca] 45)) w.heap.size 40 (.pointer (some ⟨b, 0, none⟩)) := ((Boxed.new w 40 (.pointer (some ⟨b, 0, none⟩))).alloc _).alloc _
  have z5 : Boxed (((w.alloc (.cells #[.pointer (some ⟨b, 0, none⟩)] 40)).alloc (.cells #[.slice A' lb.length cb] 45)).alloc (.cells #[.slice A la.length ca] 45)) (w.heap.size + 1) 45 (.slice A' lb.length cb) := by
    have := (Boxed.new (w.alloc (.cells #[.pointer (some ⟨b, 0, none⟩)] 40)) 45 (.slice A' lb.length cb)).alloc (.cells #[.slice A la.length ca] 45)
    rwa [World.size_alloc] at this
  have z9 : Boxed (((w.alloc (.cells #[.pointer (some ⟨b, 0, none⟩)] 40)).alloc (.cells #[.slice A' lb.length cb] 45)).alloc (.cells #[.slice A la.length ca] 45)) (w.heap.size + 1 + 1) 45 (.slice A la.length ca) := by
    have := Boxed.new ((w.alloc (.cells #[.pointer (some ⟨b, 0, none⟩)] 40)).alloc (.cells #[.slice A' lb.length cb] 45)) 45 (.slice A la.length ca)
    rwa [World.size_alloc, World.size_alloc] at this
  have hsz : ((((w.alloc (.cells #[.pointer (some ⟨b, 0, none⟩)] 40)).alloc (.cells #[.slice A' lb.length cb] 45)).alloc (.cells #[.slice A la.length ca] 45))).heap.size = w.heap.size + 1 + 1 + 1 := by simp
  obtain ⟨W0, hW0⟩ : ∃ W0, (((w.alloc (.cells #[.pointer (some ⟨b, 0, none⟩)] 40)).alloc (.cells #[.slice A' lb.length cb] 45)).alloc (.cells #[.slice A la.length ca] 45)) = W0 := ⟨_, rfl⟩
  rw [hW0] at b0 z3 z5 z9 hsz ⊢
  clear hW0
  have hbt : ∀ k, W0.heap.size ≤ k → Ov g w.heap.size k := fun k h => .inr (by omega)
  have hno : ∀ k, k ≠ g → k < w.heap.size → ¬ Ov g w.heap.size k := fun k h1 h2 h => h.elim h1 (fun h => by omega)
  have hSO : ∀ k, S k → ¬ Ov g w.heap.size k := fun k h => hno k (fun e => hSg (e ▸ h)) (HS.out k h)
  have hTO : ∀ k, T k → ¬ Ov g w.heap.size k := fun k h => hno k (fun e => hTg (e ▸ h)) (HT.out k h)
  have hgO := hno _ hgt hg0
  have hz9 := hsz
  refine wpIn_rangeFunc_ownH rfl (by omega) (gf := 23) (lb := #[.pointer (some ⟨w.heap.size + 1 + 1, 0, none⟩)]) rfl trivial (enters_of Tryd.func23 (by kernel_rfl) rfl)
    (all_stopsB _ (by omega) (w.heap.size + 1 + 1) (Ov g w.heap.size) A ca la S W0 (HS.out.trans (Sub.upto (by omega))) hSO (by omega) (TB.out.go b0) hgO z9.cell (RA.out.keep Flat.keeps (Sub.refl _) (same_of_below b0 HS.out))) butK_t (butK_b hbt) (Below.refl _ _) (fun _ => rfl)
    (fun pre W => (Lk b g n (mxR R (pre.map Subtype.val) PB) W ∧ Boxed W w.heap.size 40 (.pointer (some ⟨b, 0, none⟩))) ∧ (Boxed W (w.heap.size + 1) 45 (.slice A' lb.length cb) ∧ But (Ov g w.heap.size) w W))
    (fun c pre W => False)
    (OwnFrom.and (OwnFrom.and (Lk.turn (fun pre : List { x : Nat // x ∈ memB la la.length } => mxR R (pre.map Subtype.val) PB) (by omega)) (Own.from (boxed_own _ _ _) _))
      (OwnFrom.and (Own.from (boxed_own _ _ _) _) (But.turn (by omega))))
    (fun c => fun _ _ _ _ h _ _ => h)
    ⟨⟨(KK.out.below b0).congr (fun i j _ => (mxR_nil R PB i j).symm), z3⟩, z5, But.of_below b0⟩
    (fun x a' W => ∃ Bx, w.heap.size + 1 < Bx ∧ Boxed W Bx 3 (.int .i64 (x.1 : Int)) ∧ a' = { tmps := #[.pointer (some ⟨b, 0, none⟩), .slice A la.length ca, .slice A' lb.length cb, .pointer (some ⟨w.heap.size, 0, none⟩), undef, .pointer (some ⟨w.heap.size + 1, 0, none⟩), .pointer (some ⟨Bx, 0, none⟩), undef, .slice A la.length ca, .func (.func 23) #[] #[.pointer (some ⟨w.heap.size + 1 + 1, 0, none⟩)], .int .i64 (x.1 : Int), undef, undef, undef, undef, undef, undef, undef, undef, undef, undef, undef, undef, undef, undef, undef, undef, undef, undef, undef, undef, undef, undef, undef, undef], defers := [] })
    (fun x a' _ X Y row hs hg hr => by obtain ⟨Bx, h1, h2, h3⟩ := hs; exact ⟨Bx, h1, boxed_own Bx 3 (fun (_ : Unit) => Value.int .i64 (x.1 : Int)) () X Y row h2 hg (fun r e => (hr r e).2), h3⟩)
    ?assign ?body ?done ?stop
  case assign =>
    rintro l' pre x W Kk ⟨⟨h1, h2⟩, h3, h4⟩ hK
    gi_wp2
    exact hK _ _ ((KeepsOthers.alloc _ _).from _) (But.of_below ((Below.refl _ W).alloc (Nat.le_refl _) _)) ⟨⟨h1.below ((Below.refl _ W).alloc (Nat.le_refl _) _), h2.alloc _⟩, h3.alloc _, h4.trans (But.of_below ((Below.refl _ W).alloc (Nat.le_refl _) _))⟩ ⟨W.heap.size, h3.lt, Boxed.new W 3 _, rfl⟩
  case body =>
    rintro l' pre x a' W hl' ⟨r, hr⟩ ⟨⟨hL, h2⟩, h3, h4⟩ ⟨Bx, hBx, bX, rfl⟩ hlt2
    obtain ⟨x, hxm⟩ := x
    dsimp only at bX ⊢
    have hxP : PA x = true := by rw [← mem_set HA.out]; exact List.contains_iff_mem.2 hxm
    have hxn := hAn x hxP
    have c5 := h3.cell
    have hzw := h4.size
    have hgW : g < W.heap.size := by omega
    gi_wp2
    refine ⟨trivial, ?_⟩
    refine (CallsIn.inRound l' (all_in _ _ _ _ _)).mono ?_
    rintro e w2 ⟨rfl, rfl⟩
    gi_wp2
    have bN := Boxed.new W 45 (.slice A' lb.length cb)
    have bl1 : Below W.heap.size W (W.alloc (.cells #[.slice A' lb.length cb] 45)) := (Below.refl _ W).alloc (Nat.le_refl _) _
    have hr' : (W.alloc (.cells #[.slice A' lb.length cb] 45)).heap[l']? = some (.loop r) := (Below.heap_alloc W _ l' (Array.getElem?_eq_some_iff.1 hr).1).trans hr
    have h4a := h4.trans (But.of_below bl1)
    have TW := TB.out.but h4a hgO
    have RW := RB.out.keep Flat.keeps (Sub.refl _) (h4a.same HT.out hTO)
    refine wpIn_rangeFunc_ownN (l₀ := l') (r₀ := r) rfl hr' (by omega) (gf := 23) (lb := #[.pointer (some ⟨W.heap.size, 0, none⟩)]) rfl trivial (enters_of Tryd.func23 (by kernel_rfl) rfl)
      ((all_stopsB _ (by omega) W.heap.size (Ov g w.heap.size) A' cb lb T _ (HT.out.trans (Sub.upto h4a.size)) hTO (by simp) TW hgO bN.cell RW).inRound l') butK_t (butK_b (fun k h => .inr (by simp at h; omega))) (Below.refl _ _) (fun _ => rfl)
      (fun q W' => ((Lk b g n (mxR2 R (pre.map Subtype.val) PB x (q.map Subtype.val)) W' ∧ Boxed W' Bx 3 (.int .i64 (x : Int))) ∧ (Boxed W' w.heap.size 40 (.pointer (some ⟨b, 0, none⟩)) ∧ Boxed W' (w.heap.size + 1) 45 (.slice A' lb.length cb))) ∧ (But (Ov g w.heap.size) W W' ∧ KeepsFrom W0.heap.size W W'))
      (fun _ _ _ => False)
      (OwnFrom.and (OwnFrom.and (OwnFrom.and (Lk.turn (fun q : List { x : Nat // x ∈ memB lb lb.length } => mxR2 R (pre.map Subtype.val) PB x (q.map Subtype.val)) (by simp; omega)) (Own.from (boxed_own _ _ _) _)) (OwnFrom.and (Own.from (boxed_own _ _ _) _) (Own.from (boxed_own _ _ _) _))) (OwnFrom.and (But.turn (by simp)) (ownFrom_keepsFrom (by simp))))
      (fun _ _ _ _ _ hs _ _ => hs)
      ⟨⟨⟨(hL.below bl1).congr (fun i j _ => (mxR2_nil R _ PB x i j).symm), bX.alloc _⟩, h2.alloc _, h3.alloc _⟩, But.of_below bl1, (KeepsOthers.alloc _ _).from _⟩
      (fun y a'' _ => a'' = { tmps := #[.pointer (some ⟨b, 0, none⟩), .slice A la.length ca, .slice A' lb.length cb, .pointer (some ⟨w.heap.size, 0, none⟩), undef, .pointer (some ⟨w.heap.size + 1, 0, none⟩), .pointer (some ⟨Bx, 0, none⟩), .int .i64 (y.1 : Int), .slice A la.length ca, .func (.func 23) #[] #[.pointer (some ⟨w.heap.size + 1 + 1, 0, none⟩)], .int .i64 (x : Int), .slice A' lb.length cb, .func (.func 23) #[] #[.pointer (some ⟨W.heap.size, 0, none⟩)], .int .i64 (y.1 : Int), undef, undef, undef, undef, undef, undef, undef, undef, undef, undef, undef, undef, undef, undef, undef, undef, undef, undef, undef, undef, undef], defers := [] })
      (fun _ _ _ _ _ _ hs _ _ => hs)
      ?assign2 ?body2 ?done2 ?stop2
    case assign2 =>
      rintro l2 q y W' Kk hi hK
      gi_wp2
      exact hK _ _ (KeepsFrom.refl _ _) (But.refl _ _) hi rfl
    case body2 =>
      rintro l3 q y a'' W' _ _ ⟨⟨⟨hL2, bX2⟩, b32, b52⟩, hBW, hKF⟩ rfl _
      obtain ⟨y, hym⟩ := y
      dsimp only
      have hyn := hBn y (by rw [← mem_set HB.out]; exact List.contains_iff_mem.2 hym)
      have hLD := hL2.below ((Below.refl _ W').drew)
      obtain ⟨hLc, _, vs2, hSA⟩ := hLD
      obtain ⟨lo, hlo⟩ : ∃ lo, lo = min x y := ⟨_, rfl⟩
      obtain ⟨hi, hhi⟩ : ∃ hi, hi = max x y := ⟨_, rfl⟩
      have hlon : lo < n := by omega
      have hhin : hi ≤ 65535 := by omega
      obtain ⟨T2, l2, A2, c2, q1, _, q3, q4, q5, q6, _⟩ := hSA.at_ hlon
      have ff := hSA.out.fr lo
      have CL := Lib.hid (add_any l2 (hi : Int) W'.drew T2 _ q1 q5)
      have HADD := Lib.hid (show addL l2 (hi : Int) = orB l2 hi by unfold addL; rw [if_pos (by simp [inTick]; omega), Int.toNat_natCast])
      have f3 : W'.drew.cell? ⟨w.heap.size, 0, none⟩ = some (.pointer (some ⟨b, 0, none⟩)) := b32.cell
      have fX : W'.drew.cell? ⟨Bx, 0, none⟩ = some (.int .i64 (x : Int)) := bX2.cell
      have hmix : Tryd.prog.follows .mixedOrders = true := by kernel_rfl
      have HSA := Lib.hid hSA
      have Q4 := Lib.hid q4
      have hbW : b < W'.heap.size := World.block_lt_of_cell? W'.drew _ hLc
      have hgW2 : g < W'.heap.size := hSA.out.lt
      have hBxl := bX2.lt
      have hwl := b32.lt
      have Q1 := Lib.hid q1
      have Q3 := Lib.hid q3
      have HLN := Lib.hid hlon
      clear hSA q4 q3 q1 q5
      have HMN := Lib.hid (show (if y < x then (y : Int) else (x : Int)) = (lo : Int) by split <;> omega)
      have HMX := Lib.hid (show (if x < y then (y : Int) else (x : Int)) = (hi : Int) by split <;> omega)
      have HLO := Lib.hid hlo
      have HHI := Lib.hid hhi
      clear hlo hhi
      gi_wp2
      refine region_pre_round 20 (S := (fun w' => w'.cell? ⟨w.heap.size, 0, none⟩ = some (.pointer (some ⟨b, 0, none⟩)) ∧ w'.cell? ⟨Bx, 0, none⟩ = some (.int .i64 (x : Int)) ∧ w'.cell? ⟨b, 0, none⟩ = some (.slice (some ⟨g, 0, none⟩) n n) ∧ w'.cell? ⟨g, lo, none⟩ = some (.slice A2 l2.length c2))) (by kernel_rfl) (by kernel_rfl) (by kernel_rfl) ?lets ⟨f3, fX, hLc, q6⟩ (fun hS0 => ?_)
      case lets => rintro ⟨_, _, h⟩; exact h
      simp only [List.take_succ_cons, List.take_zero]
      refine wpAnyH_take_at (i := 0) (v := ?_) (some 14) rfl rfl (by kernel_rfl) (by kernel_rfl) (by kernel_rfl) (fun _ _ _ h => h) (Or.inl ⟨by rfl, ?_⟩) (by assumption) ?_
      rotate_left
      · intro w9 hS9
        obtain ⟨s1, s2, s3, s4⟩ := hS9
        go_simp
        try with_reducible rfl
      (try simp only [Act.put, List.setIfInBounds_toArray, List.set_cons_zero, List.set_cons_succ])
      refine wpAnyH_take_at (i := 1) (v := ?_) (some 15) rfl rfl (by kernel_rfl) (by kernel_rfl) (by kernel_rfl) (fun _ _ _ h => h) (Or.inl ⟨by rfl, ?_⟩) (by assumption) ?_
      rotate_left
      · intro w9 hS9
        obtain ⟨s1, s2, s3, s4⟩ := hS9
        go_simp
        try with_reducible rfl
      (try simp only [Act.put, List.setIfInBounds_toArray, List.set_cons_zero, List.set_cons_succ])
      refine wpAnyH_take_at (i := 2) (v := ?_) (some 16) rfl rfl (by kernel_rfl) (by kernel_rfl) (by kernel_rfl) (fun _ _ _ h => h) (Or.inl ⟨by rfl, ?_⟩) (by assumption) ?_
      rotate_left
      · intro w9 hS9
        obtain ⟨s1, s2, s3, s4⟩ := hS9
        go_simp
        try with_reducible rfl
      (try simp only [Act.put, List.setIfInBounds_toArray, List.set_cons_zero, List.set_cons_succ])
      refine wpAnyH_take_at (i := 3) (v := ?_) (some 17) rfl rfl (by kernel_rfl) (by kernel_rfl) (by kernel_rfl) (fun _ _ _ h => h) (Or.inl ⟨by rfl, ?_⟩) (by assumption) ?_
      rotate_left
      · intro w9 hS9
        obtain ⟨s1, s2, s3, s4⟩ := hS9
        go_simp
        try with_reducible rfl
      (try simp only [Act.put, List.setIfInBounds_toArray, List.set_cons_zero, List.set_cons_succ])
      refine wpAnyH_take_at (i := 4) (v := ?_) (some 18) rfl rfl (by kernel_rfl) (by kernel_rfl) (by kernel_rfl) (fun _ _ _ h => h) (Or.inl ⟨by rfl, ?_⟩) (by assumption) ?_
      rotate_left
      · intro w9 hS9
        obtain ⟨s1, s2, s3, s4⟩ := hS9
        go_simp
        try with_reducible rfl
      (try simp only [Act.put, List.setIfInBounds_toArray, List.set_cons_zero, List.set_cons_succ])
      refine wpAnyH_take_at (i := 5) (v := ?_) (some 19) rfl rfl (by kernel_rfl) (by kernel_rfl) (by kernel_rfl) (fun _ _ _ h => h) (Or.inl ⟨by rfl, ?_⟩) (by assumption) ?_
      rotate_left
      · intro w9 hS9
        obtain ⟨s1, s2, s3, s4⟩ := hS9
        go_simp
        try with_reducible rfl
      (try simp only [Act.put, List.setIfInBounds_toArray, List.set_cons_zero, List.set_cons_succ])
      refine wpAnyH_take_at (i := 6) (v := .int .i64 (lo : Int)) (some 20) rfl rfl (by kernel_rfl) (by kernel_rfl) (by kernel_rfl) (fun _ _ _ h => h) (Or.inl ⟨by rfl, ?_⟩) (by assumption) ?_
      · intro w9 hS9
        obtain ⟨s1, s2, s3, s4⟩ := hS9
        go_simp
        exact HMN.out
        try with_reducible rfl
      (try simp only [Act.put, List.setIfInBounds_toArray, List.set_cons_zero, List.set_cons_succ])
      refine wpAnyH_take_at (i := 7) (v := ?_) (some 21) rfl rfl (by kernel_rfl) (by kernel_rfl) (by kernel_rfl) (fun _ _ _ h => h) (Or.inl ⟨by rfl, ?_⟩) (by assumption) ?_
      rotate_left
      · intro w9 hS9
        obtain ⟨s1, s2, s3, s4⟩ := hS9
        go_simp
        try with_reducible rfl
      (try simp only [Act.put, List.setIfInBounds_toArray, List.set_cons_zero, List.set_cons_succ])
      refine wpAnyH_take_at (i := 8) (v := ?_) (some 22) rfl rfl (by kernel_rfl) (by kernel_rfl) (by kernel_rfl) (fun _ _ _ h => h) (Or.inl ⟨by rfl, ?_⟩) (by assumption) ?_
      rotate_left
      · intro w9 hS9
        obtain ⟨s1, s2, s3, s4⟩ := hS9
        go_simp
        try with_reducible rfl
      (try simp only [Act.put, List.setIfInBounds_toArray, List.set_cons_zero, List.set_cons_succ])
      refine wpAnyH_take_at (i := 9) (v := ?_) (some 23) rfl rfl (by kernel_rfl) (by kernel_rfl) (by kernel_rfl) (fun _ _ _ h => h) (Or.inl ⟨by rfl, ?_⟩) (by assumption) ?_
      rotate_left
      · intro w9 hS9
        obtain ⟨s1, s2, s3, s4⟩ := hS9
        go_simp
        try with_reducible rfl
      (try simp only [Act.put, List.setIfInBounds_toArray, List.set_cons_zero, List.set_cons_succ])
      refine wpAnyH_take_at (i := 10) (v := ?_) (some 24) rfl rfl (by kernel_rfl) (by kernel_rfl) (by kernel_rfl) (fun _ _ _ h => h) (Or.inl ⟨by rfl, ?_⟩) (by assumption) ?_
      rotate_left
      · intro w9 hS9
        obtain ⟨s1, s2, s3, s4⟩ := hS9
        go_simp
        try with_reducible rfl
      (try simp only [Act.put, List.setIfInBounds_toArray, List.set_cons_zero, List.set_cons_succ])
      refine wpAnyH_take_at (i := 11) (v := ?_) (some 25) rfl rfl (by kernel_rfl) (by kernel_rfl) (by kernel_rfl) (fun _ _ _ h => h) (Or.inl ⟨by rfl, ?_⟩) (by assumption) ?_
      rotate_left
      · intro w9 hS9
        obtain ⟨s1, s2, s3, s4⟩ := hS9
        go_simp
        try with_reducible rfl
      (try simp only [Act.put, List.setIfInBounds_toArray, List.set_cons_zero, List.set_cons_succ])
      refine wpAnyH_take_at (i := 12) (v := ?_) (some 26) rfl rfl (by kernel_rfl) (by kernel_rfl) (by kernel_rfl) (fun _ _ _ h => h) (Or.inl ⟨by rfl, ?_⟩) (by assumption) ?_
      rotate_left
      · intro w9 hS9
        obtain ⟨s1, s2, s3, s4⟩ := hS9
        go_simp
        try with_reducible rfl
      (try simp only [Act.put, List.setIfInBounds_toArray, List.set_cons_zero, List.set_cons_succ])
      refine wpAnyH_take_at (i := 13) (v := .int .i64 (lo : Int)) (some 27) rfl rfl (by kernel_rfl) (by kernel_rfl) (by kernel_rfl) (fun _ _ _ h => h) (Or.inl ⟨by rfl, ?_⟩) (by assumption) ?_
      · intro w9 hS9
        obtain ⟨s1, s2, s3, s4⟩ := hS9
        go_simp
        exact HMN.out
        try with_reducible rfl
      (try simp only [Act.put, List.setIfInBounds_toArray, List.set_cons_zero, List.set_cons_succ])
      refine wpAnyH_take_at (i := 14) (v := .pointer (some ⟨g, lo, none⟩)) (some 28) rfl rfl (by kernel_rfl) (by kernel_rfl) (by kernel_rfl) (fun _ _ _ h => h) (Or.inl ⟨by rfl, ?_⟩) (by assumption) ?_
      · intro w9 hS9
        obtain ⟨s1, s2, s3, s4⟩ := hS9
        go_simp
        try with_reducible rfl
      (try simp only [Act.put, List.setIfInBounds_toArray, List.set_cons_zero, List.set_cons_succ])
      refine wpAnyH_take_at (i := 15) (v := .slice A2 l2.length c2) (some 29) rfl rfl (by kernel_rfl) (by kernel_rfl) (by kernel_rfl) (fun _ _ _ h => h) (Or.inl ⟨by rfl, ?_⟩) (by assumption) ?_
      · intro w9 hS9
        obtain ⟨s1, s2, s3, s4⟩ := hS9
        go_simp
        try with_reducible rfl
      (try simp only [Act.put, List.setIfInBounds_toArray, List.set_cons_zero, List.set_cons_succ])
      refine wpAnyH_take_at (i := 16) (v := ?_) (some 30) rfl rfl (by kernel_rfl) (by kernel_rfl) (by kernel_rfl) (fun _ _ _ h => h) (Or.inl ⟨by rfl, ?_⟩) (by assumption) ?_
      rotate_left
      · intro w9 hS9
        obtain ⟨s1, s2, s3, s4⟩ := hS9
        go_simp
        try with_reducible rfl
      (try simp only [Act.put, List.setIfInBounds_toArray, List.set_cons_zero, List.set_cons_succ])
      refine wpAnyH_take_at (i := 17) (v := ?_) (some 31) rfl rfl (by kernel_rfl) (by kernel_rfl) (by kernel_rfl) (fun _ _ _ h => h) (Or.inl ⟨by rfl, ?_⟩) (by assumption) ?_
      rotate_left
      · intro w9 hS9
        obtain ⟨s1, s2, s3, s4⟩ := hS9
        go_simp
        try with_reducible rfl
      (try simp only [Act.put, List.setIfInBounds_toArray, List.set_cons_zero, List.set_cons_succ])
      refine wpAnyH_take_at (i := 18) (v := .int .i64 (hi : Int)) (some 32) rfl rfl (by kernel_rfl) (by kernel_rfl) (by kernel_rfl) (fun _ _ _ h => h) (Or.inl ⟨by rfl, ?_⟩) (by assumption) ?_
      · intro w9 hS9
        obtain ⟨s1, s2, s3, s4⟩ := hS9
        go_simp
        exact HMX.out
        try with_reducible rfl
      (try simp only [Act.put, List.setIfInBounds_toArray, List.set_cons_zero, List.set_cons_succ])
      refine wpAnyH_ready (rs := [19]) (by kernel_rfl) (by simp) ?_
      refine AllReadyH.cons rfl (fun K hK => ?_) AllReadyH.nil
      go_simp
      go_wp2_with (go_at_call 30; refine CL.out.mono ?_; rintro e w5 ⟨u, rfl, hu, hb5⟩; obtain ⟨A5, c5, rfl⟩ := RdL.form5 hu; have f35 := (hb5.cell (p := ⟨w.heap.size, 0, none⟩) (show w.heap.size < W'.heap.size by omega)).trans f3; have fX5 := (hb5.cell (p := ⟨Bx, 0, none⟩) (show Bx < W'.heap.size by omega)).trans fX; have hL5 := (hb5.cell (p := ⟨b, 0, none⟩) (show b < W'.heap.size by omega)).trans hLc; have q65 := (hb5.cell (p := ⟨g, lo, none⟩) (show g < W'.heap.size by omega)).trans q6; have ff5 := (hb5.frozen (p := ⟨g, lo, none⟩) (show g < W'.heap.size by omega)).trans ff)
      refine hK.out _ _ ⟨f35, fX5, hL5, q65⟩ (fun hS2 => ?_)
      clear hK K f35 fX5
      (try dsimp only)
      refine wpAnyH_done (by kernel_rfl) ?_ _
      simp only [QPre, List.drop_succ_cons, List.drop_zero]
      go_wp2
      clear hS2
      have hko : KeepsOthers W' (w5.setCell ⟨g, lo, none⟩ (.slice A5 (addL l2 (hi : Int)).length c5)) := ((KeepsOthers.drew W').trans ⟨hb5.size, fun k o hk ho => (hb5.block k (Array.getElem?_eq_some_iff.1 hk).1).trans hk⟩).trans (KeepsOthers.setCell _ _ _)
      have hz5 := hb5.size
      have hdz : W'.drew.heap.size = W'.heap.size := rfl
      have hSF := ((HSA.out.below hb5).set HLN.out (T := Plus T2 W'.drew.heap.size w5.heap.size) (fun k h => h.elim (fun h => Nat.lt_of_lt_of_le (Q1.out k h) hz5) (fun h => h.2)) (fun _ _ => Nat.zero_le _) (fun h => h.elim Q3.out (fun h => by have := h.1; omega)) (by rw [HADD.out]; exact Q4.out.add hi) hu).congr (Q := mxR2 R (pre.map Subtype.val) PB x ((q ++ ([⟨y, hym⟩] : List { x : Nat // x ∈ memB lb lb.length })).map Subtype.val)) (fun i j _ => by
        rw [List.map_append]
        rw [show ([⟨y, hym⟩] : List { x : Nat // x ∈ memB lb lb.length }).map Subtype.val = [y] from rfl, mxR2_snoc, ← HLO.out, ← HHI.out]
        split
        · rename_i e; subst e; rfl
        · rfl)
      have hbw : But (Ov g w.heap.size) W' (w5.setCell ⟨g, lo, none⟩ (.slice A5 (addL l2 (hi : Int)).length c5)) := (But.of_below (a := W') (b := w5) ((Below.refl W'.heap.size W').drew.trans hb5)).setCell (p := ⟨g, lo, none⟩) (.inl rfl) _
      have hgb : w5.grownBy (w5.setCell ⟨g, lo, none⟩ (.slice A5 (addL l2 (hi : Int)).length c5)) (some g) := grownBy_setCellI _ _ _ _
      have bx : ∀ {B : Nat} {t : TypeId} {v : Value}, Boxed W' B t v → B ≠ g → Boxed (w5.setCell ⟨g, lo, none⟩ (.slice A5 (addL l2 (hi : Int)).length c5)) B t v := fun hB hne => Boxed.kept ((hb5.block _ hB.lt).trans hB) hgb (fun e => by injection e with e; exact hne e)
      exact ⟨hko.from _, hbw, ⟨⟨⟨(World.cell?_setCell_other _ _ _ _ (fun e => by injection e with e1 e2; omega)).trans hL5, hbg, _, hSF⟩, bx bX2 (by omega)⟩, bx b32 (by omega), bx b52 (by omega)⟩, hBW.trans hbw, hKF.trans (hko.from _)⟩
    case done2 =>
      rintro ys W' hys ⟨⟨⟨hL2, bX2⟩, b32, b52⟩, hBW, hKF⟩
      gi_wp2
      refine ⟨hKF, hBW, ⟨hL2.congr (fun i j _ => ?_), b32⟩, b52, h4.trans hBW⟩
      rw [List.map_append]
      exact (mxR_snoc (x := x) (fun m => by rw [hys, mem_set HB.out]) i j).symm
    case stop2 =>
      rintro c q W' _ h
      exact h.elim
  case done =>
    rintro D ys W hD hys ⟨⟨hL, h2⟩, h3, h4⟩ hK
    gi_wp2
    refine ⟨by simp, .inl ⟨_, _, rfl, run_takeDeferred hK, ?_⟩⟩
    refine ⟨_, by simp [results, Tryd.f20, go_sem], rfl, ?_, ?_⟩
    · refine Lk.congr ((Lk.turn (top := W0.heap.size) (fun (_ : Unit) => mxR R (ys.map Subtype.val) PB) (by omega)).putObj (s := ()) _ hL hD hK rfl) (fun i j _ => ?_)
      unfold mxR
      rw [hys]
      simp only [mem_set HA.out]
    · have hb := h4.trans (butK_b (T := Ov g w.heap.size) hbt W D _ (.deferred none) hD hK rfl rfl)
      exact ⟨hb.os, hb.tape, hb.output, hb.size, fun k hk ht => hb.block k hk (fun e => e.elim ht (fun h => by omega))⟩
  case stop =>
    rintro D c' pre W hD hpre h hK
    exact h.elim
end Go.Proofs.YtnpgpcnkdocknaaDoor
