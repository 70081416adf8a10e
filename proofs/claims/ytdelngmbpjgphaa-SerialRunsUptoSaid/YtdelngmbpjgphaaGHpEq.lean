/- Texts merged: Sr6, SrLen, EqAcc, HpEq. -/
import Derived.Test.YtdelngmbpjgphaaSr5
import Derived.Test.YtdelngmbpjgphaaGBut
import Derived.Test.YtdelngmbpjgphaaAppZ
import Derived.Test.YtdelngmbpjgphaaSr1
import Derived.ChangeKeysEq
/- The walks of serial.Run and serial.Trace. -/
namespace Go.Proofs.Ytdelngmbpjgphaa
open Go.RowKit
set_option linter.unusedVariables false
theorem runE_len (l : List St) (f : Int) (h : List Int) {base : Nat} {w : World} {d : Nat} {X : Blocks} {z : Value} (r : HpAt base w d X [z, vI ((runE l f h).1.st : Int)] (runE l f h).1.h (runE l f h).1.tr) : (runE l f h).1.h.length = 8 := r.len
set_option maxHeartbeats 2000000 in
set_option maxRecDepth 100000 in
theorem Run_any (l : List St) (f : Int) (h : List Int) (w : World) (S : Blocks) (v : Value) (hS : Sub S (Upto w.heap.size)) (r : RdSts w S l v) (hwt : St.wts l ≤ 1048576) (hl8 : h.length = 8) (hin : ∀ x ∈ h, inI x) :
    Calls Try.prog 12 #[v, .agg (h.map vI).toArray, vI f] w fun e w' => e = .returned (.tuple #[.agg ((runE l f h).1.h.map vI).toArray, vI ((runE l f h).1.st : Int), vI (runE l f h).2]) ∧ Below w.heap.size w w' := by
  have C := fun (w : World) (hS : Sub S (Upto w.heap.size)) (r : RdSts w S l v) => run_any l f h w S v hS r hwt hl8 hin
  obtain ⟨a0, a1, a2, a3, a4, a5, a6, a7, rfl⟩ := list8 hl8
  have bA : Below w.heap.size w ((w.alloc (.cells #[vI a0, vI a1, vI a2, vI a3, vI a4, vI a5, vI a6, vI a7] 38)).alloc (.cells #[.int .i64 0, .int .i64 0, .int .i64 0, .int .i64 0, .int .i64 0, .int .i64 0, .int .i64 0, .int .i64 0] 38)) := ((Below.refl _ _).alloc (Nat.le_refl _) _).alloc (by simp) _
  have B0 := (Blk.made w [vI a0, vI a1, vI a2, vI a3, vI a4, vI a5, vI a6, vI a7] 38 (base := 0) (Nat.zero_le _)).below (w' := ((w.alloc (.cells #[vI a0, vI a1, vI a2, vI a3, vI a4, vI a5, vI a6, vI a7] 38)).alloc (.cells #[.int .i64 0, .int .i64 0, .int .i64 0, .int .i64 0, .int .i64 0, .int .i64 0, .int .i64 0, .int .i64 0] 38))) ((Below.refl _ _).alloc (Nat.le_refl _) _)
  have B1 := Blk.made (w.alloc (.cells #[vI a0, vI a1, vI a2, vI a3, vI a4, vI a5, vI a6, vI a7] 38)) [.int .i64 0, .int .i64 0, .int .i64 0, .int .i64 0, .int .i64 0, .int .i64 0, .int .i64 0, .int .i64 0] 38 (base := w.heap.size) (by simp)
  rw [World.size_alloc] at B1
  have BL := Lib.hid bA
  have H0 := Lib.hid B0
  have H1 := Lib.hid B1
  have R := Lib.hid (r.go RdSt.keeps bA hS (Sub.refl _))
  have HS := Lib.hid hS
  have CC := Lib.hid C
  clear r hS bA B0 B1 C hin hl8
  simp only [List.map] at CC ⊢
  go_enter Try.func12, Try.ntmps12
  go_upto_region 1 with (fail)
  generalize ((w.alloc (.cells #[vI a0, vI a1, vI a2, vI a3, vI a4, vI a5, vI a6, vI a7] 38)).alloc (.cells #[.int .i64 0, .int .i64 0, .int .i64 0, .int .i64 0, .int .i64 0, .int .i64 0, .int .i64 0, .int .i64 0] 38)) = W0 at *
  have c0 := H0.out.cell 0 _ rfl; have c1 := H0.out.cell 1 _ rfl; have c2 := H0.out.cell 2 _ rfl; have c3 := H0.out.cell 3 _ rfl; have c4 := H0.out.cell 4 _ rfl; have c5 := H0.out.cell 5 _ rfl; have c6 := H0.out.cell 6 _ rfl; have c7 := H0.out.cell 7 _ rfl
  go_wp2_with fail
  refine (CC.out W0 (HS.out.trans (Sub.upto BL.out.size)) R.out).mono ?_
  rintro e w1 ⟨d, X, z, rfl, hp, -, hb⟩
  have H11 := Lib.hid (H1.out.below hb)
  have BL1 := Lib.hid (BL.out.trans (hb.mono BL.out.size))
  have hdX := (hp.bd d hp.X0)
  have hne : d ≠ w.heap.size + 1 := by have := H1.out.lt; omega
  have HP := Lib.hid hp
  generalize hE : runE l f [a0, a1, a2, a3, a4, a5, a6, a7] = E at *
  obtain ⟨m, er⟩ := E
  obtain ⟨hh, sn, tr⟩ := m
  simp only at HP hp
  obtain ⟨b0, b1, b2, b3, b4, b5, b6, b7, rfl⟩ := list8 hp.len
  have st : w1.cell? ⟨d, 9, none⟩ = some (vI (sn : Int)) := HpAt.midAt hp (n := 1) rfl
  have g0 : w1.cell? ⟨d, 0, none⟩ = some (vI b0) := HpAt.cell hp (n := 0) (by decide); have g1 : w1.cell? ⟨d, 1, none⟩ = some (vI b1) := HpAt.cell hp (n := 1) (by decide); have g2 : w1.cell? ⟨d, 2, none⟩ = some (vI b2) := HpAt.cell hp (n := 2) (by decide); have g3 : w1.cell? ⟨d, 3, none⟩ = some (vI b3) := HpAt.cell hp (n := 3) (by decide); have g4 : w1.cell? ⟨d, 4, none⟩ = some (vI b4) := HpAt.cell hp (n := 4) (by decide); have g5 : w1.cell? ⟨d, 5, none⟩ = some (vI b5) := HpAt.cell hp (n := 5) (by decide); have g6 : w1.cell? ⟨d, 6, none⟩ = some (vI b6) := HpAt.cell hp (n := 6) (by decide); have g7 : w1.cell? ⟨d, 7, none⟩ = some (vI b7) := HpAt.cell hp (n := 7) (by decide)
  have k0 := H11.out.cell 0 _ rfl; have k1 := H11.out.cell 1 _ rfl; have k2 := H11.out.cell 2 _ rfl; have k3 := H11.out.cell 3 _ rfl; have k4 := H11.out.cell 4 _ rfl; have k5 := H11.out.cell 5 _ rfl; have k6 := H11.out.cell 6 _ rfl; have k7 := H11.out.cell 7 _ rfl
  have kf := H11.out.fr
  have HE := Lib.hid hE
  clear hp hE c0 c1 c2 c3 c4 c5 c6 c7
  go_upto_region 2 with (fail)
  go_region
  have BT := Lib.hid (show Blk w.heap.size ((((((((w1.setCell ⟨w.heap.size + 1, 0, none⟩ (vI b0)).setCell ⟨w.heap.size + 1, 1, none⟩ (vI b1)).setCell ⟨w.heap.size + 1, 2, none⟩ (vI b2)).setCell ⟨w.heap.size + 1, 3, none⟩ (vI b3)).setCell ⟨w.heap.size + 1, 4, none⟩ (vI b4)).setCell ⟨w.heap.size + 1, 5, none⟩ (vI b5)).setCell ⟨w.heap.size + 1, 6, none⟩ (vI b6)).setCell ⟨w.heap.size + 1, 7, none⟩ (vI b7)).drew (w.heap.size + 1) [vI b0, vI b1, vI b2, vI b3, vI b4, vI b5, vI b6, vI b7] from (((((((((H11.out.set (i := 0) (by simp) (vI b0)).set (i := 1) (by simp) (vI b1)).set (i := 2) (by simp) (vI b2)).set (i := 3) (by simp) (vI b3)).set (i := 4) (by simp) (vI b4)).set (i := 5) (by simp) (vI b5)).set (i := 6) (by simp) (vI b6)).set (i := 7) (by simp) (vI b7))).drew)
  have BB := Lib.hid (show Below w.heap.size w ((((((((w1.setCell ⟨w.heap.size + 1, 0, none⟩ (vI b0)).setCell ⟨w.heap.size + 1, 1, none⟩ (vI b1)).setCell ⟨w.heap.size + 1, 2, none⟩ (vI b2)).setCell ⟨w.heap.size + 1, 3, none⟩ (vI b3)).setCell ⟨w.heap.size + 1, 4, none⟩ (vI b4)).setCell ⟨w.heap.size + 1, 5, none⟩ (vI b5)).setCell ⟨w.heap.size + 1, 6, none⟩ (vI b6)).setCell ⟨w.heap.size + 1, 7, none⟩ (vI b7)).drew from (((((((((BL1.out.setCell (p := ⟨w.heap.size + 1, 0, none⟩) (Nat.le_succ _) (vI b0)).setCell (p := ⟨w.heap.size + 1, 1, none⟩) (Nat.le_succ _) (vI b1)).setCell (p := ⟨w.heap.size + 1, 2, none⟩) (Nat.le_succ _) (vI b2)).setCell (p := ⟨w.heap.size + 1, 3, none⟩) (Nat.le_succ _) (vI b3)).setCell (p := ⟨w.heap.size + 1, 4, none⟩) (Nat.le_succ _) (vI b4)).setCell (p := ⟨w.heap.size + 1, 5, none⟩) (Nat.le_succ _) (vI b5)).setCell (p := ⟨w.heap.size + 1, 6, none⟩) (Nat.le_succ _) (vI b6)).setCell (p := ⟨w.heap.size + 1, 7, none⟩) (Nat.le_succ _) (vI b7))).drew)
  generalize ((((((((w1.setCell ⟨w.heap.size + 1, 0, none⟩ (vI b0)).setCell ⟨w.heap.size + 1, 1, none⟩ (vI b1)).setCell ⟨w.heap.size + 1, 2, none⟩ (vI b2)).setCell ⟨w.heap.size + 1, 3, none⟩ (vI b3)).setCell ⟨w.heap.size + 1, 4, none⟩ (vI b4)).setCell ⟨w.heap.size + 1, 5, none⟩ (vI b5)).setCell ⟨w.heap.size + 1, 6, none⟩ (vI b6)).setCell ⟨w.heap.size + 1, 7, none⟩ (vI b7)).drew = WF at *
  clear k0 k1 k2 k3 k4 k5 k6 k7 g0 g1 g2 g3 g4 g5 g6 g7 kf st
  have r0 := BT.out.cell 0 _ rfl; have r1 := BT.out.cell 1 _ rfl; have r2 := BT.out.cell 2 _ rfl; have r3 := BT.out.cell 3 _ rfl; have r4 := BT.out.cell 4 _ rfl; have r5 := BT.out.cell 5 _ rfl; have r6 := BT.out.cell 6 _ rfl; have r7 := BT.out.cell 7 _ rfl
  go_wp2
  refine bodyPost_ret (v := .tuple #[.agg #[vI b0, vI b1, vI b2, vI b3, vI b4, vI b5, vI b6, vI b7], vI (sn : Int), vI er]) (by simp [results, Try.f12, go_sem, r0, r1, r2, r3, r4, r5, r6, r7]) rfl ⟨?_, BB.out⟩
  rw [HE.out]
  rfl
set_option maxHeartbeats 2000000 in
set_option maxRecDepth 100000 in
theorem Trace_any (l : List St) (f : Int) (h : List Int) (w : World) (S : Blocks) (v : Value) (hS : Sub S (Upto w.heap.size)) (r : RdSts w S l v) (hwt : St.wts l ≤ 1048576) (hl8 : h.length = 8) (hin : ∀ x ∈ h, inI x) :
    Calls Try.prog 13 #[v, .agg (h.map vI).toArray, vI f] w fun e w' => (∃ x, e = .returned (.tuple #[x, vI (runE l f h).2]) ∧ RdAccs w' (Plus Nowhere w.heap.size w'.heap.size) (runE l f h).1.tr x) ∧ Below w.heap.size w w' := by
  have C := fun (w : World) (hS : Sub S (Upto w.heap.size)) (r : RdSts w S l v) => run_any l f h w S v hS r hwt hl8 hin
  obtain ⟨a0, a1, a2, a3, a4, a5, a6, a7, rfl⟩ := list8 hl8
  have bA : Below w.heap.size w (w.alloc (.cells #[vI a0, vI a1, vI a2, vI a3, vI a4, vI a5, vI a6, vI a7] 38)) := (Below.refl _ _).alloc (Nat.le_refl _) _
  have BL := Lib.hid bA
  have H0 := Lib.hid (Blk.made w [vI a0, vI a1, vI a2, vI a3, vI a4, vI a5, vI a6, vI a7] 38 (base := 0) (Nat.zero_le _))
  have R := Lib.hid (r.go RdSt.keeps bA hS (Sub.refl _))
  have HS := Lib.hid hS
  have CC := Lib.hid C
  clear r hS bA C hin hl8
  simp only [List.map] at CC ⊢
  go_enter Try.func13, Try.ntmps13
  go_upto_region 1 with (fail)
  generalize (w.alloc (.cells #[vI a0, vI a1, vI a2, vI a3, vI a4, vI a5, vI a6, vI a7] 38)) = W0 at *
  have c0 := H0.out.cell 0 _ rfl; have c1 := H0.out.cell 1 _ rfl; have c2 := H0.out.cell 2 _ rfl; have c3 := H0.out.cell 3 _ rfl; have c4 := H0.out.cell 4 _ rfl; have c5 := H0.out.cell 5 _ rfl; have c6 := H0.out.cell 6 _ rfl; have c7 := H0.out.cell 7 _ rfl
  go_wp2_with fail
  refine (CC.out W0 (HS.out.trans (Sub.upto BL.out.size)) R.out).mono ?_
  rintro e w1 ⟨d, X, z, rfl, hp, hlen, hb⟩
  have BL1 := Lib.hid (BL.out.trans (hb.mono BL.out.size))
  have hw0 := BL.out.size
  obtain ⟨o, ho, ow, hX, -⟩ := hp.row
  have ho : w1.cell? ⟨d, 10, none⟩ = some o := ho
  obtain ⟨A, c, rfl⟩ := ow.form
  have HRD := Lib.hid (ow.toRd (bytes := 24) (S' := Plus Nowhere w.heap.size w1.heap.size) Flat.keeps (by omega) (Sub.nowhere _) (fun b h1 h2 => .inr ⟨by omega, h2⟩))
  clear ow hX hp
  go_wp2
  refine bodyPost_ret (v := .tuple #[.slice A (runE l f [a0, a1, a2, a3, a4, a5, a6, a7]).1.tr.length c, vI (runE l f [a0, a1, a2, a3, a4, a5, a6, a7]).2]) (by simp [results, Try.f13, go_sem]) rfl ⟨⟨_, rfl, HRD.out⟩, BL1.out⟩
end Go.Proofs.Ytdelngmbpjgphaa
/- A run of a program keeps the heap's length. -/
namespace Go.Proofs.Ytdelngmbpjgphaa
set_option linter.unusedVariables false
theorem forR_len {F : Nat} {b : Int} {body : Int → MS → Option MS} (hb : ∀ i m m', body i m = some m' → m'.h.length = m.h.length) : ∀ (n : Nat) (i : Int) (m m' : MS), forR F b body n i m = some m' → m'.h.length = m.h.length := by
  intro n
  induction n with
  | zero =>
    intro i m m' h
    rw [forR] at h
    split at h
    · cases h
    · injection h with h; subst h; rfl
  | succ n ih =>
    intro i m m' h
    rw [forR] at h
    split at h
    · split at h
      · cases hbo : body i m.step with
        | none => rw [hbo] at h; cases h
        | some m1 =>
          rw [hbo] at h
          have h1 := hb _ _ _ hbo
          have h2 := ih _ _ _ h
          simp only [MS.step] at h1
          omega
      · cases h
    · injection h with h; subst h; rfl
theorem blR_len' (F N : Nat) : ∀ (l : List St), SizeOf.sizeOf l ≤ N → ∀ env lab m m', blR F l env lab m = some m' → m'.h.length = m.h.length := by
  induction N with
  | zero =>
    intro l h
    cases l with
    | nil => intro env lab m m' e; rw [blR_nil] at e; injection e with e; subst e; rfl
    | cons s r => simp at h
  | succ N ih =>
    intro l h
    cases l with
    | nil => intro env lab m m' e; rw [blR_nil] at e; injection e with e; subst e; rfl
    | cons s r =>
      obtain ⟨k, nm, a, b, body, els⟩ := s
      simp at h
      intro env lab m m' e
      rw [blR_cons] at e
      have hb := ih body (by omega)
      have he := ih els (by omega)
      have hr := ih r (by omega)
      have key : ∀ x, stR F (.mk k nm a b body els) env lab m = some x → x.1.h.length = m.h.length := by
        intro x hx
        rw [stR] at hx
        have hmap : ∀ (o : Option MS) (y : MS × List Bd), (o.map fun m' => (m', env)) = some y → ∃ z, o = some z ∧ y.1 = z := by
          intro o y hy
          obtain ⟨z, hz, rfl⟩ := Option.map_eq_some_iff.1 hy
          exact ⟨z, hz, rfl⟩
        repeat' split at hx
        · injection hx with hx; subst hx; rfl
        · cases hx
        · injection hx with hx; subst hx; rfl
        · injection hx with hx; subst hx; rfl
        · injection hx with hx; subst hx; simp [MS.put, MS.see, MS.step]
        · obtain ⟨z, hz, hy⟩ := hmap _ _ hx
          have := hb _ _ _ _ hz
          rw [hy]; simpa only [MS.step] using this
        · obtain ⟨z, hz, hy⟩ := hmap _ _ hx
          have := he _ _ _ _ hz
          rw [hy]; simpa only [MS.step] using this
        · obtain ⟨z, hz, hy⟩ := hmap _ _ hx
          have := hb _ _ _ _ hz
          rw [hy]; simpa only [MS.step] using this
        · obtain ⟨z, hz, hy⟩ := hmap _ _ hx
          have := forR_len (fun i m m' h => hb _ _ _ _ h) _ _ _ _ hz
          rw [hy]; simpa only [MS.step] using this
      cases hs : stR F (.mk k nm a b body els) env lab m with
      | none => rw [hs] at e; cases e
      | some x =>
        rw [hs] at e
        have h1 := key x hs
        have h2 := hr _ _ _ _ e
        omega
theorem blR_len (F : Nat) (l : List St) (env : List Bd) (lab : Nat) (m m' : MS) (h : blR F l env lab m = some m') : m'.h.length = m.h.length := blR_len' F _ l (Nat.le_refl _) env lab m m' h
end Go.Proofs.Ytdelngmbpjgphaa
/- slices.Equal at accesses. -/
namespace Go.Proofs.Ytdelngmbpjgphaa
open Go.RowKit
set_option linter.unusedVariables false
theorem RdAccs.at1 {w : World} {S : Blocks} {l : List Acc} {A : Option Addr} {n cap : Nat} (h : RdAccs w S l (.slice A n cap)) {q : Nat} (hq : q < l.length) :
    ∃ b off, A = some ⟨b, off, none⟩ ∧ S b ∧ okAcc l[q] ∧ w.cell? ⟨b, off + q * 3, none⟩ = some (.int .i64 l[q].cell) ∧ w.cell? ⟨b, off + q * 3 + 1, none⟩ = some (.bool l[q].write) ∧ w.cell? ⟨b, off + q * 3 + 2, none⟩ = some (.int .i64 l[q].label) := by
  obtain ⟨b, off, hA, hb, hok, hc⟩ := RdL.flat h hq
  exact ⟨b, off, hA, hb, hok, hc 0 _ rfl, by rw [Nat.add_assoc]; exact hc 1 _ rfl, by rw [Nat.add_assoc]; exact hc 2 _ rfl⟩
set_option maxHeartbeats 400000 in
theorem equalAcc (l : List Acc) (w : World) (v u : Value) (r0 : Fr encAcc okAcc 3 24 w l v) (r1 : Fr encAcc okAcc 3 24 w l u) :
    Calls Try.prog 15 #[v, u] w fun e w' => e = .returned (.bool true) ∧ Below w.heap.size w w' := by
  obtain ⟨S, hS, r⟩ := r0
  obtain ⟨T, hT, r'⟩ := r1
  obtain ⟨A, cap, rfl, hl, hcm, hby⟩ := r.form
  obtain ⟨A', cap', rfl, hl', hcm', _⟩ := r'.form
  unfold maxLen at hcm hcm'
  go_enter Try.func15, Try.ntmps15
  go_wp2
  go_loopw [13] (fun t wr => ∃ q : Nat, q ≤ l.length ∧ t = .int .i64 q ∧ Below w.heap.size w wr) (fun t _ => l.length - (intOf t).toNat)
  case atStart => exact ⟨0, by omega, rfl, Below.refl _ _⟩
  case round =>
    obtain ⟨q, hq, rfl, hbel⟩ := hrel
    by_cases hlt : q < l.length
    · obtain ⟨b, off, rfl, hb, hok, hc, hd, he⟩ := RdAccs.at1 r hlt
      obtain ⟨b', off', rfl, hb', hok', hc', hd', he'⟩ := RdAccs.at1 r' hlt
      have e0 := (hbel.cell (p := ⟨b, off + q * 3, none⟩) (hS _ hb)).trans hc
      have e1 := (hbel.cell (p := ⟨b', off' + q * 3, none⟩) (hT _ hb')).trans hc'
      have f0 := (hbel.cell (p := ⟨b, off + q * 3 + 1, none⟩) (hS _ hb)).trans hd
      have f1 := (hbel.cell (p := ⟨b', off' + q * 3 + 1, none⟩) (hT _ hb')).trans hd'
      have g0 := (hbel.cell (p := ⟨b, off + q * 3 + 2, none⟩) (hS _ hb)).trans he
      have g1 := (hbel.cell (p := ⟨b', off' + q * 3 + 2, none⟩) (hT _ hb')).trans he'
      have hq1 : (q : Int) < (l.length : Int) := by omega
      have hq0 : (0 : Int) ≤ (q : Int) := by omega
      clear r r' hc hc' hd hd' he he'
      go_wp2
      all_goals (try go_quiet (fail))
      all_goals (try go_wp2)
      go_roundw
      case rel => exact ⟨q + 1, by omega, by go_num, below_drewN hbel _⟩
      case measure => simp [intOf]; omega
    · go_wp2
      go_ret
      exact ⟨rfl, hbel⟩
end Go.Proofs.Ytdelngmbpjgphaa
/- Two heaps that hold the same are the same. -/
namespace Go.Proofs.Ytdelngmbpjgphaa
open Go.RowKit
set_option linter.unusedVariables false
theorem heap_eq' (d : Nat) (b0 b1 b2 b3 b4 b5 b6 b7 : Int) (W : World) : (Op.equalIn (d + 1 + 1) 38 (.agg #[vI b0, vI b1, vI b2, vI b3, vI b4, vI b5, vI b6, vI b7]) (.agg #[vI b0, vI b1, vI b2, vI b3, vI b4, vI b5, vI b6, vI b7])).run Try.prog W = .ok true W := by
  obtain ⟨i, hi⟩ : ∃ i, Try.prog.info? 3 = some i := Option.isSome_iff_exists.1 (show (Try.prog.info? 3).isSome = true by kernel_rfl)
  have hc : Try.prog.cellsOf 3 = 1 := by kernel_rfl
  rw [run_equalIn_array W (d + 1) _ _ Try.underlying38 hi, hc, show List.range 8 = [0, 1, 2, 3, 4, 5, 6, 7] from rfl]
  simp [Op.eqItems, part, go_sem]
theorem heap_eq (b0 b1 b2 b3 b4 b5 b6 b7 : Int) (W : World) : (Op.equalIn 10000 38 (.agg #[vI b0, vI b1, vI b2, vI b3, vI b4, vI b5, vI b6, vI b7]) (.agg #[vI b0, vI b1, vI b2, vI b3, vI b4, vI b5, vI b6, vI b7])).run Try.prog W = .ok true W := heap_eq' 9998 b0 b1 b2 b3 b4 b5 b6 b7 W
end Go.Proofs.Ytdelngmbpjgphaa
