/- The walk of the reference's nterm. -/
import Derived.Test.YtdelngmbpjgphaaGAppStep
import Derived.Test.YtdelngmbpjgphaaUn1
import Derived.BigQuiet
import Derived.Deep.RegionHeld3
namespace Go.Proofs.Ytdelngmbpjgphaa
open Go.RowKit
set_option linter.unusedVariables false
def encNM (x : NM) : List Value := [.int .i64 x.kind, .int .i64 x.a.cell, .bool x.a.write, .int .i64 x.a.label]
def okNM (x : NM) : Prop := inI x.kind ∧ okAcc x.a
abbrev RdNs := RdL (Flat encNM okNM) 4 32
def PNt (ms : List Mk) : Prop := ∀ (rest : List NM) (w : World) (S X : Blocks) (v : Value), (∀ k, X k → k < w.heap.size) → endN rest → Sub S (Upto w.heap.size) → RdNs w S (flatL ms ++ rest) v →
  Calls Try.prog 29 #[v] w fun e w' => (∃ V A n c, e = .returned (.tuple #[V, .slice A n c]) ∧ FrT X w' (weave ms zeroT) V ∧ RdNs w' S rest (.slice A n c)) ∧ Below w.heap.size w w'
theorem nt_at {w : World} {S : Blocks} {x : NM} {l : List NM} {A : Option Addr} {n cap : Nat} (h : RdNs w S (x :: l) (.slice A n cap)) :
    n = l.length + 1 ∧ n ≤ cap ∧ cap ≤ maxLen ∧ okNM x ∧ ∃ b off, A = some ⟨b, off, none⟩ ∧ S b ∧ w.cell? ⟨b, off, none⟩ = some (.int .i64 x.kind) ∧ w.cell? ⟨b, off + 1, none⟩ = some (.int .i64 x.a.cell) ∧ w.cell? ⟨b, off + 2, none⟩ = some (.bool x.a.write) ∧ w.cell? ⟨b, off + 3, none⟩ = some (.int .i64 x.a.label) ∧
      (∀ cap', cap' = cap - 1 → RdNs w S l (.slice (some (if cap = 1 then ⟨b, off, none⟩ else ⟨b, off + 4, none⟩)) l.length cap')) := by
  obtain ⟨A', cap', e, h1, h2, h3⟩ := h.form
  injection e with e1 e2 e3
  subst e1 e3
  obtain ⟨b, off, hA, hb, hok, hc⟩ := RdL.flat (q := 0) h (by simp)
  refine ⟨by simpa using e2, by omega, h2, hok, b, off, hA, hb, by simpa using hc 0 _ rfl, by simpa using hc 1 _ rfl, by simpa using hc 2 _ rfl, by simpa using hc 3 _ rfl, ?_⟩
  intro cap'' hcap
  have hd := RdL.drop h (k := 1) (by simp)
  subst hA hcap
  by_cases h1c : cap = 1
  · rw [if_pos h1c]
    have hl : l = [] := by
      simp at h1
      exact List.eq_nil_of_length_eq_zero (by omega)
    subst hl
    exact RdL.nil (by omega)
  · rw [if_neg h1c]
    have hl1 : n - 1 = l.length := by rw [e2]; simp
    rw [hl1] at hd
    simpa [Addr.add] using hd
set_option maxHeartbeats 1000000 in
theorem nt_nil : PNt [] := by
  intro rest w S X v hX hend hS r
  rw [flatL_nil, List.nil_append] at r
  rw [weave_nil]
  have bel : Below w.heap.size w (w.alloc (.cells #[.int .i64 0, .int .i64 0, .bool false, .int .i64 0, .slice none 0 0] 26)) := (Below.refl _ _).alloc (Nat.le_refl _) _
  cases rest with
  | nil =>
    obtain ⟨A, cap, rfl, h1, h2, _⟩ := r.form
    have HC := Lib.hid (r.go Flat.keeps bel hS (Sub.refl _))
    have BE := Lib.hid bel
    clear r bel
    simp only [List.length_nil] at *
    go_enter Try.func29, Try.ntmps29
    go_wp2
    refine bodyPost_ret (v := .tuple #[tmV 0 0 false 0 (.slice none 0 0), .slice A 0 cap]) (by simp [results, Try.f29, go_sem]) rfl ⟨⟨_, _, _, _, rfl, FrT.leaf ⟨by decide, by decide⟩ ⟨by decide, by decide⟩ ⟨by decide, by decide⟩, HC.out⟩, BE.out⟩
  | cons x l =>
    obtain ⟨A, cap, rfl, h1, h2, _⟩ := r.form
    obtain ⟨e1, e2, e3, hok, b, off, rfl, hb, c0, c1, c2, c3, _⟩ := nt_at r
    have hb : b < w.heap.size := hS _ hb
    have hk : x.kind = 4 := hend
    rw [hk] at c0
    have HC := Lib.hid (r.go Flat.keeps bel hS (Sub.refl _))
    have BE := Lib.hid bel
    clear r bel hk hend hok
    unfold maxLen at h2
    rw [List.length_cons] at *
    have hn0 : (((l.length + 1 : Nat) : Int) == 0) = false := by simp; omega
    have hn1 : (0 : Int) < ((l.length + 1 : Nat) : Int) := by omega
    have hn2 : (0 : Int) < (l.length : Int) + 1 := by omega
    clear e1
    go_enter Try.func29, Try.ntmps29
    go_wp2
    refine bodyPost_ret (v := .tuple #[tmV 0 0 false 0 (.slice none 0 0), .slice (some ⟨b, off, none⟩) (l.length + 1) cap]) (by simp [results, Try.f29, go_sem]) rfl ⟨⟨_, _, _, _, rfl, FrT.leaf ⟨by decide, by decide⟩ ⟨by decide, by decide⟩ ⟨by decide, by decide⟩, HC.out⟩, BE.out⟩
set_option maxHeartbeats 2000000 in
theorem nt_acc (a : Acc) (r : List Mk) (ih : PNt r) : PNt (.acc a :: r) := by
  intro rest w S X v hX hend hS hr
  rw [flatL_cons, flat_acc, List.singleton_append, List.cons_append] at hr
  rw [weave_cons, weave_acc]
  obtain ⟨A, cap, rfl, h1, h2, _⟩ := hr.form
  obtain ⟨e1, e2, e3, ⟨_, hok1, hok2⟩, b, off, rfl, hb, c0, c1, c2, c3, HD⟩ := nt_at hr
  have hb : b < w.heap.size := hS _ hb
  simp only at c0 c1 c2 c3 hok1 hok2
  have bel1 : Below w.heap.size w ((w.alloc (.cells #[.int .i64 0, .int .i64 0, .bool false, .int .i64 0, .slice none 0 0] 26)).alloc (.cells #[.int .i64 0, .int .i64 0, .bool false, .int .i64 0, .slice none 0 0] 26)) := ((Below.refl _ _).alloc (Nat.le_refl _) _).alloc (by simp) _
  have HIH := Lib.hid ih
  have HDD := Lib.hid (HD (cap - 1) rfl)
  have HS := Lib.hid hS
  have HEN := Lib.hid hend
  have HX := Lib.hid hX
  have B1 := Lib.hid ((Blk.made w [.int .i64 0, .int .i64 0, .bool false, .int .i64 0, .slice none 0 0] 26 (base := 0) (Nat.zero_le _)).below (w' := ((w.alloc (.cells #[.int .i64 0, .int .i64 0, .bool false, .int .i64 0, .slice none 0 0] 26)).alloc (.cells #[.int .i64 0, .int .i64 0, .bool false, .int .i64 0, .slice none 0 0] 26))) ((Below.refl _ _).alloc (Nat.le_refl _) _))
  have B2 := Blk.made (w.alloc (.cells #[.int .i64 0, .int .i64 0, .bool false, .int .i64 0, .slice none 0 0] 26)) [.int .i64 0, .int .i64 0, .bool false, .int .i64 0, .slice none 0 0] 26 (base := 0) (Nat.zero_le _)
  rw [World.size_alloc] at B2
  have B2 := Lib.hid B2
  have BE := Lib.hid bel1
  have HOK := Lib.hid (And.intro hok1 hok2)
  clear HD hr bel1 e1 hok1 hok2 h1 ih hS hend hX
  unfold maxLen at h2
  rw [List.length_cons] at *
  have hn0 : ((((flatL r ++ rest).length + 1 : Nat) : Int) == 0) = false := by simp; omega
  have hn2 : (0 : Int) < ((flatL r ++ rest).length : Int) + 1 := by omega
  have hn4 : (1 : Int) ≤ ((flatL r ++ rest).length : Int) + 1 := by omega
  have hn5 : ((flatL r ++ rest).length : Int) + 1 ≤ (cap : Int) := by omega
  have hc0 : (cap : Int) ≤ 9223372036854775807 := by omega
  generalize hL : (flatL r ++ rest).length = L at *
  have HL := Lib.hid hL
  clear hL
  go_enter Try.func29, Try.ntmps29
  go_upto_region 4 with (fail)
  generalize ((w.alloc (.cells #[.int .i64 0, .int .i64 0, .bool false, .int .i64 0, .slice none 0 0] 26)).alloc (.cells #[.int .i64 0, .int .i64 0, .bool false, .int .i64 0, .slice none 0 0] 26)) = W0 at *
  obtain ⟨z, hz⟩ : ∃ z, z = w.heap.size := ⟨_, rfl⟩
  rw [← hz] at B1 B2
  rw [← hz]
  have hzz := Nat.le_of_eq hz
  have hzy := Nat.le_of_eq hz.symm
  clear hz
  by_cases hcp : cap = 1
  · have hL0 : L = 0 := by omega
    subst hcp
    subst hL0
    rw [if_pos rfl] at HDD
    go_quiet (fail)
    have BE1 := Lib.hid (BE.out.trans ((below_drewN (Below.refl _ _) nq).mono BE.out.size))
    have B11 := Lib.hid (B1.out.below (w' := W0.drewN nq) (below_drewN (Below.refl _ _) nq))
    have B21 := Lib.hid (B2.out.below (w' := W0.drewN nq) (below_drewN (Below.refl _ _) nq))
    generalize W0.drewN nq = W1 at *
    have d1 := (BE1.out.cell (p := ⟨b, off + 1, none⟩) hb).trans c1
    have d2 := (BE1.out.cell (p := ⟨b, off + 2, none⟩) hb).trans c2
    have d3 := (BE1.out.cell (p := ⟨b, off + 3, none⟩) hb).trans c3
    have d0 := (BE1.out.cell (p := ⟨b, off, none⟩) hb).trans c0
    have k0 := B21.out.cell 0 _ rfl; have k1 := B21.out.cell 1 _ rfl; have k2 := B21.out.cell 2 _ rfl; have k3 := B21.out.cell 3 _ rfl; have k4 := B21.out.cell 4 _ rfl
    have kf := B21.out.fr
    clear c0 c1 c2 c3 BE B1 B2
    go_upto_region 11 with (fail)
    have B22 := Lib.hid (show Blk 0 ((((((W1.setCell ⟨z + 1, 0, none⟩ (.int .i64 1)).setCell ⟨z + 1, 1, none⟩ (.int .i64 a.cell)).setCell ⟨z + 1, 2, none⟩ (.bool a.write)).setCell ⟨z + 1, 3, none⟩ (.int .i64 a.label)).setCell ⟨z + 1, 4, none⟩ (.slice none 0 0))) (z + 1) [.int .i64 1, .int .i64 a.cell, .bool a.write, .int .i64 a.label, .slice none 0 0] from (((((B21.out.set (i := 0) (by simp) (.int .i64 1)).set (i := 1) (by simp) (.int .i64 a.cell)).set (i := 2) (by simp) (.bool a.write)).set (i := 3) (by simp) (.int .i64 a.label)).set (i := 4) (by simp) (.slice none 0 0)))
    have B12 := Lib.hid (show Blk 0 ((((((W1.setCell ⟨z + 1, 0, none⟩ (.int .i64 1)).setCell ⟨z + 1, 1, none⟩ (.int .i64 a.cell)).setCell ⟨z + 1, 2, none⟩ (.bool a.write)).setCell ⟨z + 1, 3, none⟩ (.int .i64 a.label)).setCell ⟨z + 1, 4, none⟩ (.slice none 0 0))) z [.int .i64 0, .int .i64 0, .bool false, .int .i64 0, .slice none 0 0] from B11.out.but (T := Is (z + 1)) ((((((But.refl (Is (z + 1)) W1).setCell (p := ⟨z + 1, 0, none⟩) rfl (.int .i64 1)).setCell (p := ⟨z + 1, 1, none⟩) rfl (.int .i64 a.cell)).setCell (p := ⟨z + 1, 2, none⟩) rfl (.bool a.write)).setCell (p := ⟨z + 1, 3, none⟩) rfl (.int .i64 a.label)).setCell (p := ⟨z + 1, 4, none⟩) rfl (.slice none 0 0)) (fun e => by have e : z = z + 1 := e; omega))
    have BE2 := Lib.hid (show Below w.heap.size w ((((((W1.setCell ⟨z + 1, 0, none⟩ (.int .i64 1)).setCell ⟨z + 1, 1, none⟩ (.int .i64 a.cell)).setCell ⟨z + 1, 2, none⟩ (.bool a.write)).setCell ⟨z + 1, 3, none⟩ (.int .i64 a.label)).setCell ⟨z + 1, 4, none⟩ (.slice none 0 0))) from (((((BE1.out.setCell (p := ⟨z + 1, 0, none⟩) (by simp; omega) (.int .i64 1)).setCell (p := ⟨z + 1, 1, none⟩) (by simp; omega) (.int .i64 a.cell)).setCell (p := ⟨z + 1, 2, none⟩) (by simp; omega) (.bool a.write)).setCell (p := ⟨z + 1, 3, none⟩) (by simp; omega) (.int .i64 a.label)).setCell (p := ⟨z + 1, 4, none⟩) (by simp; omega) (.slice none 0 0)))
    generalize ((((((W1.setCell ⟨z + 1, 0, none⟩ (.int .i64 1)).setCell ⟨z + 1, 1, none⟩ (.int .i64 a.cell)).setCell ⟨z + 1, 2, none⟩ (.bool a.write)).setCell ⟨z + 1, 3, none⟩ (.int .i64 a.label)).setCell ⟨z + 1, 4, none⟩ (.slice none 0 0))) = W2 at *
    clear k0 k1 k2 k3 k4 kf d0 d1 d2 d3 BE1 B11 B21
    have HRS := Lib.hid (show RdNs W2 S (flatL r ++ rest) (.slice (some ⟨b, off, none⟩) 0 0) from HDD.out.go Flat.keeps BE2.out HS.out (Sub.refl _))
    have HT := Lib.hid (FrT.leaf (X := fun k => X k ∨ k = z) (w := W2) (k := 1) (wr := a.write) ⟨by decide, by decide⟩ HOK.out.1 HOK.out.2)
    go_wp2_with fail
    refine (HIH.out rest W2 S (fun k => X k ∨ k = z) _ (fun k hk => by have := BE2.out.size; have := B12.out.lt; rcases hk with hk | hk; have := HX.out k hk; omega; omega) HEN.out (HS.out.trans (Sub.upto BE2.out.size)) HRS.out).mono ?_
    rintro e w3 ⟨⟨V, A2, n2, c2', rfl, hV, hR⟩, hb3⟩
    obtain ⟨k', c', wr', lb', A', n', cap', rfl⟩ := hV.form
    have HV := Lib.hid hV
    have HR := Lib.hid hR
    have BE3 := Lib.hid (BE2.out.trans (hb3.mono BE2.out.size))
    have B13 := Lib.hid (B12.out.below hb3)
    have B23 := Lib.hid (B22.out.below hb3)
    have HT3 := Lib.hid (HT.out.below hb3)
    have hz3 : z + 1 < w3.heap.size := B23.out.lt
    have hz4 : z < w3.heap.size := B13.out.lt
    have hz5 : z < w3.heap.size + 1 := by omega
    clear hV hR hb3 HT B12 B22 BE2
    unfold tmV
    have k0 := B13.out.cell 0 _ rfl; have k1 := B13.out.cell 1 _ rfl; have k2 := B13.out.cell 2 _ rfl; have k3 := B13.out.cell 3 _ rfl; have k4 := B13.out.cell 4 _ rfl
    have j0 := B23.out.cell 0 _ rfl; have j1 := B23.out.cell 1 _ rfl; have j2 := B23.out.cell 2 _ rfl; have j3 := B23.out.cell 3 _ rfl; have j4 := B23.out.cell 4 _ rfl
    have kf := B13.out.fr
    go_wp2
    have zs : (((((((w3.setCell ⟨z, 0, none⟩ (.int .i64 2)).setCell ⟨z, 1, none⟩ (.int .i64 0)).setCell ⟨z, 2, none⟩ (.bool false)).setCell ⟨z, 3, none⟩ (.int .i64 0)).setCell ⟨z, 4, none⟩ (.slice (some ⟨w3.heap.size + 1, 0, none⟩) 2 2)).alloc (.cells #[.int .i64 k', .int .i64 c', .bool wr', .int .i64 lb', .slice A' n' cap'] 26))).heap.size = w3.heap.size + 1 := by simp
    have hbu : But (Is z) w3 ((((((w3.setCell ⟨z, 0, none⟩ (.int .i64 2)).setCell ⟨z, 1, none⟩ (.int .i64 0)).setCell ⟨z, 2, none⟩ (.bool false)).setCell ⟨z, 3, none⟩ (.int .i64 0)).setCell ⟨z, 4, none⟩ (.slice (some ⟨w3.heap.size + 1, 0, none⟩) 2 2))) := ((((((But.refl (Is z) w3).setCell (p := ⟨z, 0, none⟩) rfl (.int .i64 2)).setCell (p := ⟨z, 1, none⟩) rfl (.int .i64 0)).setCell (p := ⟨z, 2, none⟩) rfl (.bool false)).setCell (p := ⟨z, 3, none⟩) rfl (.int .i64 0)).setCell (p := ⟨z, 4, none⟩) rfl (.slice (some ⟨w3.heap.size + 1, 0, none⟩) 2 2))
    have hbf : But (Is z) w3 ((((((((w3.setCell ⟨z, 0, none⟩ (.int .i64 2)).setCell ⟨z, 1, none⟩ (.int .i64 0)).setCell ⟨z, 2, none⟩ (.bool false)).setCell ⟨z, 3, none⟩ (.int .i64 0)).setCell ⟨z, 4, none⟩ (.slice (some ⟨w3.heap.size + 1, 0, none⟩) 2 2)).alloc (.cells #[.int .i64 k', .int .i64 c', .bool wr', .int .i64 lb', .slice A' n' cap'] 26)).alloc (.cells #[.int .i64 1, .int .i64 a.cell, .bool a.write, .int .i64 a.label, .slice none 0 0, .int .i64 k', .int .i64 c', .bool wr', .int .i64 lb', .slice A' n' cap'] 26))) := (hbu.alloc _).alloc _
    have D3 := Lib.hid (((((((((B13.out.set (i := 0) (by simp) (.int .i64 2)).set (i := 1) (by simp) (.int .i64 0)).set (i := 2) (by simp) (.bool false)).set (i := 3) (by simp) (.int .i64 0)).set (i := 4) (by simp) (.slice (some ⟨w3.heap.size + 1, 0, none⟩) 2 2))).below (w' := ((((((w3.setCell ⟨z, 0, none⟩ (.int .i64 2)).setCell ⟨z, 1, none⟩ (.int .i64 0)).setCell ⟨z, 2, none⟩ (.bool false)).setCell ⟨z, 3, none⟩ (.int .i64 0)).setCell ⟨z, 4, none⟩ (.slice (some ⟨w3.heap.size + 1, 0, none⟩) 2 2)).alloc (.cells #[.int .i64 k', .int .i64 c', .bool wr', .int .i64 lb', .slice A' n' cap'] 26))) ((Below.refl _ _).alloc (Nat.le_refl _) _)).below (w' := (((((((w3.setCell ⟨z, 0, none⟩ (.int .i64 2)).setCell ⟨z, 1, none⟩ (.int .i64 0)).setCell ⟨z, 2, none⟩ (.bool false)).setCell ⟨z, 3, none⟩ (.int .i64 0)).setCell ⟨z, 4, none⟩ (.slice (some ⟨w3.heap.size + 1, 0, none⟩) 2 2)).alloc (.cells #[.int .i64 k', .int .i64 c', .bool wr', .int .i64 lb', .slice A' n' cap'] 26)).alloc (.cells #[.int .i64 1, .int .i64 a.cell, .bool a.write, .int .i64 a.label, .slice none 0 0, .int .i64 k', .int .i64 c', .bool wr', .int .i64 lb', .slice A' n' cap'] 26))) ((Below.refl _ _).alloc (Nat.le_refl _) _)))
    have D4 := Blk.made (((((((w3.setCell ⟨z, 0, none⟩ (.int .i64 2)).setCell ⟨z, 1, none⟩ (.int .i64 0)).setCell ⟨z, 2, none⟩ (.bool false)).setCell ⟨z, 3, none⟩ (.int .i64 0)).setCell ⟨z, 4, none⟩ (.slice (some ⟨w3.heap.size + 1, 0, none⟩) 2 2)).alloc (.cells #[.int .i64 k', .int .i64 c', .bool wr', .int .i64 lb', .slice A' n' cap'] 26))) [.int .i64 1, .int .i64 a.cell, .bool a.write, .int .i64 a.label, .slice none 0 0, .int .i64 k', .int .i64 c', .bool wr', .int .i64 lb', .slice A' n' cap'] 26 (base := 0) (Nat.zero_le _)
    rw [zs] at D4
    have HV4 := HV.out.but (w' := (((((((w3.setCell ⟨z, 0, none⟩ (.int .i64 2)).setCell ⟨z, 1, none⟩ (.int .i64 0)).setCell ⟨z, 2, none⟩ (.bool false)).setCell ⟨z, 3, none⟩ (.int .i64 0)).setCell ⟨z, 4, none⟩ (.slice (some ⟨w3.heap.size + 1, 0, none⟩) 2 2)).alloc (.cells #[.int .i64 k', .int .i64 c', .bool wr', .int .i64 lb', .slice A' n' cap'] 26)).alloc (.cells #[.int .i64 1, .int .i64 a.cell, .bool a.write, .int .i64 a.label, .slice none 0 0, .int .i64 k', .int .i64 c', .bool wr', .int .i64 lb', .slice A' n' cap'] 26))) (hbf.sub (fun k hk => .inr hk))
    have HT4 := HT3.out.but (w' := (((((((w3.setCell ⟨z, 0, none⟩ (.int .i64 2)).setCell ⟨z, 1, none⟩ (.int .i64 0)).setCell ⟨z, 2, none⟩ (.bool false)).setCell ⟨z, 3, none⟩ (.int .i64 0)).setCell ⟨z, 4, none⟩ (.slice (some ⟨w3.heap.size + 1, 0, none⟩) 2 2)).alloc (.cells #[.int .i64 k', .int .i64 c', .bool wr', .int .i64 lb', .slice A' n' cap'] 26)).alloc (.cells #[.int .i64 1, .int .i64 a.cell, .bool a.write, .int .i64 a.label, .slice none 0 0, .int .i64 k', .int .i64 c', .bool wr', .int .i64 lb', .slice A' n' cap'] 26))) (hbf.sub (fun k hk => .inr hk))
    have HR4 := HR.out.keep (w' := (((((((w3.setCell ⟨z, 0, none⟩ (.int .i64 2)).setCell ⟨z, 1, none⟩ (.int .i64 0)).setCell ⟨z, 2, none⟩ (.bool false)).setCell ⟨z, 3, none⟩ (.int .i64 0)).setCell ⟨z, 4, none⟩ (.slice (some ⟨w3.heap.size + 1, 0, none⟩) 2 2)).alloc (.cells #[.int .i64 k', .int .i64 c', .bool wr', .int .i64 lb', .slice A' n' cap'] 26)).alloc (.cells #[.int .i64 1, .int .i64 a.cell, .bool a.write, .int .i64 a.label, .slice none 0 0, .int .i64 k', .int .i64 c', .bool wr', .int .i64 lb', .slice A' n' cap'] 26))) Flat.keeps (Sub.refl S) (hbf.same (HS.out.trans (Sub.upto BE3.out.size)) (fun k hk e => by have e : k = z := e; have := HS.out k hk; simp only [Upto] at this; omega))
    have BE4 := BE3.out.trans (hbf.below BE3.out.size (fun k e => by have e : k = z := e; omega))
    have hng : ¬ (X (w3.heap.size + 1) ∨ w3.heap.size + 1 = z) := fun e => by
      rcases e with e | e
      · have := HX.out _ e; have := BE3.out.size; omega
      · omega
    clear zs hbu hbf
    generalize ((((((((w3.setCell ⟨z, 0, none⟩ (.int .i64 2)).setCell ⟨z, 1, none⟩ (.int .i64 0)).setCell ⟨z, 2, none⟩ (.bool false)).setCell ⟨z, 3, none⟩ (.int .i64 0)).setCell ⟨z, 4, none⟩ (.slice (some ⟨w3.heap.size + 1, 0, none⟩) 2 2)).alloc (.cells #[.int .i64 k', .int .i64 c', .bool wr', .int .i64 lb', .slice A' n' cap'] 26)).alloc (.cells #[.int .i64 1, .int .i64 a.cell, .bool a.write, .int .i64 a.label, .slice none 0 0, .int .i64 k', .int .i64 c', .bool wr', .int .i64 lb', .slice A' n' cap'] 26))) = WF at *
    clear k0 k1 k2 k3 k4 kf
    have r0 := D3.out.cell 0 _ rfl; have r1 := D3.out.cell 1 _ rfl; have r2 := D3.out.cell 2 _ rfl; have r3 := D3.out.cell 3 _ rfl; have r4 := D3.out.cell 4 _ rfl
    refine bodyPost_ret (v := .tuple #[tmV 2 0 false 0 (.slice (some ⟨w3.heap.size + 1, 0, none⟩) 2 2), .slice A2 n2 c2']) (by simp [results, Try.f29, go_sem, r0, r1, r2, r3, r4]) rfl ⟨⟨_, _, _, _, rfl, (FrT.two ⟨by decide, by decide⟩ HT4 HV4 hng D4.lt rfl rfl D4.cell).fewer (fun k hk => .inl hk), HR4⟩, BE4⟩
  · have hcp1 : (1 : Int) < (cap : Int) := by omega
    rw [if_neg hcp] at HDD
    go_quiet (fail)
    have BE1 := Lib.hid (BE.out.trans ((below_drewN (Below.refl _ _) nq).mono BE.out.size))
    have B11 := Lib.hid (B1.out.below (w' := W0.drewN nq) (below_drewN (Below.refl _ _) nq))
    have B21 := Lib.hid (B2.out.below (w' := W0.drewN nq) (below_drewN (Below.refl _ _) nq))
    generalize W0.drewN nq = W1 at *
    have d1 := (BE1.out.cell (p := ⟨b, off + 1, none⟩) hb).trans c1
    have d2 := (BE1.out.cell (p := ⟨b, off + 2, none⟩) hb).trans c2
    have d3 := (BE1.out.cell (p := ⟨b, off + 3, none⟩) hb).trans c3
    have d0 := (BE1.out.cell (p := ⟨b, off, none⟩) hb).trans c0
    have k0 := B21.out.cell 0 _ rfl; have k1 := B21.out.cell 1 _ rfl; have k2 := B21.out.cell 2 _ rfl; have k3 := B21.out.cell 3 _ rfl; have k4 := B21.out.cell 4 _ rfl
    have kf := B21.out.fr
    clear c0 c1 c2 c3 BE B1 B2
    go_upto_region 11 with (fail)
    have B22 := Lib.hid (show Blk 0 ((((((W1.setCell ⟨z + 1, 0, none⟩ (.int .i64 1)).setCell ⟨z + 1, 1, none⟩ (.int .i64 a.cell)).setCell ⟨z + 1, 2, none⟩ (.bool a.write)).setCell ⟨z + 1, 3, none⟩ (.int .i64 a.label)).setCell ⟨z + 1, 4, none⟩ (.slice none 0 0))) (z + 1) [.int .i64 1, .int .i64 a.cell, .bool a.write, .int .i64 a.label, .slice none 0 0] from (((((B21.out.set (i := 0) (by simp) (.int .i64 1)).set (i := 1) (by simp) (.int .i64 a.cell)).set (i := 2) (by simp) (.bool a.write)).set (i := 3) (by simp) (.int .i64 a.label)).set (i := 4) (by simp) (.slice none 0 0)))
    have B12 := Lib.hid (show Blk 0 ((((((W1.setCell ⟨z + 1, 0, none⟩ (.int .i64 1)).setCell ⟨z + 1, 1, none⟩ (.int .i64 a.cell)).setCell ⟨z + 1, 2, none⟩ (.bool a.write)).setCell ⟨z + 1, 3, none⟩ (.int .i64 a.label)).setCell ⟨z + 1, 4, none⟩ (.slice none 0 0))) z [.int .i64 0, .int .i64 0, .bool false, .int .i64 0, .slice none 0 0] from B11.out.but (T := Is (z + 1)) ((((((But.refl (Is (z + 1)) W1).setCell (p := ⟨z + 1, 0, none⟩) rfl (.int .i64 1)).setCell (p := ⟨z + 1, 1, none⟩) rfl (.int .i64 a.cell)).setCell (p := ⟨z + 1, 2, none⟩) rfl (.bool a.write)).setCell (p := ⟨z + 1, 3, none⟩) rfl (.int .i64 a.label)).setCell (p := ⟨z + 1, 4, none⟩) rfl (.slice none 0 0)) (fun e => by have e : z = z + 1 := e; omega))
    have BE2 := Lib.hid (show Below w.heap.size w ((((((W1.setCell ⟨z + 1, 0, none⟩ (.int .i64 1)).setCell ⟨z + 1, 1, none⟩ (.int .i64 a.cell)).setCell ⟨z + 1, 2, none⟩ (.bool a.write)).setCell ⟨z + 1, 3, none⟩ (.int .i64 a.label)).setCell ⟨z + 1, 4, none⟩ (.slice none 0 0))) from (((((BE1.out.setCell (p := ⟨z + 1, 0, none⟩) (by simp; omega) (.int .i64 1)).setCell (p := ⟨z + 1, 1, none⟩) (by simp; omega) (.int .i64 a.cell)).setCell (p := ⟨z + 1, 2, none⟩) (by simp; omega) (.bool a.write)).setCell (p := ⟨z + 1, 3, none⟩) (by simp; omega) (.int .i64 a.label)).setCell (p := ⟨z + 1, 4, none⟩) (by simp; omega) (.slice none 0 0)))
    generalize ((((((W1.setCell ⟨z + 1, 0, none⟩ (.int .i64 1)).setCell ⟨z + 1, 1, none⟩ (.int .i64 a.cell)).setCell ⟨z + 1, 2, none⟩ (.bool a.write)).setCell ⟨z + 1, 3, none⟩ (.int .i64 a.label)).setCell ⟨z + 1, 4, none⟩ (.slice none 0 0))) = W2 at *
    clear k0 k1 k2 k3 k4 kf d0 d1 d2 d3 BE1 B11 B21
    have HRS := Lib.hid (show RdNs W2 S (flatL r ++ rest) (.slice (some ⟨b, off + 4, none⟩) L (cap - 1)) from HDD.out.go Flat.keeps BE2.out HS.out (Sub.refl _))
    have HT := Lib.hid (FrT.leaf (X := fun k => X k ∨ k = z) (w := W2) (k := 1) (wr := a.write) ⟨by decide, by decide⟩ HOK.out.1 HOK.out.2)
    go_wp2_with fail
    refine (HIH.out rest W2 S (fun k => X k ∨ k = z) _ (fun k hk => by have := BE2.out.size; have := B12.out.lt; rcases hk with hk | hk; have := HX.out k hk; omega; omega) HEN.out (HS.out.trans (Sub.upto BE2.out.size)) HRS.out).mono ?_
    rintro e w3 ⟨⟨V, A2, n2, c2', rfl, hV, hR⟩, hb3⟩
    obtain ⟨k', c', wr', lb', A', n', cap', rfl⟩ := hV.form
    have HV := Lib.hid hV
    have HR := Lib.hid hR
    have BE3 := Lib.hid (BE2.out.trans (hb3.mono BE2.out.size))
    have B13 := Lib.hid (B12.out.below hb3)
    have B23 := Lib.hid (B22.out.below hb3)
    have HT3 := Lib.hid (HT.out.below hb3)
    have hz3 : z + 1 < w3.heap.size := B23.out.lt
    have hz4 : z < w3.heap.size := B13.out.lt
    have hz5 : z < w3.heap.size + 1 := by omega
    clear hV hR hb3 HT B12 B22 BE2
    unfold tmV
    have k0 := B13.out.cell 0 _ rfl; have k1 := B13.out.cell 1 _ rfl; have k2 := B13.out.cell 2 _ rfl; have k3 := B13.out.cell 3 _ rfl; have k4 := B13.out.cell 4 _ rfl
    have j0 := B23.out.cell 0 _ rfl; have j1 := B23.out.cell 1 _ rfl; have j2 := B23.out.cell 2 _ rfl; have j3 := B23.out.cell 3 _ rfl; have j4 := B23.out.cell 4 _ rfl
    have kf := B13.out.fr
    go_wp2
    have zs : (((((((w3.setCell ⟨z, 0, none⟩ (.int .i64 2)).setCell ⟨z, 1, none⟩ (.int .i64 0)).setCell ⟨z, 2, none⟩ (.bool false)).setCell ⟨z, 3, none⟩ (.int .i64 0)).setCell ⟨z, 4, none⟩ (.slice (some ⟨w3.heap.size + 1, 0, none⟩) 2 2)).alloc (.cells #[.int .i64 k', .int .i64 c', .bool wr', .int .i64 lb', .slice A' n' cap'] 26))).heap.size = w3.heap.size + 1 := by simp
    have hbu : But (Is z) w3 ((((((w3.setCell ⟨z, 0, none⟩ (.int .i64 2)).setCell ⟨z, 1, none⟩ (.int .i64 0)).setCell ⟨z, 2, none⟩ (.bool false)).setCell ⟨z, 3, none⟩ (.int .i64 0)).setCell ⟨z, 4, none⟩ (.slice (some ⟨w3.heap.size + 1, 0, none⟩) 2 2))) := ((((((But.refl (Is z) w3).setCell (p := ⟨z, 0, none⟩) rfl (.int .i64 2)).setCell (p := ⟨z, 1, none⟩) rfl (.int .i64 0)).setCell (p := ⟨z, 2, none⟩) rfl (.bool false)).setCell (p := ⟨z, 3, none⟩) rfl (.int .i64 0)).setCell (p := ⟨z, 4, none⟩) rfl (.slice (some ⟨w3.heap.size + 1, 0, none⟩) 2 2))
    have hbf : But (Is z) w3 ((((((((w3.setCell ⟨z, 0, none⟩ (.int .i64 2)).setCell ⟨z, 1, none⟩ (.int .i64 0)).setCell ⟨z, 2, none⟩ (.bool false)).setCell ⟨z, 3, none⟩ (.int .i64 0)).setCell ⟨z, 4, none⟩ (.slice (some ⟨w3.heap.size + 1, 0, none⟩) 2 2)).alloc (.cells #[.int .i64 k', .int .i64 c', .bool wr', .int .i64 lb', .slice A' n' cap'] 26)).alloc (.cells #[.int .i64 1, .int .i64 a.cell, .bool a.write, .int .i64 a.label, .slice none 0 0, .int .i64 k', .int .i64 c', .bool wr', .int .i64 lb', .slice A' n' cap'] 26))) := (hbu.alloc _).alloc _
    have D3 := Lib.hid (((((((((B13.out.set (i := 0) (by simp) (.int .i64 2)).set (i := 1) (by simp) (.int .i64 0)).set (i := 2) (by simp) (.bool false)).set (i := 3) (by simp) (.int .i64 0)).set (i := 4) (by simp) (.slice (some ⟨w3.heap.size + 1, 0, none⟩) 2 2))).below (w' := ((((((w3.setCell ⟨z, 0, none⟩ (.int .i64 2)).setCell ⟨z, 1, none⟩ (.int .i64 0)).setCell ⟨z, 2, none⟩ (.bool false)).setCell ⟨z, 3, none⟩ (.int .i64 0)).setCell ⟨z, 4, none⟩ (.slice (some ⟨w3.heap.size + 1, 0, none⟩) 2 2)).alloc (.cells #[.int .i64 k', .int .i64 c', .bool wr', .int .i64 lb', .slice A' n' cap'] 26))) ((Below.refl _ _).alloc (Nat.le_refl _) _)).below (w' := (((((((w3.setCell ⟨z, 0, none⟩ (.int .i64 2)).setCell ⟨z, 1, none⟩ (.int .i64 0)).setCell ⟨z, 2, none⟩ (.bool false)).setCell ⟨z, 3, none⟩ (.int .i64 0)).setCell ⟨z, 4, none⟩ (.slice (some ⟨w3.heap.size + 1, 0, none⟩) 2 2)).alloc (.cells #[.int .i64 k', .int .i64 c', .bool wr', .int .i64 lb', .slice A' n' cap'] 26)).alloc (.cells #[.int .i64 1, .int .i64 a.cell, .bool a.write, .int .i64 a.label, .slice none 0 0, .int .i64 k', .int .i64 c', .bool wr', .int .i64 lb', .slice A' n' cap'] 26))) ((Below.refl _ _).alloc (Nat.le_refl _) _)))
    have D4 := Blk.made (((((((w3.setCell ⟨z, 0, none⟩ (.int .i64 2)).setCell ⟨z, 1, none⟩ (.int .i64 0)).setCell ⟨z, 2, none⟩ (.bool false)).setCell ⟨z, 3, none⟩ (.int .i64 0)).setCell ⟨z, 4, none⟩ (.slice (some ⟨w3.heap.size + 1, 0, none⟩) 2 2)).alloc (.cells #[.int .i64 k', .int .i64 c', .bool wr', .int .i64 lb', .slice A' n' cap'] 26))) [.int .i64 1, .int .i64 a.cell, .bool a.write, .int .i64 a.label, .slice none 0 0, .int .i64 k', .int .i64 c', .bool wr', .int .i64 lb', .slice A' n' cap'] 26 (base := 0) (Nat.zero_le _)
    rw [zs] at D4
    have HV4 := HV.out.but (w' := (((((((w3.setCell ⟨z, 0, none⟩ (.int .i64 2)).setCell ⟨z, 1, none⟩ (.int .i64 0)).setCell ⟨z, 2, none⟩ (.bool false)).setCell ⟨z, 3, none⟩ (.int .i64 0)).setCell ⟨z, 4, none⟩ (.slice (some ⟨w3.heap.size + 1, 0, none⟩) 2 2)).alloc (.cells #[.int .i64 k', .int .i64 c', .bool wr', .int .i64 lb', .slice A' n' cap'] 26)).alloc (.cells #[.int .i64 1, .int .i64 a.cell, .bool a.write, .int .i64 a.label, .slice none 0 0, .int .i64 k', .int .i64 c', .bool wr', .int .i64 lb', .slice A' n' cap'] 26))) (hbf.sub (fun k hk => .inr hk))
    have HT4 := HT3.out.but (w' := (((((((w3.setCell ⟨z, 0, none⟩ (.int .i64 2)).setCell ⟨z, 1, none⟩ (.int .i64 0)).setCell ⟨z, 2, none⟩ (.bool false)).setCell ⟨z, 3, none⟩ (.int .i64 0)).setCell ⟨z, 4, none⟩ (.slice (some ⟨w3.heap.size + 1, 0, none⟩) 2 2)).alloc (.cells #[.int .i64 k', .int .i64 c', .bool wr', .int .i64 lb', .slice A' n' cap'] 26)).alloc (.cells #[.int .i64 1, .int .i64 a.cell, .bool a.write, .int .i64 a.label, .slice none 0 0, .int .i64 k', .int .i64 c', .bool wr', .int .i64 lb', .slice A' n' cap'] 26))) (hbf.sub (fun k hk => .inr hk))
    have HR4 := HR.out.keep (w' := (((((((w3.setCell ⟨z, 0, none⟩ (.int .i64 2)).setCell ⟨z, 1, none⟩ (.int .i64 0)).setCell ⟨z, 2, none⟩ (.bool false)).setCell ⟨z, 3, none⟩ (.int .i64 0)).setCell ⟨z, 4, none⟩ (.slice (some ⟨w3.heap.size + 1, 0, none⟩) 2 2)).alloc (.cells #[.int .i64 k', .int .i64 c', .bool wr', .int .i64 lb', .slice A' n' cap'] 26)).alloc (.cells #[.int .i64 1, .int .i64 a.cell, .bool a.write, .int .i64 a.label, .slice none 0 0, .int .i64 k', .int .i64 c', .bool wr', .int .i64 lb', .slice A' n' cap'] 26))) Flat.keeps (Sub.refl S) (hbf.same (HS.out.trans (Sub.upto BE3.out.size)) (fun k hk e => by have e : k = z := e; have := HS.out k hk; simp only [Upto] at this; omega))
    have BE4 := BE3.out.trans (hbf.below BE3.out.size (fun k e => by have e : k = z := e; omega))
    have hng : ¬ (X (w3.heap.size + 1) ∨ w3.heap.size + 1 = z) := fun e => by
      rcases e with e | e
      · have := HX.out _ e; have := BE3.out.size; omega
      · omega
    clear zs hbu hbf
    generalize ((((((((w3.setCell ⟨z, 0, none⟩ (.int .i64 2)).setCell ⟨z, 1, none⟩ (.int .i64 0)).setCell ⟨z, 2, none⟩ (.bool false)).setCell ⟨z, 3, none⟩ (.int .i64 0)).setCell ⟨z, 4, none⟩ (.slice (some ⟨w3.heap.size + 1, 0, none⟩) 2 2)).alloc (.cells #[.int .i64 k', .int .i64 c', .bool wr', .int .i64 lb', .slice A' n' cap'] 26)).alloc (.cells #[.int .i64 1, .int .i64 a.cell, .bool a.write, .int .i64 a.label, .slice none 0 0, .int .i64 k', .int .i64 c', .bool wr', .int .i64 lb', .slice A' n' cap'] 26))) = WF at *
    clear k0 k1 k2 k3 k4 kf
    have r0 := D3.out.cell 0 _ rfl; have r1 := D3.out.cell 1 _ rfl; have r2 := D3.out.cell 2 _ rfl; have r3 := D3.out.cell 3 _ rfl; have r4 := D3.out.cell 4 _ rfl
    refine bodyPost_ret (v := .tuple #[tmV 2 0 false 0 (.slice (some ⟨w3.heap.size + 1, 0, none⟩) 2 2), .slice A2 n2 c2']) (by simp [results, Try.f29, go_sem, r0, r1, r2, r3, r4]) rfl ⟨⟨_, _, _, _, rfl, (FrT.two ⟨by decide, by decide⟩ HT4 HV4 hng D4.lt rfl rfl D4.cell).fewer (fun k hk => .inl hk), HR4⟩, BE4⟩
end Go.Proofs.Ytdelngmbpjgphaa
