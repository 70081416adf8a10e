/- The walk of the renamer's expr, at a name. -/
import Derived.Test.YtoijobnpfibboaaDoorRn4
import Derived.Test.YtoijobnpfibboaaDoorRnBack
import Derived.Test.YtoijobnpfibboaaDoorRn3
import Derived.Test.YtoijobnpfibboaaDoorRegInvIn
namespace Go.Proofs.YtoijobnpfibboaaDoor
open Go.RowKit Go.Shelf
set_option linter.unusedVariables false
attribute [local go_sem] Oper.semAt_some
theorem newS_at (W : World) (v : Value) (t : TypeId) : (W.alloc (.cells #[v] t)).cell? ⟨W.heap.size, 0, none⟩ = some v := by
  have h := World.alloc_heap_new W (.cells #[v] t)
  simp only [World.cell?, h]
  rfl
/-- the three boxes of a call at a name -/
def NmC (z g : Nat) (s : Str) (W : World) : Prop := W.cell? ⟨g, 0, none⟩ = some (.pointer (some ⟨z, 0, none⟩)) ∧ W.cell? ⟨g + 1, 0, none⟩ = some (.int .i64 2) ∧ W.cell? ⟨g + 1, 2, none⟩ = some (.string s) ∧
  (W.cell? ⟨g + 1 + 1, 0, none⟩ = some (.int .i64 0) ∧ W.cell? ⟨g + 1 + 1, 1, none⟩ = some (.int .i64 0) ∧ W.cell? ⟨g + 1 + 1, 2, none⟩ = some (.string ⟨#[]⟩) ∧ W.cell? ⟨g + 1 + 1, 3, none⟩ = some (.slice none 0 0)) ∧
  W.frozen? ⟨g + 1 + 1, 0, none⟩ = false ∧ W.frozen? ⟨g + 1 + 1, 1, none⟩ = false ∧ W.frozen? ⟨g + 1 + 1, 2, none⟩ = false ∧ W.frozen? ⟨g + 1 + 1, 3, none⟩ = false
def NmR (g : Nat) (x : Str) (W : World) : Prop := W.cell? ⟨g + 1 + 1, 0, none⟩ = some (.int .i64 2) ∧ W.cell? ⟨g + 1 + 1, 1, none⟩ = some (.int .i64 0) ∧ W.cell? ⟨g + 1 + 1, 2, none⟩ = some (.string x) ∧ W.cell? ⟨g + 1 + 1, 3, none⟩ = some (.slice none 0 0)
theorem NmC.set {z g : Nat} {s : Str} {W : World} (h : NmC z g s W) (x : Str) : NmR g x (set4 W (g + 1 + 1) (.int .i64 2) (.int .i64 0) (.string x) (.slice none 0 0)) := by
  obtain ⟨_, _, _, ⟨r0, r1, r2, r3⟩, _⟩ := h
  exact set4_cells _ _ _ _ r0 r1 r2 r3
theorem set4_keeps (w : World) (R : Nat) (u0 u1 u2 u3 : Value) : KeepsOthers w (set4 w R u0 u1 u2 u3) :=
  (((KeepsOthers.setCell _ _ _).trans (KeepsOthers.setCell _ _ _)).trans (KeepsOthers.setCell _ _ _)).trans (KeepsOthers.setCell _ _ _)
theorem NmC.kept {z g : Nat} {s : Str} {W W' : World} {row : Option Nat} (h : NmC z g s W) (hg : W.grownBy W' row) (hr : ∀ r, row = some r → ∃ o : Obj, W.heap[r]? = some o ∧ o.isCells = false) : NmC z g s W' := by
  obtain ⟨a, b, c, ⟨r0, r1, r2, r3⟩, f0, f1, f2, f3⟩ := h
  exact ⟨cell_kept a hg hr, cell_kept b hg hr, cell_kept c hg hr, ⟨cell_kept r0 hg hr, cell_kept r1 hg hr, cell_kept r2 hg hr, cell_kept r3 hg hr⟩, (frozen_kept r0 hg hr).trans f0, (frozen_kept r1 hg hr).trans f1, (frozen_kept r2 hg hr).trans f2, (frozen_kept r3 hg hr).trans f3⟩
theorem NmR.kept {g : Nat} {x : Str} {W W' : World} {row : Option Nat} (h : NmR g x W) (hg : W.grownBy W' row) (hr : ∀ r, row = some r → ∃ o : Obj, W.heap[r]? = some o ∧ o.isCells = false) : NmR g x W' :=
  ⟨cell_kept h.1 hg hr, cell_kept h.2.1 hg hr, cell_kept h.2.2.1 hg hr, cell_kept h.2.2.2 hg hr⟩
set_option maxHeartbeats 2000000 in
set_option maxRecDepth 100000 in
theorem rx_name (V : Env) (t : Ex) (ht : t.two = none) (h2 : t.kind = 2) : RXs V t := by
  intro base z m w S U vo vn hm hbw hVl hS r
  obtain ⟨k, c, s, args, v, rfl, rfl, hk, hc, hs, hargs⟩ := id r
  obtain ⟨A, cap, rfl, hcl, hcm, _⟩ := hargs.form
  simp only [Ex.kind] at h2
  subst h2
  have bl1 : Below w.heap.size w (w.alloc (.cells #[.pointer (some ⟨z, 0, none⟩)] 38)) := (Below.refl _ _).alloc (Nat.le_refl _) _
  have bl2 : Below w.heap.size w (((w.alloc (.cells #[.pointer (some ⟨z, 0, none⟩)] 38))).alloc (.cells #[.int .i64 2, .int .i64 c, .string s, .slice A args.length cap] 29)) := bl1.alloc (by simp) _
  have bel : Below w.heap.size w (((((w.alloc (.cells #[.pointer (some ⟨z, 0, none⟩)] 38))).alloc (.cells #[.int .i64 2, .int .i64 c, .string s, .slice A args.length cap] 29))).alloc (.cells #[.int .i64 0, .int .i64 0, .string ⟨#[]⟩, .slice none 0 0] 29)) := bl2.alloc (by simp; omega) _
  have HX := Lib.hid (show renE V (.mk 2 c s args) = nameE (look V s) by rw [renE_none ht]; rfl)
  have HK := Lib.hid hs
  have BP := (Blk.made w [.pointer (some ⟨z, 0, none⟩)] 38 (base := 0) (Nat.zero_le _)).below (w' := (((((w.alloc (.cells #[.pointer (some ⟨z, 0, none⟩)] 38))).alloc (.cells #[.int .i64 2, .int .i64 c, .string s, .slice A args.length cap] 29))).alloc (.cells #[.int .i64 0, .int .i64 0, .string ⟨#[]⟩, .slice none 0 0] 29))) (((Below.refl _ _).alloc (Nat.le_refl _) _).alloc (by simp) _)
  have BX := (Blk.made (w.alloc (.cells #[.pointer (some ⟨z, 0, none⟩)] 38)) [.int .i64 2, .int .i64 c, .string s, .slice A args.length cap] 29 (base := 0) (Nat.zero_le _)).below (w' := (((((w.alloc (.cells #[.pointer (some ⟨z, 0, none⟩)] 38))).alloc (.cells #[.int .i64 2, .int .i64 c, .string s, .slice A args.length cap] 29))).alloc (.cells #[.int .i64 0, .int .i64 0, .string ⟨#[]⟩, .slice none 0 0] 29))) ((Below.refl _ _).alloc (Nat.le_refl _) _)
  have BR := Blk.made (((w.alloc (.cells #[.pointer (some ⟨z, 0, none⟩)] 38))).alloc (.cells #[.int .i64 2, .int .i64 c, .string s, .slice A args.length cap] 29)) [.int .i64 0, .int .i64 0, .string ⟨#[]⟩, .slice none 0 0] 29 (base := 0) (Nat.zero_le _)
  simp only [World.size_alloc] at BX BR
  have NM := Lib.hid (show NmC z w.heap.size s (((((w.alloc (.cells #[.pointer (some ⟨z, 0, none⟩)] 38))).alloc (.cells #[.int .i64 2, .int .i64 c, .string s, .slice A args.length cap] 29))).alloc (.cells #[.int .i64 0, .int .i64 0, .string ⟨#[]⟩, .slice none 0 0] 29)) from ⟨BP.cell 0 _ rfl, BX.cell 0 _ rfl, BX.cell 2 _ rfl, ⟨BR.cell 0 _ rfl, BR.cell 1 _ rfl, BR.cell 2 _ rfl, BR.cell 3 _ rfl⟩, BR.fr 0, BR.fr 1, BR.fr 2, BR.fr 3⟩)
  have BEL := Lib.hid bel
  have RM := Lib.hid (hm.below bel)
  have HM := Lib.hid hm
  unfold maxLen at hcm
  unfold exV
  obtain ⟨lo, hlo⟩ : ∃ lo, lo = (V.map (·.1)).reverse := ⟨_, rfl⟩
  obtain ⟨ln, hln⟩ : ∃ ln, ln = (V.map (·.2)).reverse := ⟨_, rfl⟩
  have hl1 : lo.length = V.length := by rw [hlo]; simp
  have hl2 : ln.length = lo.length := by rw [hlo, hln]; simp
  have HLO := Lib.hid hlo
  have HLN := Lib.hid hln
  unfold RmAt at RM HM
  rw [← hlo, ← hln] at RM HM
  obtain ⟨Ao, co, rfl⟩ := HM.out.oo.form
  obtain ⟨An, cn, rfl⟩ := HM.out.on.form
  have HLE := Lib.hid (show lo.length ≤ 1073741000 by omega)
  have HL2 := Lib.hid hl2
  have hzl := HM.out.bl.lt
  have hzz := RM.out.bl.cell 0 _ rfl
  have HON := Lib.hid (HM.out.on.toRd (bytes := 16) Flat.keeps (by omega) (S' := Upto w.heap.size) (Sub.nowhere _) (fun b _ hb => hb))
  have HOL := Lib.hid (HM.out.oo.toRd (bytes := 16) Flat.keeps (by omega) (S' := Upto w.heap.size) (Sub.nowhere _) (fun b _ hb => hb))
  have HCN := Lib.hid (show w.cell? ⟨z, 1, none⟩ = some (.slice An ln.length cn) from HM.out.bl.cell 1 _ rfl)
  clear hargs r bl1 bl2 bel hk hc hs hS ht hm BP BX BR hlo hln hl1 hl2 HM
  refine (callsIn_wide (n := 3)).1 ?_
  refine callsIn_of_wp_marks Tryd.func11 rfl trivial ?_ rfl
  simp only [Tryd.ntmps11, List.size_toArray, List.length_cons, List.length_nil, Nat.reduceAdd, Nat.reduceSub, Array.replicate_succ, Array.replicate_zero, List.push_toArray, List.append_toArray, List.nil_append, List.cons_append]
  gi_wp2
  refine ⟨trivial, ?_⟩
  refine (backS_in Fence.wide _ trivial rfl _ _ _ _).mono ?_
  rintro e w2 ⟨rfl, rfl⟩
  clear hzz
  gi_wp2
  have hcS : (((((((w.alloc (.cells #[.pointer (some ⟨z, 0, none⟩)] 38))).alloc (.cells #[.int .i64 2, .int .i64 c, .string s, .slice A args.length cap] 29))).alloc (.cells #[.int .i64 0, .int .i64 0, .string ⟨#[]⟩, .slice none 0 0] 29))).alloc (.cells #[.slice Ao lo.length co] 32)).cell? ⟨((((((w.alloc (.cells #[.pointer (some ⟨z, 0, none⟩)] 38))).alloc (.cells #[.int .i64 2, .int .i64 c, .string s, .slice A args.length cap] 29))).alloc (.cells #[.int .i64 0, .int .i64 0, .string ⟨#[]⟩, .slice none 0 0] 29))).heap.size, 0, none⟩ = some (.slice Ao lo.length co) := newS_at _ _ _
  have hbS : Below ((((((w.alloc (.cells #[.pointer (some ⟨z, 0, none⟩)] 38))).alloc (.cells #[.int .i64 2, .int .i64 c, .string s, .slice A args.length cap] 29))).alloc (.cells #[.int .i64 0, .int .i64 0, .string ⟨#[]⟩, .slice none 0 0] 29))).heap.size ((((((w.alloc (.cells #[.pointer (some ⟨z, 0, none⟩)] 38))).alloc (.cells #[.int .i64 2, .int .i64 c, .string s, .slice A args.length cap] 29))).alloc (.cells #[.int .i64 0, .int .i64 0, .string ⟨#[]⟩, .slice none 0 0] 29))) (((((((w.alloc (.cells #[.pointer (some ⟨z, 0, none⟩)] 38))).alloc (.cells #[.int .i64 2, .int .i64 c, .string s, .slice A args.length cap] 29))).alloc (.cells #[.int .i64 0, .int .i64 0, .string ⟨#[]⟩, .slice none 0 0] 29))).alloc (.cells #[.slice Ao lo.length co] 32)) := (Below.refl _ _).alloc (Nat.le_refl _) _
  have hsz0 : (((((((w.alloc (.cells #[.pointer (some ⟨z, 0, none⟩)] 38))).alloc (.cells #[.int .i64 2, .int .i64 c, .string s, .slice A args.length cap] 29))).alloc (.cells #[.int .i64 0, .int .i64 0, .string ⟨#[]⟩, .slice none 0 0] 29))).alloc (.cells #[.slice Ao lo.length co] 32)).heap.size = w.heap.size + 1 + 1 + 1 + 1 := by simp
  have hszB : ((((((w.alloc (.cells #[.pointer (some ⟨z, 0, none⟩)] 38))).alloc (.cells #[.int .i64 2, .int .i64 c, .string s, .slice A args.length cap] 29))).alloc (.cells #[.int .i64 0, .int .i64 0, .string ⟨#[]⟩, .slice none 0 0] 29))).heap.size = w.heap.size + 1 + 1 + 1 := by simp
  have NM0 := Lib.hid (NM.out.kept (World.grownBy_alloc ((((((w.alloc (.cells #[.pointer (some ⟨z, 0, none⟩)] 38))).alloc (.cells #[.int .i64 2, .int .i64 c, .string s, .slice A args.length cap] 29))).alloc (.cells #[.int .i64 0, .int .i64 0, .string ⟨#[]⟩, .slice none 0 0] 29))) (.cells #[.slice Ao lo.length co] 32) none) (fun r e => by cases e))
  have hB0 := Lib.hid (BEL.out.trans (hbS.mono BEL.out.size))
  rw [hszB] at hcS
  have HCS := Lib.hid hcS
  clear hcS hbS hszB BEL RM NM
  generalize ((((((w.alloc (.cells #[.pointer (some ⟨z, 0, none⟩)] 38))).alloc (.cells #[.int .i64 2, .int .i64 c, .string s, .slice A args.length cap] 29))).alloc (.cells #[.int .i64 0, .int .i64 0, .string ⟨#[]⟩, .slice none 0 0] 29))).alloc (.cells #[.slice Ao lo.length co] 32) = W0 at *
  obtain ⟨g, hg⟩ : ∃ g, g = w.heap.size := ⟨_, rfl⟩
  rw [← hg] at hsz0 NM0 HCS hzl ⊢
  have hgw : w.heap.size ≤ g := by omega
  have hzw : z < w.heap.size := by omega
  clear hg
  have REO := Lib.hid (HOL.out.go Flat.keeps hB0.out (Sub.refl _) (Sub.refl _))
  have hS0 : Sub (Upto w.heap.size) (Upto W0.heap.size) := Sub.upto hB0.out.size
  refine wpIn_rangeFunc_ownH rfl (by omega) (gf := 20) (lb := #[.pointer (some ⟨g + 1 + 1 + 1, 0, none⟩)]) rfl trivial (enters_of Tryd.func20 (by kernel_rfl) rfl)
    (backS_stops Fence.wide _ trivial rfl (by omega) (g + 1 + 1 + 1) W0.heap.size Ao co lo (Upto w.heap.size) hS0 W0 (by omega) (Nat.le_refl _) (by have := HLE.out; omega) HCS.out REO.out) belowK_t (belowK_b (Nat.le_refl _)) (Below.refl _ _) (fun _ => rfl)
    (fun pre W => (((∀ p ∈ pre, lo[p.1] ≠ s) ∧ NmC z g s W) ∧ Below w.heap.size w W) ∧ Below W0.heap.size W0 W)
    (fun c pre W => (c = .ret ∧ ∃ ini last x, pre = ini ++ [last] ∧ (∀ p ∈ ini, lo[p.1] ≠ s) ∧ lo[last.1] = s ∧ ln[last.1]? = some x ∧ NmR g x W) ∧ Below w.heap.size w W)
    (OwnFrom.and (OwnFrom.and (Own.from (fun s A B row hs hg hr => ⟨hs.1, hs.2.kept hg hr⟩) _) (ownFrom_below (Nat.le_refl _) (by have := hB0.out.size; omega))) (ownFrom_below (Nat.le_refl _) (Nat.le_refl _)))
    (fun c => OwnFrom.and (Own.from (fun s A B row hs hg hr => by obtain ⟨hc, ini, last, x, e1, e2, e3, e4, e5⟩ := hs; exact ⟨hc, ini, last, x, e1, e2, e3, e4, e5.kept hg hr⟩) _) (ownFrom_below (Nat.le_refl _) (by have := hB0.out.size; omega)))
    ⟨⟨⟨by simp, NM0.out⟩, hB0.out⟩, Below.refl _ _⟩
    (fun x a' W => a' = { tmps := #[.pointer (some ⟨z, 0, none⟩), .agg #[.int .i64 2, .int .i64 c, .string s, .slice A args.length cap], .pointer (some ⟨g, 0, none⟩), .pointer (some ⟨g + 1, 0, none⟩), .pointer (some ⟨g + 1 + 1, 0, none⟩), .int .i64 (x.1 : Int), .string lo[x.1], .pointer (some ⟨g + 1, 0, none⟩), .int .i64 2, .bool false, .bool false, undef, undef, undef, .bool false, .bool false, undef, undef, undef, undef, .bool false,
      undef, undef, undef, undef, undef, undef, undef, undef, undef, undef, undef, undef, undef, undef, undef, undef, .pointer (some ⟨g + 1, 0, none⟩), .int .i64 2, .bool false, .bool false, undef, undef, undef, undef, undef, .bool true, .bool true, .pointer (some ⟨z, 0, none⟩), .pointer (some ⟨z, 0, none⟩), .pointer (some ⟨z, 0, none⟩), .slice Ao lo.length co, .func (.func 20) #[] #[.pointer (some ⟨g + 1 + 1 + 1, 0, none⟩)], .int .i64 (x.1 : Int), .string lo[x.1], undef, undef, undef, undef, undef, undef, undef, undef, undef, undef, undef, undef, undef, undef, undef, undef, undef, undef, undef, undef], defers := [] })
    (fun x a' _ X Y row hs hg hr => hs)
    ?assign ?body ?done ?stop
  case assign =>
    rintro l pre x W K ⟨⟨⟨hp, hc⟩, hB1⟩, hB2⟩ hK
    gi_wp2
    exact hK _ _ (KeepsFrom.refl _ _) (Below.refl _ _) ⟨⟨⟨hp, hc⟩, hB1⟩, hB2⟩ rfl
  case body =>
    rintro l pre x a' W hl ⟨r, hr⟩ ⟨⟨⟨hp, hc⟩, hB1⟩, hB2⟩ rfl hlt
    have hC := Lib.hid hc
    obtain ⟨c0, x0, x2, ⟨r0, r1, r2, r3⟩, f0, f1, f2, f3⟩ := hc
    have HB1 := Lib.hid hB1
    have HP := Lib.hid hp
    have hxl := x.2
    by_cases hx : lo[x.1] = s
    · have es : (lo[x.1].toList == s.toList) = true := by rw [hx]; simp
      have HXX := Lib.hid hx
      have hxn : x.1 < ln.length := by have := HL2.out; omega
      obtain ⟨b, off, rfl, hb, hok, hcx⟩ := RdSs.at1 HON.out hxn
      have hcx' := (hB1.cell (p := ⟨b, off + x.1, none⟩) hb).trans hcx
      have hzn := (hB1.cell (p := ⟨z, 1, none⟩) hzw).trans HCN.out
      have hx0 : (0 : Int) ≤ (x.1 : Int) := by omega
      have hx1 : (x.1 : Int) < (ln.length : Int) := by omega
      have HLX := Lib.hid (show ln[x.1]? = some ln[x.1] from List.getElem?_eq_getElem hxn)
      obtain ⟨y, hy⟩ : ∃ y, y = lo[x.1] := ⟨_, rfl⟩
      rw [← hy] at es ⊢
      clear hy
      generalize ln[x.1] = u at hcx' HLX hok hcx
      obtain ⟨q, hq⟩ : ∃ q, q = x.1 := ⟨_, rfl⟩
      rw [← hq] at hcx' hx0 hx1 ⊢
      have HQ := Lib.hid hq
      have hbW : b < W.heap.size := Nat.lt_of_lt_of_le hb hB1.size
      clear hx hB1 hp hcx hb hq hxn hok
      gi_wp2
      have HU := Lib.hid HLX.out
      obtain ⟨I, hI⟩ : ∃ I : Array Bool → Act → World → Prop, I = (fun (l : Array Bool) (a : Act) (wx : World) => ∃ (u59 u60 u61 u62 u63 u64 u65 u66 u67 u68 : Value), a = ⟨#[.pointer (some ⟨z, 0, none⟩), .agg #[.int .i64 2, .int .i64 c, .string s, .slice A args.length cap], .pointer (some ⟨g, 0, none⟩), .pointer (some ⟨g + 1, 0, none⟩), .pointer (some ⟨g + 1 + 1, 0, none⟩), .int .i64 (q : Int), .string y, .pointer (some ⟨g + 1, 0, none⟩), .int .i64 2, .bool false, .bool false, undef, undef, undef, .bool false, .bool false, undef, undef, undef, undef, .bool false, undef, undef, undef, undef, undef, undef, undef, undef, undef, undef, undef, undef, undef, undef, undef, undef, .pointer (some ⟨g + 1, 0, none⟩), .int .i64 2, .bool false, .bool false, undef, undef, undef, undef, undef, .bool true, .bool true, .pointer (some ⟨z, 0, none⟩), .pointer (some ⟨z, 0, none⟩), .pointer (some ⟨z, 0, none⟩), .slice Ao lo.length co, .func (.func 20) #[] #[.pointer (some ⟨g + 1 + 1 + 1, 0, none⟩)], .int .i64 (q : Int), .string y, .string y, .pointer (some ⟨g + 1, 2, none⟩), .string s, .bool true, u59, u60, u61, u62, u63, u64, u65, u66, u67, u68, undef, undef, undef, undef, undef, undef], []⟩ ∧ Hid (l.getD 10 false = false → wx = W.drew) ∧ Hid (l.getD 10 false = true → wx = set4 W.drew (g + 1 + 1) (.int .i64 2) (.int .i64 0) (.string u) (.slice none 0 0)) ∧ Hid (l.getD 0 false = true → u59 = .pointer (some ⟨g + 1, 0, none⟩)) ∧ Hid (l.getD 1 false = true → u60 = .int .i64 2) ∧ Hid (l.getD 2 false = true → u61 = .pointer (some ⟨z, 0, none⟩)) ∧ Hid (l.getD 3 false = true → u62 = .pointer (some ⟨z, 0, none⟩)) ∧ Hid (l.getD 4 false = true → u63 = .pointer (some ⟨z, 1, none⟩)) ∧ Hid (l.getD 5 false = true → u64 = .slice (some ⟨b, off, none⟩) ln.length cn) ∧ Hid (l.getD 6 false = true → u65 = .int .i64 (q : Int)) ∧ Hid (l.getD 7 false = true → u66 = .pointer (some ⟨b, off + q, none⟩)) ∧ Hid (l.getD 8 false = true → u67 = .string u) ∧ Hid (l.getD 9 false = true → u68 = .agg #[.int .i64 2, .int .i64 0, .string u, .slice none 0 0])) := ⟨_, rfl⟩
      have HI := Lib.hid hI
      clear hI
      refine wpIn_region_invC (by kernel_rfl) I ?_ ?_ ?_ ?_
      · rw [HI.out]
        exact ⟨undef, undef, undef, undef, undef, undef, undef, undef, undef, undef, rfl, Lib.hid (fun _ => rfl), Lib.hid (fun h => by simp at h), Lib.hid (fun h => by simp at h), Lib.hid (fun h => by simp at h), Lib.hid (fun h => by simp at h), Lib.hid (fun h => by simp at h), Lib.hid (fun h => by simp at h), Lib.hid (fun h => by simp at h), Lib.hid (fun h => by simp at h), Lib.hid (fun h => by simp at h), Lib.hid (fun h => by simp at h), Lib.hid (fun h => by simp at h)⟩
      · intro l a wx i hl hc hI0 hi hn hd
        rw [HI.out] at hI0
        obtain ⟨u59, u60, u61, u62, u63, u64, u65, u66, u67, u68, rfl, hW0, hW1, f0, f1, f2, f3, f4, f5, f6, f7, f8, f9⟩ := hI0
        have hs : ∀ j, (l.setIfInBounds i true).getD j false = if i = j then true else l.getD j false := fun j => getD_set (by omega)
        have hk : ∀ j, i ≠ j → (l.setIfInBounds i true).getD j false = l.getD j false := fun j h => by rw [hs, if_neg h]
        replace hi : i < 11 := hi
        have hcase : i = 0 ∨ i = 1 ∨ i = 2 ∨ i = 3 ∨ i = 4 ∨ i = 5 ∨ i = 6 ∨ i = 7 ∨ i = 8 ∨ i = 9 ∨ i = 10 := by omega
        rcases hcase with rfl | rfl | rfl | rfl | rfl | rfl | rfl | rfl | rfl | rfl | rfl
        · skip
          have nst : l.getD 10 false = false := by
            cases e : l.getD 10 false
            · rfl
            · have := hc 10 e 0 (by decide); rw [hn] at this; cases this
          obtain rfl := hW0.out nst
          refine wpOpIn_of_list (by rfl) ?_
          gi_wp2
          show I _ _ _
          rw [HI.out]
          exact ⟨_, _, _, _, _, _, _, _, _, _, rfl, Lib.hid (fun _ => rfl), Lib.hid (fun h => by rw [hk 10 (by decide), nst] at h; cases h), Lib.hid (fun _ => rfl), Lib.hid (fun h => f1.out (by rwa [hk 1 (by decide)] at h)), Lib.hid (fun h => f2.out (by rwa [hk 2 (by decide)] at h)), Lib.hid (fun h => f3.out (by rwa [hk 3 (by decide)] at h)), Lib.hid (fun h => f4.out (by rwa [hk 4 (by decide)] at h)), Lib.hid (fun h => f5.out (by rwa [hk 5 (by decide)] at h)), Lib.hid (fun h => f6.out (by rwa [hk 6 (by decide)] at h)), Lib.hid (fun h => f7.out (by rwa [hk 7 (by decide)] at h)), Lib.hid (fun h => f8.out (by rwa [hk 8 (by decide)] at h)), Lib.hid (fun h => f9.out (by rwa [hk 9 (by decide)] at h))⟩
        · skip
          have d0 : l.getD 0 false = true := hd 0 (by decide)
          obtain rfl := f0.out d0
          have nst : l.getD 10 false = false := by
            cases e : l.getD 10 false
            · rfl
            · have := hc 10 e 1 (by decide); rw [hn] at this; cases this
          obtain rfl := hW0.out nst
          refine wpOpIn_of_list (by rfl) ?_
          gi_wp2
          show I _ _ _
          rw [HI.out]
          exact ⟨_, _, _, _, _, _, _, _, _, _, rfl, Lib.hid (fun _ => rfl), Lib.hid (fun h => by rw [hk 10 (by decide), nst] at h; cases h), Lib.hid (fun _ => rfl), Lib.hid (fun _ => rfl), Lib.hid (fun h => f2.out (by rwa [hk 2 (by decide)] at h)), Lib.hid (fun h => f3.out (by rwa [hk 3 (by decide)] at h)), Lib.hid (fun h => f4.out (by rwa [hk 4 (by decide)] at h)), Lib.hid (fun h => f5.out (by rwa [hk 5 (by decide)] at h)), Lib.hid (fun h => f6.out (by rwa [hk 6 (by decide)] at h)), Lib.hid (fun h => f7.out (by rwa [hk 7 (by decide)] at h)), Lib.hid (fun h => f8.out (by rwa [hk 8 (by decide)] at h)), Lib.hid (fun h => f9.out (by rwa [hk 9 (by decide)] at h))⟩
        · skip
          have nst : l.getD 10 false = false := by
            cases e : l.getD 10 false
            · rfl
            · have := hc 10 e 2 (by decide); rw [hn] at this; cases this
          obtain rfl := hW0.out nst
          refine wpOpIn_of_list (by rfl) ?_
          gi_wp2
          show I _ _ _
          rw [HI.out]
          exact ⟨_, _, _, _, _, _, _, _, _, _, rfl, Lib.hid (fun _ => rfl), Lib.hid (fun h => by rw [hk 10 (by decide), nst] at h; cases h), Lib.hid (fun h => f0.out (by rwa [hk 0 (by decide)] at h)), Lib.hid (fun h => f1.out (by rwa [hk 1 (by decide)] at h)), Lib.hid (fun _ => rfl), Lib.hid (fun h => f3.out (by rwa [hk 3 (by decide)] at h)), Lib.hid (fun h => f4.out (by rwa [hk 4 (by decide)] at h)), Lib.hid (fun h => f5.out (by rwa [hk 5 (by decide)] at h)), Lib.hid (fun h => f6.out (by rwa [hk 6 (by decide)] at h)), Lib.hid (fun h => f7.out (by rwa [hk 7 (by decide)] at h)), Lib.hid (fun h => f8.out (by rwa [hk 8 (by decide)] at h)), Lib.hid (fun h => f9.out (by rwa [hk 9 (by decide)] at h))⟩
        · skip
          have d2 : l.getD 2 false = true := hd 2 (by decide)
          obtain rfl := f2.out d2
          have nst : l.getD 10 false = false := by
            cases e : l.getD 10 false
            · rfl
            · have := hc 10 e 3 (by decide); rw [hn] at this; cases this
          obtain rfl := hW0.out nst
          refine wpOpIn_of_list (by rfl) ?_
          gi_wp2
          show I _ _ _
          rw [HI.out]
          exact ⟨_, _, _, _, _, _, _, _, _, _, rfl, Lib.hid (fun _ => rfl), Lib.hid (fun h => by rw [hk 10 (by decide), nst] at h; cases h), Lib.hid (fun h => f0.out (by rwa [hk 0 (by decide)] at h)), Lib.hid (fun h => f1.out (by rwa [hk 1 (by decide)] at h)), Lib.hid (fun _ => rfl), Lib.hid (fun _ => rfl), Lib.hid (fun h => f4.out (by rwa [hk 4 (by decide)] at h)), Lib.hid (fun h => f5.out (by rwa [hk 5 (by decide)] at h)), Lib.hid (fun h => f6.out (by rwa [hk 6 (by decide)] at h)), Lib.hid (fun h => f7.out (by rwa [hk 7 (by decide)] at h)), Lib.hid (fun h => f8.out (by rwa [hk 8 (by decide)] at h)), Lib.hid (fun h => f9.out (by rwa [hk 9 (by decide)] at h))⟩
        · skip
          have d3 : l.getD 3 false = true := hd 3 (by decide)
          obtain rfl := f3.out d3
          have nst : l.getD 10 false = false := by
            cases e : l.getD 10 false
            · rfl
            · have := hc 10 e 4 (by decide); rw [hn] at this; cases this
          obtain rfl := hW0.out nst
          refine wpOpIn_of_list (by rfl) ?_
          gi_wp2
          show I _ _ _
          rw [HI.out]
          exact ⟨_, _, _, _, _, _, _, _, _, _, rfl, Lib.hid (fun _ => rfl), Lib.hid (fun h => by rw [hk 10 (by decide), nst] at h; cases h), Lib.hid (fun h => f0.out (by rwa [hk 0 (by decide)] at h)), Lib.hid (fun h => f1.out (by rwa [hk 1 (by decide)] at h)), Lib.hid (fun h => f2.out (by rwa [hk 2 (by decide)] at h)), Lib.hid (fun _ => rfl), Lib.hid (fun _ => rfl), Lib.hid (fun h => f5.out (by rwa [hk 5 (by decide)] at h)), Lib.hid (fun h => f6.out (by rwa [hk 6 (by decide)] at h)), Lib.hid (fun h => f7.out (by rwa [hk 7 (by decide)] at h)), Lib.hid (fun h => f8.out (by rwa [hk 8 (by decide)] at h)), Lib.hid (fun h => f9.out (by rwa [hk 9 (by decide)] at h))⟩
        · skip
          have d4 : l.getD 4 false = true := hd 4 (by decide)
          obtain rfl := f4.out d4
          have nst : l.getD 10 false = false := by
            cases e : l.getD 10 false
            · rfl
            · have := hc 10 e 5 (by decide); rw [hn] at this; cases this
          obtain rfl := hW0.out nst
          refine wpOpIn_of_list (by rfl) ?_
          gi_wp2
          show I _ _ _
          rw [HI.out]
          exact ⟨_, _, _, _, _, _, _, _, _, _, rfl, Lib.hid (fun _ => rfl), Lib.hid (fun h => by rw [hk 10 (by decide), nst] at h; cases h), Lib.hid (fun h => f0.out (by rwa [hk 0 (by decide)] at h)), Lib.hid (fun h => f1.out (by rwa [hk 1 (by decide)] at h)), Lib.hid (fun h => f2.out (by rwa [hk 2 (by decide)] at h)), Lib.hid (fun h => f3.out (by rwa [hk 3 (by decide)] at h)), Lib.hid (fun _ => rfl), Lib.hid (fun _ => rfl), Lib.hid (fun h => f6.out (by rwa [hk 6 (by decide)] at h)), Lib.hid (fun h => f7.out (by rwa [hk 7 (by decide)] at h)), Lib.hid (fun h => f8.out (by rwa [hk 8 (by decide)] at h)), Lib.hid (fun h => f9.out (by rwa [hk 9 (by decide)] at h))⟩
        · skip
          have nst : l.getD 10 false = false := by
            cases e : l.getD 10 false
            · rfl
            · have := hc 10 e 6 (by decide); rw [hn] at this; cases this
          obtain rfl := hW0.out nst
          refine wpOpIn_of_list (by rfl) ?_
          gi_wp2
          show I _ _ _
          rw [HI.out]
          exact ⟨_, _, _, _, _, _, _, _, _, _, rfl, Lib.hid (fun _ => rfl), Lib.hid (fun h => by rw [hk 10 (by decide), nst] at h; cases h), Lib.hid (fun h => f0.out (by rwa [hk 0 (by decide)] at h)), Lib.hid (fun h => f1.out (by rwa [hk 1 (by decide)] at h)), Lib.hid (fun h => f2.out (by rwa [hk 2 (by decide)] at h)), Lib.hid (fun h => f3.out (by rwa [hk 3 (by decide)] at h)), Lib.hid (fun h => f4.out (by rwa [hk 4 (by decide)] at h)), Lib.hid (fun h => f5.out (by rwa [hk 5 (by decide)] at h)), Lib.hid (fun _ => rfl), Lib.hid (fun h => f7.out (by rwa [hk 7 (by decide)] at h)), Lib.hid (fun h => f8.out (by rwa [hk 8 (by decide)] at h)), Lib.hid (fun h => f9.out (by rwa [hk 9 (by decide)] at h))⟩
        · skip
          have d5 : l.getD 5 false = true := hd 5 (by decide)
          have d6 : l.getD 6 false = true := hd 6 (by decide)
          obtain rfl := f5.out d5
          obtain rfl := f6.out d6
          have nst : l.getD 10 false = false := by
            cases e : l.getD 10 false
            · rfl
            · have := hc 10 e 7 (by decide); rw [hn] at this; cases this
          obtain rfl := hW0.out nst
          refine wpOpIn_of_list (by rfl) ?_
          gi_wp2
          show I _ _ _
          rw [HI.out]
          exact ⟨_, _, _, _, _, _, _, _, _, _, rfl, Lib.hid (fun _ => rfl), Lib.hid (fun h => by rw [hk 10 (by decide), nst] at h; cases h), Lib.hid (fun h => f0.out (by rwa [hk 0 (by decide)] at h)), Lib.hid (fun h => f1.out (by rwa [hk 1 (by decide)] at h)), Lib.hid (fun h => f2.out (by rwa [hk 2 (by decide)] at h)), Lib.hid (fun h => f3.out (by rwa [hk 3 (by decide)] at h)), Lib.hid (fun h => f4.out (by rwa [hk 4 (by decide)] at h)), Lib.hid (fun _ => rfl), Lib.hid (fun _ => rfl), Lib.hid (fun _ => rfl), Lib.hid (fun h => f8.out (by rwa [hk 8 (by decide)] at h)), Lib.hid (fun h => f9.out (by rwa [hk 9 (by decide)] at h))⟩
        · skip
          have d7 : l.getD 7 false = true := hd 7 (by decide)
          obtain rfl := f7.out d7
          have nst : l.getD 10 false = false := by
            cases e : l.getD 10 false
            · rfl
            · have := hc 10 e 8 (by decide); rw [hn] at this; cases this
          obtain rfl := hW0.out nst
          refine wpOpIn_of_list (by rfl) ?_
          gi_wp2
          show I _ _ _
          rw [HI.out]
          exact ⟨_, _, _, _, _, _, _, _, _, _, rfl, Lib.hid (fun _ => rfl), Lib.hid (fun h => by rw [hk 10 (by decide), nst] at h; cases h), Lib.hid (fun h => f0.out (by rwa [hk 0 (by decide)] at h)), Lib.hid (fun h => f1.out (by rwa [hk 1 (by decide)] at h)), Lib.hid (fun h => f2.out (by rwa [hk 2 (by decide)] at h)), Lib.hid (fun h => f3.out (by rwa [hk 3 (by decide)] at h)), Lib.hid (fun h => f4.out (by rwa [hk 4 (by decide)] at h)), Lib.hid (fun h => f5.out (by rwa [hk 5 (by decide)] at h)), Lib.hid (fun h => f6.out (by rwa [hk 6 (by decide)] at h)), Lib.hid (fun _ => rfl), Lib.hid (fun _ => rfl), Lib.hid (fun h => f9.out (by rwa [hk 9 (by decide)] at h))⟩
        · skip
          have d1 : l.getD 1 false = true := hd 1 (by decide)
          have d8 : l.getD 8 false = true := hd 8 (by decide)
          obtain rfl := f1.out d1
          obtain rfl := f8.out d8
          have nst : l.getD 10 false = false := by
            cases e : l.getD 10 false
            · rfl
            · have := hc 10 e 9 (by decide); rw [hn] at this; cases this
          obtain rfl := hW0.out nst
          refine wpOpIn_of_list (by rfl) ?_
          gi_wp2
          show I _ _ _
          rw [HI.out]
          exact ⟨_, _, _, _, _, _, _, _, _, _, rfl, Lib.hid (fun _ => rfl), Lib.hid (fun h => by rw [hk 10 (by decide), nst] at h; cases h), Lib.hid (fun h => f0.out (by rwa [hk 0 (by decide)] at h)), Lib.hid (fun _ => rfl), Lib.hid (fun h => f2.out (by rwa [hk 2 (by decide)] at h)), Lib.hid (fun h => f3.out (by rwa [hk 3 (by decide)] at h)), Lib.hid (fun h => f4.out (by rwa [hk 4 (by decide)] at h)), Lib.hid (fun h => f5.out (by rwa [hk 5 (by decide)] at h)), Lib.hid (fun h => f6.out (by rwa [hk 6 (by decide)] at h)), Lib.hid (fun h => f7.out (by rwa [hk 7 (by decide)] at h)), Lib.hid (fun _ => rfl), Lib.hid (fun _ => rfl)⟩
        · skip
          have d9 : l.getD 9 false = true := hd 9 (by decide)
          obtain rfl := f9.out d9
          obtain rfl := hW0.out hn
          refine wpOpIn_of_list (by rfl) ?_
          gi_wp2
          show I _ _ _
          rw [HI.out]
          exact ⟨_, _, _, _, _, _, _, _, _, _, rfl, Lib.hid (fun h => by rw [hs, if_pos rfl] at h; cases h), Lib.hid (fun _ => rfl), Lib.hid (fun h => f0.out (by rwa [hk 0 (by decide)] at h)), Lib.hid (fun h => f1.out (by rwa [hk 1 (by decide)] at h)), Lib.hid (fun h => f2.out (by rwa [hk 2 (by decide)] at h)), Lib.hid (fun h => f3.out (by rwa [hk 3 (by decide)] at h)), Lib.hid (fun h => f4.out (by rwa [hk 4 (by decide)] at h)), Lib.hid (fun h => f5.out (by rwa [hk 5 (by decide)] at h)), Lib.hid (fun h => f6.out (by rwa [hk 6 (by decide)] at h)), Lib.hid (fun h => f7.out (by rwa [hk 7 (by decide)] at h)), Lib.hid (fun h => f8.out (by rwa [hk 8 (by decide)] at h)), Lib.hid (fun _ => rfl)⟩
      · intro l a wx hl hall hI0
        rw [HI.out] at hI0
        obtain ⟨u59, u60, u61, u62, u63, u64, u65, u66, u67, u68, rfl, hW0, hW1, f0, f1, f2, f3, f4, f5, f6, f7, f8, f9⟩ := hI0
        obtain rfl := hW1.out (hall 10 (by decide))
        obtain rfl := f0.out (hall 0 (by decide))
        obtain rfl := f1.out (hall 1 (by decide))
        obtain rfl := f2.out (hall 2 (by decide))
        obtain rfl := f3.out (hall 3 (by decide))
        obtain rfl := f4.out (hall 4 (by decide))
        obtain rfl := f5.out (hall 5 (by decide))
        obtain rfl := f6.out (hall 6 (by decide))
        obtain rfl := f7.out (hall 7 (by decide))
        obtain rfl := f8.out (hall 8 (by decide))
        obtain rfl := f9.out (hall 9 (by decide))
        clear hW0 hW1 f0 f1 f2 f3 f4 f5 f6 f7 f8 f9 hall HI
        gi_wp2
        exact ⟨((KeepsOthers.drew W).trans (set4_keeps _ _ _ _ _ _)).from _, ⟨rfl, pre, x, _, rfl, HP.out, HXX.out, HU.out, NmC.set (W := W.drew) hC.out _⟩, set4_below HB1.out.drew (by omega)⟩
      · decide
    · have es : (lo[x.1].toList == s.toList) = false := str_ne hx
      have HXX := Lib.hid hx
      clear hx hB1 hp
      gi_wp2
      exact ⟨KeepsFrom.refl _ _, Below.refl _ _, ⟨⟨fun p hp' => (List.mem_append.1 hp').elim (HP.out p) (fun e => by rw [List.mem_singleton.1 e]; exact HXX.out), hC.out⟩, HB1.out⟩, hB2⟩
  case done =>
    rintro D ys W hD rfl ⟨⟨⟨hne, hc⟩, hB⟩, _⟩ hK
    have hC := Lib.hid hc
    have HNE := Lib.hid hne
    have HB := Lib.hid hB
    obtain ⟨c0, x0, x2, ⟨r0, r1, r2, r3⟩, f0, f1, f2, f3⟩ := hc
    clear hne hB
    gi_wp2
    have hR := NmC.set hC.out s
    have hK' := (set4_keeps W (g + 1 + 1) (.int .i64 2) (.int .i64 0) (.string s) (.slice none 0 0)).same D _ hK rfl
    refine ⟨by simp, .inl ⟨_, _, rfl, run_takeDeferred hK', ?_⟩⟩
    have hR' := hR.kept (grownBy_putObj' _ D (.deferred none)) (fun r e => by cases e; exact ⟨_, hK', rfl⟩)
    have hbf : Below w.heap.size w ((set4 W (g + 1 + 1) (.int .i64 2) (.int .i64 0) (.string s) (.slice none 0 0)).putObj D (.deferred none)) := (set4_below HB.out (by omega)).trans (belowK_b (w := w) (Nat.le_refl _) _ D _ _ (by omega) hK' rfl rfl)
    show LeavesInM _ _ _ _ _ _ _ _ ((set4 W (g + 1 + 1) (.int .i64 2) (.int .i64 0) (.string s) (.slice none 0 0)).putObj D (.deferred none))
    generalize (set4 W (g + 1 + 1) (.int .i64 2) (.int .i64 0) (.string s) (.slice none 0 0)).putObj D (.deferred none) = WF at *
    obtain ⟨t0, t1, t2, t3⟩ := hR'
    refine ⟨.agg #[.int .i64 2, .int .i64 0, .string s, .slice none 0 0], ?_, ⟨_, rfl, ?_, hbf⟩⟩
    · simp [results, Tryd.results11, go_sem, t0, t1, t2, t3]
    · rw [HX.out, look_all (V := V) (s := s) (fun j y hj => by
        have e := HLO.out
        have hlt : j < lo.length := by rw [e]; exact (List.getElem?_eq_some_iff.1 hj).1
        have h9 := HNE.out ⟨j, hlt⟩ ((comesF_mem lo).2 (by omega))
        rw [← e, List.getElem?_eq_getElem hlt, Option.some.injEq] at hj
        rw [← hj]; exact h9)]
      exact RdE.leaf _ _ (by decide) (by decide) HK.out
  case stop =>
    rintro D c' pre W hD ⟨k, hk, rfl⟩ ⟨⟨rfl, ini, last, x, e1, e2, e3, e4, hcr⟩, hB⟩ hK
    gi_wp2
    refine ⟨by simp, .inl ⟨_, _, rfl, run_takeDeferred hK, ?_⟩⟩
    have hR' := hcr.kept (grownBy_putObj' _ D (.deferred none)) (fun r e => by cases e; exact ⟨_, hK, rfl⟩)
    have hbf : Below w.heap.size w (W.putObj D (.deferred none)) := hB.trans (belowK_b (w := w) (Nat.le_refl _) _ D _ _ (by omega) hK rfl rfl)
    generalize W.putObj D (.deferred none) = WF at *
    obtain ⟨t0, t1, t2, t3⟩ := hR'
    refine ⟨.agg #[.int .i64 2, .int .i64 0, .string x, .slice none 0 0], ?_, ⟨_, rfl, ?_, hbf⟩⟩
    · simp [results, Tryd.results11, go_sem, t0, t1, t2, t3]
    · have hox : okS x := by
        obtain ⟨hx1, hx2⟩ := List.getElem?_eq_some_iff.1 e4
        rw [← hx2]
        exact RdL.oks HON.out _ (List.getElem_mem _)
      have hll := last.2
      have eo := HLO.out
      have en := HLN.out
      rw [HX.out, look_back (V := V) (s := s) (n := x) (i := last.1) (by rw [← show lo.length = V.length by rw [eo]; simp]; exact hll) (fun j y hj hy => by
        have hlt : j < lo.length := by rw [eo]; exact (List.getElem?_eq_some_iff.1 hy).1
        rw [← eo, List.getElem?_eq_getElem hlt, Option.some.injEq] at hy
        rw [← hy]
        refine e2 ⟨j, hlt⟩ ?_
        have hpre : (⟨j, hlt⟩ : Fin lo.length) ∈ comesF lo k := (comesF_mem lo).2 (by
          have hl : last ∈ comesF lo k := by rw [e1]; simp
          have := (comesF_mem lo).1 hl
          show lo.length - k ≤ j
          omega)
        rw [e1, List.mem_append] at hpre
        rcases hpre with h | h
        · exact h
        · have h := congrArg Fin.val (List.mem_singleton.1 h)
          simp only at h; omega) (by rw [← eo, List.getElem?_eq_getElem hll]; exact congrArg some e3) (by rw [← en]; exact e4)]
      exact RdE.leaf _ _ (by decide) (by decide) hox
theorem rx_all (V : Env) (t : Ex) : RXs V t := Ex.ind (fun t ht => by
  by_cases h : t.kind = 2
  · exact rx_name V t ht h
  · exact rx_leaf V t ht h) (fun t a b ht ha hb => rx_two V t a b ht ha hb) t
end Go.Proofs.YtoijobnpfibboaaDoor
