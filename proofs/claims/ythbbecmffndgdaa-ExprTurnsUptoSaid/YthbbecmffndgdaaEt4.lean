/- The walks of Put and Fold, the program's. -/
import Derived.Test.YthbbecmffndgdaaEt3
import Derived.Test.YthbbecmffndgdaaSc3
namespace Go.Proofs.Ythbbecmffndgdaa
open Go.RowKit
set_option linter.unusedVariables false
attribute [local go_sem] run_store_fn
abbrev fv0 (f : FuncId) : Value := .func (.func f) #[] #[]
theorem clean_all (W0 : World) (t : Ex) : RBs (fv0 38) (fv0 41) (fun x => x) mkE Nowhere W0 t :=
  Ex.ind (motive := fun t => RBs (fv0 38) (fv0 41) (fun x => x) mkE Nowhere W0 t) (fun t ht => rb_put1 _ _ _ _ W0 (put1_id.leaf W0) t ht) (fun t a b ht iha ihb => rb_with _ _ _ W0 t a b ht iha ihb) t
theorem fold_all (W0 : World) (t : Ex) : RBs (fv0 44) (fv0 45) (fun x => x) (foldG doE) Nowhere W0 t :=
  Ex.ind (motive := fun t => RBs (fv0 44) (fv0 45) (fun x => x) (foldG doE) Nowhere W0 t) (fun t ht => rb_fold1 _ _ _ _ W0 (fold1_id.leaf W0) t ht) (fun t a b ht iha ihb => rb_fold _ _ _ W0 t a b ht iha ihb) t
/-- the closure 'own' of Put: block Y holds the expression, block M the function -/
structure Own (w : World) (Sy : Blocks) (y : Ex) (A : Option Addr) (c : Nat) (Y M : Nat) : Prop where
  by_ : Blk 0 w Y [.int .i64 y.kind, .int .i64 y.num, .string y.name, .slice A y.args.length c]
  fn : Blk 0 w M [fv0 38]
  rd : RdE w Sy y (.agg #[.int .i64 y.kind, .int .i64 y.num, .string y.name, .slice A y.args.length c])
  sy : Sub Sy (Upto w.heap.size)
theorem Own.below {w w' : World} {Sy : Blocks} {y : Ex} {A : Option Addr} {c Y M : Nat} (h : Own w Sy y A c Y M) (hb : Below w.heap.size w w') : Own w' Sy y A c Y M :=
  ⟨h.by_.below hb, h.fn.below hb, h.rd.go hb h.sy, h.sy.trans (Sub.upto hb.size)⟩
set_option maxHeartbeats 1000000 in
set_option maxRecDepth 100000 in
theorem put2_any {w : World} {Sy : Blocks} {y : Ex} {A : Option Addr} {c Y M : Nat} (h : Own w Sy y A c Y M) :
    Calls Try.prog 39 #[.pointer (some ⟨Y, 0, none⟩), .pointer (some ⟨M, 0, none⟩)] w fun e w' => ∃ U, e = .returned U ∧ RdE w' (Plus Sy w.heap.size w'.heap.size) (clean y) U ∧ Below w.heap.size w w' := by
  have bel : Below w.heap.size w (w.alloc (.cells #[.int .i64 0, .int .i64 0, .string noS, .slice none 0 0] 38)) := (Below.refl _ _).alloc (Nat.le_refl _) _
  have BEL := Lib.hid bel
  have H1 := Lib.hid (h.below bel)
  have HR := Lib.hid (Blk.made w [.int .i64 0, .int .i64 0, .string noS, .slice none 0 0] 38 (base := 0) (Nat.zero_le _))
  have c0 := h.by_.cell 0 _ rfl; have c1 := h.by_.cell 1 _ rfl; have c2 := h.by_.cell 2 _ rfl; have c3 := h.by_.cell 3 _ rfl
  have m0 := h.fn.cell 0 _ rfl
  have hyl := h.by_.lt
  have hml := h.fn.lt
  have HSY := Lib.hid h.sy
  clear bel h
  go_enter Try.func39, Try.ntmps39
  go_wp2_with fail
  refine (clean_all _ y _ Sy _ (Below.refl _ _) (Sub.nowhere _) H1.out.sy H1.out.rd).mono ?_
  rintro e w1 ⟨U, rfl, hU, hb1⟩
  have hU : RdE w1 _ (clean y) U := hU
  obtain ⟨A3, n3, rfl⟩ := hU.form
  have hbr := HR.out.below hb1
  have k0 := hbr.cell 0 _ rfl; have k1 := hbr.cell 1 _ rfl; have k2 := hbr.cell 2 _ rfl; have k3 := hbr.cell 3 _ rfl
  have f0 := hbr.fr 0; have f1 := hbr.fr 1; have f2 := hbr.fr 2; have f3 := hbr.fr 3
  have hlt := hbr.lt
  have HU := Lib.hid hU
  have HB1 := Lib.hid hb1
  clear hb1 hbr hU c0 c1 c2 c3 m0
  go_wp2
  refine bodyPost_ret (v := .agg #[.int .i64 (clean y).kind, .int .i64 (clean y).num, .string (clean y).name, .slice A3 (clean y).args.length n3]) (by simp [results, Try.results39, go_sem, k0, k1, k2, k3]) rfl ⟨_, rfl, ?_, ?_⟩
  · show RdE (set4 w1 w.heap.size _ _ _ _) _ _ _
    refine HU.out.keep (Sub.plus_mono (by simp) (Nat.le_of_eq (set4_size _ _ _ _ _ _).symm)) (set4_same ?_)
    intro hp
    rcases hp with hp | hp
    · have := HSY.out _ hp; unfold Upto at this; omega
    · have := hp.1; simp at this; omega
  · show Below _ _ (set4 w1 w.heap.size _ _ _ _)
    exact set4_below (BEL.out.trans (HB1.out.mono (by simp))) (Nat.le_refl _)
/-- the closure that Put hands on: block P holds the name, block Q the closure 'own' -/
structure Ask (w : World) (Sy : Blocks) (s : Str) (y : Ex) (A : Option Addr) (c Y M P Q : Nat) : Prop where
  own : Own w Sy y A c Y M
  nm : Blk 0 w P [.string s]
  cl : Blk 0 w Q [.func (.func 39) #[] #[.pointer (some ⟨Y, 0, none⟩), .pointer (some ⟨M, 0, none⟩)]]
theorem Ask.below {w w' : World} {Sy : Blocks} {s : Str} {y : Ex} {A : Option Addr} {c Y M P Q : Nat} (h : Ask w Sy s y A c Y M P Q) (hb : Below w.heap.size w w') : Ask w' Sy s y A c Y M P Q :=
  ⟨h.own.below hb, h.nm.below hb, h.cl.below hb⟩
set_option maxHeartbeats 1000000 in
set_option maxRecDepth 100000 in
theorem put3_leaf {W0 : World} {Sy : Blocks} {s : Str} {y : Ex} {A : Option Addr} {c Y M P Q : Nat} (h : Ask W0 Sy s y A c Y M P Q) : LeafC 42 #[.pointer (some ⟨P, 0, none⟩), .pointer (some ⟨Q, 0, none⟩)] (putF s y) Sy W0 := by
  intro k n x w hb hk hn hx
  have h := h.below hb
  have bel : Below w.heap.size w ((w.alloc (.cells #[.int .i64 k, .int .i64 n, .string x, .slice none 0 0] 38)).alloc (.cells #[.int .i64 0, .int .i64 0, .string noS, .slice none 0 0] 38)) := ((Below.refl _ _).alloc (Nat.le_refl _) _).alloc (by simp) _
  have BEL := Lib.hid bel
  have H1 := Lib.hid (h.below bel)
  have HR := Lib.hid (Blk.made (w.alloc (.cells #[.int .i64 k, .int .i64 n, .string x, .slice none 0 0] 38)) [.int .i64 0, .int .i64 0, .string noS, .slice none 0 0] 38 (base := 0) (Nat.zero_le _))
  rw [World.size_alloc] at HR
  have p0 := h.nm.cell 0 _ rfl
  have q0 := h.cl.cell 0 _ rfl
  have hpl := h.nm.lt
  have hql := h.cl.lt
  have HSY := Lib.hid h.own.sy
  have HNK := Lib.hid (And.intro hk (And.intro hn hx))
  have eg : ∀ args w, (callFunc 39 args).run Try.prog w = .ok (.enter 39 args) w := fun args w => by kernel_rfl
  clear bel h hb hk hn hx
  by_cases h2 : k = 2
  · subst h2
    by_cases hs : x = s
    · have HX := Lib.hid (show putF s y (.mk 2 n x []) = clean y by unfold putF; rw [if_pos ⟨rfl, hs⟩])
      have es := str_eq hs
      clear hs
      go_enter Try.func42, Try.ntmps42
      go_wp2_with fail
      refine (put2_any H1.out.own).mono ?_
      rintro e w1 ⟨U, rfl, hU, hb1⟩
      obtain ⟨A3, n3, rfl⟩ := hU.form
      have hbr := HR.out.below hb1
      have k0 := hbr.cell 0 _ rfl; have k1 := hbr.cell 1 _ rfl; have k2 := hbr.cell 2 _ rfl; have k3 := hbr.cell 3 _ rfl
      have f0 := hbr.fr 0; have f1 := hbr.fr 1; have f2 := hbr.fr 2; have f3 := hbr.fr 3
      have hlt := hbr.lt
      have HU := Lib.hid hU
      have HB1 := Lib.hid hb1
      clear hb1 hbr hU p0 q0
      go_wp2
      refine bodyPost_ret (v := .agg #[.int .i64 (clean y).kind, .int .i64 (clean y).num, .string (clean y).name, .slice A3 (clean y).args.length n3]) (by simp [results, Try.results42, go_sem, k0, k1, k2, k3]) rfl ⟨_, rfl, ?_, ?_⟩
      · show RdE (set4 w1 (w.heap.size + 1) _ _ _ _) _ _ _
        rw [HX.out]
        refine HU.out.keep (Sub.plus_mono (by simp; omega) (Nat.le_of_eq (set4_size _ _ _ _ _ _).symm)) (set4_same ?_)
        intro hp
        rcases hp with hp | hp
        · have := HSY.out _ hp; unfold Upto at this; omega
        · have := hp.1; simp at this; omega
      · show Below _ _ (set4 w1 (w.heap.size + 1) _ _ _ _)
        exact set4_below (BEL.out.trans (HB1.out.mono BEL.out.size)) (Nat.le_succ _)
    · have HX := Lib.hid (show putF s y (.mk 2 n x []) = .mk 2 n x [] by unfold putF; rw [if_neg (fun h => hs h.2)])
      have es := str_ne hs
      clear hs
      go_enter Try.func42, Try.ntmps42
      go_wp2
      refine bodyPost_ret (v := .agg #[.int .i64 2, .int .i64 n, .string x, .slice none 0 0]) (by simp [results, Try.results42, go_sem]) rfl ⟨_, rfl, ?_, ((Below.refl _ _).alloc (Nat.le_refl _) _).alloc (by simp) _⟩
      rw [HX.out]
      exact RdE.leaf _ _ (by decide) HNK.out.2.1 HNK.out.2.2
  · have HX := Lib.hid (show putF s y (.mk k n x []) = .mk k n x [] by unfold putF; rw [if_neg (fun h => h2 h.1)])
    have g2 : (k == 2) = false := by simpa using h2
    clear h2
    go_enter Try.func42, Try.ntmps42
    go_wp2
    refine bodyPost_ret (v := .agg #[.int .i64 k, .int .i64 n, .string x, .slice none 0 0]) (by simp [results, Try.results42, go_sem]) rfl ⟨_, rfl, ?_, ((Below.refl _ _).alloc (Nat.le_refl _) _).alloc (by simp) _⟩
    rw [HX.out]
    exact RdE.leaf _ _ HNK.out.1 HNK.out.2.1 HNK.out.2.2
theorem put_all {W0 : World} {Sy : Blocks} {s : Str} {y : Ex} {A : Option Addr} {c Y M P Q : Nat} (h : Ask W0 Sy s y A c Y M P Q) (t : Ex) :
    RBs (.func (.func 42) #[] #[.pointer (some ⟨P, 0, none⟩), .pointer (some ⟨Q, 0, none⟩)]) (fv0 41) (putF s y) mkE Sy W0 t :=
  Ex.ind (motive := fun t => RBs (.func (.func 42) #[] #[.pointer (some ⟨P, 0, none⟩), .pointer (some ⟨Q, 0, none⟩)]) (fv0 41) (putF s y) mkE Sy W0 t) (fun t ht => rb_put3 P Q _ _ _ _ W0 (put3_leaf h) t ht) (fun t a b ht iha ihb => rb_with _ _ _ W0 t a b ht iha ihb) t
set_option maxHeartbeats 1000000 in
set_option maxRecDepth 100000 in
theorem fold_any (t : Ex) (w : World) (S : Blocks) (V : Value) (hS : Sub S (Upto w.heap.size)) (r : RdE w S t V) :
    Calls Try.prog 20 #[V] w fun e w' => ∃ U, e = .returned U ∧ RdE w' (Plus S w.heap.size w'.heap.size) (fold doE t) U ∧ Below w.heap.size w w' := by
  obtain ⟨A, c, rfl⟩ := r.form
  have bel : Below w.heap.size w ((w.alloc (.cells #[.int .i64 t.kind, .int .i64 t.num, .string t.name, .slice A t.args.length c] 38)).alloc (.cells #[.int .i64 0, .int .i64 0, .string noS, .slice none 0 0] 38)) := ((Below.refl _ _).alloc (Nat.le_refl _) _).alloc (by simp) _
  have BEL := Lib.hid bel
  have HRD := Lib.hid (r.go bel hS)
  have HSU := Lib.hid (hS.trans (Sub.upto bel.size))
  have HR := Lib.hid (Blk.made (w.alloc (.cells #[.int .i64 t.kind, .int .i64 t.num, .string t.name, .slice A t.args.length c] 38)) [.int .i64 0, .int .i64 0, .string noS, .slice none 0 0] 38 (base := 0) (Nat.zero_le _))
  rw [World.size_alloc] at HR
  have HS := Lib.hid hS
  clear bel r hS
  go_enter Try.func20, Try.ntmps20
  go_wp2_with fail
  refine (fold_all _ t _ S _ (Below.refl _ _) (Sub.nowhere _) HSU.out HRD.out).mono ?_
  rintro e w1 ⟨U, rfl, hU, hb1⟩
  have hU : RdE w1 _ (fold doE t) U := hU
  obtain ⟨A3, n3, rfl⟩ := hU.form
  have hbr := HR.out.below hb1
  have k0 := hbr.cell 0 _ rfl; have k1 := hbr.cell 1 _ rfl; have k2 := hbr.cell 2 _ rfl; have k3 := hbr.cell 3 _ rfl
  have f0 := hbr.fr 0; have f1 := hbr.fr 1; have f2 := hbr.fr 2; have f3 := hbr.fr 3
  have hlt := hbr.lt
  have HU := Lib.hid hU
  have HB1 := Lib.hid hb1
  clear hb1 hbr hU
  go_wp2
  refine bodyPost_ret (v := .agg #[.int .i64 (fold doE t).kind, .int .i64 (fold doE t).num, .string (fold doE t).name, .slice A3 (fold doE t).args.length n3]) (by simp [results, Try.results20, go_sem, k0, k1, k2, k3]) rfl ⟨_, rfl, ?_, ?_⟩
  · show RdE (set4 w1 (w.heap.size + 1) _ _ _ _) _ _ _
    refine HU.out.keep (Sub.plus_mono (by simp; omega) (Nat.le_of_eq (set4_size _ _ _ _ _ _).symm)) (set4_same ?_)
    intro hp
    rcases hp with hp | hp
    · have := HS.out _ hp; unfold Upto at this; omega
    · have := hp.1; simp at this; omega
  · show Below _ _ (set4 w1 (w.heap.size + 1) _ _ _ _)
    exact set4_below (BEL.out.trans (HB1.out.mono BEL.out.size)) (Nat.le_succ _)
end Go.Proofs.Ythbbecmffndgdaa
