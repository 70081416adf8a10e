/- The walk of expr.Put. -/
import Derived.Test.YthbbecmffndgdaaEt4
namespace Go.Proofs.Ythbbecmffndgdaa
open Go.RowKit
set_option linter.unusedVariables false
attribute [local go_sem] run_store_fn
theorem Blk.al {base : Nat} {w : World} {b : Nat} {vs : List Value} (h : Blk base w b vs) (o : Obj) : Blk base (w.alloc o) b vs := h.below ((Below.refl _ _).alloc (Nat.le_refl _) o)
theorem bel1 (w : World) (o : Obj) : Below w.heap.size w (w.alloc o) := (Below.refl _ _).alloc (Nat.le_refl _) _
set_option maxHeartbeats 2000000 in
set_option maxRecDepth 100000 in
theorem put_any (t : Ex) (s : Str) (y : Ex) (w : World) (S : Blocks) (V VY : Value) (hS : Sub S (Upto w.heap.size)) (r : RdE w S t V) (ry : RdE w S y VY) :
    Calls Try.prog 18 #[V, .string s, VY] w fun e w' => ∃ U, e = .returned U ∧ RdE w' (Plus S w.heap.size w'.heap.size) (put s y t) U ∧ Below w.heap.size w w' := by
  obtain ⟨A, c, rfl⟩ := r.form
  obtain ⟨A', c', rfl⟩ := ry.form
  have bel : Below w.heap.size w ((((((w.alloc (.cells #[.int .i64 t.kind, .int .i64 t.num, .string t.name, .slice A t.args.length c] 38)).alloc (.cells #[.string s] 9)).alloc (.cells #[.int .i64 y.kind, .int .i64 y.num, .string y.name, .slice A' y.args.length c'] 38)).alloc (.cells #[.int .i64 0, .int .i64 0, .string noS, .slice none 0 0] 38)).alloc (.cells #[fv0 38] 42)).alloc (.cells #[(.func (.func 39) #[] #[.pointer (some ⟨w.heap.size + 1 + 1, 0, none⟩), .pointer (some ⟨w.heap.size + 1 + 1 + 1 + 1, 0, none⟩)])] 83)) := ((((((Below.refl _ _).alloc (Nat.le_refl _) _).alloc (by simp) _).alloc (by simp; omega) _).alloc (by simp; omega) _).alloc (by simp; omega) _).alloc (by simp; omega) _
  have b1 := (((((Blk.made w [.int .i64 t.kind, .int .i64 t.num, .string t.name, .slice A t.args.length c] 38 (base := 0) (Nat.zero_le _)).al (.cells #[.string s] 9)).al (.cells #[.int .i64 y.kind, .int .i64 y.num, .string y.name, .slice A' y.args.length c'] 38)).al (.cells #[.int .i64 0, .int .i64 0, .string noS, .slice none 0 0] 38)).al (.cells #[fv0 38] 42)).al (.cells #[(.func (.func 39) #[] #[.pointer (some ⟨w.heap.size + 1 + 1, 0, none⟩), .pointer (some ⟨w.heap.size + 1 + 1 + 1 + 1, 0, none⟩)])] 83)
  have b2 := ((((Blk.made (w.alloc (.cells #[.int .i64 t.kind, .int .i64 t.num, .string t.name, .slice A t.args.length c] 38)) [.string s] 9 (base := 0) (Nat.zero_le _)).al (.cells #[.int .i64 y.kind, .int .i64 y.num, .string y.name, .slice A' y.args.length c'] 38)).al (.cells #[.int .i64 0, .int .i64 0, .string noS, .slice none 0 0] 38)).al (.cells #[fv0 38] 42)).al (.cells #[(.func (.func 39) #[] #[.pointer (some ⟨w.heap.size + 1 + 1, 0, none⟩), .pointer (some ⟨w.heap.size + 1 + 1 + 1 + 1, 0, none⟩)])] 83)
  have b3 := (((Blk.made ((w.alloc (.cells #[.int .i64 t.kind, .int .i64 t.num, .string t.name, .slice A t.args.length c] 38)).alloc (.cells #[.string s] 9)) [.int .i64 y.kind, .int .i64 y.num, .string y.name, .slice A' y.args.length c'] 38 (base := 0) (Nat.zero_le _)).al (.cells #[.int .i64 0, .int .i64 0, .string noS, .slice none 0 0] 38)).al (.cells #[fv0 38] 42)).al (.cells #[(.func (.func 39) #[] #[.pointer (some ⟨w.heap.size + 1 + 1, 0, none⟩), .pointer (some ⟨w.heap.size + 1 + 1 + 1 + 1, 0, none⟩)])] 83)
  have b4 := ((Blk.made (((w.alloc (.cells #[.int .i64 t.kind, .int .i64 t.num, .string t.name, .slice A t.args.length c] 38)).alloc (.cells #[.string s] 9)).alloc (.cells #[.int .i64 y.kind, .int .i64 y.num, .string y.name, .slice A' y.args.length c'] 38)) [.int .i64 0, .int .i64 0, .string noS, .slice none 0 0] 38 (base := 0) (Nat.zero_le _)).al (.cells #[fv0 38] 42)).al (.cells #[(.func (.func 39) #[] #[.pointer (some ⟨w.heap.size + 1 + 1, 0, none⟩), .pointer (some ⟨w.heap.size + 1 + 1 + 1 + 1, 0, none⟩)])] 83)
  have b5 := (Blk.made ((((w.alloc (.cells #[.int .i64 t.kind, .int .i64 t.num, .string t.name, .slice A t.args.length c] 38)).alloc (.cells #[.string s] 9)).alloc (.cells #[.int .i64 y.kind, .int .i64 y.num, .string y.name, .slice A' y.args.length c'] 38)).alloc (.cells #[.int .i64 0, .int .i64 0, .string noS, .slice none 0 0] 38)) [fv0 38] 42 (base := 0) (Nat.zero_le _)).al (.cells #[(.func (.func 39) #[] #[.pointer (some ⟨w.heap.size + 1 + 1, 0, none⟩), .pointer (some ⟨w.heap.size + 1 + 1 + 1 + 1, 0, none⟩)])] 83)
  have b6 := Blk.made (((((w.alloc (.cells #[.int .i64 t.kind, .int .i64 t.num, .string t.name, .slice A t.args.length c] 38)).alloc (.cells #[.string s] 9)).alloc (.cells #[.int .i64 y.kind, .int .i64 y.num, .string y.name, .slice A' y.args.length c'] 38)).alloc (.cells #[.int .i64 0, .int .i64 0, .string noS, .slice none 0 0] 38)).alloc (.cells #[fv0 38] 42)) [(.func (.func 39) #[] #[.pointer (some ⟨w.heap.size + 1 + 1, 0, none⟩), .pointer (some ⟨w.heap.size + 1 + 1 + 1 + 1, 0, none⟩)])] 83 (base := 0) (Nat.zero_le _)
  simp only [World.size_alloc] at b1 b2 b3 b4 b5 b6
  have hsu : Sub S (Upto (((((((w.alloc (.cells #[.int .i64 t.kind, .int .i64 t.num, .string t.name, .slice A t.args.length c] 38)).alloc (.cells #[.string s] 9)).alloc (.cells #[.int .i64 y.kind, .int .i64 y.num, .string y.name, .slice A' y.args.length c'] 38)).alloc (.cells #[.int .i64 0, .int .i64 0, .string noS, .slice none 0 0] 38)).alloc (.cells #[fv0 38] 42)).alloc (.cells #[(.func (.func 39) #[] #[.pointer (some ⟨w.heap.size + 1 + 1, 0, none⟩), .pointer (some ⟨w.heap.size + 1 + 1 + 1 + 1, 0, none⟩)])] 83))).heap.size) := hS.trans (Sub.upto bel.size)
  have HRT := Lib.hid (r.go bel hS)
  have HASK := Lib.hid (show Ask ((((((w.alloc (.cells #[.int .i64 t.kind, .int .i64 t.num, .string t.name, .slice A t.args.length c] 38)).alloc (.cells #[.string s] 9)).alloc (.cells #[.int .i64 y.kind, .int .i64 y.num, .string y.name, .slice A' y.args.length c'] 38)).alloc (.cells #[.int .i64 0, .int .i64 0, .string noS, .slice none 0 0] 38)).alloc (.cells #[fv0 38] 42)).alloc (.cells #[(.func (.func 39) #[] #[.pointer (some ⟨w.heap.size + 1 + 1, 0, none⟩), .pointer (some ⟨w.heap.size + 1 + 1 + 1 + 1, 0, none⟩)])] 83)) S s y A' c' (w.heap.size + 1 + 1) (w.heap.size + 1 + 1 + 1 + 1) (w.heap.size + 1) (w.heap.size + 1 + 1 + 1 + 1 + 1) from ⟨⟨b3, b5, ry.go bel hS, hsu⟩, b2, b6⟩)
  have HSU := Lib.hid hsu
  have HR := Lib.hid b4
  have BEL := Lib.hid bel
  have HS := Lib.hid hS
  have hsz : (((((((w.alloc (.cells #[.int .i64 t.kind, .int .i64 t.num, .string t.name, .slice A t.args.length c] 38)).alloc (.cells #[.string s] 9)).alloc (.cells #[.int .i64 y.kind, .int .i64 y.num, .string y.name, .slice A' y.args.length c'] 38)).alloc (.cells #[.int .i64 0, .int .i64 0, .string noS, .slice none 0 0] 38)).alloc (.cells #[fv0 38] 42)).alloc (.cells #[(.func (.func 39) #[] #[.pointer (some ⟨w.heap.size + 1 + 1, 0, none⟩), .pointer (some ⟨w.heap.size + 1 + 1 + 1 + 1, 0, none⟩)])] 83))).heap.size = w.heap.size + 6 := by simp
  have HSZ := Lib.hid hsz
  clear b1 b2 b3 b4 b5 b6 hsu bel r ry hS hsz
  go_enter Try.func18, Try.ntmps18
  go_wp2_with fail
  refine (put_all HASK.out t _ S _ (Below.refl _ _) (Sub.refl _) HSU.out HRT.out).mono ?_
  rintro e w1 ⟨U, rfl, hU, hb1⟩
  have hU : RdE w1 _ (put s y t) U := hU
  obtain ⟨A3, n3, rfl⟩ := hU.form
  have hbr := HR.out.below hb1
  have k0 := hbr.cell 0 _ rfl; have k1 := hbr.cell 1 _ rfl; have k2 := hbr.cell 2 _ rfl; have k3 := hbr.cell 3 _ rfl
  have f0 := hbr.fr 0; have f1 := hbr.fr 1; have f2 := hbr.fr 2; have f3 := hbr.fr 3
  have hlt := hbr.lt
  have HU := Lib.hid hU
  have HB1 := Lib.hid hb1
  clear hb1 hbr hU
  go_wp2
  refine bodyPost_ret (v := .agg #[.int .i64 (put s y t).kind, .int .i64 (put s y t).num, .string (put s y t).name, .slice A3 (put s y t).args.length n3]) (by simp [results, Try.results18, go_sem, k0, k1, k2, k3]) rfl ⟨_, rfl, ?_, ?_⟩
  · show RdE (set4 w1 (w.heap.size + 1 + 1 + 1) _ _ _ _) _ _ _
    refine HU.out.keep (Sub.plus_mono (by have := HSZ.out; omega) (Nat.le_of_eq (set4_size _ _ _ _ _ _).symm)) (set4_same ?_)
    intro hp
    rcases hp with hp | hp
    · have := HS.out _ hp; unfold Upto at this; omega
    · have := hp.1; have := HSZ.out; omega
  · show Below _ _ (set4 w1 (w.heap.size + 1 + 1 + 1) _ _ _ _)
    exact set4_below (BEL.out.trans (HB1.out.mono BEL.out.size)) (by omega)
end Go.Proofs.Ythbbecmffndgdaa
