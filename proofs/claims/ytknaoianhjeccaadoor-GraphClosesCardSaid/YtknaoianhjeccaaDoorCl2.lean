/- The walk of graph.Core: in a loop, a range over a function whose body takes a set from a row's set. -/
import Derived.Test.YtknaoianhjeccaaDoorCl1
import Derived.Test.YtknaoianhjeccaaDoorGsM
import Derived.Test.YtknaoianhjeccaaDoorRegW
import Derived.Shelf.RegionOpen
namespace Go.Proofs.YtknaoianhjeccaaDoor
open Go.RowKit Go.Shelf
set_option linter.unusedVariables false
attribute [local go_sem] Oper.semAt_some
theorem RdL.someKeep {α : Type} {enc : α → List Value} {ok : α → Prop} {size bytes : Nat} {w w' : World} {S : Blocks} {l : List α} {v : Value} (h : RdL (Flat enc ok) size bytes w S l v) (hk : ∀ p u, w.cell? p = some u → w'.cell? p = some u) : RdL (Flat enc ok) size bytes w' S l v := by
  obtain ⟨A, cap, css, h1, h2, h3, h4, h5, ⟨h6, h7⟩, h8⟩ := h
  exact ⟨A, cap, css, h1, h2, h3, h4, h5, ⟨h6, fun hne => by
    obtain ⟨b, off, q1, q2, q3⟩ := h7 hne
    exact ⟨b, off, q1, q2, fun i cs hi j v hj => hk _ _ (q3 i cs hi j v hj)⟩⟩, h8⟩
theorem SetsAt.turn {β : Type} {lo g n top : Nat} (P : β → Nat → Nat → Bool) (hg : g < top) : OwnFrom top (fun (s : β) W => ∃ vs, SetsAt lo W g n (P s) vs) := by
  rintro s W W' row ⟨vs, h⟩ hgr hr
  have hk : ∀ p u, W.cell? p = some u → W'.cell? p = some u := fun p u hp => cell_kept hp hgr (fun r e => (hr r e).2)
  refine ⟨vs, ⟨⟨h.out.ge, Nat.lt_of_lt_of_le h.out.lt hgr.size, fun q v hq => hk _ _ (h.out.cell q v hq), fun o => ?_⟩, h.len, fun i v hi => ?_⟩⟩
  · refine (frozen_of_block (hgr.block g h.out.lt (fun e => ?_))).trans (h.out.fr o)
    have := (hr g e.symm).1
    omega
  · obtain ⟨T, l, h1, h2, h3, h4, h5⟩ := h.row i v hi
    exact ⟨T, l, h1.lift hgr.size, h2, h3, h4, RdL.someKeep h5 hk⟩
theorem But.turn {β : Type} {T : Blocks} {w0 : World} {top : Nat} (h0 : w0.heap.size ≤ top) : OwnFrom top (fun (_ : β) W => But T w0 W) := by
  rintro s W W' row h hg hr
  have h2 := But.of_grown hg
  exact ⟨h2.os.trans h.os, h2.tape.trans h.tape, h2.output.trans h.output, Nat.le_trans h.size h2.size, fun i hi ht => (h2.block i (Nat.lt_of_lt_of_le hi h.size) (fun e => by have := (hr i e).1; omega)).trans (h.block i hi ht)⟩
theorem grownBy_setCellI (W : World) (b i : Nat) (v : Value) : W.grownBy (W.setCell ⟨b, i, none⟩ v) (some b) :=
  ⟨rfl, rfl, rfl, (KeepsWalks.setCell W _ v).size, fun k _ hk => Below.heap_setCell _ _ _ k (fun e => hk (by rw [e]))⟩
/-- rows of the core behind i rows, of row i so much -/
def cAt (n : Nat) (W : Nat → Nat → Bool) (i : Nat) (pre : List Nat) (j m : Nat) : Bool := if j = i then lessW W i pre m else if j < i then coreP true n W j m else false
def cUpto (n : Nat) (W : Nat → Nat → Bool) (i j m : Nat) : Bool := if j < i then coreP true n W j m else false
set_option maxHeartbeats 1600000 in
set_option maxRecDepth 100000 in
theorem core_any (N : Int) (hNi : inI N) (ps : List (Int × Int)) (w : World) (S : Blocks) (ve : Value) (hS : Sub S (Upto w.heap.size)) (hT : Tab w) (r : RdP w S ps ve) :
    Calls Tryd.prog 7 #[.agg #[.int .i64 N, ve]] w fun e w' => ∃ N' x, e = .returned (.tuple #[.agg #[.int .i64 N', x], .int .i64 (wrongE N ps)]) ∧
      (wrongE N ps = 0 → N' = N ∧ RdP w' (Plus Nowhere w.heap.size w'.heap.size) ((edgU (rowP N.toNat (coreP true N.toNat (waysE N.toNat (natsP ps)))) N.toNat).map ceE) x) ∧ (wrongE N ps ≠ 0 → N' = 0 ∧ x = .slice none 0 0) ∧ Below w.heap.size w w' := by
  obtain ⟨A, cap, rfl, hl, hcm, hby⟩ := r.form
  unfold maxLen at hcm
  obtain ⟨i2, hp, hx0, hx1, hx2⟩ := info_parts infoBh
  have b0 := (Blk.made w [.int .i64 N, .slice A ps.length cap] 24 (base := 0) (Nat.zero_le _)).but (But.alloc (T := Nowhere) (But.refl _ _) (.cells #[.int .i64 0, .slice none 0 0] 24)) (fun h => h)
  have b4 := Blk.made (w.alloc (.cells #[.int .i64 N, .slice A ps.length cap] 24)) [.int .i64 0, .slice none 0 0] 24 (base := 0) (Nat.zero_le _)
  have bl : Below w.heap.size w ((w.alloc (.cells #[.int .i64 N, .slice A ps.length cap] 24)).alloc (.cells #[.int .i64 0, .slice none 0 0] 24)) := ((Below.refl _ _).alloc (Nat.le_refl _) _).alloc (by simp) _
  rw [show (w.alloc (.cells #[.int .i64 N, .slice A ps.length cap] 24)).heap.size = w.heap.size + 1 by simp] at b4
  have hsz0 : w.heap.size ≤ (((w.alloc (.cells #[.int .i64 N, .slice A ps.length cap] 24)).alloc (.cells #[.int .i64 0, .slice none 0 0] 24))).heap.size := bl.size
  have k0 := b0.cell 0 _ rfl
  have k1 := b0.cell 1 _ rfl
  have HB0 := Lib.hid b0
  have HB4 := Lib.hid b4
  have BL := Lib.hid bl
  have HT := Lib.hid hT
  have C1 := Lib.hid (behind_any N hNi ps ((w.alloc (.cells #[.int .i64 N, .slice A ps.length cap] 24)).alloc (.cells #[.int .i64 0, .slice none 0 0] 24)) S _ (hS.trans (Sub.upto hsz0)) (hT.go bl) (r.go Flat.keeps bl hS (Sub.refl _)))
  clear b0 b4 bl r hS hT
  refine (callsIn_wide (n := 3)).1 ?_
  refine callsIn_of_wp_marks Tryd.func7 rfl trivial ?_ rfl
  simp only [Tryd.ntmps7, List.size_toArray, List.length_cons, List.length_nil, Nat.reduceAdd, Nat.reduceSub, Array.replicate_succ, Array.replicate_zero, List.push_toArray, List.append_toArray, List.nil_append, List.cons_append]
  gi_wp2
  refine ⟨trivial, ?_⟩
  generalize ((w.alloc (.cells #[.int .i64 N, .slice A ps.length cap] 24)).alloc (.cells #[.int .i64 0, .slice none 0 0] 24)) = W0 at *
  refine (callsIn_wide.2 C1.out).mono ?_
  rintro e w1 ⟨x, rfl, hso, hsn, hb1⟩
  have BL1 := Lib.hid (BL.out.trans (hb1.mono BL.out.size))
  have HB1 := Lib.hid (HB0.out.below hb1)
  have HB41 := Lib.hid (HB4.out.below hb1)
  have h4lt := HB4.out.lt
  have hz1 := hb1.size
  clear C1 BL HB0 HB4 hb1 k0 k1 hsz0
  by_cases hw : wrongE N ps = 0
  · skip
    obtain ⟨g, vs, rfl, hA⟩ := hso hw
    obtain ⟨hn0, hn2, hgd, hrd⟩ := wrongE_zero hw
    obtain ⟨hps, hval⟩ := good_ps hgd
    obtain ⟨n, hnn⟩ : ∃ n : Nat, N = (n : Int) := ⟨N.toNat, by omega⟩
    subst hnn
    rw [Int.toNat_natCast] at hval hrd hA ⊢
    have hn200 : n ≤ 200 := by omega
    obtain ⟨es, hes⟩ : ∃ es, es = natsP ps := ⟨_, rfl⟩
    rw [← hes] at hval hA
    have HES := Lib.hid hes
    have HWL := Lib.hid (fun i j (h : n ≤ j) => show waysE n es i j = false from waysE_lt hval n i j h)
    have HW0 := Lib.hid hw
    have hwl := BL1.out.size
    have HA := Lib.hid hA
    have hmk2 := fun w => run_make1 (P := Tryd.prog) 40 50 i2 _ Tryd.underlying40 hp hx0 hx1 rfl n (by rw [hx2]; omega) (by omega) w
    have bb : Below w1.heap.size w1 (w1.alloc (.cells #[.slice (some ⟨g, 0, none⟩) n n] 40)) := (Below.refl _ _).alloc (Nat.le_refl _) _
    have k0 := (HB1.out.below bb).cell 0 _ rfl
    rw [hw]
    clear hw hgd hrd hes hps hval hn0 hn2 hso hsn hA
    gi_wp2
    have e1 : ((w1.alloc (.cells #[.slice (some ⟨g, 0, none⟩) n n] 40))).heap.size = w1.heap.size + 1 := by simp
    have e2 : (((w1.alloc (.cells #[.slice (some ⟨g, 0, none⟩) n n] 40))).alloc (.cells (Array.replicate n (.slice none 0 0)) 50)).heap.size = w1.heap.size + 1 + 1 := by simp
    have b12 : Below w1.heap.size w1 (((w1.alloc (.cells #[.slice (some ⟨g, 0, none⟩) n n] 40))).alloc (.cells (Array.replicate n (.slice none 0 0)) 50)) := bb.alloc (by omega) _
    have b2 : Below w1.heap.size w1 (((w1.alloc (.cells #[.slice (some ⟨g, 0, none⟩) n n] 40)).alloc (.cells (Array.replicate n (.slice none 0 0)) 50)).alloc (.cells #[.slice (some ⟨w1.heap.size + 1, 0, none⟩) n n] 40)) := b12.alloc (by omega) _
    have hz2 : w1.heap.size + 1 + 1 < ((((w1.alloc (.cells #[.slice (some ⟨g, 0, none⟩) n n] 40)).alloc (.cells (Array.replicate n (.slice none 0 0)) 50)).alloc (.cells #[.slice (some ⟨w1.heap.size + 1, 0, none⟩) n n] 40))).heap.size := by simp
    have zb : Boxed (((w1.alloc (.cells #[.slice (some ⟨g, 0, none⟩) n n] 40)).alloc (.cells (Array.replicate n (.slice none 0 0)) 50)).alloc (.cells #[.slice (some ⟨w1.heap.size + 1, 0, none⟩) n n] 40)) w1.heap.size 40 (.slice (some ⟨g, 0, none⟩) n n) := ((Boxed.new w1 40 (.slice (some ⟨g, 0, none⟩) n n)).alloc _).alloc _
    have z6 : Boxed (((w1.alloc (.cells #[.slice (some ⟨g, 0, none⟩) n n] 40)).alloc (.cells (Array.replicate n (.slice none 0 0)) 50)).alloc (.cells #[.slice (some ⟨w1.heap.size + 1, 0, none⟩) n n] 40)) (w1.heap.size + 1 + 1) 40 (.slice (some ⟨w1.heap.size + 1, 0, none⟩) n n) := by
      have := Boxed.new (((w1.alloc (.cells #[.slice (some ⟨g, 0, none⟩) n n] 40))).alloc (.cells (Array.replicate n (.slice none 0 0)) 50)) 40 (.slice (some ⟨w1.heap.size + 1, 0, none⟩) n n)
      rwa [e2] at this
    have bg : Blk 0 (((w1.alloc (.cells #[.slice (some ⟨g, 0, none⟩) n n] 40)).alloc (.cells (Array.replicate n (.slice none 0 0)) 50)).alloc (.cells #[.slice (some ⟨w1.heap.size + 1, 0, none⟩) n n] 40)) (w1.heap.size + 1) (List.replicate n (.slice none 0 0)) := by
      have := (Blk.madeN (w1.alloc (.cells #[.slice (some ⟨g, 0, none⟩) n n] 40)) n (.slice none 0 0) 50 (base := 0) (Nat.zero_le _)).but (But.alloc (T := Nowhere) (But.refl _ _) (.cells #[.slice (some ⟨w1.heap.size + 1, 0, none⟩) n n] 40)) (fun h => h)
      rwa [e1] at this
    have CA := Lib.hid ((SetsAt.nil 0 bg).congr (Q := cUpto n (waysE n es) 0) (fun i j _ => by unfold cUpto; rw [if_neg (by omega)]))
    have B2 := Lib.hid b2
    have ZB := Lib.hid zb
    have Z6 := Lib.hid z6
    have hg0 : 0 < w.heap.size := HT.out.2
    have hglt := HA.out.out.lt
    clear bb b12 b2 bg zb z6 e1 e2 k0 hmk2
    generalize (((w1.alloc (.cells #[.slice (some ⟨g, 0, none⟩) n n] 40)).alloc (.cells (Array.replicate n (.slice none 0 0)) 50)).alloc (.cells #[.slice (some ⟨w1.heap.size + 1, 0, none⟩) n n] 40)) = W2 at *
    refine wpIn_loop (fun a' wr => ∃ (u7 u8 u24 u25 u26 u27 u28 u29 u30 u31 u32 u33 u34 u48 : Value) (ds : List Deferred), (∃ i : Nat, i ≤ n ∧ u24 = .int .i64 i ∧ ∃ vs, Hid (SetsAt 0 wr (w1.heap.size + 1) n (cUpto n (waysE n es) i) vs) ∧ Hid (But (Is (w1.heap.size + 1)) W2 wr) ∧ Hid (Marks w1.heap.size wr ds)) ∧ a' = { tmps := #[.agg #[.int .i64 (n : Int), .slice A ps.length cap], .pointer (some ⟨w.heap.size, 0, none⟩), .pointer (some ⟨w.heap.size + 1, 0, none⟩), .int .i64 0, .pointer (some ⟨w1.heap.size, 0, none⟩), .int .i64 0, .pointer (some ⟨w1.heap.size + 1 + 1, 0, none⟩), u7, u8, undef, .tuple #[.slice (some ⟨g, 0, none⟩) n n, .int .i64 0], .agg #[.int .i64 (n : Int), .slice A ps.length cap], .tuple #[.slice (some ⟨g, 0, none⟩) n n, .int .i64 0], .slice (some ⟨g, 0, none⟩) n n, .int .i64 0, .int .i64 0, .bool false, undef, undef, .pointer (some ⟨w.heap.size, 0, none⟩), .int .i64 (n : Int), .slice (some ⟨w1.heap.size + 1, 0, none⟩) n n, .slice (some ⟨g, 0, none⟩) n n, .int .i64 (n : Int), u24, u25, u26, u27, u28, u29, u30, u31, u32, u33, u34, undef, undef, undef, undef, undef, undef, undef, undef, undef, undef, undef, undef, undef, u48, undef, undef, undef, undef, undef], defers := ds }) (fun a' _ => n - (intOf (a'.tmps.getD 24 undef)).toNat) ?start ?round
    case start =>
      (repeat apply Exists.intro)
      refine ⟨⟨0, by omega, rfl, _, CA, Lib.hid (But.refl _ _), Lib.hid (Marks.nil _ _)⟩, rfl⟩
    case round =>
      clear CA
      rintro a' wr ⟨u7, u8, u24, u25, u26, u27, u28, u29, u30, u31, u32, u33, u34, u48, ds, ⟨i, hin, rfl, vs, C, HBT, HM⟩, rfl⟩
      try dsimp only
      have hbel : Below w1.heap.size w1 wr := B2.out.trans (HBT.out.below (Nat.le_of_lt (by omega)) (fun k h => by have h2 : k = w1.heap.size + 1 := h; omega))
      have HBEL := Lib.hid hbel
      have hwr := HBT.out.size
      by_cases hlt : i < n
      · skip
        obtain ⟨T, l, A', c', hTs, _, _, hset, hrd, hce, _⟩ := HA.out.at_ hlt
        have HTS := Lib.hid hTs
        have HSET := Lib.hid hset
        have HMEM := Lib.hid (show memB l l.length = rowP n (waysE n es) i from hset.mem (fun m h => HWL.out i m h))
        have e0 := (hbel.cell (p := ⟨g, i, none⟩) hglt).trans hce
        have HRD := Lib.hid (hrd.keep Flat.keeps (Sub.refl _) (same_of_below hbel hTs))
        have bc : Below wr.heap.size wr (wr.alloc (.cells #[.int .i64 (i : Int)] 3)) := (Below.refl _ _).alloc (Nat.le_refl _) _
        have C1 := C.out.below bc
        have HRC := Lib.hid (HRD.out.keep Flat.keeps (Sub.refl _) (same_of_below bc (hTs.trans (Sub.upto hbel.size))))
        have c6 : ((wr.alloc (.cells #[.int .i64 (i : Int)] 3))).cell? ⟨w1.heap.size + 1 + 1, 0, none⟩ = some (.slice (some ⟨w1.heap.size + 1, 0, none⟩) n n) := (bc.cell (p := ⟨w1.heap.size + 1 + 1, 0, none⟩) (show w1.heap.size + 1 + 1 < wr.heap.size by omega)).trans (HBT.out.cell (fun h => by have h2 : w1.heap.size + 1 + 1 = w1.heap.size + 1 := h; omega) Z6.out.cell)
        obtain ⟨_, lo0, A0, c0, _, _, _, _, _, cg0, _⟩ := C1.at_ hlt
        have fg0 := C1.out.fr i
        have SD := C1.set hlt (T := T) (l := l) (v := .slice A' l.length c') (Q := waysE n es i) (hTs.trans (Sub.upto (Nat.le_trans hbel.size bc.size))) (fun _ _ => Nat.zero_le _) (fun h => by have := hTs _ h; unfold Upto at this; omega) hset HRC.out
        gi_wp2
        refine ⟨trivial, ?_⟩
        refine (all_in _ _ _ _ _).mono ?_
        rintro e w2 ⟨rfl, rfl⟩
        gi_wp2
        have zd : ((((wr.alloc (.cells #[.int .i64 (i : Int)] 3))).setCell ⟨w1.heap.size + 1, i, none⟩ (.slice A' l.length c'))).heap.size = wr.heap.size + 1 := by rw [size_setCell]; simp
        have hcS : ((((((wr.alloc (.cells #[.int .i64 (i : Int)] 3))).setCell ⟨w1.heap.size + 1, i, none⟩ (.slice A' l.length c'))).alloc (.cells #[.slice A' l.length c'] 53))).cell? ⟨wr.heap.size + 1, 0, none⟩ = some (.slice A' l.length c') := by
          have := (Boxed.new (((wr.alloc (.cells #[.int .i64 (i : Int)] 3))).setCell ⟨w1.heap.size + 1, i, none⟩ (.slice A' l.length c')) 53 (.slice A' l.length c')).cell
          rwa [zd] at this
        have hib : Boxed (((((wr.alloc (.cells #[.int .i64 (i : Int)] 3))).setCell ⟨w1.heap.size + 1, i, none⟩ (.slice A' l.length c'))).alloc (.cells #[.slice A' l.length c'] 53)) wr.heap.size 3 (.int .i64 (i : Int)) := ((Boxed.new wr 3 (.int .i64 (i : Int))).kept (grownBy_setCellI _ _ _ _) (fun e => by injection e with e; omega)).alloc _
        have bd : Below ((((wr.alloc (.cells #[.int .i64 (i : Int)] 3))).setCell ⟨w1.heap.size + 1, i, none⟩ (.slice A' l.length c'))).heap.size (((wr.alloc (.cells #[.int .i64 (i : Int)] 3))).setCell ⟨w1.heap.size + 1, i, none⟩ (.slice A' l.length c')) (((((wr.alloc (.cells #[.int .i64 (i : Int)] 3))).setCell ⟨w1.heap.size + 1, i, none⟩ (.slice A' l.length c'))).alloc (.cells #[.slice A' l.length c'] 53)) := (Below.refl _ _).alloc (Nat.le_refl _) _
        have b3 : Below w1.heap.size w1 (((((wr.alloc (.cells #[.int .i64 (i : Int)] 3))).setCell ⟨w1.heap.size + 1, i, none⟩ (.slice A' l.length c'))).alloc (.cells #[.slice A' l.length c'] 53)) := ((hbel.trans (bc.mono hbel.size)).setCell (p := ⟨w1.heap.size + 1, i, none⟩) (Nat.le_succ _) _).alloc (by rw [zd]; have := hbel.size; omega) _
        have t3 : But (Is (w1.heap.size + 1)) W2 (((((wr.alloc (.cells #[.int .i64 (i : Int)] 3))).setCell ⟨w1.heap.size + 1, i, none⟩ (.slice A' l.length c'))).alloc (.cells #[.slice A' l.length c'] 53)) := ((HBT.out.alloc _).setCell (p := ⟨w1.heap.size + 1, i, none⟩) rfl _).alloc _
        have REW := Lib.hid (hrd.keep Flat.keeps (Sub.refl _) (same_of_below b3 hTs))
        have SD3 := Lib.hid ((SD.below bd).congr (Q := cAt n (waysE n es) i []) (fun j m _ => by
          unfold cAt cUpto
          by_cases e : j = i
          · rw [if_pos e, if_pos e, lessW_nil]
          · rw [if_neg e, if_neg e]))
        have hsz3 : ((((((wr.alloc (.cells #[.int .i64 (i : Int)] 3))).setCell ⟨w1.heap.size + 1, i, none⟩ (.slice A' l.length c'))).alloc (.cells #[.slice A' l.length c'] 53))).heap.size = wr.heap.size + 1 + 1 := by rw [World.size_alloc, zd]
        have hMB : MarksB w1.heap.size ((((((wr.alloc (.cells #[.int .i64 (i : Int)] 3))).setCell ⟨w1.heap.size + 1, i, none⟩ (.slice A' l.length c'))).alloc (.cells #[.slice A' l.length c'] 53))).heap.size (((((wr.alloc (.cells #[.int .i64 (i : Int)] 3))).setCell ⟨w1.heap.size + 1, i, none⟩ (.slice A' l.length c'))).alloc (.cells #[.slice A' l.length c'] 53)) ds := ((((HM.out.keeps (KeepsOthers.alloc _ _)).keeps (KeepsOthers.setCell _ _ _)).keeps (KeepsOthers.alloc _ _))).held (Nat.le_refl _)
        have TW := HT.out.go (BL1.out.trans (b3.mono BL1.out.size))
        obtain ⟨W3, hW3⟩ : ∃ W3, (((((wr.alloc (.cells #[.int .i64 (i : Int)] 3))).setCell ⟨w1.heap.size + 1, i, none⟩ (.slice A' l.length c'))).alloc (.cells #[.slice A' l.length c'] 53)) = W3 := ⟨_, rfl⟩
        rw [hW3] at hcS hib b3 t3 REW SD3 hsz3 hMB TW ⊢
        clear hW3 SD bd zd C1 C HRC HRD hrd hset hTs hce bc c6 cg0 fg0 HM
        have htop := Nat.le_of_eq hsz3
        have htop2 := Nat.le_of_eq hsz3.symm
        clear hsz3
        have hzw := b3.size
        refine wpIn_rangeFunc_ownH rfl (by omega) (gf := 30) (lb := #[.pointer (some ⟨wr.heap.size + 1, 0, none⟩)]) rfl trivial (enters_of Tryd.func30 (by kernel_rfl) rfl)
          (all_stopsM _ (by omega) (wr.heap.size + 1) w1.heap.size A' c' l T HTS.out W3 (by omega) hzw TW (by omega) hcS REW.out) belowK_t (belowK_b hzw) (Below.refl _ _) (fun _ => rfl)
          (fun pre W => ((∃ vs, SetsAt 0 W (w1.heap.size + 1) n (cAt n (waysE n es) i (pre.map Subtype.val)) vs) ∧ Boxed W wr.heap.size 3 (.int .i64 (i : Int))) ∧ (MarksB w1.heap.size W3.heap.size W ds ∧ But (Is (w1.heap.size + 1)) W2 W))
          (fun c pre W => False)
          (OwnFrom.and (OwnFrom.and (SetsAt.turn (fun pre : List { x : Nat // x ∈ memB l l.length } => cAt n (waysE n es) i (pre.map Subtype.val)) (by omega)) (fun _ _ _ _ hs hg hr => hs.kept hg (fun e => by have := (hr _ e.symm).1; omega)))
            (OwnFrom.and (MarksB.from _ _ _) (But.turn (by omega))))
          (fun c => fun _ _ _ _ h _ _ => h)
          ⟨⟨⟨_, SD3.out⟩, hib⟩, hMB, t3⟩
          (fun x a' W => a' = { tmps := #[.agg #[.int .i64 (n : Int), .slice A ps.length cap], .pointer (some ⟨w.heap.size, 0, none⟩), .pointer (some ⟨w.heap.size + 1, 0, none⟩), .int .i64 0, .pointer (some ⟨w1.heap.size, 0, none⟩), .int .i64 0, .pointer (some ⟨w1.heap.size + 1 + 1, 0, none⟩), .pointer (some ⟨wr.heap.size, 0, none⟩), .slice A' l.length c', .int .i64 (x.1 : Int), .tuple #[.slice (some ⟨g, 0, none⟩) n n, .int .i64 0], .agg #[.int .i64 (n : Int), .slice A ps.length cap], .tuple #[.slice (some ⟨g, 0, none⟩) n n, .int .i64 0], .slice (some ⟨g, 0, none⟩) n n, .int .i64 0, .int .i64 0, .bool false, undef, undef, .pointer (some ⟨w.heap.size, 0, none⟩), .int .i64 (n : Int), .slice (some ⟨w1.heap.size + 1, 0, none⟩) n n, .slice (some ⟨g, 0, none⟩) n n, .int .i64 (n : Int), .int .i64 (i : Int), .bool true, .int .i64 (i : Int), .pointer (some ⟨g, i, none⟩), .slice A' l.length c', .slice (some ⟨w1.heap.size + 1, 0, none⟩) n n, .int .i64 (i : Int), .slice A' l.length c', .pointer (some ⟨w1.heap.size + 1, i, none⟩), .slice A' l.length c', .func (.func 30) #[] #[.pointer (some ⟨wr.heap.size + 1, 0, none⟩)], .int .i64 (x.1 : Int), undef, undef, undef, undef, undef, undef, undef, undef, undef, undef, undef, undef, u48, undef, undef, undef, undef, undef], defers := [] })
          (fun x a' _ X Y row hs hg hr => hs)
          ?assign ?body ?done ?stop
        case assign =>
          rintro l' pre x W K hI hK
          gi_wp2
          exact hK _ _ (KeepsFrom.refl _ _) (Below.refl _ _) hI rfl
        case body =>
          rintro l' pre x a' W hl' ⟨r, hr⟩ ⟨⟨⟨vs3, hC⟩, hib⟩, hMB, hBT⟩ rfl hlt2
          dsimp only
          obtain ⟨x, hxm⟩ := x
          dsimp only
          have hxr := rowP_mem (by rw [← HMEM.out]; exact hxm : x ∈ rowP n (waysE n es) i)
          have hxn := hxr.1
          have hBD := hBT.drew
          have hdr : Below W.heap.size W W.drew := (Below.refl _ _).drew
          have hC2 := hC.below hdr
          have hzW := hBT.size
          have hblD : Below w1.heap.size w1 W.drew := B2.out.trans (hBD.below (Nat.le_of_lt (by omega)) (fun k h => by have h2 : k = w1.heap.size + 1 := h; omega))
          have HGX := (HA.out.below hblD)
          obtain ⟨T1, l1, A1, c1, q1, _, q3, q4, q5, q6, q7⟩ := hC2.at_ hlt
          obtain ⟨T2, l2, A2, c2, p1, _, p3, p4, p5, p6, _⟩ := HGX.at_ hxn
          have CL := Lib.hid (bsLess_any l1 l2 W.drew T1 T2 _ _ q1 p1 q5 p5)
          have f6 := q6
          have f4 := hBD.cell (p := ⟨w1.heap.size, 0, none⟩) (fun h => by have h2 : w1.heap.size = w1.heap.size + 1 := h; omega) ZB.out.cell
          have f5 := hBD.cell (p := ⟨w1.heap.size + 1 + 1, 0, none⟩) (fun h => by have h2 : w1.heap.size + 1 + 1 = w1.heap.size + 1 := h; omega) Z6.out.cell
          have f7 : W.drew.cell? ⟨wr.heap.size, 0, none⟩ = some (.int .i64 (i : Int)) := hib.cell
          have ff := hC2.out.fr i
          have hmix : Tryd.prog.follows .mixedOrders = true := by kernel_rfl
          clear HGX p3 q3 q1 p1
          gi_wp2
          refine region_round (fun w' => w'.cell? ⟨w1.heap.size + 1 + 1, 0, none⟩ = some (.slice (some ⟨w1.heap.size + 1, 0, none⟩) n n) ∧ w'.cell? ⟨wr.heap.size, 0, none⟩ = some (.int .i64 (i : Int)) ∧ w'.cell? ⟨w1.heap.size, 0, none⟩ = some (.slice (some ⟨g, 0, none⟩) n n) ∧ w'.cell? ⟨g, x, none⟩ = some (.slice A2 l2.length c2)) (by kernel_rfl) (by kernel_rfl) ?lets ?_
          case lets => rintro ⟨_, _, h⟩; exact h
          have hS0 : W.drew.cell? ⟨w1.heap.size + 1 + 1, 0, none⟩ = some (.slice (some ⟨w1.heap.size + 1, 0, none⟩) n n) ∧ W.drew.cell? ⟨wr.heap.size, 0, none⟩ = some (.int .i64 (i : Int)) ∧ W.drew.cell? ⟨w1.heap.size, 0, none⟩ = some (.slice (some ⟨g, 0, none⟩) n n) ∧ W.drew.cell? ⟨g, x, none⟩ = some (.slice A2 l2.length c2) := ⟨f5, f7, f4, p6⟩
          --[[
          change wpAnyH _ _ _ _ _ 13 #[false, false, false, false, false, false, false, false, false, false, false, false, false] _ _
          refine wpAnyH_take (i := 0) (oi := { dst := some 36, op := Op.load 40 (Operand.tmp 6), type := 40, pos := "graph.go:122", after := #[], guard := none }) (v := .slice (some ⟨w1.heap.size + 1, 0, none⟩) n n) rfl (by kernel_rfl) (by kernel_rfl) (by kernel_rfl) (fun _ _ _ h => h) (Or.inl ⟨by rfl, ?_⟩) (by assumption) ?_
          · intro w9 hS9
            obtain ⟨s1, s2, s3, s4⟩ := hS9
            go_simp
            try with_reducible rfl
          (try simp only [Act.put, List.setIfInBounds_toArray, List.set_cons_zero, List.set_cons_succ])
          refine wpAnyH_take (i := 1) (oi := { dst := some 37, op := Op.load 3 (Operand.tmp 7), type := 3, pos := "graph.go:122", after := #[], guard := none }) (v := .int .i64 (i : Int)) rfl (by kernel_rfl) (by kernel_rfl) (by kernel_rfl) (fun _ _ _ h => h) (Or.inl ⟨by rfl, ?_⟩) (by assumption) ?_
          · intro w9 hS9
            obtain ⟨s1, s2, s3, s4⟩ := hS9
            go_simp
            try with_reducible rfl
          (try simp only [Act.put, List.setIfInBounds_toArray, List.set_cons_zero, List.set_cons_succ])
          refine wpAnyH_take (i := 2) (oi := { dst := some 38, op := Op.load 40 (Operand.tmp 6), type := 40, pos := "graph.go:122", after := #[], guard := none }) (v := .slice (some ⟨w1.heap.size + 1, 0, none⟩) n n) rfl (by kernel_rfl) (by kernel_rfl) (by kernel_rfl) (fun _ _ _ h => h) (Or.inl ⟨by rfl, ?_⟩) (by assumption) ?_
          · intro w9 hS9
            obtain ⟨s1, s2, s3, s4⟩ := hS9
            go_simp
            try with_reducible rfl
          (try simp only [Act.put, List.setIfInBounds_toArray, List.set_cons_zero, List.set_cons_succ])
          refine wpAnyH_take (i := 3) (oi := { dst := some 39, op := Op.load 3 (Operand.tmp 7), type := 3, pos := "graph.go:122", after := #[], guard := none }) (v := .int .i64 (i : Int)) rfl (by kernel_rfl) (by kernel_rfl) (by kernel_rfl) (fun _ _ _ h => h) (Or.inl ⟨by rfl, ?_⟩) (by assumption) ?_
          · intro w9 hS9
            obtain ⟨s1, s2, s3, s4⟩ := hS9
            go_simp
            try with_reducible rfl
          (try simp only [Act.put, List.setIfInBounds_toArray, List.set_cons_zero, List.set_cons_succ])
          refine wpAnyH_take (i := 4) (oi := { dst := some 40, op := Op.indexAddr 40 (Operand.tmp 38) (Operand.tmp 39), type := 0, pos := "graph.go:122", after := #[{ on := 2, ground := Ground.data }, { on := 3, ground := Ground.data }], guard := none }) (v := .pointer (some ⟨w1.heap.size + 1, i, none⟩)) rfl (by kernel_rfl) (by kernel_rfl) (by kernel_rfl) (fun _ _ _ h => h) (Or.inl ⟨by rfl, ?_⟩) (by assumption) ?_
          · intro w9 hS9
            obtain ⟨s1, s2, s3, s4⟩ := hS9
            go_simp
            try with_reducible rfl
          (try simp only [Act.put, List.setIfInBounds_toArray, List.set_cons_zero, List.set_cons_succ])
          refine wpAnyH_take (i := 6) (oi := { dst := some 42, op := Op.load 40 (Operand.tmp 4), type := 40, pos := "graph.go:122", after := #[], guard := none }) (v := .slice (some ⟨g, 0, none⟩) n n) rfl (by kernel_rfl) (by kernel_rfl) (by kernel_rfl) (fun _ _ _ h => h) (Or.inl ⟨by rfl, ?_⟩) (by assumption) ?_
          · intro w9 hS9
            obtain ⟨s1, s2, s3, s4⟩ := hS9
            go_simp
            try with_reducible rfl
          (try simp only [Act.put, List.setIfInBounds_toArray, List.set_cons_zero, List.set_cons_succ])
          refine wpAnyH_take (i := 7) (oi := { dst := some 43, op := Op.move (Operand.tmp 9), type := 3, pos := "graph.go:122", after := #[], guard := none }) (v := .int .i64 (x : Int)) rfl (by kernel_rfl) (by kernel_rfl) (by kernel_rfl) (fun _ _ _ h => h) (Or.inl ⟨by rfl, ?_⟩) (by assumption) ?_
          · intro w9 hS9
            obtain ⟨s1, s2, s3, s4⟩ := hS9
            go_simp
            try with_reducible rfl
          (try simp only [Act.put, List.setIfInBounds_toArray, List.set_cons_zero, List.set_cons_succ])
          refine wpAnyH_take (i := 8) (oi := { dst := some 44, op := Op.indexAddr 40 (Operand.tmp 42) (Operand.tmp 43), type := 0, pos := "graph.go:122", after := #[{ on := 6, ground := Ground.data }, { on := 7, ground := Ground.data }], guard := none }) (v := .pointer (some ⟨g, x, none⟩)) rfl (by kernel_rfl) (by kernel_rfl) (by kernel_rfl) (fun _ _ _ h => h) (Or.inl ⟨by rfl, ?_⟩) (by assumption) ?_
          · intro w9 hS9
            obtain ⟨s1, s2, s3, s4⟩ := hS9
            go_simp
            try with_reducible rfl
          (try simp only [Act.put, List.setIfInBounds_toArray, List.set_cons_zero, List.set_cons_succ])
          refine wpAnyH_take (i := 9) (oi := { dst := some 45, op := Op.load 50 (Operand.tmp 44), type := 50, pos := "graph.go:122", after := #[{ on := 8, ground := Ground.data }], guard := none }) (v := .slice A2 l2.length c2) rfl (by kernel_rfl) (by kernel_rfl) (by kernel_rfl) (fun _ _ _ h => h) (Or.inl ⟨by rfl, ?_⟩) (by assumption) ?_
          · intro w9 hS9
            obtain ⟨s1, s2, s3, s4⟩ := hS9
            go_simp
            try with_reducible rfl
          (try simp only [Act.put, List.setIfInBounds_toArray, List.set_cons_zero, List.set_cons_succ])
          refine wpAnyH_ready (rs := [5]) (by kernel_rfl) (by simp) ?_
          refine AllReadyH.cons rfl (fun K hK => ?_) AllReadyH.nil
          go_simp
          refine hK.out _ _ hS0 (fun hS1 => ?_)
          clear hK K hS0
          (try dsimp only)
          refine wpAnyH_ready (rs := [10]) (by kernel_rfl) (by simp) ?_
          refine AllReadyH.cons rfl (fun K hK => ?_) AllReadyH.nil
          go_simp
          go_wp2_with (go_at_call 18; refine CL.out.mono ?_; rintro e w5 hout; obtain ⟨A3, c3, rfl, hx3, hb3⟩ := hout.len; have f55 := (hb3.cell (p := ⟨w1.heap.size + 1 + 1, 0, none⟩) (show w1.heap.size + 1 + 1 < W.heap.size by omega)).trans f5; have f57 := (hb3.cell (p := ⟨wr.heap.size, 0, none⟩) hib.lt).trans f7; have f54 := (hb3.cell (p := ⟨w1.heap.size, 0, none⟩) (show w1.heap.size < W.heap.size by omega)).trans f4; have f58 := (hb3.cell (p := ⟨g, x, none⟩) (show g < W.heap.size by omega)).trans hS1.2.2.2; have f56 := (hb3.cell (p := ⟨w1.heap.size + 1, i, none⟩) hC2.out.lt).trans f6; have ff5 := (hb3.frozen (p := ⟨w1.heap.size + 1, i, none⟩) hC2.out.lt).trans ff)
          refine hK.out _ _ ⟨f55, f57, f54, f58⟩ (fun hS2 => ?_)
          clear hK K hS1 f54 f58
          (try dsimp only)
          refine wpAnyH_take (i := 11) (oi := { dst := some 47, op := Op.indexAddr 40 (Operand.tmp 36) (Operand.tmp 37), type := 0, pos := "graph.go:122", after := #[{ on := 0, ground := Ground.data }, { on := 1, ground := Ground.data }, { on := 0, ground := Ground.phase }, { on := 1, ground := Ground.phase }, { on := 2, ground := Ground.phase }, { on := 3, ground := Ground.phase }, { on := 4, ground := Ground.phase }, { on := 5, ground := Ground.phase }, { on := 6, ground := Ground.phase }, { on := 7, ground := Ground.phase }, { on := 8, ground := Ground.phase }, { on := 9, ground := Ground.phase }, { on := 10, ground := Ground.phase }], guard := none }) (v := .pointer (some ⟨w1.heap.size + 1, i, none⟩)) rfl (by kernel_rfl) (by kernel_rfl) (by kernel_rfl) (fun _ _ _ h => h) (Or.inl ⟨by rfl, ?_⟩) (by assumption) ?_
          · intro w9 hS9
            obtain ⟨s1, s2, s3, s4⟩ := hS9
            go_simp
            try with_reducible rfl
          (try simp only [Act.put, List.setIfInBounds_toArray, List.set_cons_zero, List.set_cons_succ])
          refine wpAnyH_ready (rs := [12]) (by kernel_rfl) (by simp) ?_
          refine AllReadyH.cons rfl (fun K hK => ?_) AllReadyH.nil
          go_simp
          refine hK.out _ _ ?sx (fun hS3 => wpAnyH_done (by kernel_rfl) ?_ _)
          case sx =>
            refine ⟨?_, ?_, ?_, ?_⟩
            · exact (World.cell?_setCell_other _ _ _ _ (fun e => by injection e with e1 e2; omega)).trans hS2.1
            · exact (World.cell?_setCell_other _ _ _ _ (fun e => by injection e with e1 e2; omega)).trans hS2.2.1
            · exact (World.cell?_setCell_other _ _ _ _ (fun e => by injection e with e1 e2; omega)).trans hS2.2.2.1
            · exact (World.cell?_setCell_other _ _ _ _ (fun e => by injection e with e1 e2; omega)).trans hS2.2.2.2
          clear hK K hS2
          have hko : KeepsOthers W (w5.setCell ⟨w1.heap.size + 1, i, none⟩ (.slice A3 (zipB bsLess l1 l2).length c3)) := ((KeepsOthers.drew W).trans ⟨hb3.size, fun k o hk ho => (hb3.block k (Array.getElem?_eq_some_iff.1 hk).1).trans hk⟩).trans (KeepsOthers.setCell _ _ _)
          have hsd : W.drew.heap.size = W.heap.size := rfl
          have hz5 := hb3.size
          have hcs := ((hC2.below hb3).set hlt (T := Plus Nowhere W.drew.heap.size w5.heap.size) plus_upto (fun _ _ => Nat.zero_le _) (fun h => h.elim (fun h => h.elim) (fun h => by have := h.1; omega)) (less_is q4 p4) hx3).congr (Q := cAt n (waysE n es) i ((pre ++ ([⟨x, hxm⟩] : List { x : Nat // x ∈ memB l l.length })).map Subtype.val)) (fun j m _ => by
            unfold cAt
            by_cases e : j = i
            · rw [if_pos e, if_pos e, List.map_append]; exact (by rw [if_pos rfl]; exact (lessW_snoc _ _ _ _ _).symm)
            · rw [if_neg e, if_neg e, if_neg e])
          exact ⟨hko.from _, (((Below.refl _ _).drew.trans (hb3.mono (show w1.heap.size ≤ W.drew.heap.size by omega))).setCell (p := ⟨w1.heap.size + 1, i, none⟩) (Nat.le_succ _) _), ⟨⟨⟨_, hcs⟩, Boxed.kept ((hb3.block _ hib.lt).trans hib) (grownBy_setCellI _ _ _ _) (fun e => by injection e with e; omega)⟩, hMB.keeps hko, (hBD.trans (But.of_below hb3)).setCell (p := ⟨w1.heap.size + 1, i, none⟩) rfl _⟩⟩
          --]]
        case done =>
          rintro D ys W hD hys ⟨⟨⟨vs3, hC⟩, hib⟩, hMB, hBT⟩ hK
          have hyl : ys.map Subtype.val = rowP n (waysE n es) i := by rw [← HMEM.out]; exact hys
          have CN := Lib.hid (hC.congr (Q := cUpto n (waysE n es) (i + 1)) (fun j m _ => by
            unfold cAt cUpto
            by_cases e : j = i
            · rw [if_pos e, if_pos (by omega), hyl, lessW_all, e]
            · rw [if_neg e]
              by_cases h : j < i
              · rw [if_pos h, if_pos (by omega)]
              · rw [if_neg h, if_neg (by omega)]))
          have HM2 := Lib.hid (hMB.more (by omega) hD hK)
          have HB2 := Lib.hid hBT
          clear hib hMB hK hC hBT hyl hys
          gi_wp2
          refine ⟨?rel, ?measure⟩
          case rel =>
            (repeat apply Exists.intro)
            refine ⟨?_, rfl⟩
            exact ⟨i + 1, by omega, by go_num, _, CN, HB2, HM2⟩
          case measure => simp [intOf]; omega
        case stop =>
          rintro D c' pre W hD hpre h hK
          exact h.elim
      · skip
        have hie : i = n := by omega
        subst hie
        have hbd : Below wr.heap.size wr wr.drew := (Below.refl _ _).drew
        have hBT := HBT.out.drew
        have HBW := Lib.hid (BL1.out.trans ((hbel.trans (hbd.mono hbel.size)).mono hwl))
        have f1 : wr.drew.cell? ⟨w.heap.size, 0, none⟩ = some (.int .i64 (i : Int)) := ((hbel.trans (hbd.mono hbel.size)).cell (p := ⟨w.heap.size, 0, none⟩) (show w.heap.size < w1.heap.size by omega)).trans (HB1.out.cell 0 _ rfl)
        have f6 := hBT.cell (p := ⟨w1.heap.size + 1 + 1, 0, none⟩) (fun h => by have h2 : w1.heap.size + 1 + 1 = w1.heap.size + 1 := h; omega) Z6.out.cell
        have B4D := Lib.hid ((HB41.out.but (T := Nowhere) (But.of_below (hbel.trans (hbd.mono hbel.size))) (fun h => h)))
        have hCD := (C.out.congr (Q := coreP true i (waysE i es)) (fun j m h => by unfold cUpto; rw [if_pos h])).below hbd
        have C2 := Lib.hid (edges_any i (coreP true i (waysE i es)) (fun j m h => coreP_out (HWL.out j m h)) wr.drew _ (HT.out.go HBW.out) (hCD.setsR hn200))
        have HMD := Lib.hid (HM.out.below hbd)
        clear hbd hCD hBT
        gi_wp2
        refine wpIn_mono (Q := NoPanic _) ?_ NoPanic.imp
        gi_region_with (refine ⟨trivial, ?_⟩; gi_at_call 14; refine (callsIn_wide.2 C2.out).mono ?_; rintro e w2 ⟨x2, rfl, hx2, hb2⟩; obtain ⟨A2, c2, rfl⟩ := RdL.form0 hx2; have j1 := (hb2.cell (p := ⟨w.heap.size, 0, none⟩) (show w.heap.size < wr.heap.size by omega)).trans f1; have j6 := (hb2.cell (p := ⟨w1.heap.size + 1 + 1, 0, none⟩) (show w1.heap.size + 1 + 1 < wr.heap.size by omega)).trans f6; have B42 := B4D.out.below hb2; have f40 := B42.fr 0; have f41 := B42.fr 1; have j40 := B42.cell 0 _ rfl; have j41 := B42.cell 1 _ rfl)
        all_goals
          refine NoPanic.normal ?_
          have hsz2 := hb2.size
          have hdz : wr.drew.heap.size = wr.heap.size := rfl
          have BT := Lib.hid (B42.two (.int .i64 (i : Int)) (.slice A2 ((edgU (rowP i (coreP true i (waysE i es))) i).map ceE).length c2))
          have BB := Lib.hid (below_two (HBW.out.trans (hb2.mono HBW.out.size)) (show w.heap.size ≤ w.heap.size + 1 by omega) (.int .i64 (i : Int)) (.slice A2 ((edgU (rowP i (coreP true i (waysE i es))) i).map ceE).length c2))
          have hno : ¬ Plus Nowhere wr.drew.heap.size w2.heap.size (w.heap.size + 1) := fun h => h.elim (fun h => h.elim) (fun h => by have := h.1; omega)
          have HR2 := Lib.hid (((hx2.stored Flat.keeps (p := ⟨w.heap.size + 1, 0, none⟩) hno (.int .i64 (i : Int))).stored Flat.keeps (p := ⟨w.heap.size + 1, 1, none⟩) hno (.slice A2 ((edgU (rowP i (coreP true i (waysE i es))) i).map ceE).length c2)).sub (S' := Plus Nowhere w.heap.size w2.heap.size) Flat.keeps (fun b h => h.elim (fun h => h.elim) (fun h => .inr ⟨by have := h.1; omega, h.2⟩)))
          have HM5 := Lib.hid (((HMD.out.below hb2).keeps (KeepsOthers.setCell _ ⟨w.heap.size + 1, 0, none⟩ (.int .i64 (i : Int)))).keeps (KeepsOthers.setCell _ ⟨w.heap.size + 1, 1, none⟩ (.slice A2 ((edgU (rowP i (coreP true i (waysE i es))) i).map ceE).length c2)))
          clear hdz hno hx2 hb2 C2 B42 f40 f41 j40 j41 j1 j6 f1 f6
          rw [List.length_map] at BT BB HR2 HM5
          gi_wp2
          have r0 := BT.out.cell 0 _ rfl
          have r1 := BT.out.cell 1 _ rfl
          have hz6 : w2.heap.size = ((w2.setCell ⟨w.heap.size + 1, 0, none⟩ (.int .i64 (i : Int))).setCell ⟨w.heap.size + 1, 1, none⟩ (.slice A2 (edgU (rowP i (coreP true i (waysE i es))) i).length c2)).heap.size := by simp
          refine leaves_all HM5.out (J := fun W => W.cell? ⟨w.heap.size + 1, 0, none⟩ = some (.int .i64 (i : Int)) ∧ W.cell? ⟨w.heap.size + 1, 1, none⟩ = some (.slice A2 (edgU (rowP i (coreP true i (waysE i es))) i).length c2) ∧
            RdP W (Plus Nowhere w.heap.size w2.heap.size) ((edgU (rowP i (coreP true i (waysE i es))) i).map ceE) (.slice A2 (edgU (rowP i (coreP true i (waysE i es))) i).length c2) ∧ w2.heap.size ≤ W.heap.size ∧ Below w.heap.size w W) ?_ ⟨r0, r1, HR2.out, Nat.le_of_eq hz6, BB.out⟩ ?_
          · rintro _ W W' row ⟨h1, h2, h3, h4, h5⟩ hg hr
            have hk : ∀ p u, W.cell? p = some u → W'.cell? p = some u := fun p u hp => cell_kept hp hg (fun r e => (hr r e).2)
            exact ⟨hk _ _ h1, hk _ _ h2, h3.someKeep hk, Nat.le_trans h4 hg.size, h5.grown hg h5.size (fun k e => Nat.le_trans (by omega) (hr k e).1)⟩
          · rintro W ⟨h1, h2, h3, h4, h5⟩
            refine ⟨.tuple #[.agg #[.int .i64 (i : Int), .slice A2 (edgU (rowP i (coreP true i (waysE i es))) i).length c2], .int .i64 0], by simp [results, Tryd.f7, go_sem, h1, h2], (i : Int), .slice A2 (edgU (rowP i (coreP true i (waysE i es))) i).length c2, ?_, fun _ => ⟨rfl, ?_⟩, fun h => absurd HW0.out h, h5⟩
            · rw [HW0.out]
            · rw [← HES.out]
              have := h3.sub (S' := Plus Nowhere w.heap.size W.heap.size) Flat.keeps (fun b h => h.elim (fun h => h.elim) (fun h => .inr ⟨h.1, by have := h.2; omega⟩))
              simpa using this
  · have HW := Lib.hid hw
    obtain ⟨W2, hW2⟩ : ∃ W2 : World, W2 = w1.alloc (.cells #[x] 40) := ⟨_, rfl⟩
    have b2 : Below w1.heap.size w1 (w1.alloc (.cells #[x] 40)) := (Below.refl _ _).alloc (Nat.le_refl _) _
    have B4 := HB41.out.below b2
    have hx := hsn hw
    subst hx
    have f40 := B4.fr 0
    have f41 := B4.fr 1
    have k40 := B4.cell 0 _ rfl
    have k41 := B4.cell 1 _ rfl
    have BT := Lib.hid (B4.two (.int .i64 0) (.slice none 0 0))
    have BB := Lib.hid (below_two (BL1.out.trans (b2.mono BL1.out.size)) (show w.heap.size ≤ w.heap.size + 1 by omega) (.int .i64 0) (.slice none 0 0))
    clear hso hsn b2
    gi_wp2
    have r0 := BT.out.cell 0 _ rfl
    have r1 := BT.out.cell 1 _ rfl
    refine ⟨.tuple #[.agg #[.int .i64 0, .slice none 0 0], .int .i64 (wrongE N ps)], (by simp [results, Tryd.f7, go_sem, r0, r1]), _, _, rfl, fun h => absurd h HW.out, fun _ => ⟨rfl, rfl⟩, BB.out⟩
end Go.Proofs.YtknaoianhjeccaaDoor
