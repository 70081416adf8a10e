/- Disjoint sets, plainly: labels that are numbered anew (the document's), a forest that leads to heads (the program's), and that they agree. -/
import Derived.Test.YtfldajplclahfaaFlat
namespace Go.Proofs.Ytfldajplclahfaa
set_option linter.unusedVariables false

structure UOp where
  k : Int
  i : Int
  j : Int
deriving Inhabited
def okP (n : Nat) (i : Int) : Bool := decide (0 ≤ i) && decide (i < (n : Int))
def cntL (n : Nat) (s : Nat → Nat) (a : Nat) : Nat := (List.range n).countP fun k => decide (s k = a)
def joinS (s : Nat → Nat) (a b : Nat) : Nat → Nat := fun k => if s k = b then a else s k
def uAns (n : Nat) (s : Nat → Nat) (o : UOp) : (Nat → Nat) × Int :=
  if o.k = 1 ∧ okP n o.i = true ∧ okP n o.j = true then
    if s o.i.toNat = s o.j.toNat then (s, 0) else (joinS s (s o.i.toNat) (s o.j.toNat), 1)
  else if o.k = 2 ∧ okP n o.i = true ∧ okP n o.j = true then (s, if s o.i.toNat = s o.j.toNat then 1 else 0)
  else if o.k = 3 ∧ okP n o.i = true then (s, (cntL n s (s o.i.toNat) : Int))
  else (s, -1)
def uRun (n : Nat) (ops : List UOp) : (Nat → Nat) × List Int :=
  ops.foldl (fun x o => ((uAns n x.1 o).1, x.2 ++ [(uAns n x.1 o).2])) (id, [])
theorem uRun_snoc (n : Nat) (ops : List UOp) (o : UOp) : uRun n (ops ++ [o]) = ((uAns n (uRun n ops).1 o).1, (uRun n ops).2 ++ [(uAns n (uRun n ops).1 o).2]) := by
  simp [uRun, List.foldl_append]
theorem uRun_len (n : Nat) (ops : List UOp) : (uRun n ops).2.length = ops.length := by
  suffices ∀ x : (Nat → Nat) × List Int, (ops.foldl (fun x o => ((uAns n x.1 o).1, x.2 ++ [(uAns n x.1 o).2])) x).2.length = x.2.length + ops.length by
    simpa [uRun] using this (id, [])
  induction ops with
  | nil => intro x; simp
  | cons o r ih => intro x; rw [List.foldl_cons, ih]; simp; omega

theorem cntL_le (n : Nat) (s : Nat → Nat) (a : Nat) : cntL n s a ≤ n := by
  have := List.countP_le_length (p := fun k => decide (s k = a)) (l := List.range n)
  simpa [cntL] using this
theorem countP_add {l : List Nat} {p q r : Nat → Bool} (h : ∀ k ∈ l, (p k = true ↔ q k = true ∨ r k = true) ∧ ¬ (q k = true ∧ r k = true)) : l.countP p = l.countP q + l.countP r := by
  induction l with
  | nil => rfl
  | cons x l ih =>
    have h0 := h x (by simp)
    have := ih (fun k hk => h k (by simp [hk]))
    simp only [List.countP_cons, this]
    cases hp : p x <;> cases hq : q x <;> cases hr : r x <;> simp_all <;> omega
theorem cntL_congr {n : Nat} {s t : Nat → Nat} {a b : Nat} (h : ∀ k, k < n → (s k = a ↔ t k = b)) : cntL n s a = cntL n t b := by
  apply List.countP_congr
  intro k hk
  simpa using h k (List.mem_range.1 hk)

/-- the forest up with its sets' sizes sz: rt tells each one's head; h falls on the way to it -/
structure Good (n : Nat) (up sz : List Nat) (rt h : Nat → Nat) : Prop where
  lu : up.length = n
  lz : sz.length = n
  up_lt : ∀ (i u : Nat), up[i]? = some u → u < n
  rt_lt : ∀ i, i < n → rt i < n
  rt_root : ∀ i, i < n → up[rt i]? = some (rt i)
  rt_up : ∀ (i u : Nat), up[i]? = some u → rt u = rt i
  rt_self : ∀ i, up[i]? = some i → rt i = i
  h_lt : ∀ (i u : Nat), up[i]? = some u → u ≠ i → h u < h i
  cnt : ∀ i, i < n → sz[rt i]? = some (cntL n rt (rt i))

theorem Good.start (n : Nat) : Good n (List.range n) (List.replicate n 1) id (fun _ => 0) where
  lu := by simp
  lz := by simp
  up_lt i u h := by
    obtain ⟨h1, h2⟩ := List.getElem?_eq_some_iff.1 h
    simp at h1 h2; omega
  rt_lt i h := h
  rt_root i h := by simp [h]
  rt_up i u h := by
    obtain ⟨h1, h2⟩ := List.getElem?_eq_some_iff.1 h
    simp at h2; simp [h2]
  rt_self i _ := rfl
  h_lt i u h hne := by
    obtain ⟨h1, h2⟩ := List.getElem?_eq_some_iff.1 h
    simp at h2; exact absurd h2.symm hne
  cnt i h := by
    simp only [id]
    rw [List.getElem?_replicate, if_pos h]
    congr 1
    have : ∀ m, m ≤ n → cntL m id i = if i < m then 1 else 0 := by
      intro m
      induction m with
      | zero => intro _; simp [cntL]
      | succ m ih =>
        intro hm
        have := ih (by omega)
        simp only [cntL] at this ⊢
        rw [List.range_succ, List.countP_append, this]
        simp only [List.countP_singleton, id]
        by_cases h1 : m = i
        · subst h1; simp
        · by_cases h2 : i < m
          · simp [h1, h2]; omega
          · simp [h1, h2]; omega
    rw [this n (Nat.le_refl _), if_pos h]
section
variable {n : Nat} {up sz : List Nat} {rt h : Nat → Nat}
theorem Good.get (g : Good n up sz rt h) {i : Nat} (hi : i < n) : ∃ u, up[i]? = some u ∧ u < n := by
  have : i < up.length := by rw [g.lu]; exact hi
  exact ⟨up[i], List.getElem?_eq_getElem this, g.up_lt i _ (List.getElem?_eq_getElem this)⟩
theorem Good.halve (g : Good n up sz rt h) {i u v : Nat} (hu : up[i]? = some u) (hv : up[u]? = some v) : Good n (up.set i v) sz rt h := by
  have hi : i < up.length := (List.getElem?_eq_some_iff.1 hu).1
  have hget : ∀ (k w : Nat), (up.set i v)[k]? = some w → (k = i ∧ w = v) ∨ (k ≠ i ∧ up[k]? = some w) := by
    intro k w hk
    rw [List.getElem?_set] at hk
    split at hk
    · rename_i e; subst e; simp at hk; exact .inl ⟨rfl, hk.symm⟩
    · rename_i e; exact .inr ⟨fun e2 => e e2.symm, hk⟩
  have hself : ∀ k : Nat, up[k]? = some k → (up.set i v)[k]? = some k := by
    intro k hk
    by_cases e : i = k
    · subst e
      rw [hu] at hk; injection hk with e2; subst e2
      rw [hu] at hv; injection hv with e3; subst e3
      rw [List.getElem?_set_self hi]
    · rw [List.getElem?_set_ne e]; exact hk
  refine ⟨by simp [g.lu], g.lz, ?_, g.rt_lt, fun k hk => hself _ (g.rt_root k hk), ?_, ?_, ?_, g.cnt⟩
  · intro k w hk
    rcases hget k w hk with ⟨rfl, rfl⟩ | ⟨_, hk⟩
    · exact g.up_lt _ _ hv
    · exact g.up_lt _ _ hk
  · intro k w hk
    rcases hget k w hk with ⟨rfl, rfl⟩ | ⟨_, hk⟩
    · rw [g.rt_up _ _ hv, g.rt_up _ _ hu]
    · exact g.rt_up _ _ hk
  · intro k hk
    rcases hget k k hk with ⟨rfl, e⟩ | ⟨_, hk⟩
    · subst e
      by_cases e : u = k
      · subst e; exact g.rt_self _ hu
      · have h1 := g.h_lt _ _ hu e
        have h2 := g.h_lt _ _ hv (fun e2 => e e2.symm)
        omega
    · exact g.rt_self _ hk
  · intro k w hk hne
    rcases hget k w hk with ⟨rfl, rfl⟩ | ⟨_, hk⟩
    · by_cases e : u = k
      · subst e; exact g.h_lt _ _ hv hne
      · have h1 := g.h_lt _ _ hu e
        by_cases e2 : w = u
        · subst e2; exact h1
        · have h2 := g.h_lt _ _ hv e2
          omega
    · exact g.h_lt _ _ hk hne
theorem Good.join (g : Good n up sz rt h) {a b x y : Nat} (ha : a < n) (hb : b < n) (ra : rt a = a) (rb : rt b = b) (hab : a ≠ b) (hx : sz[a]? = some x) (hy : sz[b]? = some y) :
    Good n (up.set b a) (sz.set a (x + y)) (fun k => if rt k = b then a else rt k) (fun k => if rt k = b then h k + h a + 1 else h k) := by
  have hbl : b < up.length := by rw [g.lu]; exact hb
  have hal : a < sz.length := by rw [g.lz]; exact ha
  have hget : ∀ (k w : Nat), (up.set b a)[k]? = some w → (k = b ∧ w = a) ∨ (k ≠ b ∧ up[k]? = some w) := by
    intro k w hk
    rw [List.getElem?_set] at hk
    split at hk
    · rename_i e; subst e; simp at hk; exact .inl ⟨rfl, hk.symm⟩
    · rename_i e; exact .inr ⟨fun e2 => e e2.symm, hk⟩
  have hua : up[a]? = some a := by have := g.rt_root a ha; rwa [ra] at this
  have hcx : x = cntL n rt a := by have := g.cnt a ha; rw [ra, hx] at this; injection this
  have hcy : y = cntL n rt b := by have := g.cnt b hb; rw [rb, hy] at this; injection this
  refine ⟨by simp [g.lu], by simp [g.lz], ?_, ?_, ?_, ?_, ?_, ?_, ?_⟩
  · intro k w hk
    rcases hget k w hk with ⟨rfl, rfl⟩ | ⟨_, hk⟩
    · exact ha
    · exact g.up_lt _ _ hk
  · intro k hk
    split
    · exact ha
    · exact g.rt_lt k hk
  · intro k hk
    split
    · rw [List.getElem?_set_ne (fun e => hab e.symm)]; exact hua
    · rename_i e
      rw [List.getElem?_set_ne (fun e2 => e e2.symm)]; exact g.rt_root k hk
  · intro k w hk
    rcases hget k w hk with ⟨rfl, rfl⟩ | ⟨_, hk⟩
    · rw [ra, rb, if_neg hab, if_pos rfl]
    · rw [g.rt_up _ _ hk]
  · intro k hk
    rcases hget k k hk with ⟨rfl, rfl⟩ | ⟨e, hk⟩
    · exact absurd rfl hab
    · rw [g.rt_self _ hk, if_neg e]
  · intro k w hk hne
    rcases hget k w hk with ⟨rfl, rfl⟩ | ⟨_, hk⟩
    · rw [ra, rb, if_neg hab, if_pos rfl]; omega
    · rw [g.rt_up _ _ hk]
      have := g.h_lt _ _ hk hne
      split <;> omega
  · intro k hk
    by_cases e : rt k = b ∨ rt k = a
    · have hr : (if rt k = b then a else rt k) = a := by
        rcases e with e | e
        · rw [if_pos e]
        · rw [e, if_neg hab]
      rw [hr, List.getElem?_set_self hal]
      congr 1
      rw [hcx, hcy]
      symm
      apply countP_add
      intro m _
      simp only [decide_eq_true_eq]
      constructor
      · constructor
        · intro hm
          split at hm
          · rename_i e; exact .inr e
          · exact .inl hm
        · rintro (hm | hm)
          · rw [hm, if_neg hab]
          · rw [if_pos hm]
      · rintro ⟨h1, h2⟩
        exact hab (h1.symm.trans h2)
    · have e1 : rt k ≠ b := fun h => e (.inl h)
      have e2 : rt k ≠ a := fun h => e (.inr h)
      rw [if_neg e1, List.getElem?_set_ne (fun h => e2 h.symm), g.cnt k hk]
      congr 1
      apply cntL_congr
      intro m _
      by_cases hm : rt m = b
      · rw [if_pos hm, hm]
        constructor
        · intro h; exact absurd h.symm e1
        · intro h; exact absurd h.symm e2
      · rw [if_neg hm]
end
/-- the forest's sets are the labels' sets -/
def Link (n : Nat) (rt s : Nat → Nat) : Prop := ∀ i j, i < n → j < n → (rt i = rt j ↔ s i = s j)
theorem Link.cnt {n : Nat} {rt s : Nat → Nat} (l : Link n rt s) {i : Nat} (hi : i < n) : cntL n rt (rt i) = cntL n s (s i) :=
  cntL_congr fun k hk => l k i hk hi
theorem Link.join {n : Nat} {rt s : Nat → Nat} (l : Link n rt s) {i j : Nat} (hi : i < n) (hj : j < n) (hne : rt i ≠ rt j) :
    Link n (fun k => if rt k = rt j then rt i else rt k) (joinS s (s i) (s j)) := by
  intro p q hp hq
  dsimp only [joinS]
  have h1 := l p j hp hj
  have h2 := l q j hq hj
  have h3 := l p i hp hi
  have h4 := l q i hq hi
  have h5 := l p q hp hq
  by_cases e1 : rt p = rt j <;> by_cases e2 : rt q = rt j
  · simp [e1, e2, h1.1 e1, h2.1 e2]
  · rw [if_pos e1, if_neg e2, if_pos (h1.1 e1), if_neg (fun h => e2 (h2.2 h))]
    rw [eq_comm, h4, eq_comm]
  · rw [if_neg e1, if_pos e2, if_neg (fun h => e1 (h1.2 h)), if_pos (h2.1 e2)]
    exact h3
  · rw [if_neg e1, if_neg e2, if_neg (fun h => e1 (h1.2 h)), if_neg (fun h => e2 (h2.2 h))]
    exact h5
theorem Link.join' {n : Nat} {rt s : Nat → Nat} (l : Link n rt s) {i j : Nat} (hi : i < n) (hj : j < n) (hne : rt i ≠ rt j) :
    Link n (fun k => if rt k = rt i then rt j else rt k) (joinS s (s i) (s j)) := by
  have h := l.join hi hj hne
  intro p q hp hq
  rw [← h p q hp hq]
  dsimp only
  by_cases e1 : rt p = rt i <;> by_cases e2 : rt q = rt i <;> by_cases e3 : rt p = rt j <;> by_cases e4 : rt q = rt j <;> simp_all
  all_goals first
    | (constructor <;> intro h <;> simp_all)
    | skip
end Go.Proofs.Ytfldajplclahfaa
