/- Top-down mappings: each pair's parents belong together, too. -/
import Derived.Test.YtebaodiagljjfaaXMap
import Derived.Test.YtebaodiagljjfaaG40
import Derived.Test.YtebaodiagljjfaaG71
namespace Go.Proofs.Ytebaodiagljjfaa.X
open Go Go.RowKit Go.Proofs.YtebaodiagljjfaaW.PrintWords Go.Proofs.YtebaodiagljjfaaW.PrintLast Go.Proofs.YtebaodiagljjfaaW.PrintMore Go.Proofs.Ytebaodiagljjfaa.P

/-- The last node ahead of j that lies higher than i. -/
def parGo (l : List S57) (i : Nat) : Nat → Int
  | 0 => -1
  | j + 1 => if dep l j ≥ dep l i then parGo l i j else (j : Int)
def parN (l : List S57) (i : Nat) : Int := parGo l i i
theorem parGo_nn {l : List S57} (h : okT l = true) {i : Nat} (hi : i < l.length) (h0 : i ≠ 0) : ∀ j, 0 < j → j ≤ i → 0 ≤ parGo l i j := by
  intro j
  induction j with
  | zero => intro hj; omega
  | succ j ih =>
    intro _ hj
    simp only [parGo]
    split
    · next c =>
      rcases Nat.eq_zero_or_pos j with rfl | hp
      · have r0 := (okT_at h (show 0 < l.length by omega)).2.2.1
        have r1 := (okT_at h hi).2
        have : dep l 0 = 0 := r0.2 rfl
        have n1 : ¬ dep l i = 0 := fun e => h0 (r1.2.1.1 e)
        have n2 := r1.1.1
        omega
      · exact ih hp (by omega)
    · omega
theorem parN_nn {l : List S57} (h : okT l = true) {i : Nat} (hi : i < l.length) (h0 : i ≠ 0) : 0 ≤ parN l i := parGo_nn h hi h0 i (by omega) (Nat.le_refl _)

theorem evParLoop (l : List S57) (hl : l.length ≤ 4194304) (i : Nat) (hi : i < l.length) : ∀ j : Nat, j ≤ i → B.Ev (fun k => spec_ParentOf.l0 k l (i : Int) ((j : Int) - 1)) (parGo l i j) := by
  intro j
  have a3 : 0 ≤ (i : Int) := by omega
  have a4 : (i : Int) < (l.length : Int) := by omega
  induction j with
  | zero =>
    intro _
    refine B.Ev.succ ?_
    simp only [spec_ParentOf.l0, parGo, show ¬ (((0 : Nat) : Int) - 1 ≥ 0) by decide, ↓reduceIte]
    exact B.Ev.pure _
  | succ j ih =>
    intro hj
    refine B.Ev.succ ?_
    have e : ((j + 1 : Nat) : Int) - 1 = (j : Int) := by omega
    have e' : wrap64 ((j : Int) - 1) = (j : Int) - 1 := B.wid (by omega) (by omega)
    have a1 : (j : Int) < (l.length : Int) := by omega
    have a2 : 0 ≤ (j : Int) := by omega
    simp only [spec_ParentOf.l0, parGo, e, e', a1, a2, a3, a4, ↓reduceIte, rdNode]
    by_cases c : dep l j ≥ dep l i
    · have c' : (l.getD j z57).f1 ≥ (l.getD i z57).f1 := c
      simp only [c, c', ↓reduceIte]
      exact ih (by omega)
    · have c' : ¬ (l.getD j z57).f1 ≥ (l.getD i z57).f1 := c
      simp only [c, c', ↓reduceIte]
      exact B.Ev.pure _
theorem evParLoop' (l : List S57) (hl : l.length ≤ 4194304) (i : Nat) (hi : i < l.length) : ∀ j : Nat, j ≤ i → B.Ev (fun k => impl_ParentOf.l0 k l (i : Int) ((j : Int) - 1)) (parGo l i j) := by
  intro j
  have a3 : 0 ≤ (i : Int) := by omega
  have a4 : (i : Int) < (l.length : Int) := by omega
  induction j with
  | zero =>
    intro _
    refine B.Ev.succ ?_
    simp only [impl_ParentOf.l0, parGo, show ¬ (((0 : Nat) : Int) - 1 ≥ 0) by decide, ↓reduceIte]
    exact B.Ev.pure _
  | succ j ih =>
    intro hj
    refine B.Ev.succ ?_
    have e : ((j + 1 : Nat) : Int) - 1 = (j : Int) := by omega
    have e' : wrap64 ((j : Int) - 1) = (j : Int) - 1 := B.wid (by omega) (by omega)
    have a1 : (j : Int) < (l.length : Int) := by omega
    have a2 : 0 ≤ (j : Int) := by omega
    simp only [impl_ParentOf.l0, parGo, e, e', a1, a2, a3, a4, ↓reduceIte, rdNode]
    by_cases c : dep l j ≥ dep l i
    · have c' : (l.getD j z57).f1 ≥ (l.getD i z57).f1 := c
      simp only [c, c', ↓reduceIte]
      exact ih (by omega)
    · have c' : ¬ (l.getD j z57).f1 ≥ (l.getD i z57).f1 := c
      simp only [c, c', ↓reduceIte]
      exact B.Ev.pure _
theorem evPar {l : List S57} (h : okT l = true) {i : Nat} (hi : i < l.length) : B.Ev (fun k => spec_ParentOf.f k l (i : Int)) (parN l i) := by
  have hl := (okT_len h).2
  have e' : wrap64 ((i : Int) - 1) = (i : Int) - 1 := B.wid (by omega) (by omega)
  simp only [spec_ParentOf.f, e']
  refine B.Ev.bind (evAt l (by omega) _) ?_
  rw [isAt_of h hi]
  simp only [↓reduceIte]
  exact evParLoop l (by omega) i hi i (Nat.le_refl _)
theorem evPar' {l : List S57} (h : okT l = true) {i : Nat} (hi : i < l.length) : B.Ev (fun k => impl_ParentOf.f k l (i : Int)) (parN l i) := by
  have hl := (okT_len h).2
  have e' : wrap64 ((i : Int) - 1) = (i : Int) - 1 := B.wid (by omega) (by omega)
  simp only [impl_ParentOf.f, e']
  refine B.Ev.bind (evHas l (by omega) _) ?_
  rw [isAt_of h hi]
  simp only [↓reduceIte]
  exact evParLoop' l (by omega) i hi i (Nat.le_refl _)

/-- What belongs to p. -/
def ofList (p : Int) : List S64 → Int
  | [] => -1
  | x :: xs => if x.f0 = p then x.f1 else ofList p xs
def hasP (p q : Int) (x : S64) : Bool := p == x.f0 && q == x.f1
theorem evOf (m : List S64) (hm : m.length ≤ 4194304) (p : Int) : B.Ev (fun k => spec_l10Of.f k m p) (ofList p m) := by
  simp only [spec_l10Of.f]
  have key : ∀ n i : Nat, i + n = m.length → B.Ev (fun k => spec_l10Of.l0 k m p (i : Int)) (ofList p (m.drop i)) := by
    intro n
    induction n with
    | zero =>
      intro i hi
      refine B.Ev.succ ?_
      simp only [spec_l10Of.l0, show ¬ ((i : Int) < (m.length : Int)) by omega, ↓reduceIte]
      rw [List.drop_eq_nil_of_le (by omega)]
      exact B.Ev.pure _
    | succ n ih =>
      intro i hi
      have hi' : i < m.length := by omega
      refine B.Ev.succ ?_
      have a1 : (i : Int) < (m.length : Int) := by omega
      have a2 : 0 ≤ (i : Int) := by omega
      simp only [spec_l10Of.l0, a1, a2, ↓reduceIte, rdPair, B.getD_lt hi', B.wsucc (show i < 9223372036854775807 by omega)]
      rw [List.drop_eq_getElem_cons hi']
      simp only [ofList]
      by_cases c : m[i].f0 = p
      · simp only [c, ↓reduceIte]; exact B.Ev.pure _
      · simp only [c, ↓reduceIte]; exact ih (i + 1) (by omega)
  exact key m.length 0 (by omega)
theorem evHasP (m : List S64) (hm : m.length ≤ 4194304) (p q : Int) : B.Ev (fun k => impl_Pair_46.f k m p q) (m.any (hasP p q)) := by
  simp only [impl_Pair_46.f, impl_Pair_71.f]
  have key : ∀ n i : Nat, i + n = m.length → B.Ev (fun k => impl_Pair_71.l0 k m (m.length : Int) (i : Int) p q) (B.idxFrom (hasP p q) (m.drop i) i) := by
    intro n
    induction n with
    | zero =>
      intro i hi
      refine B.Ev.succ ?_
      simp only [impl_Pair_71.l0, show ¬ ((i : Int) < (m.length : Int)) by omega, ↓reduceIte]
      rw [List.drop_eq_nil_of_le (by omega)]
      exact B.Ev.pure _
    | succ n ih =>
      intro i hi
      have hi' : i < m.length := by omega
      refine B.Ev.succ ?_
      have a1 : (i : Int) < (m.length : Int) := by omega
      have a2 : 0 ≤ (i : Int) := by omega
      simp only [impl_Pair_71.l0, a1, a2, ↓reduceIte, rdPair, B.getD_lt hi', B.wsucc (show i < 9223372036854775807 by omega)]
      rw [B.idxFrom_drop _ _ hi']
      by_cases c : hasP p q m[i] = true
      · have c' : (p == m[i].f0 && q == m[i].f1) = true := c
        simp only [c, c', ↓reduceIte]; exact B.Ev.pure _
      · have c' : ¬ (p == m[i].f0 && q == m[i].f1) = true := c
        simp only [c, c']; exact ih (i + 1) (by omega)
  refine B.Ev.bind (key m.length 0 (by omega)) ?_
  exact (B.Ev.pure _).eq (by rw [List.drop_zero]; exact B.idxFrom_any _ _ _)

theorem of_any (p q : Int) (hq : 0 ≤ q) : ∀ m : List S64, m.Pairwise (fun x y => x.f0 < y.f0) → (m.any (hasP p q) = true ↔ ofList p m = q) := by
  intro m
  induction m with
  | nil =>
    intro _
    constructor
    · intro h; cases h
    · intro h; rw [ofList] at h; omega
  | cons x xs ih =>
    intro h
    rw [List.pairwise_cons] at h
    have hi := ih h.2
    rw [List.any_cons, Bool.or_eq_true, hi, ofList]
    have hx : hasP p q x = true ↔ (p = x.f0 ∧ q = x.f1) := by unfold hasP; simp
    rw [hx]
    by_cases c : x.f0 = p
    · rw [if_pos c]
      have no : ofList p xs ≠ q := fun e => by
        obtain ⟨y, hy, hp⟩ := List.any_eq_true.1 (hi.2 e)
        have h1 := h.1 y hy
        have h2 : p = y.f0 ∧ q = y.f1 := by unfold hasP at hp; simpa using hp
        omega
      constructor
      · rintro (h1 | h1)
        · exact h1.2.symm
        · exact absurd h1 no
      · intro h1; exact Or.inl ⟨c.symm, h1.symm⟩
    · rw [if_neg c]
      constructor
      · rintro (h1 | h1)
        · exact absurd h1.1.symm c
        · exact h1
      · intro h1; exact Or.inr h1

/-! ### the whole -/
def rootsP (m : List S64) : Bool := decide (0 < m.length) && (pA m 0 == 0 && pB m 0 == 0)
def tdAt (a b : List S57) (m : List S64) (i : Nat) : Bool := decide (i = 0) || decide (ofList (parN a (pA m i).toNat) m = parN b (pB m i).toNat)
def okTD (a b : List S57) (m : List S64) : Bool := (okM a b m && rootsP m) && (List.range m.length).all (tdAt a b m)

theorem specRoots (m : List S64) : spec_RootsPaired.f m = some (rootsP m) := by
  unfold spec_RootsPaired.f rootsP
  have r0 : rd_T64 m 0 = m.getD 0 z64 := rdPair (i := 0)
  by_cases h : 0 < m.length
  · rw [if_pos (by omega), if_pos (by omega), r0, decide_eq_true h, Bool.true_and]; rfl
  · rw [if_neg (by omega), decide_eq_false h, Bool.false_and]
theorem implRoots (m : List S64) : impl_RootsPaired.f m = some (rootsP m) := by
  unfold impl_RootsPaired.f rootsP
  have r0 : rd_T64 m 0 = m.getD 0 z64 := rdPair (i := 0)
  by_cases h : 0 < m.length
  · rw [if_pos (by omega), if_pos (by omega), r0, decide_eq_true h, Bool.true_and]; rfl
  · rw [if_neg (by omega), decide_eq_false h, Bool.false_and]

theorem okM_parts {a b : List S57} {m : List S64} (h : okM a b m = true) : okT a = true ∧ okT b = true ∧ Upto a b m m.length := by
  unfold okM at h
  simp only [Bool.and_eq_true] at h
  exact ⟨h.1.1, h.1.2, fun i hi => List.all_eq_true.1 h.2 i (List.mem_range.2 hi)⟩
theorem Upto.pairwise {a b : List S57} {m : List S64} (h : Upto a b m m.length) : m.Pairwise (fun x y => x.f0 < y.f0) := by
  rw [List.pairwise_iff_getElem]
  intro i j hi hj hij
  have := (h.inc hij hj).1
  unfold pA at this
  rw [B.getD_lt hi, B.getD_lt hj] at this
  exact this
/-- What a pair behind the first one is. -/
theorem nodesAt {a b : List S57} {m : List S64} (h : okM a b m = true) (hr : rootsP m = true) {i : Nat} (hi : i < m.length) (h0 : i ≠ 0) :
    ∃ x y : Nat, (m.getD i z64).f0 = (x : Int) ∧ (m.getD i z64).f1 = (y : Int) ∧ x < a.length ∧ y < b.length ∧ x ≠ 0 ∧ y ≠ 0 := by
  obtain ⟨_, _, hU⟩ := okM_parts h
  have hc := (chk_iff.1 (hU i hi)).1
  obtain ⟨x, ex, hx⟩ := isAt_nat hc.1
  obtain ⟨y, ey, hy⟩ := isAt_nat hc.2
  have hs := hU.inc (Nat.pos_of_ne_zero h0) hi
  unfold rootsP at hr
  simp at hr
  refine ⟨x, y, ex, ey, hx, hy, ?_, ?_⟩ <;> omega
theorem tdAt_any {a b : List S57} {m : List S64} (h : okM a b m = true) (hr : rootsP m = true) {i : Nat} (hi : i < m.length) (h0 : i ≠ 0) :
    tdAt a b m i = m.any (hasP (parN a (pA m i).toNat) (parN b (pB m i).toNat)) := by
  obtain ⟨_, hb, hU⟩ := okM_parts h
  obtain ⟨x, y, ex, ey, hx, hy, x0, y0⟩ := nodesAt h hr hi h0
  have ey' : pB m i = (y : Int) := ey
  rw [Bool.eq_iff_iff, of_any _ _ (by rw [ey', Int.toNat_natCast]; exact parN_nn hb hy y0) m hU.pairwise]
  unfold tdAt
  rw [decide_eq_false h0, Bool.false_or, decide_eq_true_iff]
theorem okTD_false {a b : List S57} {m : List S64} {i : Nat} (hi : i < m.length) (h : tdAt a b m i = false) : okTD a b m = false := by
  unfold okTD
  rw [Bool.and_eq_false_iff]
  right
  rw [Bool.eq_false_iff]
  intro hc
  rw [List.all_eq_true.1 hc i (List.mem_range.2 hi)] at h
  cases h
theorem okTD_true {a b : List S57} {m : List S64} (h : okM a b m = true) (hr : rootsP m = true) (hu : ∀ i, i < m.length → tdAt a b m i = true) : okTD a b m = true := by
  unfold okTD
  rw [h, hr, List.all_eq_true.2 fun i hi => hu i (List.mem_range.1 hi)]; rfl

theorem evTD (a b : List S57) (m : List S64) (ha : a.length ≤ 4194304) (hb : b.length ≤ 4194304) (hm : m.length ≤ 4194304) : B.Ev (fun k => spec_TopDown.f k a b m) (okTD a b m) := by
  simp only [spec_TopDown.f]
  refine B.Ev.bind (evMapOk a b m ha hb hm) ?_
  have out : (okM a b m && rootsP m) = false → B.Ev (fun k => spec_TopDown.j0 k a b m true) (okTD a b m) := fun h => by
    refine B.Ev.succ ?_
    simp only [spec_TopDown.j0, ↓reduceIte]
    exact (B.Ev.pure _).eq (by unfold okTD; rw [h, Bool.false_and])
  refine B.Ev.ite (fun h => ?_) (fun h => out (by simp [h]))
  simp only [specRoots, Option.bind_some]
  cases hr : rootsP m
  · exact out (by simp [hr])
  · refine B.Ev.succ ?_
    simp only [Bool.not_true, spec_TopDown.j0, Bool.false_eq_true, ↓reduceIte]
    obtain ⟨ta, tb, hU⟩ := okM_parts h
    have h1 : 1 ≤ m.length := by unfold rootsP at hr; simp at hr; omega
    have key : ∀ i, i ≤ m.length → (0 < i ∧ ∀ g, g < i → tdAt a b m g = true) → B.Ev (fun k => spec_TopDown.l0 k a b m (i : Int)) (okTD a b m) := by
      refine B.Ev.loop (g := fun k i => spec_TopDown.l0 k a b m (i : Int)) m.length (fun i => 0 < i ∧ ∀ g, g < i → tdAt a b m g = true) (fun hV => ?_) ?_
      · refine B.Ev.succ ?_
        simp only [spec_TopDown.l0, show ¬ ((m.length : Int) < (m.length : Int)) by omega, ↓reduceIte]
        exact (B.Ev.pure _).eq (okTD_true h hr hV.2).symm
      · intro i hi hV ih
        obtain ⟨x, y, ex, ey, hx, hy, x0, y0⟩ := nodesAt h hr hi (by omega)
        refine B.Ev.succ ?_
        have a1 : (i : Int) < (m.length : Int) := by omega
        have a2 : 0 ≤ (i : Int) := by omega
        simp only [spec_TopDown.l0, a1, a2, ↓reduceIte, rdPair, ex, ey, B.wsucc (show i < 9223372036854775807 by omega)]
        refine B.Ev.bind (evPar ta hx) ?_
        refine B.Ev.bind (evOf m hm _) ?_
        refine B.Ev.bind (evPar tb hy) ?_
        have et : tdAt a b m i = decide (ofList (parN a x) m = parN b y) := by
          unfold tdAt
          rw [show pA m i = (x : Int) from ex, show pB m i = (y : Int) from ey, Int.toNat_natCast, Int.toNat_natCast, decide_eq_false (show ¬ i = 0 by omega), Bool.false_or]
        refine B.Ev.ite (fun c => ?_) (fun c => ?_)
        · refine ih ⟨by omega, fun g hg => ?_⟩
          rcases Nat.lt_or_ge g i with d | d
          · exact hV.2 g d
          · obtain rfl : g = i := by omega
            rw [et]; simpa using c
        · exact (B.Ev.pure _).eq (okTD_false hi (by rw [et]; simpa using c)).symm
    exact key 1 h1 ⟨by omega, fun g hg => by
      obtain rfl : g = 0 := by omega
      simp [tdAt]⟩

theorem evMapOk' (a b : List S57) (m : List S64) (ha : a.length ≤ 4194304) (hb : b.length ≤ 4194304) (hm : m.length ≤ 4194304) : B.Ev (fun k => impl_MapOk.f k a b m) (okM a b m) := by
  simp only [impl_MapOk.f]
  refine B.Ev.bind (B.Ev.of _ (fun k hk => implTreeOk a ha k hk)) ?_
  have out : (okT a && okT b) = false → B.Ev (fun k => impl_MapOk.j0 k a b m true) (okM a b m) := fun h => by
    refine B.Ev.succ ?_
    simp only [impl_MapOk.j0, ↓reduceIte]
    exact (B.Ev.pure _).eq (by unfold okM; rw [h, Bool.false_and])
  refine B.Ev.ite (fun ta => ?_) (fun h => out (by simp [h]))
  refine B.Ev.bind (B.Ev.of _ (fun k hk => implTreeOk b hb k hk)) ?_
  cases tb : okT b
  · exact out (by simp [tb])
  refine B.Ev.succ ?_
  simp only [Bool.not_true, impl_MapOk.j0, Bool.false_eq_true, ↓reduceIte]
  have key : ∀ i, i ≤ m.length → Upto a b m i → B.Ev (fun k => impl_MapOk.l0 k a b m m (m.length : Int) (i : Int)) (okM a b m) := by
    refine B.Ev.loop (g := fun k i => impl_MapOk.l0 k a b m m (m.length : Int) (i : Int)) m.length (Upto a b m) (fun hU => ?_) ?_
    · refine B.Ev.succ ?_
      simp only [impl_MapOk.l0, show ¬ ((m.length : Int) < (m.length : Int)) by omega, ↓reduceIte]
      exact (B.Ev.pure _).eq (by rw [okM_all hU, ta, tb]; rfl)
    · intro i hi hU ih
      have out : chk a b m i = false → ∀ v w, B.Ev (fun k => impl_MapOk.j2 k a b m (i : Int) m (m.length : Int) (i : Int) true v w) (okM a b m) := fun h v w => by
        refine B.Ev.succ ?_
        simp only [impl_MapOk.j2, ↓reduceIte]
        exact (B.Ev.pure _).eq (okM_false hi h).symm
      have inn : isAt a (pA m i) = true → isAt b (pB m i) = true → (i = 0 ∨ (pA m (i - 1) < pA m i ∧ pB m (i - 1) < pB m i)) → B.Ev (fun k => impl_MapOk.j2 k a b m (i : Int) m (m.length : Int) (i : Int) false ((m.getD i z64).f0) ((m.getD i z64).f1)) (okM a b m) := fun h1 h2 h3 => by
        refine B.Ev.succ ?_
        have b1 : 0 ≤ (i : Int) := by omega
        have b2 : (i : Int) ≤ (m.length : Int) := by omega
        simp only [impl_MapOk.j2, Bool.false_eq_true, ↓reduceIte, b1, b2, Option.bind_some, Int.toNat_natCast]
        have lt : (m.take i).length = i := by rw [List.length_take]; omega
        have keyh : ∀ h, h ≤ i → (∀ g, g < h → chkU a b m i g = true) → B.Ev (fun k => impl_MapOk.l1 k a b m m (m.length : Int) (i : Int) (m.take i) ((m.take i).length : Int) (h : Int) ((m.getD i z64).f0) ((m.getD i z64).f1)) (okM a b m) := by
          refine B.Ev.loop (g := fun k h => impl_MapOk.l1 k a b m m (m.length : Int) (i : Int) (m.take i) ((m.take i).length : Int) (h : Int) ((m.getD i z64).f0) ((m.getD i z64).f1)) i (fun h => ∀ g, g < h → chkU a b m i g = true) (fun hV => ?_) ?_
          · refine B.Ev.succ ?_
            simp only [impl_MapOk.l1, lt, show ¬ ((i : Int) < (i : Int)) by omega, ↓reduceIte, B.wsucc (show i < 9223372036854775807 by omega)]
            exact ih (hU.succ (chk_iff.2 ⟨⟨h1, h2⟩, h3, hV⟩))
          · intro h hh hV ihh
            refine B.Ev.succ ?_
            have c1 : (h : Int) < (i : Int) := by omega
            have c2 : 0 ≤ (h : Int) := by omega
            have gt : (m.take i).getD h z64 = m.getD h z64 := by
              rw [B.getD_lt (by omega), B.getD_lt (by omega), List.getElem_take]
            have hch := (chk_iff.1 (hU h hh)).1
            obtain ⟨x', ex', hx'⟩ := isAt_nat hch.1
            obtain ⟨y', ey', hy'⟩ := isAt_nat hch.2
            have f3 : (m.getD h z64).f0 = (x' : Int) := ex'
            have f4 : (m.getD h z64).f1 = (y' : Int) := ey'
            simp only [impl_MapOk.l1, lt, c1, c2, ↓reduceIte, rdPair, gt, f3, f4, B.wsucc (show h < 9223372036854775807 by omega)]
            refine B.Ev.bind (evEnd' ta hx') ?_
            refine B.Ev.bind (evEnd' tb hy') ?_
            have hd : (decide ((m.getD i z64).f0 < (endN a x' : Int)) != decide ((m.getD i z64).f1 < (endN b y' : Int))) = !chkU a b m i h := by
              unfold chkU
              rw [ex', ey', Int.toNat_natCast, Int.toNat_natCast]
              unfold pA pB
              by_cases g1 : (m.getD i z64).f0 < (endN a x' : Int) <;> by_cases g2 : (m.getD i z64).f1 < (endN b y' : Int) <;> simp only [g1, g2] <;> rfl
            rw [hd]
            cases hcu : chkU a b m i h
            · simp only [Bool.not_false, ↓reduceIte]
              refine (B.Ev.pure _).eq (okM_false hi (chk_not fun hc => ?_)).symm
              have := (chk_iff.1 hc).2.2 h hh
              rw [hcu] at this; cases this
            · simp only [Bool.not_true, Bool.false_eq_true, ↓reduceIte]
              rw [lt] at ihh
              refine ihh fun g hg => ?_
              rcases Nat.lt_or_ge g h with d | d
              · exact hV g d
              · obtain rfl : g = h := by omega
                exact hcu
        exact keyh 0 (Nat.zero_le _) (fun g hg => absurd hg (Nat.not_lt_zero _))
      refine B.Ev.succ ?_
      have a1 : (i : Int) < (m.length : Int) := by omega
      have a2 : 0 ≤ (i : Int) := by omega
      simp only [impl_MapOk.l0, a1, a2, ↓reduceIte, rdPair]
      refine B.Ev.bind (evHas a ha _) ?_
      refine B.Ev.ite (fun c1 => ?_) (fun c1 => out (chk_not fun hc => c1 (chk_iff.1 hc).1.1) _ _)
      refine B.Ev.bind (evHas b hb _) ?_
      refine B.Ev.ite (fun c2 => ?_) (fun c2 => out (chk_not fun hc => c2 (chk_iff.1 hc).1.2) _ _)
      rcases i with _ | j
      · simp only [show ¬ (((0 : Nat) : Int) > 0) by decide, ↓reduceIte]
        exact inn c1 c2 (Or.inl rfl)
      · have e : wrap64 (((j + 1 : Nat) : Int) - 1) = (j : Int) := by rw [B.wid (by omega) (by omega)]; omega
        have a4 : 0 ≤ (j : Int) := by omega
        have a5 : (j : Int) < (m.length : Int) := by omega
        simp only [show ((j + 1 : Nat) : Int) > 0 by omega, e, a4, a5, ↓reduceIte, rdPair]
        have h3 : ∀ h, chk a b m (j + 1) = true → ¬ (h ∧ (pA m (j + 1) ≤ pA m j ∨ pB m (j + 1) ≤ pB m j)) := fun h hc hn => by
          have h3 := (chk_iff.1 hc).2.1
          simp only [Nat.add_sub_cancel] at h3
          omega
        refine B.Ev.ite (fun c3 => out (chk_not fun hc => h3 True hc ⟨trivial, Or.inl c3⟩) _ _) (fun c3 => ?_)
        by_cases c4 : (m.getD (j + 1) z64).f1 ≤ (m.getD j z64).f1
        · simp only [c4, decide_true]
          exact out (chk_not fun hc => h3 True hc ⟨trivial, Or.inr c4⟩) _ _
        · simp only [c4, decide_false]
          have c3' : ¬ pA m (j + 1) ≤ pA m j := c3
          have c4' : ¬ pB m (j + 1) ≤ pB m j := c4
          exact inn c1 c2 (Or.inr (by simp only [Nat.add_sub_cancel]; omega))
  exact key 0 (Nat.zero_le _) (fun g hg => absurd hg (Nat.not_lt_zero _))

theorem evTD' (a b : List S57) (m : List S64) (ha : a.length ≤ 4194304) (hb : b.length ≤ 4194304) (hm : m.length ≤ 4194304) : B.Ev (fun k => impl_TopDown.f k a b m) (okTD a b m) := by
  simp only [impl_TopDown.f]
  refine B.Ev.bind (evMapOk' a b m ha hb hm) ?_
  have out : (okM a b m && rootsP m) = false → B.Ev (fun k => impl_TopDown.j0 k a b m true) (okTD a b m) := fun h => by
    refine B.Ev.succ ?_
    simp only [impl_TopDown.j0, ↓reduceIte]
    exact (B.Ev.pure _).eq (by unfold okTD; rw [h, Bool.false_and])
  refine B.Ev.ite (fun h => ?_) (fun h => out (by simp [h]))
  simp only [implRoots, Option.bind_some]
  cases hr : rootsP m
  · exact out (by simp [hr])
  · refine B.Ev.succ ?_
    obtain ⟨ta, tb, hU⟩ := okM_parts h
    have h1 : 1 ≤ m.length := by unfold rootsP at hr; simp at hr; omega
    have h1' : 1 ≤ (m.length : Int) := by omega
    simp only [Bool.not_true, impl_TopDown.j0, Bool.false_eq_true, ↓reduceIte, h1', Option.bind_some]
    have ld : (m.drop 1).length = m.length - 1 := by rw [List.length_drop]
    have key : ∀ i, i ≤ m.length - 1 → (∀ g, g < i + 1 → tdAt a b m g = true) → B.Ev (fun k => impl_TopDown.l0 k a b m (m.drop 1) ((m.drop 1).length : Int) (i : Int)) (okTD a b m) := by
      refine B.Ev.loop (g := fun k i => impl_TopDown.l0 k a b m (m.drop 1) ((m.drop 1).length : Int) (i : Int)) (m.length - 1) (fun i => ∀ g, g < i + 1 → tdAt a b m g = true) (fun hV => ?_) ?_
      · refine B.Ev.succ ?_
        simp only [impl_TopDown.l0, ld, show ¬ (((m.length - 1 : Nat) : Int) < ((m.length - 1 : Nat) : Int)) by omega, ↓reduceIte]
        exact (B.Ev.pure _).eq (okTD_true h hr fun i hi => hV i (by omega)).symm
      · intro i hi hV ih
        obtain ⟨x, y, ex, ey, hx, hy, x0, y0⟩ := nodesAt h hr (show i + 1 < m.length by omega) (by omega)
        refine B.Ev.succ ?_
        have a1 : (i : Int) < ((m.length - 1 : Nat) : Int) := by omega
        have a2 : 0 ≤ (i : Int) := by omega
        have gd : (m.drop 1).getD i z64 = m.getD (i + 1) z64 := by
          rw [B.getD_lt (by omega), B.getD_lt (by omega), List.getElem_drop]
          congr 1; omega
        simp only [impl_TopDown.l0, ld, a1, a2, ↓reduceIte, rdPair, gd, ex, ey, B.wsucc (show i < 9223372036854775807 by omega)]
        refine B.Ev.bind (evPar' ta hx) ?_
        refine B.Ev.bind (evPar' tb hy) ?_
        refine B.Ev.bind (evHasP m hm _ _) ?_
        have et := tdAt_any h hr (show i + 1 < m.length by omega) (by omega)
        rw [show pA m (i + 1) = (x : Int) from ex, show pB m (i + 1) = (y : Int) from ey, Int.toNat_natCast, Int.toNat_natCast] at et
        rw [← et]
        rw [ld] at ih
        refine B.Ev.ite (fun c => ?_) (fun c => ?_)
        · refine ih fun g hg => ?_
          rcases Nat.lt_or_ge g (i + 1) with d | d
          · exact hV g d
          · obtain rfl : g = i + 1 := by omega
            exact c
        · exact (B.Ev.pure _).eq (okTD_false (i := i + 1) (by omega) (Bool.eq_false_iff.2 c)).symm
    exact key 0 (Nat.zero_le _) (fun g hg => by
      obtain rfl : g = 0 := by omega
      simp [tdAt])
end Go.Proofs.Ytebaodiagljjfaa.X
