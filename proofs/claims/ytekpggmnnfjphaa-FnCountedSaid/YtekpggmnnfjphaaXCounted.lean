/- How many nodes have a label, or a depth: each count, their sums; CountBound told as a number. -/
import Derived.Test.YtekpggmnnfjphaaXCounts
import Derived.Test.YtekpggmnnfjphaaXDrawTree
import Derived.Test.YtekpggmnnfjphaaG10
namespace Go.Proofs.Ytekpggmnnfjphaa.X
open Go Go.RowKit Go.Proofs.YtekpggmnnfjphaaW.PrintWords Go.Proofs.YtekpggmnnfjphaaW.PrintLast Go.Proofs.YtekpggmnnfjphaaW.PrintMore Go.Proofs.Ytekpggmnnfjphaa.P

/-- How many nodes are told j. -/
def cnt (f : S48 → Int) (l : List S48) (j : Int) : Nat := l.countP (fun n => decide (f n = j))
theorem tally_get (f : S48 → Int) (m : Nat) (l : List S48) (hl : l.length ≤ 4194304) (h : ∀ n ∈ l, 0 ≤ f n ∧ f n < (m : Int)) (j : Nat) (hj : j < m) : (tally f m l).getD j 0 = ((cnt f l (j : Int) : Nat) : Int) := by
  obtain ⟨r, rfl⟩ : ∃ r, l = r.reverse := ⟨l.reverse, by simp⟩
  induction r with
  | nil => simp [tally, cnt, hj]
  | cons a r ih =>
    rw [List.reverse_cons] at hl h ⊢
    have h1 : ∀ n ∈ r.reverse, 0 ≤ f n ∧ f n < (m : Int) := fun n hn => h n (List.mem_append_left _ hn)
    have h2 := h a (by simp)
    have ih' := ih (by rw [List.length_append] at hl; omega) h1
    have e1 : tally f m (r.reverse ++ [a]) = bump (tally f m r.reverse) (f a) := by unfold tally; rw [List.foldl_append]; rfl
    have e2 : cnt f (r.reverse ++ [a]) (j : Int) = cnt f r.reverse (j : Int) + (if f a = (j : Int) then 1 else 0) := by
      unfold cnt; rw [List.countP_append, List.countP_singleton]; by_cases c : f a = (j : Int) <;> simp [c]
    have hb : cnt f r.reverse (j : Int) ≤ 4194304 := Nat.le_trans List.countP_le_length (by rw [List.length_append] at hl; omega)
    rw [e1, e2]
    unfold bump
    have ht := tally_length f m r.reverse
    by_cases c : f a = (j : Int)
    · rw [if_pos c, c, Int.toNat_natCast]
      rw [List.getD_eq_getElem?_getD, List.getElem?_set_self (by omega)]
      show wrap64 (rd _ (j : Int) + 1) = _
      rw [rdInt, ih', B.wid (by omega) (by omega)]
      omega
    · rw [if_neg c, Nat.add_zero, ← ih', List.getD_eq_getElem?_getD, List.getElem?_set_ne (by omega), List.getD_eq_getElem?_getD]
/-- How many are told less than j. -/
def cntlt (f : S48 → Int) (l : List S48) (j : Int) : Nat := l.countP (fun n => decide (f n < j))
theorem cntlt_succ (f : S48 → Int) (l : List S48) (j : Int) : cntlt f l (j + 1) = cntlt f l j + cnt f l j := by
  unfold cntlt cnt
  induction l with
  | nil => rfl
  | cons a l ih =>
    rw [List.countP_cons, List.countP_cons, List.countP_cons, ih]
    simp only [decide_eq_true_eq]
    split <;> split <;> split <;> omega
theorem cntlt_zero (f : S48 → Int) (l : List S48) (h : ∀ n ∈ l, 0 ≤ f n) : cntlt f l 0 = 0 := by
  unfold cntlt; rw [List.countP_eq_zero]; intro n hn; have := h n hn; simp; omega
theorem cntlt_all (f : S48 → Int) (l : List S48) (m : Int) (h : ∀ n ∈ l, f n < m) : cntlt f l m = l.length := by
  unfold cntlt; rw [List.countP_eq_length]; intro n hn; have := h n hn; simp; omega
theorem cntlt_le (f : S48 → Int) (l : List S48) (j : Int) : cntlt f l j ≤ l.length := List.countP_le_length

theorem height_attained (l : List S48) (m : Int) : l.foldl (fun m n => mx m (n.f1 + 1)) m = m ∨ ∃ n ∈ l, n.f1 + 1 = l.foldl (fun m n => mx m (n.f1 + 1)) m := by
  induction l generalizing m with
  | nil => exact Or.inl rfl
  | cons a l ih =>
    rw [List.foldl_cons]
    rcases ih (mx m (a.f1 + 1)) with h | ⟨n, hn, h⟩
    · rw [h, mx_max]
      rcases Int.le_total (a.f1 + 1) m with c | c
      · exact Or.inl (by omega)
      · exact Or.inr ⟨a, by simp, by omega⟩
    · exact Or.inr ⟨n, by simp [hn], h⟩
/-- Each depth up to that of a node is one of a node. -/
theorem depth_below {l : List S48} (h : okT l = true) : ∀ i, i < l.length → ∀ j : Int, 0 ≤ j → j ≤ dep l i → ∃ g, g < l.length ∧ dep l g = j := by
  intro i
  induction i with
  | zero => intro hi j h0 hj; exact ⟨0, hi, by have := ((okT_at h hi).2.2.1).2 rfl; omega⟩
  | succ i ih =>
    intro hi j h0 hj
    by_cases c : j ≤ dep l i
    · exact ih (by omega) j h0 c
    · refine ⟨i + 1, hi, ?_⟩
      rcases (okT_at h hi).2.2.2 with e | e
      · omega
      · simp only [Nat.add_sub_cancel] at e; omega
theorem depth_each {l : List S48} (h : okT l = true) (j : Nat) (hj : (j : Int) < heightOf l) : 1 ≤ cnt S48.f1 l (j : Int) := by
  have ha := height_attained l 0
  have hb := heightOf_bounds h
  unfold heightOf at hj hb
  rw [if_pos h] at hj hb
  rcases ha with e | ⟨n, hn, e⟩
  · omega
  · obtain ⟨i, hi, rfl⟩ := List.mem_iff_getElem.1 hn
    have ei : dep l i = l[i].f1 := by unfold dep; rw [getD_z hi]
    obtain ⟨g, hg, eg⟩ := depth_below h i hi (j : Int) (by omega) (by omega)
    have eg' : dep l g = l[g].f1 := by unfold dep; rw [getD_z hg]
    show 0 < _
    unfold cnt
    rw [List.countP_pos_iff]
    exact ⟨l[g], List.getElem_mem hg, by simp; omega⟩
theorem depth_root {l : List S48} (h : okT l = true) : cnt S48.f1 l 0 = 1 := by
  have hl := (okT_len h).1
  cases l with
  | nil => simp at hl
  | cons a t =>
    have e0 := ((okT_at h (i := 0) (by simp)).2.2.1).2 rfl
    unfold dep at e0
    simp at e0
    unfold cnt
    rw [List.countP_cons, List.countP_eq_zero.2]
    · simp [e0]
    · intro n hn
      obtain ⟨i, hi, rfl⟩ := List.mem_iff_getElem.1 hn
      have e1 := (okT_at h (i := i + 1) (by simp; omega)).2.2.1
      unfold dep at e1
      simp [hi] at e1 ⊢
      exact e1

/-! ### CountBound -/
def cbGo (x y : List Int) : Nat → Nat → Int → Int → Int
  | 0, _, a, b => mx a b
  | n + 1, i, a, b => cbGo x y n (i + 1) (wrap64 (a + mx 0 (wrap64 (x.getD i 0 - y.getD i 0)))) (wrap64 (b + mx 0 (wrap64 (y.getD i 0 - x.getD i 0))))
theorem cbGo_comm (x y : List Int) : ∀ n i a b, cbGo x y n i a b = cbGo y x n i b a := by
  intro n
  induction n with
  | zero => intro i a b; simp only [cbGo, mx_max]; omega
  | succ n ih => intro i a b; simp only [cbGo]; exact ih _ _ _
theorem cbGo_self (x : List Int) : ∀ n i, cbGo x x n i 0 0 = 0 := by
  intro n
  induction n with
  | zero => intro i; rfl
  | succ n ih =>
    intro i
    simp only [cbGo, Int.sub_self]
    have e0 : wrap64 0 = 0 := B.wid (by omega) (by omega)
    have e1 : mx 0 0 = 0 := by unfold mx; decide
    rw [e0, e1, Int.add_zero, e0]
    exact ih (i + 1)
def cbN (a b : List S48) : Int := if okT a && okT b then cbGo (labelCounts a) (labelCounts b) 6 0 0 0 else -1
theorem cbN_comm (a b : List S48) : cbN a b = cbN b a := by unfold cbN; rw [Bool.and_comm, cbGo_comm]
theorem cbN_self {a : List S48} (h : okT a = true) : cbN a a = 0 := by unfold cbN; rw [h]; exact cbGo_self _ _ _
theorem evCount (a b : List S48) (ha : a.length ≤ 4194304) (hb : b.length ≤ 4194304) : B.Ev (fun k => impl_CountBound.f k a b) (cbN a b) := by
  simp only [impl_CountBound.f]
  refine B.Ev.bind (B.Ev.of _ (fun k hk => implLabelCounts a ha k hk)) ?_
  refine B.Ev.bind (B.Ev.of _ (fun k hk => implLabelCounts b hb k hk)) ?_
  have la := labelCounts_length a
  have lb := labelCounts_length b
  unfold cbN
  cases oa : okT a with
  | false =>
    rw [oa] at la
    simp only [Bool.false_eq_true, ↓reduceIte] at la
    simp only [la, show ((0 : Nat) : Int) = 0 from rfl, ↓reduceIte, Bool.false_and, Bool.false_eq_true]
    refine B.Ev.succ ?_
    simp only [impl_CountBound.j0, ↓reduceIte]
    exact B.Ev.pure _
  | true =>
    rw [oa] at la
    simp only [↓reduceIte] at la
    simp only [la, show ¬ ((6 : Nat) : Int) = 0 by decide, ↓reduceIte, Bool.true_and]
    cases ob : okT b with
    | false =>
      rw [ob] at lb
      simp only [Bool.false_eq_true, ↓reduceIte] at lb
      refine B.Ev.succ ?_
      simp only [lb, impl_CountBound.j0, show ((((0 : Nat) : Int) == 0) = true) by decide, ↓reduceIte, Bool.false_eq_true]
      exact B.Ev.pure _
    | true =>
      rw [ob] at lb
      simp only [↓reduceIte] at lb
      refine B.Ev.succ ?_
      simp only [lb, impl_CountBound.j0, show ((((6 : Nat) : Int) == 0) = false) by decide, ↓reduceIte, Bool.false_eq_true, la]
      suffices H : ∀ (n i : Nat) (x y : Int), i + n = 6 → B.Ev (fun k => impl_CountBound.l0 k (labelCounts a) (labelCounts b) x y ((6 : Nat) : Int) (i : Int)) (cbGo (labelCounts a) (labelCounts b) n i x y) from H 6 0 0 0 (by omega)
      intro n
      induction n with
      | zero =>
        intro i x y hi
        refine B.Ev.succ ?_
        simp only [impl_CountBound.l0, show ¬ ((i : Int) < ((6 : Nat) : Int)) by omega, ↓reduceIte, cbGo]
        exact B.Ev.pure _
      | succ n ih =>
        intro i x y hi
        refine B.Ev.succ ?_
        simp only [impl_CountBound.l0, la, lb, show ((i : Int) < ((6 : Nat) : Int)) by omega, show 0 ≤ (i : Int) by omega, ↓reduceIte, cbGo, B.wsucc (show i < 9223372036854775807 by omega), rdInt]
        exact ih (i + 1) _ _ (by omega)

/-! ### what is drawn -/
theorem drSimilarity (l : List Int) (hl : l.length ≤ 4194304) : B.EvP (fun k => spec_DrawSimilarity.f k l) (fun t => t.1.length ≤ 2000 ∧ t.2.length ≤ 2000) := by
  simp only [spec_DrawSimilarity.f]
  refine B.EvP.bind (drNew l hl) ?_
  rintro ⟨b, i, h⟩ ⟨e1, e2⟩
  obtain rfl : l = b := e1.symm
  obtain rfl : 0 = i := e2.symm
  dsimp only
  refine B.EvP.bind (drAny hl h 9 (by omega) (by omega) (by omega)) ?_
  rintro ⟨x, i, h⟩ ⟨hx, h0, h1⟩
  simp only at hx h0 h1
  refine B.EvP.bind (drOnce hl h 2 h0 h1) ?_
  rintro ⟨c, i, h⟩ ⟨_, h0, h1⟩
  simp only at h0 h1
  have fin : ∀ c : Bool, B.EvP (fun k => spec_DrawSimilarity.j0 k x c l i h) (fun t => t.1.length ≤ 2000 ∧ t.2.length ≤ 2000) := fun c => by
    refine B.EvP.succ ?_
    simp only [spec_DrawSimilarity.j0]
    refine B.EvP.ite (fun _ => ?_) (fun _ => ?_)
    · refine B.EvP.bind (drNear hl h x (by omega) h0 h1) ?_
      rintro ⟨y, i, h⟩ ⟨hy, _, _⟩
      simp only at hy
      exact B.EvP.pure ⟨by simp only; omega, by simp only; omega⟩
    · refine B.EvP.bind (drTree hl h 9 (by omega) h0 h1) ?_
      rintro ⟨y, i, h⟩ ⟨hy, _, _⟩
      simp only at hy
      exact B.EvP.pure ⟨by simp only; omega, by simp only; omega⟩
  refine B.EvP.ite (fun _ => ?_) (fun _ => fin false)
  refine B.EvP.bind (B.EvP.of (B.Ev.of _ (fun k hk => specTreeOk x (by omega) k hk)) (P := fun _ => True) trivial) ?_
  intro c _
  exact fin c
theorem drCountBound (l : List Int) (hl : l.length ≤ 4194304) : B.EvP (fun k => spec_DrawCountBound.f k l) (fun t => t.1.length ≤ 2000 ∧ t.2.length ≤ 2000) := by
  simp only [spec_DrawCountBound.f]
  refine B.EvP.bind (drSimilarity l hl) ?_
  intro t ht
  exact B.EvP.pure ht
end Go.Proofs.Ytekpggmnnfjphaa.X
