/- The distance of rows of labels: 0 to itself, alike there and back, no longer by a third row. -/
import Derived.Test.YtekpggmnnfjphaaXStr
import Derived.Test.YtekpggmnnfjphaaXUnit
namespace Go.Proofs.Ytekpggmnnfjphaa.X
open Go Go.RowKit Go.Proofs.YtekpggmnnfjphaaW.PrintWords Go.Proofs.YtekpggmnnfjphaaW.PrintLast Go.Proofs.YtekpggmnnfjphaaW.PrintMore Go.Proofs.Ytekpggmnnfjphaa.P

theorem D_del (a b d i r : List Int) (p q : Nat) : D a b d i r (p + 1) q ≤ D a b d i r p q + d.getD (a.getD p 0).toNat 0 := by
  cases q with
  | zero => rw [D]; omega
  | succ q => rw [D]; omega
theorem D_ins (a b d i r : List Int) (p q : Nat) : D a b d i r p (q + 1) ≤ D a b d i r p q + i.getD (b.getD q 0).toNat 0 := by
  cases p with
  | zero => rw [D]; omega
  | succ p => rw [D]; omega
theorem D_rel (a b d i r : List Int) (p q : Nat) : D a b d i r (p + 1) (q + 1) ≤ D a b d i r p q + r.getD ((a.getD p 0).toNat * 6 + (b.getD q 0).toNat) 0 := by
  rw [D]; omega
theorem D_cases (a b d i r : List Int) (p q : Nat) : (p = 0 ∧ q = 0 ∧ D a b d i r p q = 0) ∨ (∃ p', p = p' + 1 ∧ D a b d i r p q = D a b d i r p' q + d.getD (a.getD p' 0).toNat 0) ∨
    (∃ q', q = q' + 1 ∧ D a b d i r p q = D a b d i r p q' + i.getD (b.getD q' 0).toNat 0) ∨
    (∃ p' q', p = p' + 1 ∧ q = q' + 1 ∧ D a b d i r p q = D a b d i r p' q' + r.getD ((a.getD p' 0).toNat * 6 + (b.getD q' 0).toNat) 0) := by
  rcases p with _ | p <;> rcases q with _ | q
  · exact Or.inl ⟨rfl, rfl, by rw [D]⟩
  · exact Or.inr (Or.inr (Or.inl ⟨q, rfl, by rw [D]⟩))
  · exact Or.inr (Or.inl ⟨p, rfl, by rw [D]⟩)
  · have h := D.eq_4 a b d i r p q
    generalize D a b d i r (p + 1) (q + 1) = v at h ⊢
    rcases Int.le_total (min (D a b d i r p (q + 1) + d.getD (a.getD p 0).toNat 0) (D a b d i r (p + 1) q + i.getD (b.getD q 0).toNat 0)) (D a b d i r p q + r.getD ((a.getD p 0).toNat * 6 + (b.getD q 0).toNat) 0) with c | c
    · rw [Int.min_eq_left c] at h
      rcases Int.le_total (D a b d i r p (q + 1) + d.getD (a.getD p 0).toNat 0) (D a b d i r (p + 1) q + i.getD (b.getD q 0).toNat 0) with c2 | c2
      · rw [Int.min_eq_left c2] at h; exact Or.inr (Or.inl ⟨p, rfl, h⟩)
      · rw [Int.min_eq_right c2] at h; exact Or.inr (Or.inr (Or.inl ⟨q, rfl, h⟩))
    · rw [Int.min_eq_right c] at h; exact Or.inr (Or.inr (Or.inr ⟨p, q, rfl, rfl, h⟩))
/-- From a row to itself. -/
theorem D_self (a d i r : List Int) (hn : ∀ p q, 0 ≤ D a a d i r p q) (hr : ∀ p, r.getD ((a.getD p 0).toNat * 6 + (a.getD p 0).toNat) 0 = 0) : ∀ n, D a a d i r n n = 0 := by
  intro n
  induction n with
  | zero => rw [D]
  | succ n ih =>
    have h1 := D_rel a a d i r n n
    rw [ih, hr n] at h1
    have := hn (n + 1) (n + 1)
    omega
/-- There and back. -/
theorem D_swap (a b d i r r' : List Int) (hr : ∀ p q, r'.getD ((b.getD q 0).toNat * 6 + (a.getD p 0).toNat) 0 = r.getD ((a.getD p 0).toNat * 6 + (b.getD q 0).toNat) 0) :
    ∀ n p q, p + q = n → D b a i d r' q p = D a b d i r p q := by
  intro n
  induction n using Nat.strongRecOn with
  | _ n ih =>
    intro p q hn
    rcases p with _ | p <;> rcases q with _ | q
    · rw [D, D]
    · rw [D, D, ih (0 + q) (by omega) 0 q rfl]
    · rw [D, D, ih (p + 0) (by omega) p 0 rfl]
    · rw [D, D, ih (p + (q + 1)) (by omega) p (q + 1) rfl, ih (p + 1 + q) (by omega) (p + 1) q rfl, ih (p + q) (by omega) p q rfl, hr p q]
      omega
/-- All that is asked of costs where each change costs 1, for three rows. -/
structure One (a b d i r : List Int) : Prop where
  hd : ∀ p, d.getD (a.getD p 0).toNat 0 = 1
  hi : ∀ q, i.getD (b.getD q 0).toNat 0 = 1
  hr : ∀ p q, r.getD ((a.getD p 0).toNat * 6 + (b.getD q 0).toNat) 0 = if (a.getD p 0).toNat = (b.getD q 0).toNat then 0 else 1
theorem D_tri {a b e d i r : List Int} (h1 : One a b d i r) (h2 : One a e d i r) (h3 : One e b d i r) : ∀ n p q s, p + q + s = n → D a b d i r p s ≤ D a e d i r p q + D e b d i r q s := by
  intro n
  induction n using Nat.strongRecOn with
  | _ n ih =>
    intro p q s hn
    have hdel : ∀ p', p = p' + 1 → D a b d i r p s ≤ D a b d i r p' s + 1 := fun p' e => by subst e; have := D_del a b d i r p' s; rw [h1.hd] at this; exact this
    have hins : ∀ s', s = s' + 1 → D a b d i r p s ≤ D a b d i r p s' + 1 := fun s' e => by subst e; have := D_ins a b d i r p s'; rw [h1.hi] at this; exact this
    rcases D_cases a e d i r p q with ⟨e1, e2, e3⟩ | ⟨p', rfl, e3⟩ | ⟨q', e1, e3⟩ | ⟨p', q', e1, e2, e3⟩
    · rcases D_cases e b d i r q s with ⟨f1, f2, f3⟩ | ⟨q', f1, f3⟩ | ⟨s', rfl, f3⟩ | ⟨q', s', f1, f2, f3⟩
      · subst e1 f2; rw [e3, f3, D]; decide
      · omega
      · have := hins s' rfl
        have := ih (p + q + s') (by omega) p q s' rfl
        rw [h3.hi] at f3; omega
      · omega
    · have := hdel p' rfl
      have := ih (p' + q + s) (by omega) p' q s rfl
      rw [h2.hd] at e3; omega
    · rcases D_cases e b d i r q s with ⟨f1, f2, f3⟩ | ⟨q2, f1, f3⟩ | ⟨s', rfl, f3⟩ | ⟨q2, s', f1, rfl, f3⟩
      · omega
      · obtain rfl : q' = q2 := by omega
        have := ih (p + q' + s) (by omega) p q' s rfl
        rw [h2.hi] at e3; rw [h3.hd] at f3; omega
      · have := hins s' rfl
        have := ih (p + q + s') (by omega) p q s' rfl
        rw [h3.hi] at f3; omega
      · obtain rfl : q' = q2 := by omega
        have := hins s' rfl
        have := ih (p + q' + s') (by omega) p q' s' rfl
        rw [h2.hi] at e3; rw [h3.hr] at f3
        split at f3 <;> omega
    · rcases D_cases e b d i r q s with ⟨f1, f2, f3⟩ | ⟨q2, f1, f3⟩ | ⟨s', rfl, f3⟩ | ⟨q2, s', f1, rfl, f3⟩
      · omega
      · obtain rfl : q' = q2 := by omega
        have := hdel p' e1
        have := ih (p' + q' + s) (by omega) p' q' s rfl
        rw [h2.hr] at e3; rw [h3.hd] at f3
        split at e3 <;> omega
      · have := hins s' rfl
        have := ih (p + q + s') (by omega) p q s' rfl
        rw [h3.hi] at f3; omega
      · obtain rfl : q' = q2 := by omega
        subst e1
        have h4 := D_rel a b d i r p' s'
        have := ih (p' + q' + s') (by omega) p' q' s' rfl
        rw [h1.hr] at h4; rw [h2.hr] at e3; rw [h3.hr] at f3
        split at e3 <;> split at f3 <;> split at h4 <;> omega
theorem D_max {a b d i r : List Int} (h : One a b d i r) : ∀ n p q, p + q = n → D a b d i r p q ≤ max (p : Int) (q : Int) := by
  intro n
  induction n using Nat.strongRecOn with
  | _ n ih =>
    intro p q hn
    rcases p with _ | p <;> rcases q with _ | q
    · rw [D]; decide
    · have := D_ins a b d i r 0 q
      have := ih (0 + q) (by omega) 0 q rfl
      rw [h.hi] at *; omega
    · have := D_del a b d i r p 0
      have := ih (p + 0) (by omega) p 0 rfl
      rw [h.hd] at *; omega
    · have h4 := D_rel a b d i r p q
      have := ih (p + q) (by omega) p q rfl
      rw [h.hr] at h4
      split at h4 <;> omega
theorem D_nil {a b d i r : List Int} (hd : ∀ p, d.getD (a.getD p 0).toNat 0 = 1) : ∀ p, D a b d i r p 0 = (p : Int) := by
  intro p
  induction p with
  | zero => rw [D]; rfl
  | succ p ih => rw [D, ih, hd]; omega
theorem One.unit {a b : List Int} (ha : labelsOk a = true) (hb : labelsOk b = true) : One a b u6 u6 u36 := by
  have va := label_getD (labelsOk_iff.1 ha).2
  have vb := label_getD (labelsOk_iff.1 hb).2
  exact ⟨fun p => u6_get (by have := va p; omega), fun q => u6_get (by have := vb q; omega), fun p q => u36_get (by have := va p; omega) (by have := vb q; omega)⟩
/-- The costs with what goes and what comes changed for each other. -/
def tr (r : List Int) : List Int := (List.range 36).map fun k => r.getD (k % 6 * 6 + k / 6) 0
theorem tr_length (r : List Int) : (tr r).length = 36 := by simp [tr]
theorem tr_get (r : List Int) {k : Nat} (h : k < 36) : (tr r).getD k 0 = r.getD (k % 6 * 6 + k / 6) 0 := by
  rw [B.getD_lt (by rw [tr_length]; exact h)]; simp [tr]
theorem tr_at (r : List Int) {x y : Nat} (hx : x ≤ 5) (hy : y ≤ 5) : (tr r).getD (x * 6 + y) 0 = r.getD (y * 6 + x) 0 := by
  rw [tr_get r (by omega)]
  congr 1
  omega
theorem mem_getD {r : List Int} {P : Int → Prop} (h : ∀ x ∈ r, P x) {k : Nat} (hk : k < r.length) : P (r.getD k 0) := by rw [B.getD_lt hk]; exact h _ (List.getElem_mem hk)
theorem diag_all {r : List Int} : diag r 6 = true ↔ ∀ x, x ≤ 5 → r.getD (7 * x) 0 = 0 := by
  unfold diag; rw [List.all_eq_true]
  exact ⟨fun h x hx => by simpa using h x (List.mem_range.2 (by omega)), fun h x hx => by have := List.mem_range.1 hx; simpa using h x (by omega)⟩
theorem okC_swap {d i r : List Int} (h : okC d i r = true) : okC i d (tr r) = true := by
  obtain ⟨h1, h2, h3, h4⟩ := okC_parts h
  unfold okC
  rw [costIn_iff.2 h1, costIn_iff.2 h2, costIn_iff.2 ⟨tr_length r, ?_⟩, diag_all.2 ?_]; rfl
  · intro x hx
    have := diag_all.1 h4 x hx
    rw [tr_get r (by omega), show 7 * x % 6 * 6 + 7 * x / 6 = 7 * x by omega]
    exact this
  · intro x hx
    unfold tr at hx
    obtain ⟨k, hk, rfl⟩ := List.mem_map.1 hx
    have := List.mem_range.1 hk
    exact mem_getD h3.2 (by omega)
theorem strDist_swap (a b d i r : List Int) (hc : okC d i r = true) : strDist b a i d (tr r) = strDist a b d i r := by
  unfold strDist
  rw [hc, okC_swap hc, Bool.and_true, Bool.and_true, Bool.and_comm]
  split
  · next h =>
    rw [Bool.and_eq_true] at h
    have va := label_getD (labelsOk_iff.1 h.1).2
    have vb := label_getD (labelsOk_iff.1 h.2).2
    exact D_swap a b d i r (tr r) (fun p q => tr_at r (by have := vb q; omega) (by have := va p; omega)) _ _ _ rfl
  · rfl
end Go.Proofs.Ytekpggmnnfjphaa.X
