/- What valid costs are, that the reference and the program both tell it, and the cost of a label. -/
import Derived.Test.YtockkelkdimehaaXRd
import Derived.Test.YtockkelkdimehaaXMark
import Derived.Test.YtockkelkdimehaaXIntsTo
import Derived.Test.YtockkelkdimehaaG43
import Derived.Test.YtockkelkdimehaaG58
namespace Go.Proofs.Ytockkelkdimehaa.X
open Go Go.RowKit Go.Proofs.YtockkelkdimehaaW.PrintWords Go.Proofs.YtockkelkdimehaaW.PrintLast Go.Proofs.YtockkelkdimehaaW.PrintMore Go.Proofs.Ytockkelkdimehaa.P

def costIn (l : List Int) (n : Nat) : Bool := decide (l.length = n) && !(l.any fun x => !decide (0 ≤ x ∧ x ≤ 1000))
theorem costIn_iff {l : List Int} {n : Nat} : costIn l n = true ↔ l.length = n ∧ ∀ x ∈ l, 0 ≤ x ∧ x ≤ 1000 := by
  unfold costIn; simp
def diag (r : List Int) (n : Nat) : Bool := (List.range n).all fun a => decide (r.getD (7 * a) 0 = 0)
/-- The costs are valid. -/
def okC (d i r : List Int) : Bool := (costIn d 6 && costIn i 6 && costIn r 36) && diag r 6

theorem specL7In (l : List Int) (n : Nat) (hl : l.length ≤ 4194304) (k : Nat) (hk : l.length < k) : spec_l7In.f k l (n : Int) = some (costIn l n) := by
  unfold spec_l7In.f
  have h := B.loop (fun k i => spec_l7In.l0 k l (n : Int) (i : Int)) l.length (fun i => some (decide (l.length = n) && !((l.drop i).any fun x => !decide (0 ≤ x ∧ x ≤ 1000))))
    (fun k => by
      simp only [spec_l7In.l0]
      rw [if_neg (by omega), List.drop_length]
      simp only [List.any_nil, Bool.not_false, Bool.and_true, Option.some.injEq]
      rw [Bool.eq_iff_iff]; simp only [beq_iff_eq, decide_eq_true_eq]; omega)
    (fun k i hi ih => by
      have a1 : (i : Int) < (l.length : Int) := by omega
      have a3 : 0 ≤ (i : Int) := by omega
      simp only [spec_l7In.l0, a1, a3, ↓reduceIte, B.wsucc (show i < 9223372036854775807 by omega), rdInt, l1In, Option.bind_some, B.getD_lt hi]
      rw [List.drop_eq_getElem_cons hi, List.any_cons]
      by_cases hc : 0 ≤ l[i] ∧ l[i] ≤ 1000
      · rw [if_pos (by simpa using hc), ih]; simp [hc]
      · rw [if_neg (by simpa using hc)]; simp [hc]) k 0 (by omega) (by omega)
  exact h

theorem idxPrices (l : List Int) (hl : l.length ≤ 4194304) (k : Nat) (hk : l.length < k) : slices_IndexFunc_int_int__pricesOk_lit1.f k l = some (B.idxFrom (fun x => !decide (0 ≤ x ∧ x ≤ 1000)) l 0) := by
  unfold slices_IndexFunc_int_int__pricesOk_lit1.f
  have h := B.loop (fun k i => slices_IndexFunc_int_int__pricesOk_lit1.l0 k l (l.length : Int) (i : Int)) l.length (fun i => some (B.idxFrom (fun x => !decide (0 ≤ x ∧ x ≤ 1000)) (l.drop i) i))
    (fun k => by
      simp only [slices_IndexFunc_int_int__pricesOk_lit1.l0]
      rw [if_neg (by omega), List.drop_length]; rfl)
    (fun k i hi ih => by
      have a1 : (i : Int) < (l.length : Int) := by omega
      have a3 : 0 ≤ (i : Int) := by omega
      simp only [slices_IndexFunc_int_int__pricesOk_lit1.l0, impl_pricesOk_lit1.f, a1, a3, ↓reduceIte, B.wsucc (show i < 9223372036854775807 by omega), rdInt, within, Option.bind_some, B.getD_lt hi]
      rw [B.idxFrom_drop _ _ hi]
      split
      · rfl
      · exact ih) k 0 (by omega) (by omega)
  exact h

theorem implPricesOk (l : List Int) (n : Nat) (hl : l.length ≤ 4194304) (k : Nat) (hk : l.length < k) : impl_pricesOk.f k l (n : Int) = some (costIn l n) := by
  unfold impl_pricesOk.f costIn
  by_cases h : l.length = n
  · rw [if_pos (by omega), decide_eq_true h]
    unfold slices_ContainsFunc_int_int__pricesOk_lit1.f
    rw [idxPrices l hl k hk]
    simp only [Option.bind_some, B.idxFrom_any, Bool.true_and]
  · rw [if_neg (by omega), decide_eq_false h]; rfl

theorem diag_loop (r : List Int) (hr : r.length = 36) {i : Nat} (hi : i < 6) : wrap64 (wrap64 ((i : Int) * 6) + (i : Int)) = ((7 * i : Nat) : Int) ∧ 7 * i < r.length := by
  refine ⟨?_, by omega⟩
  unfold wrap64; omega

theorem diag_succ (r : List Int) (n : Nat) : diag r (n + 1) = (diag r n && decide (r.getD (7 * n) 0 = 0)) := by unfold diag; rw [List.range_succ, List.all_append]; simp
theorem diag_false {r : List Int} {i n : Nat} (h : r.getD (7 * i) 0 ≠ 0) (hi : i < n) : diag r n = false := by
  rw [Bool.eq_false_iff]; intro hc; unfold diag at hc
  have := List.all_eq_true.1 hc i (List.mem_range.2 hi)
  simp only [decide_eq_true_eq] at this
  exact h this

theorem specCostLoop (d i r : List Int) (hr : r.length = 36) (k : Nat) (hk : 6 < k) : spec_CostOk.l0 k 0 d i r = some (diag r 6) := by
  refine B.loopI (fun k j => spec_CostOk.l0 k (j : Int) d i r) 6 0 (fun j => diag r j = true) (fun _ => some (diag r 6)) ?_ ?_ k 0 (by omega) (by simp [diag]) (by omega)
  · intro k _ hI
    simp only [spec_CostOk.l0]
    rw [if_neg (by omega), hI]
  · intro k j _ hj hI ih
    obtain ⟨e, hlt⟩ := diag_loop r hr hj
    have a1 : (j : Int) < 6 := by omega
    have a2 : ((7 * j : Nat) : Int) < (r.length : Int) := by omega
    have a3 : 0 ≤ ((7 * j : Nat) : Int) := by omega
    simp only [spec_CostOk.l0, e, a1, a2, a3, ↓reduceIte, B.wsucc (show j < 9223372036854775807 by omega), rdInt]
    by_cases hc : r.getD (7 * j) 0 = 0
    · rw [if_pos hc]
      exact ih (by rw [diag_succ, hI, decide_eq_true hc]; rfl)
    · rw [if_neg hc, diag_false hc hj]
theorem implCostLoop (d i r : List Int) (hr : r.length = 36) (k : Nat) (hk : 6 < k) : impl_CostOk.l0 k 0 d i r = some (diag r 6) := by
  refine B.loopI (fun k j => impl_CostOk.l0 k (j : Int) d i r) 6 0 (fun j => diag r j = true) (fun _ => some (diag r 6)) ?_ ?_ k 0 (by omega) (by simp [diag]) (by omega)
  · intro k _ hI
    simp only [impl_CostOk.l0]
    rw [if_neg (by omega), hI]
  · intro k j _ hj hI ih
    obtain ⟨e, hlt⟩ := diag_loop r hr hj
    have a1 : (j : Int) < 6 := by omega
    have a2 : ((7 * j : Nat) : Int) < (r.length : Int) := by omega
    have a3 : 0 ≤ ((7 * j : Nat) : Int) := by omega
    simp only [impl_CostOk.l0, e, a1, a2, a3, ↓reduceIte, B.wsucc (show j < 9223372036854775807 by omega), rdInt]
    by_cases hc : r.getD (7 * j) 0 = 0
    · rw [if_pos hc]
      exact ih (by rw [diag_succ, hI, decide_eq_true hc]; rfl)
    · rw [if_neg hc, diag_false hc hj]

theorem specCostOk (d i r : List Int) (hd : d.length ≤ 4194304) (hi : i.length ≤ 4194304) (hr : r.length ≤ 4194304) (k : Nat) (hk : 4194305 < k) : spec_CostOk.f k d i r = some (okC d i r) := by
  obtain ⟨k, rfl⟩ : ∃ m, k = m + 1 := ⟨k - 1, by omega⟩
  unfold spec_CostOk.f okC
  have e1 := specL7In d 6 hd (k + 1) (by omega)
  have e2 := specL7In i 6 hi (k + 1) (by omega)
  have e3 := specL7In r 36 hr (k + 1) (by omega)
  simp only [Int.cast_ofNat_Int] at e1 e2 e3
  rw [e1, e2, e3]
  simp only [Option.bind_some, spec_CostOk.j0]
  cases h1 : costIn d 6
  · rfl
  cases h2 : costIn i 6
  · rfl
  cases h3 : costIn r 36
  · rfl
  simp only [↓reduceIte, Bool.not_true, Bool.false_eq_true, Bool.and_self, Bool.true_and]
  exact specCostLoop d i r (costIn_iff.1 h3).1 k (by omega)

theorem implCostOk (d i r : List Int) (hd : d.length ≤ 4194304) (hi : i.length ≤ 4194304) (hr : r.length ≤ 4194304) (k : Nat) (hk : 4194305 < k) : impl_CostOk.f k d i r = some (okC d i r) := by
  obtain ⟨k, rfl⟩ : ∃ m, k = m + 1 := ⟨k - 1, by omega⟩
  unfold impl_CostOk.f okC
  have e1 := implPricesOk d 6 hd (k + 1) (by omega)
  have e2 := implPricesOk i 6 hi (k + 1) (by omega)
  have e3 := implPricesOk r 36 hr (k + 1) (by omega)
  simp only [Int.cast_ofNat_Int] at e1 e2 e3
  rw [e1, e2, e3]
  simp only [Option.bind_some, impl_CostOk.j0]
  cases h1 : costIn d 6
  · rfl
  cases h2 : costIn i 6
  · rfl
  cases h3 : costIn r 36
  · rfl
  simp only [↓reduceIte, Bool.not_true, Bool.false_eq_true, Bool.and_self, Bool.true_and]
  exact implCostLoop d i r (costIn_iff.1 h3).1 k (by omega)

theorem okC_parts {d i r : List Int} (h : okC d i r = true) : (d.length = 6 ∧ ∀ x ∈ d, 0 ≤ x ∧ x ≤ 1000) ∧ (i.length = 6 ∧ ∀ x ∈ i, 0 ≤ x ∧ x ≤ 1000) ∧ (r.length = 36 ∧ ∀ x ∈ r, 0 ≤ x ∧ x ≤ 1000) ∧ diag r 6 = true := by
  unfold okC at h
  simp only [Bool.and_eq_true] at h
  exact ⟨costIn_iff.1 h.1.1.1, costIn_iff.1 h.1.1.2, costIn_iff.1 h.1.2, h.2⟩

theorem getD_bound {l : List Int} (h : ∀ x ∈ l, 0 ≤ x ∧ x ≤ 1000) (i : Nat) : 0 ≤ l.getD i 0 ∧ l.getD i 0 ≤ 1000 := by
  rcases Nat.lt_or_ge i l.length with hi | hi
  · rw [B.getD_lt hi]; exact h _ (List.getElem_mem hi)
  · rw [List.getD_eq_getElem?_getD, List.getElem?_eq_none hi]; simp
theorem toCost (d i r : List Int) (hd : d.length ≤ 4194304) (hi : i.length ≤ 4194304) (hr : r.length ≤ 4194304) (k : Nat) (hk : 4194304 < k) : laws_toCost.f k d i r = some (d, i, r) := by
  unfold laws_toCost.f
  simp only [toIntS d hd k (by omega), toIntS i hi k (by omega), toIntS r hr k (by omega), Option.bind_some]
theorem eqCost (d i r : List Int) (hd : d.length ≤ 4194304) (hi : i.length ≤ 4194304) (hr : r.length ≤ 4194304) (k : Nat) (hk : 4194304 < k) : laws_eqCost.f k d i r d i r = some true := by
  unfold laws_eqCost.f
  simp only [eqIntS d hd k (by omega), eqIntS i hi k (by omega), eqIntS r hr k (by omega), Option.bind_some, ↓reduceIte]
theorem szIntS (l : List Int) (a : Int) (h0 : 0 ≤ a) (h1 : a ≤ 1048576) (hl : l.length ≤ maxLen) : laws_szIntS.f l a = some (if a < (l.length : Int) then -1 else a - (l.length : Int)) := by
  have hl' : l.length ≤ 9223372036854775807 := hl
  unfold laws_szIntS.f
  rw [B.wsub h0 (by omega) hl']
  by_cases h : a < (l.length : Int)
  · rw [if_pos (by omega), if_pos h]
  · rw [if_neg (by omega), if_neg h]
/-- The costs are measured: -1, or the three lists are no longer than allowed. -/
theorem szCost (d i r : List Int) (a : Int) (h0 : 0 ≤ a) (h1 : a ≤ 1048576) (hd : d.length ≤ maxLen) (hi : i.length ≤ maxLen) (hr : r.length ≤ maxLen) :
    laws_szCost.f d i r a = some (-1) ∨ (laws_szCost.f d i r a = some (a - (d.length : Int) - (i.length : Int) - (r.length : Int)) ∧ 0 ≤ a - (d.length : Int) - (i.length : Int) - (r.length : Int)) := by
  unfold laws_szCost.f
  rw [szIntS d a h0 h1 hd]
  by_cases c1 : a < (d.length : Int)
  · left; simp [c1]
  rw [if_neg c1]
  simp only [Option.bind_some]
  rw [if_neg (by omega), szIntS i _ (by omega) (by omega) hi]
  by_cases c2 : a - (d.length : Int) < (i.length : Int)
  · left; simp [c2]
  rw [if_neg c2]
  simp only [Option.bind_some]
  rw [if_neg (by omega), szIntS r _ (by omega) (by omega) hr]
  by_cases c3 : a - (d.length : Int) - (i.length : Int) < (r.length : Int)
  · left; simp [c3]
  right
  rw [if_neg c3]
  simp only [Option.bind_some]
  rw [if_neg (by omega)]
  exact ⟨rfl, by omega⟩
end Go.Proofs.Ytockkelkdimehaa.X
