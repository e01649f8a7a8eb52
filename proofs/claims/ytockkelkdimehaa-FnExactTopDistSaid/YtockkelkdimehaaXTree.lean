/- What a valid tree is, and that the reference's TreeOk and the program's TreeOk both tell just that. -/
import Derived.Test.YtockkelkdimehaaXBase
import Derived.Test.YtockkelkdimehaaXMark
import Derived.Test.YtockkelkdimehaaG102
import Derived.Test.YtockkelkdimehaaG56
namespace Go.Proofs.Ytockkelkdimehaa.X
open Go Go.RowKit Go.Proofs.YtockkelkdimehaaW.PrintWords Go.Proofs.YtockkelkdimehaaW.PrintLast Go.Proofs.YtockkelkdimehaaW.PrintMore Go.Proofs.Ytockkelkdimehaa.P

theorem rdNode {xs : List S59} {i : Nat} : rd_T59 xs (i : Int) = xs.getD i z59 := by unfold rd_T59; rw [Int.toNat_natCast]
/-- Label and depth of a node. -/
def lab (l : List S59) (i : Nat) : Int := (l.getD i z59).f0
def dep (l : List S59) (i : Nat) : Int := (l.getD i z59).f1
def okAt (l : List S59) (i : Nat) : Bool :=
  decide (0 ≤ lab l i ∧ lab l i ≤ 5) && decide (0 ≤ dep l i ∧ dep l i ≤ 12) && decide (dep l i = 0 ↔ i = 0) && (decide (i = 0) || decide (dep l i ≤ dep l (i - 1) + 1))
def okUpto (l : List S59) (n : Nat) : Bool := (List.range n).all (okAt l)
/-- The tree is valid. -/
def okT (l : List S59) : Bool := decide (1 ≤ l.length ∧ l.length ≤ 24) && okUpto l l.length

theorem okUpto_succ (l : List S59) (n : Nat) : okUpto l (n + 1) = (okUpto l n && okAt l n) := by unfold okUpto; rw [List.range_succ, List.all_append]; simp
theorem okUpto_at {l : List S59} {n i : Nat} (h : okUpto l n = true) (hi : i < n) : okAt l i = true := by
  unfold okUpto at h; exact List.all_eq_true.1 h i (List.mem_range.2 hi)
theorem okAt_iff {l : List S59} {i : Nat} : okAt l i = true ↔ (0 ≤ lab l i ∧ lab l i ≤ 5) ∧ (0 ≤ dep l i ∧ dep l i ≤ 12) ∧ (dep l i = 0 ↔ i = 0) ∧ (i = 0 ∨ dep l i ≤ dep l (i - 1) + 1) := by
  unfold okAt; simp [and_assoc]
theorem okUpto_mono {l : List S59} {n m : Nat} (h : okUpto l n = true) (hm : m ≤ n) : okUpto l m = true := by
  unfold okUpto at *; exact List.all_eq_true.2 fun i hi => List.all_eq_true.1 h i (List.mem_range.2 (by have := List.mem_range.1 hi; omega))
theorem okUpto_false {l : List S59} {n i : Nat} (h : okAt l i = false) (hi : i < n) : okUpto l n = false := by
  rw [Bool.eq_false_iff]; intro hc; rw [okUpto_at hc hi] at h; cases h
theorem okT_len {l : List S59} (h : okT l = true) : 1 ≤ l.length ∧ l.length ≤ 24 := by unfold okT at h; simp at h; exact h.1
theorem okT_upto {l : List S59} (h : okT l = true) : okUpto l l.length = true := by unfold okT at h; simp at h; exact h.2
theorem okT_at {l : List S59} (h : okT l = true) {i : Nat} (hi : i < l.length) : (0 ≤ lab l i ∧ lab l i ≤ 5) ∧ (0 ≤ dep l i ∧ dep l i ≤ 12) ∧ (dep l i = 0 ↔ i = 0) ∧ (i = 0 ∨ dep l i ≤ dep l (i - 1) + 1) :=
  okAt_iff.1 (okUpto_at (okT_upto h) hi)


theorem specTreeOk (l : List S59) (hl : l.length ≤ 4194304) (k : Nat) (hk : l.length < k) : spec_TreeOk.f k l = some (okT l) := by
  unfold spec_TreeOk.f
  refine B.loopI (fun k i => spec_TreeOk.l0 k l (i : Int)) l.length 0 (fun i => okUpto l i = true) (fun _ => some (okT l)) ?_ ?_ k 0 (by omega) (by simp [okUpto]) (by omega)
  · intro k _ hI
    simp only [spec_TreeOk.l0]
    rw [if_neg (by omega), l1In]
    unfold okT
    rw [hI]
    simp only [Option.bind_some, Bool.and_true, Option.some.injEq]
    congr 1
    apply propext
    omega
  · intro k i _ hi hI ih
    have a1 : (i : Int) < (l.length : Int) := by omega
    have a3 : 0 ≤ (i : Int) := by omega
    simp only [spec_TreeOk.l0, a1, a3, ↓reduceIte, B.wsucc (show i < 9223372036854775807 by omega), specLabelOk, l1In, Option.bind_some, rdNode]
    rw [okUpto_succ, hI, Bool.true_and] at ih
    have hno : okAt l i = false → some false = some (okT l) := fun h => by
      unfold okT; rw [okUpto_false h hi, Bool.and_false]
    have e0 : lab l i = (l.getD i z59).f0 := rfl
    have e1 : dep l i = (l.getD i z59).f1 := rfl
    rw [← e0, ← e1]
    by_cases h1 : 0 ≤ lab l i ∧ lab l i ≤ 5
    · rw [if_pos (by simpa using h1)]
      by_cases h2 : 0 ≤ dep l i ∧ dep l i ≤ 12
      · rw [if_pos (by simpa using h2)]
        by_cases h3 : (dep l i = 0 ↔ i = 0)
        · rw [if_neg (by
            have : ((dep l i == 0) = ((i : Int) == 0)) := by rw [Bool.eq_iff_iff]; simp only [beq_iff_eq]; omega
            rw [this]; simp)]
          rcases Nat.eq_zero_or_pos i with h0 | h0
          · subst h0
            rw [if_neg (by simp)]
            exact ih (okAt_iff.2 ⟨h1, h2, h3, Or.inl rfl⟩)
          · have ew : wrap64 ((i : Int) - 1) = ((i - 1 : Nat) : Int) := by unfold wrap64; omega
            have hp := (okAt_iff.1 (okUpto_at hI (i := i - 1) (by omega))).2.1
            rw [if_pos (by omega), ew, if_pos (by omega), if_pos (by omega), rdNode]
            have e2 : dep l (i - 1) = (l.getD (i - 1) z59).f1 := rfl
            rw [← e2, B.wid (by omega) (by omega)]
            by_cases h4 : dep l i ≤ dep l (i - 1) + 1
            · rw [if_neg (by omega)]
              exact ih (okAt_iff.2 ⟨h1, h2, h3, Or.inr h4⟩)
            · rw [if_pos (by omega)]
              refine hno ?_
              rw [Bool.eq_false_iff]; intro hc
              rcases (okAt_iff.1 hc).2.2.2 with h | h <;> omega
        · rw [if_pos (by
            have : (dep l i == 0) ≠ ((i : Int) == 0) := by
              intro hc; rw [Bool.eq_iff_iff] at hc; simp only [beq_iff_eq] at hc; omega
            simpa using this)]
          refine hno ?_
          rw [Bool.eq_false_iff]; intro hc; exact h3 (okAt_iff.1 hc).2.2.1
      · rw [if_neg (by simpa using h2)]
        refine hno ?_
        rw [Bool.eq_false_iff]; intro hc; exact h2 (okAt_iff.1 hc).2.1
    · rw [if_neg (by simpa using h1)]
      refine hno ?_
      rw [Bool.eq_false_iff]; intro hc; exact h1 (okAt_iff.1 hc).1

theorem implTreeOk (l : List S59) (hl : l.length ≤ 4194304) (k : Nat) (hk : l.length < k) : impl_TreeOk.f k l = some (okT l) := by
  unfold impl_TreeOk.f
  rw [within]
  simp only [Option.bind_some]
  by_cases hn : 1 ≤ l.length ∧ l.length ≤ 24
  · rw [if_pos (by simp; omega)]
    refine B.loopI (fun k i => impl_TreeOk.l0 k l l (l.length : Int) (i : Int)) l.length 0 (fun i => okUpto l i = true) (fun _ => some (okT l)) ?_ ?_ k 0 (by omega) (by simp [okUpto]) (by omega)
    · intro k _ hI
      simp only [impl_TreeOk.l0]
      rw [if_neg (by omega)]
      unfold okT
      rw [hI, decide_eq_true hn]; rfl
    · intro k i _ hi hI ih
      have a1 : (i : Int) < (l.length : Int) := by omega
      have a3 : 0 ≤ (i : Int) := by omega
      simp only [impl_TreeOk.l0, a1, a3, ↓reduceIte, B.wsucc (show i < 9223372036854775807 by omega), implLabelOk, within, Option.bind_some, rdNode]
      rw [okUpto_succ, hI, Bool.true_and] at ih
      have hno : okAt l i = false → some false = some (okT l) := fun h => by
        unfold okT; rw [okUpto_false h hi, Bool.and_false]
      have e0 : lab l i = (l.getD i z59).f0 := rfl
      have e1 : dep l i = (l.getD i z59).f1 := rfl
      rw [← e0, ← e1]
      by_cases h1 : 0 ≤ lab l i ∧ lab l i ≤ 5
      · rw [if_pos (by simpa using h1)]
        by_cases h2 : 0 ≤ dep l i ∧ dep l i ≤ 12
        · rw [if_pos (by simpa using h2)]
          have hd : impl_depthOk.f l (i : Int) = some (decide ((dep l i = 0 ↔ i = 0) ∧ (i = 0 ∨ dep l i ≤ dep l (i - 1) + 1))) := by
            unfold impl_depthOk.f
            rcases Nat.eq_zero_or_pos i with h0 | h0
            · subst h0
              rw [if_pos (by simp), if_pos (by omega)]
              have := rdNode (xs := l) (i := 0)
              rw [show ((0 : Nat) : Int) = 0 from rfl] at this
              rw [this]
              show some (dep l 0 == 0) = _
              rw [Option.some.injEq, Bool.eq_iff_iff]; simp
            · have ew : wrap64 ((i : Int) - 1) = ((i - 1 : Nat) : Int) := by unfold wrap64; omega
              have hp := (okAt_iff.1 (okUpto_at hI (i := i - 1) (by omega))).2.1
              rw [if_neg (by omega), if_pos (by omega), if_pos a1, ew, if_pos (by omega), if_pos (by omega), rdNode, rdNode]
              have e2 : dep l (i - 1) = (l.getD (i - 1) z59).f1 := rfl
              rw [← e1, ← e2, within, B.wid (by omega) (by omega)]
              simp only [Option.bind_some, Option.some.injEq]
              congr 1
              apply propext
              omega
          rw [hd]
          simp only [Option.bind_some]
          by_cases h3 : (dep l i = 0 ↔ i = 0) ∧ (i = 0 ∨ dep l i ≤ dep l (i - 1) + 1)
          · rw [if_pos (by simpa using h3)]
            exact ih (okAt_iff.2 ⟨h1, h2, h3⟩)
          · rw [if_neg (by simpa using h3)]
            refine hno ?_
            rw [Bool.eq_false_iff]; intro hc; exact h3 (okAt_iff.1 hc).2.2
        · rw [if_neg (by simpa using h2)]
          refine hno ?_
          rw [Bool.eq_false_iff]; intro hc; exact h2 (okAt_iff.1 hc).2.1
      · rw [if_neg (by simpa using h1)]
        refine hno ?_
        rw [Bool.eq_false_iff]; intro hc; exact h1 (okAt_iff.1 hc).1
  · rw [if_neg (by simp; omega)]
    unfold okT
    rw [decide_eq_false hn]; rfl
end Go.Proofs.Ytockkelkdimehaa.X
