/- A node lies under another one just where that one is on its way up to the root. -/
import Derived.Test.YtekpggmnnfjphaaXNav
namespace Go.Proofs.Ytekpggmnnfjphaa.X
open Go Go.RowKit Go.Proofs.YtekpggmnnfjphaaW.PrintWords Go.Proofs.YtekpggmnnfjphaaW.PrintLast Go.Proofs.YtekpggmnnfjphaaW.PrintMore Go.Proofs.Ytekpggmnnfjphaa.P
/-- j lies under i: all nodes behind i up to j are deeper. -/
theorem under_iff (l : List S48) {i j : Nat} (hj : j < l.length) : (i < j ∧ j < endN l i) ↔ (i < j ∧ ∀ g, i < g → g ≤ j → dep l g > dep l i) := by
  constructor
  · rintro ⟨h1, h2⟩
    exact ⟨h1, fun g g1 g2 => (endN_spec l (by omega)).2.2.1 g g1 (by omega)⟩
  · rintro ⟨h1, h2⟩
    refine ⟨h1, ?_⟩
    have hs := endN_spec l (show i < l.length by omega)
    rcases Nat.lt_or_ge j (endN l i) with c | c
    · exact c
    · have := hs.2.2.2 (by omega)
      have := h2 (endN l i) (by omega) c
      omega
theorem parGo_spec (l : List S48) (i : Nat) : ∀ j, parGo l i j < (j : Int) ∧ -1 ≤ parGo l i j ∧ (∀ g : Nat, parGo l i j < (g : Int) → g < j → dep l g ≥ dep l i) ∧ (0 ≤ parGo l i j → dep l (parGo l i j).toNat < dep l i) := by
  intro j
  induction j with
  | zero => simp only [parGo]; exact ⟨by omega, by omega, fun g _ h => by omega, fun h => by omega⟩
  | succ j ih =>
    simp only [parGo]
    split
    · next c =>
      obtain ⟨h1, h2, h3, h4⟩ := ih
      refine ⟨by omega, h2, fun g g1 g2 => ?_, h4⟩
      rcases Nat.lt_or_ge g j with d | d
      · exact h3 g g1 d
      · obtain rfl : g = j := by omega
        exact c
    · next c => exact ⟨by omega, by omega, fun g g1 g2 => by omega, fun _ => by rw [Int.toNat_natCast]; omega⟩
theorem parN_spec (l : List S48) (i : Nat) : parN l i < (i : Int) ∧ -1 ≤ parN l i ∧ (∀ g : Nat, parN l i < (g : Int) → g < i → dep l g ≥ dep l i) ∧ (0 ≤ parN l i → dep l (parN l i).toNat < dep l i) := parGo_spec l i i
/-- Some node on the way up from i has p. -/
def anyUp (l : List S48) (p : Nat → Bool) (i : Nat) : Bool :=
  if _h : 0 ≤ parN l i then p (parN l i).toNat || anyUp l p (parN l i).toNat else false
termination_by i
decreasing_by have := (parN_spec l i).1; omega
theorem anyUp_iff (l : List S48) (p : Nat → Bool) : ∀ i, i < l.length → (anyUp l p i = true ↔ ∃ k, (k < i ∧ i < endN l k) ∧ p k = true) := by
  intro i
  induction i using Nat.strongRecOn with
  | _ i ih =>
    intro hi
    have hp := parN_spec l i
    rw [anyUp]
    by_cases h : 0 ≤ parN l i
    · rw [dif_pos h, Bool.or_eq_true]
      obtain ⟨q, hq⟩ : ∃ q : Nat, parN l i = (q : Int) := ⟨(parN l i).toNat, by omega⟩
      rw [hq] at hp ⊢
      rw [Int.toNat_natCast] at hp ⊢
      have hp1 : q < i := by omega
      have hp4 := hp.2.2.2 (by omega)
      rw [ih q hp1 (by omega)]
      constructor
      · rintro (h1 | ⟨k, hk, h1⟩)
        · refine ⟨q, (under_iff l hi).2 ⟨hp1, fun g g1 g2 => ?_⟩, h1⟩
          rcases Nat.lt_or_ge g i with d | d
          · have := hp.2.2.1 g (by omega) d; omega
          · obtain rfl : g = i := by omega
            exact hp4
        · have hu := (under_iff l (show q < l.length by omega)).1 hk
          refine ⟨k, (under_iff l hi).2 ⟨by omega, fun g g1 g2 => ?_⟩, h1⟩
          have h5 := hu.2 q hu.1 (Nat.le_refl _)
          rcases Nat.lt_or_ge q g with d | d
          · rcases Nat.lt_or_ge g i with d2 | d2
            · have := hp.2.2.1 g (by omega) d2; omega
            · obtain rfl : g = i := by omega
              omega
          · exact hu.2 g g1 d
      · rintro ⟨k, hk, h1⟩
        have hu := (under_iff l hi).1 hk
        have hkq : k ≤ q := by
          rcases Nat.lt_or_ge q k with d | d
          · have h6 := hp.2.2.1 k (by omega) hu.1
            have h7 := hu.2 i hu.1 (Nat.le_refl _)
            omega
          · exact d
        rcases Nat.lt_or_ge k q with d | d
        · exact Or.inr ⟨k, (under_iff l (show q < l.length by omega)).2 ⟨d, fun g g1 g2 => hu.2 g g1 (by omega)⟩, h1⟩
        · obtain rfl : k = q := by omega
          exact Or.inl h1
    · rw [dif_neg h]
      constructor
      · intro h1; cases h1
      · rintro ⟨k, hk, h1⟩
        have hu := (under_iff l hi).1 hk
        have h6 := hp.2.2.1 k (by omega) hu.1
        have h7 := hu.2 i hu.1 (Nat.le_refl _)
        omega
end Go.Proofs.Ytekpggmnnfjphaa.X
