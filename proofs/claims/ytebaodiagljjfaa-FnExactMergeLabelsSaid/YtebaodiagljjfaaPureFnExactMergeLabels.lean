/- The law FnExactMergeLabels, as a statement over numbers and lists: for any three lists of nodes the law's function answers true. -/
import Derived.Test.YtebaodiagljjfaaXMerge
import Derived.Test.YtebaodiagljjfaaXHeld
import Derived.Test.YtebaodiagljjfaaStFnExactMergeLabels
namespace Go.Proofs.Ytebaodiagljjfaa.Pure
open Go Go.RowKit Go.Proofs.YtebaodiagljjfaaW.PrintWords Go.Proofs.YtebaodiagljjfaaW.PrintLast Go.Proofs.YtebaodiagljjfaaW.PrintMore Go.Proofs.Ytebaodiagljjfaa.P Go.Proofs.Ytebaodiagljjfaa.X
theorem FnExactMergeLabels : fnExactMergeLabels.Pure := by
  intro l0 l1 l2 h0 h1 h2
  refine ⟨4194310, ?_⟩
  unfold laws_FnExactMergeLabels.f
  rw [szNodeS l0 _ (by omega) (by omega) h0.1]
  simp only [Option.bind_some]
  by_cases hs : (1048576 : Int) < (l0.length : Int)
  · rw [if_pos hs]; rfl
  rw [if_neg hs, if_neg (by omega), szNodeS l1 _ (by omega) (by omega) h1.1]
  simp only [Option.bind_some]
  by_cases hs1 : (1048576 : Int) - (l0.length : Int) < (l1.length : Int)
  · rw [if_pos hs1]; rfl
  rw [if_neg hs1, if_neg (by omega), szNodeS l2 _ (by omega) (by omega) h2.1]
  simp only [Option.bind_some]
  by_cases hs2 : (1048576 : Int) - (l0.length : Int) - (l1.length : Int) < (l2.length : Int)
  · rw [if_pos hs2]; rfl
  rw [if_neg hs2, if_neg (by omega)]
  have g0 : l0.length ≤ 4194304 := by omega
  have g1 : l1.length ≤ 4194304 := by omega
  have g2 : l2.length ≤ 4194304 := by omega
  have m0 : (l0.map nd).length ≤ 1048576 := by rw [List.length_map]; omega
  have m1 : (l1.map nd).length ≤ 1048576 := by rw [List.length_map]; omega
  have m2 : (l2.map nd).length ≤ 1048576 := by rw [List.length_map]; omega
  have hl := merged_length (l0.map nd) (l1.map nd) (l2.map nd)
  have tn : ∀ k : Nat, 4194304 < k → laws_toNodeS.f k l0 = some (l0.map nd) ∧ laws_toNodeS.f k l1 = some (l1.map nd) ∧ laws_toNodeS.f k l2 = some (l2.map nd) := fun k hk => ⟨toNodeS l0 g0 k (by omega), toNodeS l1 g1 k (by omega), toNodeS l2 g2 k (by omega)⟩
  have sp := specMergeLabels (l0.map nd) (l1.map nd) (l2.map nd) (by omega) (by omega) (by omega)
  have im := implMergeLabels (l0.map nd) (l1.map nd) (l2.map nd) (by omega) (by omega) (by omega)
  generalize merged (l0.map nd) (l1.map nd) (l2.map nd) = M at hl sp im
  obtain ⟨x, c, b⟩ := M
  have hx : x.length ≤ 4194304 := by have := hl.1; simp only at this; omega
  have hc : c.length ≤ 4194304 := by have := hl.2; simp only at this; omega
  have q : ∀ k : Nat, 4194304 < k → laws_eqNodeS.f k x x = some true ∧ laws_eqIntS.f k c c = some true := fun k hk => ⟨eqNodeS x hx k (by omega), eqIntS c hc k (by omega)⟩
  have r : ∀ k : Nat, 4194304 < k → laws_eqNodeS.f k (l0.map nd) (l0.map nd) = some true ∧ laws_eqNodeS.f k (l1.map nd) (l1.map nd) = some true ∧ laws_eqNodeS.f k (l2.map nd) (l2.map nd) = some true := fun k hk => ⟨eqNodeS _ (by omega) k (by omega), eqNodeS _ (by omega) k (by omega), eqNodeS _ (by omega) k (by omega)⟩
  simp only [(tn 4194310 (by omega)).1, (tn 4194310 (by omega)).2.1, (tn 4194310 (by omega)).2.2, Option.bind_some, sp 4194310 (by omega), im 4194310 (by omega), (q 4194310 (by omega)).1, (q 4194310 (by omega)).2, ↓reduceIte, bne_self_eq_false]
  have k1 := markNodeS' (l0.map nd) 1 (by omega) (by omega) (by omega) 4194309 (by omega)
  have k2 := markNodeS' (l1.map nd) (1 + 2 * ((l0.map nd).length : Int)) (by omega) (by omega) (by omega) 4194309 (by omega)
  have k3 := markNodeS' (l2.map nd) (1 + 2 * ((l0.map nd).length : Int) + 2 * ((l1.map nd).length : Int)) (by omega) (by omega) (by omega) 4194309 (by omega)
  simp only [laws_FnExactMergeLabels.j0, Bool.false_eq_true, ↓reduceIte, (tn 4194309 (by omega)).1, (tn 4194309 (by omega)).2.1, (tn 4194309 (by omega)).2.2, Option.bind_some, (r 4194309 (by omega)).1, (r 4194309 (by omega)).2.1, (r 4194309 (by omega)).2.2, k1, k2, k3]
  rw [if_neg (by omega)]
  simp only [(q 4194309 (by omega)).1, (q 4194309 (by omega)).2, Option.bind_some, ↓reduceIte, bne_self_eq_false]
  have k4 := markNodeS' x 1 hx (by omega) (by omega) 4194308 (by omega)
  have k5 := markIntS c (1 + 2 * (x.length : Int)) hc (by omega) (by omega) 4194308 (by omega)
  have k6 := heldNodeS 1 x.length hx (by omega) (by omega) 4194308 (by omega)
  have k7 := heldIntS (1 + 2 * (x.length : Int)) c.length hc (by omega) (by omega) 4194308 (by omega)
  simp only [laws_FnExactMergeLabels.j1, Bool.false_eq_true, ↓reduceIte, k4, k5, k6, k7, Option.bind_some]
  rw [if_neg (by omega), if_neg (by omega)]
  simp only [(tn 4194308 (by omega)).1, (tn 4194308 (by omega)).2.1, (tn 4194308 (by omega)).2.2, Option.bind_some, im 4194308 (by omega), (q 4194308 (by omega)).1, (q 4194308 (by omega)).2, ↓reduceIte, bne_self_eq_false]
  have k8 := heldNodeS 1 x.length hx (by omega) (by omega) 4194307 (by omega)
  have k9 := heldIntS (1 + 2 * (x.length : Int)) c.length hc (by omega) (by omega) 4194307 (by omega)
  simp only [laws_FnExactMergeLabels.j2, Bool.false_eq_true, ↓reduceIte, k8, k9, Option.bind_some]
  rw [if_neg (by omega), if_neg (by omega)]
end Go.Proofs.Ytebaodiagljjfaa.Pure
