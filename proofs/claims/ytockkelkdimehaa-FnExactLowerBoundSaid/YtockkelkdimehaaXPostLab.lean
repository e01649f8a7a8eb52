/- The labels in that order. -/
import Derived.Test.YtockkelkdimehaaXPost
import Derived.Test.YtockkelkdimehaaG102
namespace Go.Proofs.Ytockkelkdimehaa.X
open Go Go.RowKit Go.Proofs.YtockkelkdimehaaW.PrintWords Go.Proofs.YtockkelkdimehaaW.PrintLast Go.Proofs.YtockkelkdimehaaW.PrintMore Go.Proofs.Ytockkelkdimehaa.P
def postLab (l : List S59) : List Int := (postI l).map fun i => (l.getD i.toNat z59).f0
theorem postLab_len (l : List S59) : (postLab l).length ≤ l.length := by unfold postLab; rw [List.length_map]; exact postI_len l
theorem evPostLab (l : List S59) (hl : l.length ≤ 4194304) : B.Ev (fun k => spec_PostLabels.f k l) (postLab l) := by
  simp only [spec_PostLabels.f, spec_l8Labels.f]
  refine B.Ev.bind (a := postLab l) (B.Ev.bind (evPost l hl) ?_) (B.Ev.pure _)
  have pl := postI_len l
  have e0 : ([] : List Int) = ((postI l).take 0).map fun i => (l.getD i.toNat z59).f0 := rfl
  rw [e0]
  refine B.Ev.loop (g := fun k j => spec_l8Labels.l0 k l (((postI l).take j).map fun i => (l.getD i.toNat z59).f0) (postI l) (j : Int)) (postI l).length (fun _ => True) ?_ ?_ 0 (by omega) trivial
  · intro _
    refine B.Ev.succ ?_
    simp only [spec_l8Labels.l0, Int.lt_irrefl, ↓reduceIte, List.take_length]
    exact B.Ev.pure _
  · intro j hj _ ih
    refine B.Ev.succ ?_
    obtain ⟨i, e, hi⟩ := postI_mem l hj
    have rk : rd (postI l) (j : Int) = (i : Int) := by unfold rd; rw [Int.toNat_natCast, e]
    have lm : (((postI l).take j).map fun i => (l.getD i.toNat z59).f0).length < 17592186044416 := by rw [List.length_map, List.length_take]; omega
    simp only [spec_l8Labels.l0, show (j : Int) < ((postI l).length : Int) by omega, show 0 ≤ (j : Int) by omega, show 0 ≤ (i : Int) by omega, show (i : Int) < (l.length : Int) by omega, lm, ↓reduceIte, rk, rdNode, B.wsucc (show j < 9223372036854775807 by omega)]
    have ih := ih trivial
    rw [← B.take_snoc _ _ hj, ← B.getD_lt (z := 0) hj, e, Int.toNat_natCast] at ih
    exact ih
theorem evPostLab' (l : List S59) (hl : l.length ≤ 4194304) : B.Ev (fun k => impl_PostLabels.f k l) (postLab l) := by
  simp only [impl_PostLabels.f]
  refine B.Ev.bind (evPost' l hl) ?_
  have pl := postI_len l
  have e0 : ([] : List Int) = ((postI l).take 0).map fun i => (l.getD i.toNat z59).f0 := rfl
  rw [e0]
  refine B.Ev.loop (g := fun k j => impl_PostLabels.l0 k l (((postI l).take j).map fun i => (l.getD i.toNat z59).f0) (postI l) ((postI l).length : Int) (j : Int)) (postI l).length (fun _ => True) ?_ ?_ 0 (by omega) trivial
  · intro _
    refine B.Ev.succ ?_
    simp only [impl_PostLabels.l0, Int.lt_irrefl, ↓reduceIte, List.take_length]
    exact B.Ev.pure _
  · intro j hj _ ih
    refine B.Ev.succ ?_
    obtain ⟨i, e, hi⟩ := postI_mem l hj
    have rk : rd (postI l) (j : Int) = (i : Int) := by unfold rd; rw [Int.toNat_natCast, e]
    have lm : (((postI l).take j).map fun i => (l.getD i.toNat z59).f0).length < 17592186044416 := by rw [List.length_map, List.length_take]; omega
    simp only [impl_PostLabels.l0, show (j : Int) < ((postI l).length : Int) by omega, show 0 ≤ (j : Int) by omega, show 0 ≤ (i : Int) by omega, show (i : Int) < (l.length : Int) by omega, lm, ↓reduceIte, rk, rdNode, B.wsucc (show j < 9223372036854775807 by omega)]
    have ih := ih trivial
    rw [← B.take_snoc _ _ hj, ← B.getD_lt (z := 0) hj, e, Int.toNat_natCast] at ih
    exact ih
end Go.Proofs.Ytockkelkdimehaa.X
