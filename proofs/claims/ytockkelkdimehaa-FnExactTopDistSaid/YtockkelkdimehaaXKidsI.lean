/- The children of a node, by the program. -/
import Derived.Test.YtockkelkdimehaaXKids
import Derived.Test.YtockkelkdimehaaXHas
import Derived.Test.YtockkelkdimehaaG52
namespace Go.Proofs.Ytockkelkdimehaa.X
open Go Go.RowKit Go.Proofs.YtockkelkdimehaaW.PrintWords Go.Proofs.YtockkelkdimehaaW.PrintLast Go.Proofs.YtockkelkdimehaaW.PrintMore Go.Proofs.Ytockkelkdimehaa.P
theorem evKids' {l : List S59} (h : okT l = true) {i : Nat} (hi : i < l.length) : B.Ev (fun k => impl_KidsOf.f k l (i : Int)) ((kids l i).map fun (j : Nat) => (j : Int)) := by
  have hl := (okT_len h).2
  have a := endN_spec l hi
  simp only [impl_KidsOf.f, Option.bind_some, B.wsucc (show i < 9223372036854775807 by omega)]
  refine B.Ev.bind (evHas l (by omega) _) ?_
  rw [isAt_of h hi]
  simp only [↓reduceIte]
  have e0 : ([] : List Int) = (kidF l i (i + 1) (i + 1)).map fun (j : Nat) => (j : Int) := by rw [kidF_end]; rfl
  rw [e0]
  have a3 : 0 ≤ (i : Int) := by omega
  have a4 : (i : Int) < (l.length : Int) := by omega
  refine B.Ev.loop (g := fun k j => impl_KidsOf.l0 k l (i : Int) ((kidF l i (i + 1) j).map fun (j : Nat) => (j : Int)) (j : Int)) (endN l i) (fun j => i + 1 ≤ j) ?_ ?_ (i + 1) (by omega) (Nat.le_refl _)
  · intro _
    refine B.Ev.succ ?_
    simp only [impl_KidsOf.l0]
    refine B.Ev.bind (evEnd' h hi) ?_
    simp only [Int.lt_irrefl, ↓reduceIte]
    exact B.Ev.pure _
  · intro j hj hI ih
    refine B.Ev.succ ?_
    simp only [impl_KidsOf.l0]
    refine B.Ev.bind (evEnd' h hi) ?_
    have a1 : (j : Int) < (l.length : Int) := by omega
    have a2 : 0 ≤ (j : Int) := by omega
    have a5 : (j : Int) < (endN l i : Int) := by omega
    have d := okT_at h hi
    have ew : wrap64 (dep l i + 1) = dep l i + 1 := B.wid (by omega) (by omega)
    have ew' : wrap64 ((l.getD i z59).f1 + 1) = (l.getD i z59).f1 + 1 := ew
    have hk := kidF_len l i (i + 1) j
    have lm : ((kidF l i (i + 1) j).map fun (j : Nat) => (j : Int)).length < 17592186044416 := by rw [List.length_map]; omega
    simp only [a1, a2, a3, a4, a5, lm, ↓reduceIte, rdNode, ew', B.wsucc (show j < 9223372036854775807 by omega)]
    have ih := ih (by omega)
    rw [kidF_snoc l i (i + 1) j hI] at ih
    by_cases c : dep l j = dep l i + 1
    · have c' : (l.getD j z59).f1 = (l.getD i z59).f1 + 1 := c
      simp only [c', ↓reduceIte]
      simp only [c, ↓reduceIte, List.map_append, List.map_cons, List.map_nil] at ih
      exact ih
    · have c' : ¬ (l.getD j z59).f1 = (l.getD i z59).f1 + 1 := c
      simp only [c', ↓reduceIte]
      simp only [c, ↓reduceIte, List.append_nil] at ih
      exact ih

end Go.Proofs.Ytockkelkdimehaa.X
