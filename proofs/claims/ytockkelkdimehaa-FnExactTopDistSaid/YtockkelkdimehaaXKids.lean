/- The children of a node. -/
import Derived.Test.YtockkelkdimehaaXEnd
import Derived.Test.YtockkelkdimehaaG102
namespace Go.Proofs.Ytockkelkdimehaa.X
open Go Go.RowKit Go.Proofs.YtockkelkdimehaaW.PrintWords Go.Proofs.YtockkelkdimehaaW.PrintLast Go.Proofs.YtockkelkdimehaaW.PrintMore Go.Proofs.Ytockkelkdimehaa.P
/-- Subtrees lie one in the other or apart. -/
theorem endN_in (l : List S59) {x y : Nat} (hy : y < l.length) (h : x < y) (h2 : y < endN l x) : endN l y ≤ endN l x := by
  have a := endN_spec l (show x < l.length by omega)
  have b := endN_spec l hy
  rcases Nat.lt_or_ge (endN l x) (endN l y) with c | c
  · have d1 := a.2.2.2 (by omega)
    have d2 := b.2.2.1 (endN l x) h2 c
    have d3 := a.2.2.1 y h h2
    omega
  · exact c
/-- The children of i from place c on. -/
def kidF (l : List S59) (i a b : Nat) : List Nat := (List.range' a (b - a)).filter fun j => decide (dep l j = dep l i + 1)
def kids (l : List S59) (i : Nat) : List Nat := kidF l i (i + 1) (endN l i)
theorem kidF_snoc (l : List S59) (i a b : Nat) (h : a ≤ b) : kidF l i a (b + 1) = kidF l i a b ++ if dep l b = dep l i + 1 then [b] else [] := by
  unfold kidF
  rw [show b + 1 - a = (b - a) + 1 by omega, List.range'_concat, List.filter_append, show a + 1 * (b - a) = b by omega]
  split <;> rename_i c
  · rw [List.filter_cons_of_pos (by simp [c])]; rfl
  · rw [List.filter_cons_of_neg (by simp [c])]; rfl
theorem kidF_len (l : List S59) (i a b : Nat) : (kidF l i a b).length ≤ b - a := by
  unfold kidF
  exact Nat.le_trans (List.length_filter_le _ _) (by simp)
theorem kidF_end (l : List S59) (i b : Nat) : kidF l i b b = [] := by unfold kidF; simp
/-- A child, then the children behind its subtree. -/
theorem kidF_cons (l : List S59) {i c : Nat} (hi : i < c) (hc : c < endN l i) (hil : i < l.length) (hd : dep l c = dep l i + 1) :
    kidF l i c (endN l i) = c :: kidF l i (endN l c) (endN l i) := by
  have a := endN_spec l hil
  have b := endN_spec l (show c < l.length by omega)
  have e := endN_in l (show c < l.length by omega) hi hc
  unfold kidF
  rw [show endN l i - c = 1 + ((endN l c - (c + 1)) + (endN l i - endN l c)) by omega, ← List.range'_append_1, ← List.range'_append_1, List.filter_append, List.filter_append]
  rw [show c + 1 + (endN l c - (c + 1)) = endN l c by omega]
  have n1 : (List.range' (c + 1) (endN l c - (c + 1))).filter (fun j => decide (dep l j = dep l i + 1)) = [] := by
    rw [List.filter_eq_nil_iff]
    intro j hj
    rw [List.mem_range'_1] at hj
    have := b.2.2.1 j (by omega) (by omega)
    simp; omega
  rw [n1]
  simp [List.range'_succ, hd]

theorem evKids {l : List S59} (h : okT l = true) {i : Nat} (hi : i < l.length) : B.Ev (fun k => spec_KidsOf.f k l (i : Int)) ((kids l i).map fun (j : Nat) => (j : Int)) := by
  have hl := (okT_len h).2
  have a := endN_spec l hi
  simp only [spec_KidsOf.f, B.wsucc (show i < 9223372036854775807 by omega)]
  have e0 : ([] : List Int) = (kidF l i (i + 1) (i + 1)).map fun (j : Nat) => (j : Int) := by rw [kidF_end]; rfl
  rw [e0]
  have a3 : 0 ≤ (i : Int) := by omega
  have a4 : (i : Int) < (l.length : Int) := by omega
  refine B.Ev.loop (g := fun k j => spec_KidsOf.l0 k l (i : Int) ((kidF l i (i + 1) j).map fun (j : Nat) => (j : Int)) (j : Int)) (endN l i) (fun j => i + 1 ≤ j) ?_ ?_ (i + 1) (by omega) (Nat.le_refl _)
  · intro _
    refine B.Ev.succ ?_
    simp only [spec_KidsOf.l0]
    refine B.Ev.bind (evAt l (by omega) _) ?_
    rw [isAt_of h hi]
    simp only [↓reduceIte]
    refine B.Ev.bind (evEnd h hi) ?_
    refine B.Ev.succ ?_
    simp only [spec_KidsOf.j1, Int.lt_irrefl, decide_false, Bool.false_eq_true, ↓reduceIte]
    exact B.Ev.pure _
  · intro j hj hI ih
    refine B.Ev.succ ?_
    simp only [spec_KidsOf.l0]
    refine B.Ev.bind (evAt l (by omega) _) ?_
    rw [isAt_of h hi]
    simp only [↓reduceIte]
    refine B.Ev.bind (evEnd h hi) ?_
    refine B.Ev.succ ?_
    have a1 : (j : Int) < (l.length : Int) := by omega
    have a2 : 0 ≤ (j : Int) := by omega
    have a5 : (j : Int) < (endN l i : Int) := by omega
    have d := okT_at h hi
    have ew : wrap64 (dep l i + 1) = dep l i + 1 := B.wid (by omega) (by omega)
    have ew' : wrap64 ((l.getD i z59).f1 + 1) = (l.getD i z59).f1 + 1 := ew
    have hk := kidF_len l i (i + 1) j
    have lm : ((kidF l i (i + 1) j).map fun (j : Nat) => (j : Int)).length < 17592186044416 := by rw [List.length_map]; omega
    simp only [spec_KidsOf.j1, a1, a2, a3, a4, a5, lm, decide_true, ↓reduceIte, rdNode, ew', B.wsucc (show j < 9223372036854775807 by omega)]
    have ih := ih (by omega)
    rw [kidF_snoc l i (i + 1) j hI] at ih
    by_cases c : dep l j = dep l i + 1
    · have c' : (l.getD j z59).f1 = (l.getD i z59).f1 + 1 := c
      simp only [c', ↓reduceIte]
      simp only [c, ↓reduceIte, List.map_append, List.map_cons, List.map_nil] at ih
      exact ih
    · have c' : ¬ (l.getD j z59).f1 = (l.getD i z59).f1 + 1 := c
      simp only [c', ↓reduceIte]
      simp only [c, ↓reduceIte, List.append_nil] at ih
      exact ih
end Go.Proofs.Ytockkelkdimehaa.X
