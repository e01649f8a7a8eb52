/- The tree below a node, and what it costs to give a node another label. -/
import Derived.Test.YtockkelkdimehaaXKids
import Derived.Test.YtockkelkdimehaaXKidsI
import Derived.Test.YtockkelkdimehaaXCost
import Derived.Test.YtockkelkdimehaaXRd
import Derived.Test.YtockkelkdimehaaG127
import Derived.Test.YtockkelkdimehaaG66
import Derived.Test.YtockkelkdimehaaG89
namespace Go.Proofs.Ytockkelkdimehaa.X
open Go Go.RowKit Go.Proofs.YtockkelkdimehaaW.PrintWords Go.Proofs.YtockkelkdimehaaW.PrintLast Go.Proofs.YtockkelkdimehaaW.PrintMore Go.Proofs.Ytockkelkdimehaa.P
def subF (l : List S59) (i a b : Nat) : List S59 := (List.range' a (b - a)).map fun j => ⟨lab l j, dep l j - dep l i⟩
def subN (l : List S59) (i : Nat) : List S59 := subF l i i (endN l i)
theorem subF_snoc (l : List S59) (i a b : Nat) (h : a ≤ b) : subF l i a (b + 1) = subF l i a b ++ [⟨lab l b, dep l b - dep l i⟩] := by
  unfold subF
  rw [show b + 1 - a = (b - a) + 1 by omega, List.range'_concat, List.map_append, show a + 1 * (b - a) = b by omega]; rfl
theorem subF_len (l : List S59) (i a b : Nat) : (subF l i a b).length = b - a := by unfold subF; simp
theorem subN_len {l : List S59} {i : Nat} (hi : i < l.length) : (subN l i).length ≤ l.length := by
  have := endN_spec l hi
  unfold subN; rw [subF_len]; omega
theorem evSub {l : List S59} (h : okT l = true) {i : Nat} (hi : i < l.length) : B.Ev (fun k => spec_SubTree.f k l (i : Int)) (subN l i) := by
  have hl := (okT_len h).2
  have a := endN_spec l hi
  simp only [spec_SubTree.f]
  have e0 : ([] : List S59) = subF l i i i := by unfold subF; simp
  rw [e0]
  have a3 : 0 ≤ (i : Int) := by omega
  have a4 : (i : Int) < (l.length : Int) := by omega
  refine B.Ev.loop (g := fun k j => spec_SubTree.l0 k l (i : Int) (subF l i i j) (j : Int)) (endN l i) (fun j => i ≤ j) ?_ ?_ i (by omega) (Nat.le_refl _)
  · intro _
    refine B.Ev.succ ?_
    simp only [spec_SubTree.l0]
    refine B.Ev.bind (evAt l (by omega) _) ?_
    rw [isAt_of h hi]
    simp only [↓reduceIte]
    refine B.Ev.bind (evEnd h hi) ?_
    simp only [Int.lt_irrefl, ↓reduceIte]
    exact B.Ev.pure _
  · intro j hj hI ih
    refine B.Ev.succ ?_
    simp only [spec_SubTree.l0]
    refine B.Ev.bind (evAt l (by omega) _) ?_
    rw [isAt_of h hi]
    simp only [↓reduceIte]
    refine B.Ev.bind (evEnd h hi) ?_
    have d := okT_at h hi
    have d2 := okT_at h (show j < l.length by omega)
    have ew : wrap64 (dep l j - dep l i) = dep l j - dep l i := B.wid (by omega) (by omega)
    have ew' : wrap64 ((l.getD j z59).f1 - (l.getD i z59).f1) = dep l j - dep l i := ew
    have lm : (subF l i i j).length < 8796093022208 := by rw [subF_len]; omega
    have ih := ih (by omega)
    rw [subF_snoc l i i j hI] at ih
    simp only [show (j : Int) < (endN l i : Int) by omega, show 0 ≤ (j : Int) by omega, show (j : Int) < (l.length : Int) by omega, a3, a4, lm, ↓reduceIte, rdNode, ew', B.wsucc (show j < 9223372036854775807 by omega)]
    exact ih
theorem evSub' {l : List S59} (h : okT l = true) {i : Nat} (hi : i < l.length) : B.Ev (fun k => impl_SubTree.f k l (i : Int)) (subN l i) := by
  have hl := (okT_len h).2
  have a := endN_spec l hi
  simp only [impl_SubTree.f, Option.bind_some]
  refine B.Ev.bind (evHas l (by omega) _) ?_
  rw [isAt_of h hi]
  simp only [↓reduceIte]
  refine B.Ev.bind (evEnd' h hi) ?_
  have a3 : 0 ≤ (i : Int) := by omega
  have a4 : (i : Int) < (l.length : Int) := by omega
  have hlen : ((l.take (endN l i)).drop i).length = endN l i - i := by rw [List.length_drop, List.length_take]; omega
  simp only [a3, show (i : Int) ≤ (endN l i : Int) by omega, show (endN l i : Int) ≤ (l.length : Int) by omega, ↓reduceIte, Int.toNat_natCast, hlen]
  have e0 : ([] : List S59) = subF l i i (i + 0) := by unfold subF; simp
  rw [e0]
  refine (B.Ev.loop (g := fun k j => impl_SubTree.l0 k l (i : Int) (subF l i i (i + j)) ((l.take (endN l i)).drop i) ((endN l i - i : Nat) : Int) (j : Int)) (endN l i - i) (fun j => True) ?_ ?_ 0 (by omega) trivial)
  · intro _
    refine B.Ev.succ ?_
    simp only [impl_SubTree.l0, Int.lt_irrefl, ↓reduceIte]
    refine (B.Ev.pure _).eq ?_
    unfold subN
    rw [show i + (endN l i - i) = endN l i by omega]
  · intro j hj hI ih
    refine B.Ev.succ ?_
    have ih := ih trivial
    rw [show i + (j + 1) = i + j + 1 by omega, subF_snoc l i i (i + j) (by omega)] at ih
    have d := okT_at h hi
    have d2 := okT_at h (show i + j < l.length by omega)
    have ew : wrap64 (dep l (i + j) - dep l i) = dep l (i + j) - dep l i := B.wid (by omega) (by omega)
    have eg : ((l.take (endN l i)).drop i).getD j z59 = l.getD (i + j) z59 := by
      rw [List.getD_eq_getElem?_getD, List.getD_eq_getElem?_getD, List.getElem?_drop, List.getElem?_take, if_pos (by omega)]
    have ew' : wrap64 ((l.getD (i + j) z59).f1 - (l.getD i z59).f1) = dep l (i + j) - dep l i := ew
    have lm : (subF l i i (i + j)).length < 8796093022208 := by rw [subF_len]; omega
    have a1 : (j : Int) < (((l.take (endN l i)).drop i).length : Int) := by rw [hlen]; omega
    simp only [impl_SubTree.l0, show (j : Int) < ((endN l i - i : Nat) : Int) by omega, show 0 ≤ (j : Int) by omega, a1, a3, a4, lm, ↓reduceIte, rdNode, eg, ew', B.wsucc (show j < 9223372036854775807 by omega)]
    exact ih
/-- What it costs to turn label x to label y. -/
def relC (d i r : List Int) (x y : Int) : Int := if okC d i r && decide (0 ≤ x ∧ x ≤ 5) && decide (0 ≤ y ∧ y ≤ 5) then r.getD (x.toNat * 6 + y.toNat) 0 else 0
theorem relC_bound (d i r : List Int) (x y : Int) : 0 ≤ relC d i r x y ∧ relC d i r x y ≤ 1000 := by
  unfold relC; split
  · rename_i h; simp only [Bool.and_eq_true] at h; exact getD_bound (okC_parts h.1.1).2.2.1.2 _
  · omega
theorem rel_at {r : List Int} (hr : r.length = 36) {x y : Int} (hx : 0 ≤ x ∧ x ≤ 5) (hy : 0 ≤ y ∧ y ≤ 5) : wrap64 (wrap64 (x * 6) + y) = ((x.toNat * 6 + y.toNat : Nat) : Int) ∧ x.toNat * 6 + y.toNat < r.length := by
  refine ⟨?_, by omega⟩
  rw [B.wid (n := x * 6) (by omega) (by omega), B.wid (by omega) (by omega)]
  omega
theorem evRel (d i r : List Int) (x y : Int) (hd : d.length ≤ 4194304) (hi : i.length ≤ 4194304) (hr : r.length ≤ 4194304) : B.Ev (fun k => spec_RelCost.f k d i r x y) (relC d i r x y) := by
  simp only [spec_RelCost.f]
  refine B.Ev.bind (B.Ev.of 4194305 (fun k hk => specCostOk d i r hd hi hr k hk)) ?_
  unfold relC
  cases hc : okC d i r
  · exact B.Ev.pure _
  simp only [↓reduceIte, specLabelOk, Option.bind_some]
  have h36 := (okC_parts hc).2.2.1.1
  by_cases hx : 0 ≤ x ∧ x ≤ 5
  · by_cases hy : 0 ≤ y ∧ y ≤ 5
    · obtain ⟨e, hb⟩ := rel_at h36 hx hy
      simp only [hx, hy, and_self, decide_true, ↓reduceIte, e, show (0 : Int) ≤ ((x.toNat * 6 + y.toNat : Nat) : Int) by omega, show ((x.toNat * 6 + y.toNat : Nat) : Int) < (r.length : Int) by omega, rdInt, Bool.and_self]
      exact B.Ev.pure _
    · simp only [hx, hy, and_self, decide_true, decide_false, ↓reduceIte, Bool.and_false, Bool.false_eq_true]
      exact B.Ev.pure _
  · simp only [hx, decide_false, ↓reduceIte, Bool.and_false, Bool.false_and, Bool.false_eq_true]
    exact B.Ev.pure _
theorem evRel' (d i r : List Int) (x y : Int) (hd : d.length ≤ 4194304) (hi : i.length ≤ 4194304) (hr : r.length ≤ 4194304) : B.Ev (fun k => impl_RelCost.f k d i r x y) (relC d i r x y) := by
  simp only [impl_RelCost.f]
  refine B.Ev.bind (B.Ev.of 4194305 (fun k hk => implCostOk d i r hd hi hr k hk)) ?_
  unfold relC
  cases hc : okC d i r
  · exact B.Ev.pure _
  simp only [↓reduceIte, implLabelOk, Option.bind_some]
  have h36 := (okC_parts hc).2.2.1.1
  by_cases hx : 0 ≤ x ∧ x ≤ 5
  · by_cases hy : 0 ≤ y ∧ y ≤ 5
    · obtain ⟨e, hb⟩ := rel_at h36 hx hy
      simp only [hx, hy, and_self, decide_true, ↓reduceIte, e, show (0 : Int) ≤ ((x.toNat * 6 + y.toNat : Nat) : Int) by omega, show ((x.toNat * 6 + y.toNat : Nat) : Int) < (r.length : Int) by omega, rdInt, Bool.and_self]
      exact B.Ev.pure _
    · simp only [hx, hy, and_self, decide_true, decide_false, ↓reduceIte, Bool.and_false, Bool.false_eq_true]
      exact B.Ev.pure _
  · simp only [hx, decide_false, ↓reduceIte, Bool.and_false, Bool.false_and, Bool.false_eq_true]
    exact B.Ev.pure _
end Go.Proofs.Ytockkelkdimehaa.X
