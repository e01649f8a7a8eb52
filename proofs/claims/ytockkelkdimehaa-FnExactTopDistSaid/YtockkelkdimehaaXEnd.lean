/- The place behind a node's last descendant. -/
import Derived.Test.YtockkelkdimehaaXTree
import Derived.Test.YtockkelkdimehaaXEv
import Derived.Test.YtockkelkdimehaaG102
namespace Go.Proofs.Ytockkelkdimehaa.X
open Go Go.RowKit Go.Proofs.YtockkelkdimehaaW.PrintWords Go.Proofs.YtockkelkdimehaaW.PrintLast Go.Proofs.YtockkelkdimehaaW.PrintMore Go.Proofs.Ytockkelkdimehaa.P

def isAt (l : List S59) (i : Int) : Bool := okT l && decide (0 ≤ i ∧ i ≤ (l.length : Int) - 1)
theorem isAt_okT {l : List S59} {i : Int} (h : isAt l i = true) : okT l = true := by unfold isAt at h; simp at h; exact h.1
theorem isAt_nat {l : List S59} {i : Int} (h : isAt l i = true) : ∃ n : Nat, i = (n : Int) ∧ n < l.length := by
  unfold isAt at h; simp at h
  exact ⟨i.toNat, by omega, by omega⟩
theorem isAt_of {l : List S59} {n : Nat} (h : okT l = true) (hn : n < l.length) : isAt l (n : Int) = true := by
  unfold isAt; simp [h]; omega

theorem evAt (l : List S59) (hl : l.length ≤ 4194304) (i : Int) : B.Ev (fun k => spec_l3At.f k l i) (isAt l i) := by
  simp only [spec_l3At.f]
  refine B.Ev.bind (B.Ev.of _ (fun k hk => specTreeOk l hl k hk)) ?_
  have e : wrap64 ((l.length : Int) - 1) = (l.length : Int) - 1 := B.wid (by omega) (by omega)
  simp only [l1In, e, Option.bind_some]
  refine B.Ev.ite (fun h => ?_) (fun h => ?_)
  · exact (B.Ev.pure _).eq (by simp [isAt, h])
  · exact (B.Ev.pure _).eq (by simp [isAt, h])

/-- The place behind the last node under i. -/
def endGo (l : List S59) (i : Nat) : Nat → Nat → Nat
  | 0, j => j
  | n + 1, j => if dep l j > dep l i then endGo l i n (j + 1) else j
def endN (l : List S59) (i : Nat) : Nat := endGo l i (l.length - (i + 1)) (i + 1)

theorem evEndLoop (l : List S59) (hl : l.length ≤ 4194304) (i : Nat) (hi : i < l.length) : ∀ n j : Nat, j + n = l.length → B.Ev (fun k => spec_EndOf.l0 k l (i : Int) (j : Int)) (endGo l i n j : Int) := by
  intro n
  have a3 : 0 ≤ (i : Int) := by omega
  have a4 : (i : Int) < (l.length : Int) := by omega
  induction n with
  | zero =>
    intro j hj
    refine B.Ev.succ ?_
    simp only [spec_EndOf.l0, endGo, show ¬ ((j : Int) < (l.length : Int)) by omega, ↓reduceIte]
    exact B.Ev.pure _
  | succ n ih =>
    intro j hj
    refine B.Ev.succ ?_
    have a1 : (j : Int) < (l.length : Int) := by omega
    have a2 : 0 ≤ (j : Int) := by omega
    simp only [spec_EndOf.l0, endGo, a1, a2, a3, a4, ↓reduceIte, rdNode, B.wsucc (show j < 9223372036854775807 by omega)]
    by_cases c : dep l j > dep l i
    · have c' : (l.getD j z59).f1 > (l.getD i z59).f1 := c
      simp only [c, c', ↓reduceIte]
      exact ih (j + 1) (by omega)
    · have c' : ¬ (l.getD j z59).f1 > (l.getD i z59).f1 := c
      simp only [c, c', ↓reduceIte]
      exact B.Ev.pure _
theorem evEndLoop' (l : List S59) (hl : l.length ≤ 4194304) (i : Nat) (hi : i < l.length) : ∀ n j : Nat, j + n = l.length → B.Ev (fun k => impl_endOf.l0 k l (i : Int) (j : Int)) (endGo l i n j : Int) := by
  intro n
  have a3 : 0 ≤ (i : Int) := by omega
  have a4 : (i : Int) < (l.length : Int) := by omega
  induction n with
  | zero =>
    intro j hj
    refine B.Ev.succ ?_
    simp only [impl_endOf.l0, endGo, show ¬ ((j : Int) < (l.length : Int)) by omega, ↓reduceIte]
    exact B.Ev.pure _
  | succ n ih =>
    intro j hj
    refine B.Ev.succ ?_
    have a1 : (j : Int) < (l.length : Int) := by omega
    have a2 : 0 ≤ (j : Int) := by omega
    simp only [impl_endOf.l0, endGo, a1, a2, a3, a4, ↓reduceIte, rdNode, B.wsucc (show j < 9223372036854775807 by omega)]
    by_cases c : dep l j > dep l i
    · have c' : (l.getD j z59).f1 > (l.getD i z59).f1 := c
      simp only [c, c', ↓reduceIte]
      exact ih (j + 1) (by omega)
    · have c' : ¬ (l.getD j z59).f1 > (l.getD i z59).f1 := c
      simp only [c, c', ↓reduceIte]
      exact B.Ev.pure _
theorem evEnd {l : List S59} (h : okT l = true) {i : Nat} (hi : i < l.length) : B.Ev (fun k => spec_EndOf.f k l (i : Int)) (endN l i : Int) := by
  have hl := (okT_len h).2
  simp only [spec_EndOf.f]
  refine B.Ev.bind (evAt l (by omega) _) ?_
  rw [isAt_of h hi]
  simp only [↓reduceIte, B.wsucc (show i < 9223372036854775807 by omega)]
  exact evEndLoop l (by omega) i hi _ (i + 1) (by omega)
theorem evEnd' {l : List S59} (h : okT l = true) {i : Nat} (hi : i < l.length) : B.Ev (fun k => impl_endOf.f k l (i : Int)) (endN l i : Int) := by
  have hl := (okT_len h).2
  simp only [impl_endOf.f, B.wsucc (show i < 9223372036854775807 by omega)]
  exact evEndLoop' l (by omega) i hi _ (i + 1) (by omega)
theorem endGo_spec (l : List S59) (i : Nat) : ∀ n j, j + n = l.length → j ≤ endGo l i n j ∧ endGo l i n j ≤ l.length ∧ (∀ g, j ≤ g → g < endGo l i n j → dep l g > dep l i) ∧ (endGo l i n j < l.length → dep l (endGo l i n j) ≤ dep l i) := by
  intro n
  induction n with
  | zero => intro j hj; simp only [endGo]; exact ⟨Nat.le_refl _, by omega, fun g h1 h2 => by omega, fun h => by omega⟩
  | succ n ih =>
    intro j hj
    simp only [endGo]
    split
    · next c =>
      obtain ⟨h1, h2, h3, h4⟩ := ih (j + 1) (by omega)
      refine ⟨by omega, h2, fun g g1 g2 => ?_, h4⟩
      rcases Nat.lt_or_ge j g with d | d
      · exact h3 g (by omega) g2
      · obtain rfl : g = j := by omega
        exact c
    · next c => exact ⟨Nat.le_refl _, by omega, fun g h1 h2 => by omega, fun _ => by omega⟩
theorem endN_spec (l : List S59) {i : Nat} (hi : i < l.length) : i < endN l i ∧ endN l i ≤ l.length ∧ (∀ g, i < g → g < endN l i → dep l g > dep l i) ∧ (endN l i < l.length → dep l (endN l i) ≤ dep l i) := by
  have := endGo_spec l i (l.length - (i + 1)) (i + 1) (by omega)
  unfold endN
  exact ⟨by omega, this.2.1, fun g h1 h2 => this.2.2.1 g (by omega) h2, this.2.2.2⟩
end Go.Proofs.Ytockkelkdimehaa.X
