/- A node's parent. -/
import Derived.Test.YtekpggmnnfjphaaXEnd
import Derived.Test.YtekpggmnnfjphaaG108
namespace Go.Proofs.Ytekpggmnnfjphaa.X
open Go Go.RowKit Go.Proofs.YtekpggmnnfjphaaW.PrintWords Go.Proofs.YtekpggmnnfjphaaW.PrintLast Go.Proofs.YtekpggmnnfjphaaW.PrintMore Go.Proofs.Ytekpggmnnfjphaa.P
theorem evHas (l : List S48) (hl : l.length ≤ 4194304) (i : Int) : B.Ev (fun k => impl_hasNode.f k l i) (isAt l i) := by
  simp only [impl_hasNode.f]
  refine B.Ev.bind (B.Ev.of _ (fun k hk => implTreeOk l hl k hk)) ?_
  have e : wrap64 ((l.length : Int) - 1) = (l.length : Int) - 1 := B.wid (by omega) (by omega)
  simp only [within, e, Option.bind_some]
  refine B.Ev.ite (fun h => ?_) (fun h => ?_)
  · exact (B.Ev.pure _).eq (by simp [isAt, h])
  · exact (B.Ev.pure _).eq (by simp [isAt, h])
/-- The last node ahead of j that lies higher than i. -/
def parGo (l : List S48) (i : Nat) : Nat → Int
  | 0 => -1
  | j + 1 => if dep l j ≥ dep l i then parGo l i j else (j : Int)
def parN (l : List S48) (i : Nat) : Int := parGo l i i
theorem parGo_nn {l : List S48} (h : okT l = true) {i : Nat} (hi : i < l.length) (h0 : i ≠ 0) : ∀ j, 0 < j → j ≤ i → 0 ≤ parGo l i j := by
  intro j
  induction j with
  | zero => intro hj; omega
  | succ j ih =>
    intro _ hj
    simp only [parGo]
    split
    · next c =>
      rcases Nat.eq_zero_or_pos j with rfl | hp
      · have r0 := (okT_at h (show 0 < l.length by omega)).2.2.1
        have r1 := (okT_at h hi).2
        have : dep l 0 = 0 := r0.2 rfl
        have n1 : ¬ dep l i = 0 := fun e => h0 (r1.2.1.1 e)
        have n2 := r1.1.1
        omega
      · exact ih hp (by omega)
    · omega
theorem parN_nn {l : List S48} (h : okT l = true) {i : Nat} (hi : i < l.length) (h0 : i ≠ 0) : 0 ≤ parN l i := parGo_nn h hi h0 i (by omega) (Nat.le_refl _)

theorem evParLoop (l : List S48) (hl : l.length ≤ 4194304) (i : Nat) (hi : i < l.length) : ∀ j : Nat, j ≤ i → B.Ev (fun k => spec_ParentOf.l0 k l (i : Int) ((j : Int) - 1)) (parGo l i j) := by
  intro j
  have a3 : 0 ≤ (i : Int) := by omega
  have a4 : (i : Int) < (l.length : Int) := by omega
  induction j with
  | zero =>
    intro _
    refine B.Ev.succ ?_
    simp only [spec_ParentOf.l0, parGo, show ¬ (((0 : Nat) : Int) - 1 ≥ 0) by decide, ↓reduceIte]
    exact B.Ev.pure _
  | succ j ih =>
    intro hj
    refine B.Ev.succ ?_
    have e : ((j + 1 : Nat) : Int) - 1 = (j : Int) := by omega
    have e' : wrap64 ((j : Int) - 1) = (j : Int) - 1 := B.wid (by omega) (by omega)
    have a1 : (j : Int) < (l.length : Int) := by omega
    have a2 : 0 ≤ (j : Int) := by omega
    simp only [spec_ParentOf.l0, parGo, e, e', a1, a2, a3, a4, ↓reduceIte, rdNode]
    by_cases c : dep l j ≥ dep l i
    · have c' : (l.getD j z48).f1 ≥ (l.getD i z48).f1 := c
      simp only [c, c', ↓reduceIte]
      exact ih (by omega)
    · have c' : ¬ (l.getD j z48).f1 ≥ (l.getD i z48).f1 := c
      simp only [c, c', ↓reduceIte]
      exact B.Ev.pure _
theorem evParLoop' (l : List S48) (hl : l.length ≤ 4194304) (i : Nat) (hi : i < l.length) : ∀ j : Nat, j ≤ i → B.Ev (fun k => impl_ParentOf.l0 k l (i : Int) ((j : Int) - 1)) (parGo l i j) := by
  intro j
  have a3 : 0 ≤ (i : Int) := by omega
  have a4 : (i : Int) < (l.length : Int) := by omega
  induction j with
  | zero =>
    intro _
    refine B.Ev.succ ?_
    simp only [impl_ParentOf.l0, parGo, show ¬ (((0 : Nat) : Int) - 1 ≥ 0) by decide, ↓reduceIte]
    exact B.Ev.pure _
  | succ j ih =>
    intro hj
    refine B.Ev.succ ?_
    have e : ((j + 1 : Nat) : Int) - 1 = (j : Int) := by omega
    have e' : wrap64 ((j : Int) - 1) = (j : Int) - 1 := B.wid (by omega) (by omega)
    have a1 : (j : Int) < (l.length : Int) := by omega
    have a2 : 0 ≤ (j : Int) := by omega
    simp only [impl_ParentOf.l0, parGo, e, e', a1, a2, a3, a4, ↓reduceIte, rdNode]
    by_cases c : dep l j ≥ dep l i
    · have c' : (l.getD j z48).f1 ≥ (l.getD i z48).f1 := c
      simp only [c, c', ↓reduceIte]
      exact ih (by omega)
    · have c' : ¬ (l.getD j z48).f1 ≥ (l.getD i z48).f1 := c
      simp only [c, c', ↓reduceIte]
      exact B.Ev.pure _
theorem evPar {l : List S48} (h : okT l = true) {i : Nat} (hi : i < l.length) : B.Ev (fun k => spec_ParentOf.f k l (i : Int)) (parN l i) := by
  have hl := (okT_len h).2
  have e' : wrap64 ((i : Int) - 1) = (i : Int) - 1 := B.wid (by omega) (by omega)
  simp only [spec_ParentOf.f, e']
  refine B.Ev.bind (evAt l (by omega) _) ?_
  rw [isAt_of h hi]
  simp only [↓reduceIte]
  exact evParLoop l (by omega) i hi i (Nat.le_refl _)
theorem evPar' {l : List S48} (h : okT l = true) {i : Nat} (hi : i < l.length) : B.Ev (fun k => impl_ParentOf.f k l (i : Int)) (parN l i) := by
  have hl := (okT_len h).2
  have e' : wrap64 ((i : Int) - 1) = (i : Int) - 1 := B.wid (by omega) (by omega)
  simp only [impl_ParentOf.f, e']
  refine B.Ev.bind (evHas l (by omega) _) ?_
  rw [isAt_of h hi]
  simp only [↓reduceIte]
  exact evParLoop' l (by omega) i hi i (Nat.le_refl _)
end Go.Proofs.Ytekpggmnnfjphaa.X
