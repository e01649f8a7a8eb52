/- Drawn queries. -/
import Derived.Test.YtfdaifgfnpjoaaaDoorXDraw
import Derived.Test.YtfdaifgfnpjoaaaDoorXDrawOnce
import Derived.Test.YtfdaifgfnpjoaaaDoorXPicks
import Derived.Test.YtfdaifgfnpjoaaaDoorG10
namespace Go.Proofs.YtfdaifgfnpjoaaaDoor.X
open Go Go.RowKit Go.Proofs.YtfdaifgfnpjoaaaDoorW.PrintWords Go.Proofs.YtfdaifgfnpjoaaaDoorW.PrintLast Go.Proofs.YtfdaifgfnpjoaaaDoorW.PrintMore Go.Proofs.YtfdaifgfnpjoaaaDoor.P
theorem drQueryLoop1 {b : List Int} (hb : b.length ≤ 4194304) : ∀ (n : Nat) (l : List S40) (i h : Int), 0 ≤ i → i ≤ (b.length : Int) → l.length ≤ 1001 → 7 ≤ l.length + n →
    B.EvP (fun k => spec_l27Query.l1 k l b i h) (B.Cu b fun l' => l'.length ≤ 1001) := by
  intro n
  induction n with
  | zero =>
    intro l i h h0 h1 hl hn
    refine B.EvP.succ ?_
    simp only [spec_l27Query.l1]
    refine B.EvP.bind (drBelow hb h 2 h0 h1) ?_
    rintro ⟨v, i, h⟩ ⟨q, h0, h1⟩
    have q1 := q.1
    have q2 := q.2.1 (by omega)
    simp only at q1 q2 ⊢
    rw [B.wid (by omega) (by omega)]
    simp only [show ¬ ((l.length : Int) < 6 + v) by omega, ↓reduceIte]
    exact B.EvP.pure ⟨hl, h0, h1⟩
  | succ n ih =>
    intro l i h h0 h1 hl hn
    refine B.EvP.succ ?_
    simp only [spec_l27Query.l1]
    refine B.EvP.bind (drBelow hb h 2 h0 h1) ?_
    rintro ⟨v, i, h⟩ ⟨q, h0, h1⟩
    have q1 := q.1
    have q2 := q.2.1 (by omega)
    simp only at q1 q2 ⊢
    rw [B.wid (by omega) (by omega)]
    refine B.EvP.ite (fun c => ?_) (fun c => B.EvP.pure ⟨hl, h0, h1⟩)
    simp only [show l.length < 8796093022208 by omega, ↓reduceIte]
    exact ih _ _ _ h0 h1 (by simp; omega) (by simp; omega)
theorem drQueryLoop {b : List Int} (hb : b.length ≤ 4194304) : ∀ (n : Nat) (l : List S40) (i h : Int), 0 ≤ i → i ≤ (b.length : Int) → l.length + n ≤ 1000 → 1 ≤ l.length + n →
    B.EvP (fun k => spec_l27Query.l0 k l (n : Int) b i h) (B.Cu b fun l' => l'.length ≤ 1001) := by
  intro n
  induction n with
  | zero =>
    intro l i h h0 h1 hl hl1
    refine B.EvP.succ ?_
    simp only [spec_l27Query.l0, show ¬ ((0 : Nat) : Int) > 0 by decide, show 0 < (l.length : Int) by omega, ↓reduceIte]
    refine B.EvP.bind (drBelow hb h 16 h0 h1) ?_
    rintro ⟨v, i, h⟩ ⟨q, h0, h1⟩
    refine B.EvP.ite (fun _ => ?_) (fun _ => ?_)
    · refine B.EvP.bind (drPick hb h [-2, 6] (by decide) h0 h1) ?_
      rintro ⟨v, i, h⟩ ⟨_, h0, h1⟩
      exact B.EvP.pure ⟨by simp; omega, h0, h1⟩
    refine B.EvP.ite (fun _ => B.EvP.pure ⟨by simp, h0, h1⟩) (fun _ => ?_)
    exact B.EvP.ite (fun _ => drQueryLoop1 hb 7 l i h h0 h1 (by omega) (by omega)) (fun _ => B.EvP.pure ⟨by simp only; omega, h0, h1⟩)
  | succ n ih =>
    intro l i h h0 h1 hl hl1
    refine B.EvP.succ ?_
    have e2 : wrap64 (((n + 1 : Nat) : Int) - 1) = (n : Int) := by rw [B.wid (by omega) (by omega)]; omega
    simp only [spec_l27Query.l0, show ((n + 1 : Nat) : Int) > 0 by omega, show l.length < 8796093022208 by omega, e2, ↓reduceIte]
    refine B.EvP.bind (drOnce hb h 3 h0 h1) ?_
    rintro ⟨v, i, h⟩ ⟨_, h0, h1⟩
    refine B.EvP.bind (drPick hb h [-1, 0, 1, 2, 3, -1] (by decide) h0 h1) ?_
    rintro ⟨v2, i, h⟩ ⟨_, h0, h1⟩
    exact ih _ _ _ h0 h1 (by simp; omega) (by simp; omega)
theorem drQuery {b : List Int} (hb : b.length ≤ 4194304) {i : Int} (h : Int) (h0 : 0 ≤ i) (h1 : i ≤ (b.length : Int)) : B.EvP (fun k => spec_l27Query.f k b i h) (B.Cu b fun l' => l'.length ≤ 1001) := by
  simp only [spec_l27Query.f]
  refine B.EvP.bind (drBelow hb h 3 h0 h1) ?_
  rintro ⟨v, i, h⟩ ⟨q, h0, h1⟩
  have q1 := q.1
  have q2 := q.2.1 (by omega)
  simp only at q1 q2 ⊢
  obtain ⟨m, hm⟩ : ∃ m : Nat, wrap64 (1 + v) = (m : Int) := ⟨(1 + v).toNat, by rw [B.wid (by omega) (by omega)]; omega⟩
  have hm3 : m ≤ 3 ∧ 1 ≤ m := by rw [B.wid (by omega) (by omega)] at hm; omega
  rw [hm]
  exact drQueryLoop hb m [] i h h0 h1 (by simp; omega) (by simp; omega)
end Go.Proofs.YtfdaifgfnpjoaaaDoor.X
