/- The law FnCounted, as a statement over numbers and lists: for any code the law's function answers true. -/
import Derived.Test.YtekpggmnnfjphaaXCounted
import Derived.Test.YtekpggmnnfjphaaG10
import Derived.Test.YtekpggmnnfjphaaStFnCounted
namespace Go.Proofs.Ytekpggmnnfjphaa.Pure
open Go Go.RowKit Go.Proofs.YtekpggmnnfjphaaW.PrintWords Go.Proofs.YtekpggmnnfjphaaW.PrintLast Go.Proofs.YtekpggmnnfjphaaW.PrintMore Go.Proofs.Ytekpggmnnfjphaa.P Go.Proofs.Ytekpggmnnfjphaa.X
theorem drLabelCounts (l : List Int) (hl : l.length ≤ 4194304) : B.EvP (fun k => spec_DrawLabelCounts.f k l) (fun t => t.length ≤ 1001) := by
  simp only [spec_DrawLabelCounts.f]
  refine B.EvP.bind (drNew l hl) ?_
  rintro ⟨b, i, h⟩ ⟨e1, e2⟩
  obtain rfl : l = b := e1.symm
  obtain rfl : 0 = i := e2.symm
  dsimp only
  refine B.EvP.bind (drAny hl h 12 (by omega) (by omega) (by omega)) ?_
  rintro ⟨x, i, h⟩ ⟨hx, _, _⟩
  exact B.EvP.pure hx
theorem FnCounted : fnCounted.Pure := by
  intro l hl0
  apply B.Ev.ex
  simp only [laws_FnCounted.f, big, Option.bind_some, decide_eq_true_eq]
  refine B.Ev.ite (fun _ => B.Ev.pure _) (fun c => ?_)
  have hl : l.length ≤ 4194304 := by omega
  obtain ⟨t, ht, et⟩ := drLabelCounts l hl
  refine B.Ev.bind et ?_
  refine B.Ev.bind (B.Ev.of _ (fun k hk => implLabelCounts t (by omega) k hk)) ?_
  refine B.Ev.bind (B.Ev.of _ (fun k hk => implDepthCounts t (by omega) k hk)) ?_
  refine B.Ev.bind (B.Ev.of _ (fun k hk => specTreeOk t (by omega) k hk)) ?_
  cases hok : okT t with
  | false =>
    have e1 : labelCounts t = [] := by unfold labelCounts; rw [hok]; rfl
    have e2 : depthCounts t = [] := by unfold depthCounts; rw [hok]; rfl
    simp only [Bool.false_eq_true, ↓reduceIte, e1, e2, List.length_nil, show ((0 : Nat) : Int) = 0 from rfl]
    exact B.Ev.pure _
  | true =>
    simp only [↓reduceIte]
    have hb := heightOf_bounds hok
    have hlen := okT_len hok
    have m0 : ∀ n ∈ t, 0 ≤ S48.f0 n ∧ S48.f0 n < ((6 : Nat) : Int) := fun n hn => by have := (okT_mem hok hn).1; omega
    have m1 : ∀ n ∈ t, 0 ≤ S48.f1 n ∧ S48.f1 n < ((heightOf t).toNat : Int) := fun n hn => by have := (okT_mem hok hn).2; have := hb.2.2 n hn; omega
    have e1 : labelCounts t = tally S48.f0 6 t := by unfold labelCounts; rw [hok]; rfl
    have e2 : depthCounts t = tally S48.f1 (heightOf t).toNat t := by unfold depthCounts; rw [hok]; rfl
    have l1 : (labelCounts t).length = 6 := by rw [e1, tally_length]
    have l2 : (depthCounts t).length = (heightOf t).toNat := by rw [e2, tally_length]
    have g1 : ∀ j, j < 6 → (labelCounts t).getD j 0 = ((cnt S48.f0 t (j : Int) : Nat) : Int) := fun j hj => by rw [e1]; exact tally_get _ _ _ (by omega) m0 j hj
    have g2 : ∀ j, j < (heightOf t).toNat → (depthCounts t).getD j 0 = ((cnt S48.f1 t (j : Int) : Nat) : Int) := fun j hj => by rw [e2]; exact tally_get _ _ _ (by omega) m1 j hj
    obtain ⟨⟨a, b⟩, ⟨ha, hb'⟩, eab⟩ := drCountBound l hl
    simp only at ha hb'
    have last : B.Ev (fun k => laws_FnCounted.l1 k l t (labelCounts t) (depthCounts t) (t.length : Int) (t.length : Int) ((heightOf t).toNat : Int)) true := by
      refine B.Ev.succ ?_
      have h6 : ((labelCounts t).length : Int) = 6 := by omega
      have hh : ((depthCounts t).length : Int) = heightOf t := by omega
      have hr : rd (depthCounts t) 0 = 1 := by
        have := g2 0 (by omega)
        rw [show (((0 : Nat) : Int)) = 0 from rfl, depth_root hok] at this
        exact (rdInt (i := 0)).trans this
      simp only [laws_FnCounted.l1, l2, show ¬ (((heightOf t).toNat : Int) < ((heightOf t).toNat : Int)) by omega, ↓reduceIte]
      refine B.Ev.bind eab ?_
      simp only [h6, ↓reduceIte]
      refine B.Ev.bind (B.Ev.of _ (fun k hk => specHeightOf t (by omega) k hk)) ?_
      simp only [show ((heightOf t).toNat : Int) = heightOf t by omega, ↓reduceIte, show 0 < heightOf t by omega, hr]
      refine B.Ev.bind (evCount a b (by omega) (by omega)) ?_
      refine B.Ev.bind (evCount b a (by omega) (by omega)) ?_
      rw [cbN_comm a b]
      simp only [↓reduceIte]
      refine B.Ev.bind (evCount t t (by omega) (by omega)) ?_
      rw [cbN_self hok]
      exact B.Ev.pure _
    have mid : ∀ n i : Nat, i + n = (heightOf t).toNat → B.Ev (fun k => laws_FnCounted.l1 k l t (labelCounts t) (depthCounts t) (t.length : Int) (cntlt S48.f1 t (i : Int) : Int) (i : Int)) true := by
      intro n
      induction n with
      | zero =>
        intro i hi
        rw [cntlt_all _ _ _ (fun n hn => by have := m1 n hn; omega), show i = (heightOf t).toNat by omega]
        exact last
      | succ n ih =>
        intro i hi
        refine B.Ev.succ ?_
        have h1 := depth_each hok i (by omega)
        have h2 := cntlt_succ S48.f1 t (i : Int)
        have h3 := cntlt_le S48.f1 t ((i : Int) + 1)
        have e : wrap64 ((cntlt S48.f1 t (i : Int) : Int) + ((cnt S48.f1 t (i : Int) : Nat) : Int)) = ((cntlt S48.f1 t ((i + 1 : Nat) : Int) : Nat) : Int) := by rw [B.wid (by omega) (by omega), show (((i + 1 : Nat) : Int)) = (i : Int) + 1 by omega]; omega
        simp only [laws_FnCounted.l1, l2, show ((i : Int) < ((heightOf t).toNat : Int)) by omega, show 0 ≤ (i : Int) by omega, ↓reduceIte, rdInt, g2 i (by omega), e, show ¬ (((cnt S48.f1 t (i : Int) : Nat) : Int) < 1) by omega, B.wsucc (show i < 9223372036854775807 by omega)]
        exact ih (i + 1) (by omega)
    have first : ∀ n i : Nat, i + n = 6 → B.Ev (fun k => laws_FnCounted.l0 k l t (labelCounts t) (depthCounts t) (cntlt S48.f0 t (i : Int) : Int) 0 (i : Int)) true := by
      intro n
      induction n with
      | zero =>
        intro i hi
        rw [cntlt_all _ _ _ (fun n hn => by have := m0 n hn; omega)]
        refine B.Ev.succ ?_
        simp only [laws_FnCounted.l0, l1, show ¬ ((i : Int) < ((6 : Nat) : Int)) by omega, ↓reduceIte]
        have := mid (heightOf t).toNat 0 (by omega)
        rw [show (((0 : Nat) : Int)) = 0 from rfl, cntlt_zero _ _ (fun n hn => (m1 n hn).1)] at this
        exact this
      | succ n ih =>
        intro i hi
        refine B.Ev.succ ?_
        have h2 := cntlt_succ S48.f0 t (i : Int)
        have h3 := cntlt_le S48.f0 t ((i : Int) + 1)
        have e : wrap64 ((cntlt S48.f0 t (i : Int) : Int) + ((cnt S48.f0 t (i : Int) : Nat) : Int)) = ((cntlt S48.f0 t ((i + 1 : Nat) : Int) : Nat) : Int) := by rw [B.wid (by omega) (by omega), show (((i + 1 : Nat) : Int)) = (i : Int) + 1 by omega]; omega
        simp only [laws_FnCounted.l0, l1, show ((i : Int) < ((6 : Nat) : Int)) by omega, show 0 ≤ (i : Int) by omega, ↓reduceIte, rdInt, g1 i (by omega), e, B.wsucc (show i < 9223372036854775807 by omega)]
        exact ih (i + 1) (by omega)
    have := first 6 0 (by omega)
    rw [show (((0 : Nat) : Int)) = 0 from rfl, cntlt_zero _ _ (fun n hn => (m0 n hn).1)] at this
    exact this
end Go.Proofs.Ytekpggmnnfjphaa.Pure
