/- The table of the specification, for any distance told ahead; then the distance itself. -/
import Derived.Test.YtockkelkdimehaaXTD
import Derived.Test.YtockkelkdimehaaXFlat
import Derived.Test.YtockkelkdimehaaXRd
import Derived.Test.YtockkelkdimehaaG88
namespace Go.Proofs.Ytockkelkdimehaa.X
open Go Go.RowKit Go.Proofs.YtockkelkdimehaaW.PrintWords Go.Proofs.YtockkelkdimehaaW.PrintLast Go.Proofs.YtockkelkdimehaaW.PrintMore Go.Proofs.Ytockkelkdimehaa.P
theorem wmulM {M p w : Nat} (hM : M = p * w) (h : M ≤ 1000000000) : wrap64 ((p : Int) * (w : Int)) = (M : Int) := by subst hM; exact wmul h
set_option maxHeartbeats 4000000 in
theorem evTab0 [spec_l26Dist_O] {a b : List S59} {d i r : List Int} {X Y : List Int} {x y : Nat → Nat} {T R : Nat → Nat → Int} {D I : Nat → Int} {w N : Nat}
    (hw : w = Y.length + 1) (hNe : N = (X.length + 1) * w) (hN : N ≤ 100000) (hP : X.length ≤ 100) (hQ : Y.length ≤ 100)
    (hX : ∀ p, p < X.length → rd X (p : Int) = (x p : Int)) (hY : ∀ q, q < Y.length → rd Y (q : Int) = (y q : Int))
    (hS1 : ∀ p, p < X.length → B.Ev (fun k => spec_SubTree.f k a (x p : Int)) (subN a (x p)))
    (hD1 : ∀ p, p < X.length → B.Ev (fun k => spec_DelTree.f k (subN a (x p)) d i r) (D p))
    (hS2 : ∀ q, q < Y.length → B.Ev (fun k => spec_SubTree.f k b (y q : Int)) (subN b (y q)))
    (hI1 : ∀ q, q < Y.length → B.Ev (fun k => spec_InsTree.f k (subN b (y q)) d i r) (I q))
    (hR1 : ∀ p q, p < X.length → q < Y.length → B.Ev (fun k => spec_l26Dist_O.f k a b d i r (x p : Int) (y q : Int)) (R p q))
    (hDb : ∀ p, 0 ≤ D p ∧ D p ≤ 24000) (hIb : ∀ p, 0 ≤ I p ∧ I p ≤ 24000) (hRb : ∀ p q, p < X.length → q < Y.length → 0 ≤ R p q ∧ R p q ≤ 1153000)
    (hT : ∀ p q, p ≤ X.length → q ≤ Y.length → 0 ≤ T p q ∧ T p q ≤ 1152000)
    (h00 : T 0 0 = 0) (h10 : ∀ p, T (p + 1) 0 = T p 0 + D p) (h01 : ∀ q, T 0 (q + 1) = T 0 q + I q)
    (h11 : ∀ p q, T (p + 1) (q + 1) = min (min (T p (q + 1) + D p) (T (p + 1) q + I q)) (T p q + R p q)) :
    B.Ev (fun k => spec_l26Table.l0 k a b X Y (w : Int) (List.replicate N 0) 0 d i r) (flat T N w N) := by
  have e0 : flat T N w 0 = flat T N w (0 * w) := by rw [Nat.zero_mul]
  rw [← flat_zero T N w, e0]
  refine B.Ev.loop (g := fun k p => spec_l26Table.l0 k a b X Y (w : Int) (flat T N w (p * w)) (p : Int) d i r) (X.length + 1) (fun _ => True) ?_ ?_ 0 (by omega) trivial
  · intro _
    refine B.Ev.succ ?_
    simp only [spec_l26Table.l0, show ¬(((X.length + 1 : Nat) : Int) ≤ (X.length : Int)) by omega, ↓reduceIte]
    rw [← hNe]
    exact B.Ev.pure _
  intro p hp _ ihp
  have ihp := ihp trivial
  refine B.Ev.succ ?_
  simp only [spec_l26Table.l0, show ((p : Nat) : Int) ≤ (X.length : Int) by omega, ↓reduceIte]
  refine B.Ev.loop (g := fun k q => spec_l26Table.l1 k a b X Y (w : Int) (flat T N w (p * w + q)) (p : Int) (q : Int) d i r) (Y.length + 1) (fun _ => True) ?_ ?_ 0 (by omega) trivial
  · intro _
    refine B.Ev.succ ?_
    simp only [spec_l26Table.l1, show ¬(((Y.length + 1 : Nat) : Int) ≤ (Y.length : Int)) by omega, ↓reduceIte, B.wsucc (show p < 9223372036854775807 by omega)]
    rw [← hw, ← Nat.succ_mul]
    exact ihp
  intro q hq _ ih
  have ih := ih trivial
  have hqw : q < w := by omega
  have hcell := cell_lt (P := X.length) (show p ≤ X.length by omega) hqw
  rw [← hNe] at hcell
  refine B.Ev.succ ?_
  have cq : ((q : Nat) : Int) ≤ (Y.length : Int) := by omega
  have hq9 : q < 9223372036854775807 := by omega
  have hpq : p + q ≤ 1000000000 := by omega
  obtain ⟨M, hM⟩ : ∃ M, M = p * w := ⟨_, rfl⟩
  rw [← hM] at hcell ih
  rw [← hM]
  have hMb : M ≤ 1000000000 := by omega
  have hMq : M + q ≤ 1000000000 := by omega
  have m3 : 0 ≤ ((M + q : Nat) : Int) := by omega
  have m4 : ((M + q : Nat) : Int) < (N : Int) := by omega
  have m5 : (((M + q : Nat) : Int)).toNat = M + q := by omega
  have hset : ∀ z, z = T p q → (flat T N w (M + q)).set (M + q) z = flat T N w (M + (q + 1)) := fun z hz => setFlat T (p := p) (q := q) (by rw [hM]) hqw hz
  have hTpq := hT p q (by omega) (by omega)
  rcases Nat.eq_zero_or_pos p with hp0 | hp0
  · have cp : ¬((p : Int) > 0) := by omega
    rcases Nat.eq_zero_or_pos q with hq0 | hq0
    · have hz : ((p + q : Nat) : Int) = 0 := by omega
      simp only [spec_l26Table.l1, cq, waddn hpq, hz, B.wsucc hq9, ↓reduceIte]
      have e : flat T N w (M + q) = flat T N w (M + (q + 1)) := by
        have hM0 : M = 0 := by rw [hM, hp0, Nat.zero_mul]
        rw [hM0, hq0]
        exact flat_one T N w (by rw [Nat.zero_div, Nat.zero_mod]; exact h00)
      rw [e]
      exact ih
    · obtain ⟨q, rfl⟩ : ∃ m, q = m + 1 := ⟨q - 1, by omega⟩
      have hz : ¬(((p + (q + 1) : Nat) : Int) = 0) := by omega
      simp only [spec_l26Table.l1, cq, waddn hpq, hz, cp, ↓reduceIte]
      refine B.Ev.succ ?_
      have hMq1 : M + q ≤ 1000000000 := by omega
      have hq1 : q ≤ 1000000000 := by omega
      simp only [spec_l26Table.j2, show ((q + 1 : Nat) : Int) > 0 by omega, wmulM hM hMb, waddn hMq, (show wrap64 (((M + (q + 1) : Nat) : Int) - 1) = ((M + q : Nat) : Int) from wpred _ hMq1), wpred q hq1, flat_len, show 0 ≤ ((M + q : Nat) : Int) by omega, show ((M + q : Nat) : Int) < (N : Int) by omega, show 0 ≤ (q : Int) by omega, show (q : Int) < (Y.length : Int) by omega, hY q (by omega), ↓reduceIte]
      refine B.Ev.bind (hS2 q (by omega)) ?_
      refine B.Ev.bind (hI1 q (by omega)) ?_
      have b1 := hT p q (by omega) (by omega)
      have b2 := hIb q
      have r1 : rd (flat T N w (M + (q + 1))) ((M + q : Nat) : Int) = T p q := rdFlat T (by rw [hM]) (by omega) (by omega) (by omega)
      have r2 : wrap64 (T p q + I q) = T p q + I q := B.wid (by omega) (by omega)
      have r3 : mn 1000000000 (T p q + I q) = T p q + I q := mnBig (by omega)
      simp only [cp, m3, m4, m5, r1, r2, r3, B.wsucc hq9, ↓reduceIte]
      rw [hset _ (by rw [hp0]; rw [h01])]
      exact ih
  · obtain ⟨p, rfl⟩ : ∃ m, p = m + 1 := ⟨p - 1, by omega⟩
    have cp : ((p + 1 : Nat) : Int) > 0 := by omega
    have hz : ¬(((p + 1 + q : Nat) : Int) = 0) := by omega
    obtain ⟨L, hL⟩ : ∃ L, L = p * w := ⟨_, rfl⟩
    have hLM : M = L + w := by rw [hM, hL, Nat.succ_mul]
    have hp1 : p ≤ 1000000000 := by omega
    have hLb : L ≤ 1000000000 := by omega
    have hLq : L + q ≤ 1000000000 := by omega
    have b1 := hT p q (by omega) (by omega)
    have b2 := hDb p
    have r1 : rd (flat T N w (M + q)) ((L + q : Nat) : Int) = T p q := rdFlat T (by rw [hL]) hqw (by omega) (by omega)
    have r2 : wrap64 (T p q + D p) = T p q + D p := B.wid (by omega) (by omega)
    have r3 : mn 1000000000 (T p q + D p) = T p q + D p := mnBig (by omega)
    simp only [spec_l26Table.l1, cq, waddn hpq, hz, cp, wpred p hp1, wmulM hL hLb, waddn hLq, flat_len, show 0 ≤ ((L + q : Nat) : Int) by omega, show ((L + q : Nat) : Int) < (N : Int) by omega, show 0 ≤ (p : Int) by omega, show (p : Int) < (X.length : Int) by omega, hX p (by omega), ↓reduceIte]
    refine B.Ev.bind (hS1 p (by omega)) ?_
    refine B.Ev.bind (hD1 p (by omega)) ?_
    simp only [r1, r2, r3]
    refine B.Ev.succ ?_
    rcases Nat.eq_zero_or_pos q with hq0 | hq0
    · simp only [spec_l26Table.j2, show ¬((q : Int) > 0) by omega, cp, wmulM hM hMb, waddn hMq, m3, m4, m5, B.wsucc hq9, flat_len, ↓reduceIte]
      rw [hset _ (by rw [hq0, h10])]
      exact ih
    · obtain ⟨q, rfl⟩ : ∃ m, q = m + 1 := ⟨q - 1, by omega⟩
      have hMq1 : M + q ≤ 1000000000 := by omega
      have hq1 : q ≤ 1000000000 := by omega
      have hLq1 : L + q ≤ 1000000000 := by omega
      simp only [spec_l26Table.j2, show ((q + 1 : Nat) : Int) > 0 by omega, wmulM hM hMb, waddn hMq, (show wrap64 (((M + (q + 1) : Nat) : Int) - 1) = ((M + q : Nat) : Int) from wpred _ hMq1), wpred q hq1, flat_len, show 0 ≤ ((M + q : Nat) : Int) by omega, show ((M + q : Nat) : Int) < (N : Int) by omega, show 0 ≤ (q : Int) by omega, show (q : Int) < (Y.length : Int) by omega, hY q (by omega), ↓reduceIte]
      refine B.Ev.bind (hS2 q (by omega)) ?_
      refine B.Ev.bind (hI1 q (by omega)) ?_
      simp only [cp, wpred p hp1, wmulM hL hLb, waddn hLq, (show wrap64 (((L + (q + 1) : Nat) : Int) - 1) = ((L + q : Nat) : Int) from wpred _ hLq1), show 0 ≤ ((L + q : Nat) : Int) by omega, show ((L + q : Nat) : Int) < (N : Int) by omega, show 0 ≤ (p : Int) by omega, show (p : Int) < (X.length : Int) by omega, hX p (by omega), ↓reduceIte]
      refine B.Ev.bind (hR1 p q (by omega) (by omega)) ?_
      have b3 := hT (p + 1) q (by omega) (by omega)
      have b4 := hIb q
      have b5 := hT p q (by omega) (by omega)
      have b6 := hRb p q (by omega) (by omega)
      have s1 : rd (flat T N w (M + (q + 1))) ((M + q : Nat) : Int) = T (p + 1) q := rdFlat T (by rw [hM]) (by omega) (by omega) (by omega)
      have s2 : wrap64 (T (p + 1) q + I q) = T (p + 1) q + I q := B.wid (by omega) (by omega)
      have s3 : rd (flat T N w (M + (q + 1))) ((L + q : Nat) : Int) = T p q := rdFlat T (by rw [hL]) (by omega) (by omega) (by omega)
      have s4 : wrap64 (T p q + R p q) = T p q + R p q := B.wid (by omega) (by omega)
      simp only [m3, m4, m5, s1, s2, s3, s4, B.wsucc hq9, mn_min, ↓reduceIte]
      rw [hset _ (by rw [h11])]
      exact ih
end Go.Proofs.Ytockkelkdimehaa.X
