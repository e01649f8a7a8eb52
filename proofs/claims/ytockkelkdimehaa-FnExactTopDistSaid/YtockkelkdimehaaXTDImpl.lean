/- The table of the program, for any distance told ahead. -/
import Derived.Test.YtockkelkdimehaaXTD
import Derived.Test.YtockkelkdimehaaXFlat
import Derived.Test.YtockkelkdimehaaXRd

namespace Go.Proofs.Ytockkelkdimehaa.X
open Go Go.RowKit Go.Proofs.YtockkelkdimehaaW.PrintWords Go.Proofs.YtockkelkdimehaaW.PrintLast Go.Proofs.YtockkelkdimehaaW.PrintMore Go.Proofs.Ytockkelkdimehaa.P
def rng (T : Nat → Int) (n : Nat) : List Int := (List.range n).map T
def rows (T : Nat → Nat → Int) (n m : Nat) : List (List Int) := (List.range n).map fun p => rng (T p) m
theorem rng_len (T : Nat → Int) (n : Nat) : (rng T n).length = n := by unfold rng; simp
theorem rows_len (T : Nat → Nat → Int) (n m : Nat) : (rows T n m).length = n := by unfold rows; simp
theorem rng_snoc (T : Nat → Int) (n : Nat) {z : Int} (h : z = T n) : rng T n ++ [z] = rng T (n + 1) := by unfold rng; rw [List.range_succ, List.map_append, h]; rfl
theorem rows_snoc (T : Nat → Nat → Int) (n m : Nat) : rows T n m ++ [rng (T n) m] = rows T (n + 1) m := by unfold rows; rw [List.range_succ, List.map_append]; rfl
theorem rdRng (T : Nat → Int) {n i : Nat} (h : i < n) : rd (rng T n) (i : Int) = T i := by
  rw [rdInt, B.getD_lt (by rw [rng_len]; exact h)]; unfold rng; simp
theorem rdRows (T : Nat → Nat → Int) {n m i : Nat} (h : i < n) : rd_L3 (rows T n m) (i : Int) = rng (T i) m := by
  unfold rd_L3
  rw [Int.toNat_natCast, B.getD_lt (by rw [rows_len]; exact h)]; unfold rows; simp
set_option maxHeartbeats 4000000 in
theorem evTabI0 [impl_topdown_dist_O] {a b : List S59} {d i r : List Int} {g : Int} {X Y : List Int} {x y : Nat → Nat} {T R : Nat → Nat → Int} {D I : Nat → Int}
    (hP : X.length ≤ 100) (hQ : Y.length ≤ 100)
    (hX : ∀ p, p < X.length → rd X (p : Int) = (x p : Int)) (hY : ∀ q, q < Y.length → rd Y (q : Int) = (y q : Int))
    (hD1 : ∀ p, p < X.length → B.Ev (fun k => impl_topdown_del.f k a b d i r g (x p : Int)) (D p))
    (hI1 : ∀ q, q < Y.length → B.Ev (fun k => impl_topdown_ins.f k a b d i r g (y q : Int)) (I q))
    (hR1 : ∀ p q, p < X.length → q < Y.length → B.Ev (fun k => impl_topdown_dist_O.f k a b d i r g (x p : Int) (y q : Int)) (R p q))
    (hDb : ∀ p, 0 ≤ D p ∧ D p ≤ 24000) (hIb : ∀ p, 0 ≤ I p ∧ I p ≤ 24000) (hRb : ∀ p q, p < X.length → q < Y.length → 0 ≤ R p q ∧ R p q ≤ 1153000)
    (hT : ∀ p q, p ≤ X.length → q ≤ Y.length → 0 ≤ T p q ∧ T p q ≤ 1152000)
    (h00 : T 0 0 = 0) (h10 : ∀ p, T (p + 1) 0 = T p 0 + D p) (h01 : ∀ q, T 0 (q + 1) = T 0 q + I q)
    (h11 : ∀ p q, T (p + 1) (q + 1) = min (min (T p (q + 1) + D p) (T (p + 1) q + I q)) (T p q + R p q)) :
    B.Ev (fun k => impl_topdown_table.l0 k X Y [([0] : List Int)] Y (Y.length : Int) 0 a b d i r g) (rows T (X.length + 1) (Y.length + 1)) := by
  have e0 : ([0] : List Int) = rng (T 0) (0 + 1) := by rw [← rng_snoc (T 0) 0 h00.symm]; rfl
  rw [e0]
  refine B.Ev.loop (g := fun k q => impl_topdown_table.l0 k X Y [rng (T 0) (q + 1)] Y (Y.length : Int) (q : Int) a b d i r g) Y.length (fun _ => True) ?_ ?_ 0 (by omega) trivial
  · intro _
    refine B.Ev.succ ?_
    simp only [impl_topdown_table.l0, Int.lt_irrefl, ↓reduceIte]
    have e1 : [rng (T 0) (Y.length + 1)] = rows T (0 + 1) (Y.length + 1) := by unfold rows; simp
    rw [e1]
    refine B.Ev.loop (g := fun k p => impl_topdown_table.l1 k Y (rows T (p + 1) (Y.length + 1)) X (X.length : Int) (p : Int) a b d i r g) X.length (fun _ => True) ?_ ?_ 0 (by omega) trivial
    · intro _
      refine B.Ev.succ ?_
      simp only [impl_topdown_table.l1, Int.lt_irrefl, ↓reduceIte]
      exact B.Ev.pure _
    intro p hp _ ihp
    have ihp := ihp trivial
    refine B.Ev.succ ?_
    have er := rdRows T (m := Y.length + 1) (show p < p + 1 by omega)
    have a1 : (p : Int) < (X.length : Int) := by omega
    have a2 : 0 ≤ (p : Int) := by omega
    have a3 : (p : Int) < ((p + 1 : Nat) : Int) := by omega
    have a4 : (0 : Int) < ((Y.length + 1 : Nat) : Int) := by omega
    simp only [impl_topdown_table.l1, a1, a2, a3, a4, rows_len, rng_len, er, hX p hp, ↓reduceIte]
    refine B.Ev.bind (hD1 p hp) ?_
    have b1 := hT p 0 (by omega) (by omega)
    have b2 := hDb p
    have r0 : rd (rng (T p) (Y.length + 1)) 0 = T p 0 := rdRng (T p) (i := 0) (by omega)
    have r1 : wrap64 (T p 0 + D p) = T p 0 + D p := B.wid (by omega) (by omega)
    have e2 : [T p 0 + D p] = rng (T (p + 1)) (0 + 1) := by rw [← rng_snoc (T (p + 1)) 0 (h10 p).symm]; rfl
    simp only [r0, r1]
    rw [e2]
    refine B.Ev.loop (g := fun k q => impl_topdown_table.l2 k Y (rows T (p + 1) (Y.length + 1)) (p : Int) (x p : Int) (rng (T (p + 1)) (q + 1)) X (X.length : Int) (p : Int) Y (Y.length : Int) (q : Int) a b d i r g) Y.length (fun _ => True) ?_ ?_ 0 (by omega) trivial
    · intro _
      refine B.Ev.succ ?_
      simp only [impl_topdown_table.l2, Int.lt_irrefl, rows_len, show p + 1 < 5864062014805 by omega, B.wsucc (show p < 9223372036854775807 by omega), ↓reduceIte]
      rw [rows_snoc T (p + 1) (Y.length + 1)]
      exact ihp
    intro q hq _ ih
    have ih := ih trivial
    refine B.Ev.succ ?_
    simp only [impl_topdown_table.l2, a2, a3, rows_len, rng_len, er, show (q : Int) < (Y.length : Int) by omega, show 0 ≤ (q : Int) by omega, show 0 ≤ ((q + 1 : Nat) : Int) by omega, show ((q + 1 : Nat) : Int) < ((Y.length + 1 : Nat) : Int) by omega, B.wsucc (show q < 9223372036854775807 by omega), ↓reduceIte]
    refine B.Ev.bind (hD1 p hp) ?_
    simp only [show (q : Int) < ((q + 1 : Nat) : Int) by omega, hY q hq, ↓reduceIte]
    refine B.Ev.bind (hI1 q hq) ?_
    simp only [show (q : Int) < ((Y.length + 1 : Nat) : Int) by omega, ↓reduceIte]
    refine B.Ev.bind (hR1 p q hp hq) ?_
    have c1 := hT p (q + 1) (by omega) (by omega)
    have c2 := hT (p + 1) q (by omega) (by omega)
    have c3 := hT p q (by omega) (by omega)
    have c4 := hIb q
    have c5 := hRb p q hp hq
    have s1 : rd (rng (T p) (Y.length + 1)) ((q + 1 : Nat) : Int) = T p (q + 1) := rdRng (T p) (by omega)
    have s2 : rd (rng (T (p + 1)) (q + 1)) (q : Int) = T (p + 1) q := rdRng (T (p + 1)) (by omega)
    have s3 : rd (rng (T p) (Y.length + 1)) (q : Int) = T p q := rdRng (T p) (by omega)
    have s4 : wrap64 (T p (q + 1) + D p) = T p (q + 1) + D p := B.wid (by omega) (by omega)
    have s5 : wrap64 (T (p + 1) q + I q) = T (p + 1) q + I q := B.wid (by omega) (by omega)
    have s6 : wrap64 (T p q + R p q) = T p q + R p q := B.wid (by omega) (by omega)
    simp only [s1, s2, s3, s4, s5, s6, mn_min, show q + 1 < 17592186044416 by omega, ↓reduceIte]
    rw [rng_snoc (T (p + 1)) (q + 1) (h11 p q).symm]
    exact ih
  intro q hq _ ih
  have ih := ih trivial
  refine B.Ev.succ ?_
  have er : rd_L3 [rng (T 0) (q + 1)] 0 = rng (T 0) (q + 1) := rfl
  have a1 : (0 : Int) < (([rng (T 0) (q + 1)] : List (List Int)).length : Int) := by simp
  simp only [impl_topdown_table.l0, a1, er, rng_len, show (q : Int) < (Y.length : Int) by omega, show 0 ≤ (q : Int) by omega, show (q : Int) < ((q + 1 : Nat) : Int) by omega, hY q hq, ↓reduceIte]
  refine B.Ev.bind (hI1 q hq) ?_
  have b1 := hT 0 q (by omega) (by omega)
  have b2 := hIb q
  have r0 : rd (rng (T 0) (q + 1)) (q : Int) = T 0 q := rdRng (T 0) (by omega)
  have r1 : wrap64 (T 0 q + I q) = T 0 q + I q := B.wid (by omega) (by omega)
  simp only [r0, r1, show q + 1 < 17592186044416 by omega, B.wsucc (show q < 9223372036854775807 by omega), ↓reduceIte]
  rw [rng_snoc (T 0) (q + 1) (h01 q).symm]
  exact ih
end Go.Proofs.Ytockkelkdimehaa.X
