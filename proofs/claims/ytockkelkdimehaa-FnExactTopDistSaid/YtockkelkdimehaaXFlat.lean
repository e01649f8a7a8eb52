/- A table kept row by row in one list, filled from the front. -/
import Derived.Test.YtockkelkdimehaaXRd
namespace Go.Proofs.Ytockkelkdimehaa.X
open Go Go.RowKit Go.Proofs.YtockkelkdimehaaW.PrintWords Go.Proofs.YtockkelkdimehaaW.PrintLast Go.Proofs.YtockkelkdimehaaW.PrintMore Go.Proofs.Ytockkelkdimehaa.P
def flat (T : Nat → Nat → Int) (N w M : Nat) : List Int := (List.range N).map fun c => if c < M then T (c / w) (c % w) else 0
theorem flat_len (T : Nat → Nat → Int) (N w M : Nat) : (flat T N w M).length = N := by unfold flat; simp
theorem flat_zero (T : Nat → Nat → Int) (N w : Nat) : flat T N w 0 = List.replicate N 0 := by
  unfold flat
  refine List.ext_getElem (by simp) (fun j h1 h2 => by simp)
theorem flat_get (T : Nat → Nat → Int) {N w M c : Nat} (h : c < M) (hN : c < N) : (flat T N w M).getD c 0 = T (c / w) (c % w) := by
  rw [B.getD_lt (by rw [flat_len]; exact hN)]
  unfold flat
  simp [h]
theorem flat_set (T : Nat → Nat → Int) {N w M : Nat} : (flat T N w M).set M (T (M / w) (M % w)) = flat T N w (M + 1) := by
  refine List.ext_getElem (by simp [flat_len]) (fun j h1 h2 => ?_)
  rw [List.getElem_set]
  simp only [flat, List.getElem_map, List.getElem_range]
  split
  · rename_i e; subst e; simp
  · rename_i e
    by_cases c : j < M
    · rw [if_pos c, if_pos (by omega)]
    · rw [if_neg c, if_neg (by omega)]
theorem flat_one (T : Nat → Nat → Int) (N w : Nat) (h : T (0 / w) (0 % w) = 0) : flat T N w 0 = flat T N w 1 := by
  unfold flat
  refine List.map_congr_left (fun c _ => ?_)
  by_cases e : c = 0
  · subst e; simp at h; simp [h]
  · rw [if_neg (by omega), if_neg (by omega)]
theorem cell_div {p q w : Nat} (h : q < w) : (p * w + q) / w = p := by
  rw [Nat.mul_comm, Nat.mul_add_div (by omega), Nat.div_eq_of_lt h, Nat.add_zero]
theorem cell_mod {p q w : Nat} (h : q < w) : (p * w + q) % w = q := by
  rw [Nat.mul_comm, Nat.mul_add_mod, Nat.mod_eq_of_lt h]
theorem cell_lt {p q P w : Nat} (hp : p ≤ P) (hq : q < w) : p * w + q < (P + 1) * w := by
  have := Nat.mul_le_mul_right w (show p + 1 ≤ P + 1 by omega)
  rw [Nat.succ_mul] at this
  omega
theorem wmul {p w : Nat} (h : p * w ≤ 1000000000) : wrap64 ((p : Int) * (w : Int)) = ((p * w : Nat) : Int) := by
  rw [← Int.natCast_mul]
  generalize p * w = m at h
  exact B.wid (by omega) (by omega)
theorem waddn {m q : Nat} (h : m + q ≤ 1000000000) : wrap64 ((m : Int) + (q : Int)) = ((m + q : Nat) : Int) := by
  rw [← Int.natCast_add]
  exact B.wid (by omega) (by omega)
theorem wpred (p : Nat) (h : p ≤ 1000000000) : wrap64 (((p + 1 : Nat) : Int) - 1) = (p : Int) := by
  rw [show ((p + 1 : Nat) : Int) - 1 = (p : Int) by omega]
  exact B.wid (by omega) (by omega)
theorem mn_min (a b : Int) : mn a b = min a b := by unfold mn; omega
theorem mx_max (a b : Int) : mx a b = max a b := by unfold mx; omega
theorem rdMap (xs : List Nat) {p : Nat} (h : p < xs.length) : rd (xs.map fun (j : Nat) => (j : Int)) (p : Int) = ((xs.getD p 0 : Nat) : Int) := by
  rw [rdInt, B.getD_lt (by rw [List.length_map]; exact h), List.getElem_map, B.getD_lt h]
theorem rdFlat (T : Nat → Nat → Int) {p q N w M m : Nat} (hm : m = p * w + q) (hq : q < w) (h : m < M) (hN : m < N) : rd (flat T N w M) (m : Int) = T p q := by
  rw [rdInt, flat_get T h hN, hm, cell_div hq, cell_mod hq]
theorem setFlat (T : Nat → Nat → Int) {p q N w m : Nat} {z : Int} (hm : m = p * w + q) (hq : q < w) (hz : z = T p q) : (flat T N w m).set m z = flat T N w (m + 1) := by
  rw [← flat_set, hm, cell_div hq, cell_mod hq, hz]
theorem mnBig {z : Int} (h : z ≤ 1000000000) : mn 1000000000 z = z := by rw [mn_min]; omega
end Go.Proofs.Ytockkelkdimehaa.X
