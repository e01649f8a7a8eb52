/- slices.Reverse turns a list of whole numbers around. -/
import Derived.Test.YtekpggmnnfjphaaXRd
import Derived.Test.YtekpggmnnfjphaaXEv
import Derived.Test.YtekpggmnnfjphaaG115
namespace Go.Proofs.Ytekpggmnnfjphaa.X
open Go Go.RowKit Go.Proofs.YtekpggmnnfjphaaW.PrintWords Go.Proofs.YtekpggmnnfjphaaW.PrintLast Go.Proofs.YtekpggmnnfjphaaW.PrintMore Go.Proofs.Ytekpggmnnfjphaa.P
/-- After t swaps. -/
def revT (xs : List Int) (t : Nat) : List Int := (List.range xs.length).map fun p => if p < t ∨ xs.length ≤ p + t then xs.getD (xs.length - 1 - p) 0 else xs.getD p 0
theorem revT_length (xs : List Int) (t : Nat) : (revT xs t).length = xs.length := by simp [revT]
theorem revT_get (xs : List Int) (t : Nat) {p : Nat} (h : p < xs.length) : (revT xs t).getD p 0 = if p < t ∨ xs.length ≤ p + t then xs.getD (xs.length - 1 - p) 0 else xs.getD p 0 := by
  rw [B.getD_lt (by rw [revT_length]; exact h)]
  simp [revT]
theorem revT_zero (xs : List Int) : revT xs 0 = xs := by
  apply List.ext_getElem
  · exact revT_length _ _
  · intro p h1 h2
    rw [← B.getD_lt (z := 0) h1, revT_get xs 0 h2, if_neg (by omega), B.getD_lt h2]
theorem revT_last (xs : List Int) {t : Nat} (h : xs.length ≤ 2 * t + 1) : revT xs t = xs.reverse := by
  apply List.ext_getElem
  · simp [revT_length]
  · intro p h1 h2
    have hp : p < xs.length := by simpa [revT_length] using h1
    rw [← B.getD_lt (z := 0) h1, revT_get xs t hp, List.getElem_reverse]
    split
    · rw [B.getD_lt (by omega)]
    · rw [B.getD_lt hp]
      congr 1
      omega
theorem revT_step (xs : List Int) {t : Nat} (h : 2 * t + 1 < xs.length) : ((revT xs t).set t ((revT xs t).getD (xs.length - 1 - t) 0)).set (xs.length - 1 - t) ((revT xs t).getD t 0) = revT xs (t + 1) := by
  rw [revT_get xs t (show xs.length - 1 - t < xs.length by omega), revT_get xs t (show t < xs.length by omega), if_neg (by omega), if_neg (by omega)]
  apply List.ext_getElem
  · simp [revT_length]
  · intro p h1 h2
    have hp : p < xs.length := by simpa [revT_length] using h2
    rw [List.getElem_set, List.getElem_set, ← B.getD_lt (z := 0) h2, revT_get xs (t + 1) hp, ← B.getD_lt (z := 0) (show p < (revT xs t).length by rw [revT_length]; exact hp), revT_get xs t hp]
    by_cases c1 : xs.length - 1 - t = p
    · rw [if_pos c1, if_pos (by omega)]
      congr 1
      omega
    · rw [if_neg c1]
      by_cases c2 : t = p
      · rw [if_pos c2, if_pos (by omega)]
        congr 1
        omega
      · rw [if_neg c2]
        by_cases c3 : p < t ∨ xs.length ≤ p + t
        · rw [if_pos c3, if_pos (by omega)]
        · rw [if_neg c3, if_neg (by omega)]
theorem evReverse (xs : List Int) (hl : xs.length ≤ 4194304) : B.Ev (fun k => slices_Reverse_int_int.f k xs) xs.reverse := by
  simp only [slices_Reverse_int_int.f]
  have key : ∀ n t : Nat, xs.length ≤ 2 * (t + n) + 1 → B.Ev (fun k => slices_Reverse_int_int.l0 k (revT xs t) (t : Int) ((xs.length : Int) - 1 - (t : Int))) xs.reverse := by
    intro n
    induction n with
    | zero =>
      intro t h
      refine B.Ev.succ ?_
      simp only [slices_Reverse_int_int.l0, show ¬ ((t : Int) < (xs.length : Int) - 1 - (t : Int)) by omega, ↓reduceIte]
      exact (B.Ev.pure _).eq (revT_last xs (by omega))
    | succ n ih =>
      intro t h
      by_cases c : 2 * t + 1 < xs.length
      · refine B.Ev.succ ?_
        have e : (xs.length : Int) - 1 - (t : Int) = ((xs.length - 1 - t : Nat) : Int) := by omega
        have e2 : wrap64 (((xs.length - 1 - t : Nat) : Int) - 1) = (xs.length : Int) - 1 - ((t + 1 : Nat) : Int) := by rw [B.wid (by omega) (by omega)]; omega
        have ih := ih (t + 1) (by omega)
        rw [← revT_step xs c] at ih
        simp only [slices_Reverse_int_int.l0, e, show (t : Int) < ((xs.length - 1 - t : Nat) : Int) by omega, show 0 ≤ ((xs.length - 1 - t : Nat) : Int) by omega, revT_length, show ((xs.length - 1 - t : Nat) : Int) < (xs.length : Int) by omega, show 0 ≤ (t : Int) by omega, show (t : Int) < (xs.length : Int) by omega, ↓reduceIte, rd, Int.toNat_natCast, B.wsucc (show t < 9223372036854775807 by omega), e2]
        exact ih
      · refine B.Ev.succ ?_
        simp only [slices_Reverse_int_int.l0, show ¬ ((t : Int) < (xs.length : Int) - 1 - (t : Int)) by omega, ↓reduceIte]
        exact (B.Ev.pure _).eq (revT_last xs (by omega))
  have h0 := key xs.length 0 (by omega)
  rw [revT_zero] at h0
  rw [B.wid (by omega) (by omega)]
  simpa using h0
end Go.Proofs.Ytekpggmnnfjphaa.X
