/- Depths, and whether two lists are equal; SameShape. -/
import Derived.Test.YtekpggmnnfjphaaXTree
import Derived.Test.YtekpggmnnfjphaaXInts
import Derived.Test.YtekpggmnnfjphaaG101
namespace Go.Proofs.Ytekpggmnnfjphaa.X
open Go Go.RowKit Go.Proofs.YtekpggmnnfjphaaW.PrintWords Go.Proofs.YtekpggmnnfjphaaW.PrintLast Go.Proofs.YtekpggmnnfjphaaW.PrintMore Go.Proofs.Ytekpggmnnfjphaa.P
theorem getD_z {xs : List S48} {i : Nat} (h : i < xs.length) : xs.getD i z48 = xs[i] := B.getD_lt h

theorem specDepths (l : List S48) (hl : l.length ≤ 4194304) (k : Nat) (hk : l.length < k) : spec_Depths.f k l = some (l.map S48.f1) := by
  unfold spec_Depths.f
  have h := B.loop (fun k i => spec_Depths.l0 k l ((l.take i).map S48.f1) (i : Int)) l.length (fun _ => some (l.map S48.f1))
    (fun k => by simp only [spec_Depths.l0]; rw [if_neg (by omega), List.take_length])
    (fun k i hi ih => by
      have a1 : (i : Int) < (l.length : Int) := by omega
      have a2 : ((l.take i).map S48.f1).length < 17592186044416 := by rw [List.length_map, List.length_take]; omega
      have a3 : 0 ≤ (i : Int) := by omega
      simp only [spec_Depths.l0, a1, a2, a3, ↓reduceIte, B.wsucc (show i < 9223372036854775807 by omega), rdNode]
      rw [← B.take_snoc l S48.f1 hi] at ih
      rw [getD_z hi]
      exact ih) k 0 (by omega) (by omega)
  exact h

theorem implDepths (l : List S48) (hl : l.length ≤ 4194304) (k : Nat) (hk : l.length < k) : impl_Depths.f k l = some (l.map S48.f1) := by
  unfold impl_Depths.f
  have h := B.loop (fun k i => impl_Depths.l0 k ((l.take i).map S48.f1) l (l.length : Int) (i : Int)) l.length (fun _ => some (l.map S48.f1))
    (fun k => by simp only [impl_Depths.l0]; rw [if_neg (by omega), List.take_length])
    (fun k i hi ih => by
      have a1 : (i : Int) < (l.length : Int) := by omega
      have a2 : ((l.take i).map S48.f1).length < 17592186044416 := by rw [List.length_map, List.length_take]; omega
      have a3 : 0 ≤ (i : Int) := by omega
      simp only [impl_Depths.l0, a1, a2, a3, ↓reduceIte, B.wsucc (show i < 9223372036854775807 by omega), rdNode]
      rw [← B.take_snoc l S48.f1 hi] at ih
      rw [getD_z hi]
      exact ih) k 0 (by omega) (by omega)
  exact h

theorem specSameInts (a b : List Int) (hl : a.length ≤ 4194304) (k : Nat) (hk : a.length < k) : spec_l7Same.f k a b = some (decide (a = b)) := by
  unfold spec_l7Same.f
  by_cases he : a.length = b.length
  · rw [if_pos (by omega)]
    exact B.loop (fun k i => spec_l7Same.l0 k a b (i : Int)) a.length (fun i => some (decide (a.drop i = b.drop i)))
      (fun k => by simp only [spec_l7Same.l0]; rw [if_neg (by omega), List.drop_length, he, List.drop_length]; simp)
      (fun k i hi ih => by
        have a1 : (i : Int) < (a.length : Int) := by omega
        have a2 : (i : Int) < (b.length : Int) := by omega
        have a3 : 0 ≤ (i : Int) := by omega
        simp only [spec_l7Same.l0, a1, a2, a3, ↓reduceIte, B.wsucc (show i < 9223372036854775807 by omega), rdInt]
        rw [B.getD_lt hi, B.getD_lt (show i < b.length by omega), B.drop_eq_dec hi (show i < b.length by omega)]
        by_cases hc : a[i] = b[i]
        · rw [if_pos hc, ih]; simp [hc]
        · rw [if_neg hc]; simp [hc]) k 0 (by omega) (by omega)
  · rw [if_neg (by omega), decide_eq_false (fun h => he (by rw [h]))]

theorem implSameInts (a b : List Int) (hl : a.length ≤ 4194304) (k : Nat) (hk : a.length < k) : slices_Equal_int_int.f k a b = some (decide (a = b)) := by
  unfold slices_Equal_int_int.f
  by_cases he : a.length = b.length
  · rw [if_pos (by omega)]
    exact B.loop (fun k i => slices_Equal_int_int.l0 k a b (a.length : Int) (i : Int)) a.length (fun i => some (decide (a.drop i = b.drop i)))
      (fun k => by simp only [slices_Equal_int_int.l0]; rw [if_neg (by omega), List.drop_length, he, List.drop_length]; simp)
      (fun k i hi ih => by
        have a1 : (i : Int) < (a.length : Int) := by omega
        have a2 : (i : Int) < (b.length : Int) := by omega
        have a3 : 0 ≤ (i : Int) := by omega
        simp only [slices_Equal_int_int.l0, a1, a2, a3, ↓reduceIte, B.wsucc (show i < 9223372036854775807 by omega), rdInt]
        rw [B.getD_lt hi, B.getD_lt (show i < b.length by omega), B.drop_eq_dec hi (show i < b.length by omega)]
        by_cases hc : a[i] = b[i]
        · rw [if_pos hc, ih]; simp [hc]
        · rw [if_neg hc]; simp [hc]) k 0 (by omega) (by omega)
  · rw [if_neg (by omega), decide_eq_false (fun h => he (by rw [h]))]

/-- Two trees are valid and of one shape. -/
def sameShape (a b : List S48) : Bool := okT a && (okT b && decide (a.map S48.f1 = b.map S48.f1))
theorem specSameShape (a b : List S48) (hl : a.length ≤ 4194304) (hb : b.length ≤ 4194304) (k : Nat) (hk : 4194304 < k) : spec_SameShape.f k a b = some (sameShape a b) := by
  unfold spec_SameShape.f sameShape
  rw [specTreeOk a hl k (by omega), specTreeOk b hb k (by omega), specDepths a hl k (by omega), specDepths b hb k (by omega)]
  simp only [Option.bind_some]
  rw [specSameInts _ _ (by simpa using hl) k (by rw [List.length_map]; omega)]
  cases okT a <;> cases okT b <;> rfl
theorem implSameShape (a b : List S48) (hl : a.length ≤ 4194304) (hb : b.length ≤ 4194304) (k : Nat) (hk : 4194304 < k) : impl_SameShape.f k a b = some (sameShape a b) := by
  unfold impl_SameShape.f sameShape
  rw [implTreeOk a hl k (by omega), implTreeOk b hb k (by omega), implDepths a hl k (by omega), implDepths b hb k (by omega)]
  simp only [Option.bind_some]
  rw [implSameInts _ _ (by simpa using hl) k (by rw [List.length_map]; omega)]
  cases okT a <;> cases okT b <;> rfl
end Go.Proofs.Ytekpggmnnfjphaa.X
