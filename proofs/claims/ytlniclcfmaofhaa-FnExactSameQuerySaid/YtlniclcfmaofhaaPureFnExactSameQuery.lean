/- The law FnExactSameQuery, as a statement over numbers and lists: for any two lists of picks the law's function answers true. -/
import Derived.Test.YtlniclcfmaofhaaStFnExactSameQuery
import Derived.Test.YtlniclcfmaofhaaBase
namespace Go.Proofs.Ytlniclcfmaofhaa.Pure
open Go.RowKit Go.Proofs.YtlniclcfmaofhaaW.PrintWords Go.Proofs.YtlniclcfmaofhaaW.PrintLast Go.Proofs.YtlniclcfmaofhaaW.PrintMore Go.Proofs.Ytlniclcfmaofhaa.PFnExactSameQuery

def pk (x : S69) : S67 := ⟨x.f0, x.f1⟩

theorem rd69 {xs : List S69} {i : Nat} (h : i < xs.length) : rd_T69 xs (i : Int) = xs[i] := by unfold rd_T69; rw [Int.toNat_natCast]; exact B.getD_lt h
theorem rd67 {xs : List S67} {i : Nat} (h : i < xs.length) : rd_T67 xs (i : Int) = xs[i] := by unfold rd_T67; rw [Int.toNat_natCast]; exact B.getD_lt h

theorem toPickS (l : List S69) (hl : l.length ≤ 1048576) (k : Nat) (hk : l.length < k) : laws_toPickS.f k l = some (l.map pk) := by
  unfold laws_toPickS.f
  rw [if_pos (by omega), if_pos (by omega), Int.toNat_natCast]
  have h := B.loop (fun k i => laws_toPickS.l0 k l (B.filled l pk z67 i) (i : Int)) l.length (fun _ => some (l.map pk))
    (fun k => by simp only [laws_toPickS.l0]; rw [if_neg (by omega), B.filled_all])
    (fun k i hi ih => by
      simp only [laws_toPickS.l0, laws_toPick.f, Option.bind_some]
      rw [if_pos (by omega), if_pos (by omega), if_pos (by rw [B.filled_length _ _ _ (by omega)]; omega), rd69 hi, Int.toNat_natCast, B.wsucc (by omega)]
      rw [← B.filled_set l pk z67 hi] at ih
      exact ih) k 0 (by omega) (by omega)
  rw [B.filled_zero] at h
  exact h

theorem eqPickS (l : List S67) (hl : l.length ≤ 1048576) (k : Nat) (hk : l.length < k) : laws_eqPickS.f k l l = some true := by
  unfold laws_eqPickS.f
  rw [if_pos rfl]
  exact B.loop (fun k i => laws_eqPickS.l0 k l l (i : Int)) l.length (fun _ => some true)
    (fun k => by simp only [laws_eqPickS.l0]; rw [if_neg (by omega)])
    (fun k i hi ih => by
      simp only [laws_eqPickS.l0, laws_eqPick.f]
      rw [if_pos (by omega), if_pos (by omega), if_pos (by omega), B.wsucc (by omega)]
      simpa using ih) k 0 (by omega) (by omega)

/-- The reference and the program go through both lists alike. -/
theorem same (x y : List S67) (hl : x.length ≤ 1048576) (k : Nat) (hk : x.length < k) : ∃ b, spec_SameQuery.f k x y = some b ∧ impl_SameQuery.f k x y = some b := by
  unfold impl_SameQuery.f spec_SameQuery.f impl_Pick.f
  by_cases he : (x.length : Int) = (y.length : Int)
  · rw [if_pos he, if_pos he]
    suffices h : ∀ d i k, i ≤ x.length → x.length - i = d → d < k → ∃ b, spec_SameQuery.l0 k x y (i : Int) = some b ∧ impl_Pick.l0 k x y (x.length : Int) (i : Int) = some b by
      obtain ⟨b, h1, h2⟩ := h _ 0 k (by omega) rfl (by omega)
      exact ⟨b, h1, by rw [show ((0 : Nat) : Int) = 0 from rfl] at h2; rw [h2]; rfl⟩
    intro d
    induction d with
    | zero =>
      intro i k hi hd hk
      obtain ⟨k, rfl⟩ : ∃ m, k = m + 1 := ⟨k - 1, by omega⟩
      refine ⟨true, ?_, ?_⟩
      · simp only [spec_SameQuery.l0]; rw [if_neg (by omega)]
      · simp only [impl_Pick.l0]; rw [if_neg (by omega)]
    | succ d ih =>
      intro i k hi hd hk
      obtain ⟨k, rfl⟩ : ∃ m, k = m + 1 := ⟨k - 1, by omega⟩
      have a1 : (i : Int) < (x.length : Int) := by omega
      have a2 : (i : Int) < (y.length : Int) := by omega
      have a3 : 0 ≤ (i : Int) := by omega
      simp only [spec_SameQuery.l0, impl_Pick.l0, a1, a2, a3, ↓reduceIte, B.wsucc (show i < 9223372036854775807 by omega)]
      by_cases hc : (!((rd_T67 x ↑i).f0 == (rd_T67 y ↑i).f0) || !((rd_T67 x ↑i).f1 == (rd_T67 y ↑i).f1)) = true
      · rw [if_pos hc, if_pos hc]; exact ⟨false, rfl, rfl⟩
      · rw [if_neg hc, if_neg hc]
        exact ih (i + 1) k (by omega) (by omega) (by omega)
  · rw [if_neg he, if_neg he]
    exact ⟨false, rfl, rfl⟩

theorem FnExactSameQuery : fnExactSameQuery.Pure := by
  intro l0 l1 h0 h1
  refine ⟨2097152, ?_⟩
  have m0 : l0.length ≤ 9223372036854775807 := h0.1
  have m1 : l1.length ≤ 9223372036854775807 := h1.1
  unfold laws_FnExactSameQuery.f laws_szPickS.f
  rw [B.wsub (by omega) (by omega) m0]
  by_cases hs : (1048576 : Int) - (l0.length : Int) < 0
  · rw [if_pos hs]; rfl
  rw [if_neg hs]
  simp only [Option.bind_some]
  rw [if_neg hs, B.wsub (by omega) (by omega) m1]
  by_cases hs1 : (1048576 : Int) - (l0.length : Int) - (l1.length : Int) < 0
  · rw [if_pos hs1]; rfl
  rw [if_neg hs1]
  simp only [Option.bind_some]
  rw [if_neg hs1, toPickS l0 (by omega) _ (by omega), toPickS l1 (by omega) _ (by omega)]
  simp only [Option.bind_some]
  obtain ⟨b, e1, e2⟩ := same (l0.map pk) (l1.map pk) (by simp; omega) 2097152 (by simp; omega)
  rw [e1]; simp only [Option.bind_some]; rw [e2]; simp only [Option.bind_some]
  rw [if_neg (by simp), eqPickS _ (by simp; omega) _ (by simp; omega)]; simp only [Option.bind_some]
  rw [if_pos trivial, eqPickS _ (by simp; omega) _ (by simp; omega)]; rfl
end Go.Proofs.Ytlniclcfmaofhaa.Pure
