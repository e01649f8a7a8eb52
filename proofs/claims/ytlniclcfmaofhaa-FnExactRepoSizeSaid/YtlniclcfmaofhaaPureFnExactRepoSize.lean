/- The law FnExactRepoSize, as a statement over numbers and lists: for any repository the law's function answers true. -/
import Derived.Test.YtlniclcfmaofhaaXInts
import Derived.Test.YtlniclcfmaofhaaStFnExactRepoSize
namespace Go.Proofs.Ytlniclcfmaofhaa.Pure
open Go Go.RowKit Go.Proofs.YtlniclcfmaofhaaW.PrintWords Go.Proofs.YtlniclcfmaofhaaW.PrintLast Go.Proofs.YtlniclcfmaofhaaW.PrintMore Go.Proofs.Ytlniclcfmaofhaa.P Go.Proofs.Ytlniclcfmaofhaa.X
def rv (x : S93) : S77 := ⟨x.f0, x.f1⟩
theorem rdlRev {xs : List S93} {i : Nat} (h : i < xs.length) : rd_T93 xs (i : Int) = xs[i] := by unfold rd_T93; rw [Int.toNat_natCast]; exact B.getD_lt h

theorem toRevS (l : List S93) (hl : l.length ≤ 4194304) (k : Nat) (hk : l.length < k) : laws_toRevS.f k l = some (l.map rv) := by
  unfold laws_toRevS.f
  rw [if_pos (by omega), if_pos (by omega), Int.toNat_natCast]
  have h := B.loop (fun k i => laws_toRevS.l0 k l (B.filled l rv z77 i) (i : Int)) l.length (fun _ => some (l.map rv))
    (fun k => by simp only [laws_toRevS.l0]; rw [if_neg (by omega), B.filled_all])
    (fun k i hi ih => by
      have a1 : (i : Int) < (l.length : Int) := by omega
      have a2 : (i : Int) < ((B.filled l rv z77 i).length : Int) := by rw [B.filled_length _ _ _ (by omega)]; omega
      have a3 : 0 ≤ (i : Int) := by omega
      simp only [laws_toRevS.l0, laws_toRev.f, a1, a2, a3, ↓reduceIte, B.wsucc (show i < 9223372036854775807 by omega), Int.toNat_natCast, rdlRev hi, Option.bind_some]
      rw [← B.filled_set l rv z77 hi] at ih
      exact ih) k 0 (by omega) (by omega)
  rw [B.filled_zero] at h
  exact h

theorem eqRevS (l : List S77) (hl : l.length ≤ 4194304) (k : Nat) (hk : l.length < k) : laws_eqRevS.f k l l = some true := by
  unfold laws_eqRevS.f
  rw [if_pos rfl]
  exact B.loop (fun k i => laws_eqRevS.l0 k l l (i : Int)) l.length (fun _ => some true)
    (fun k => by simp only [laws_eqRevS.l0]; rw [if_neg (by omega)])
    (fun k i hi ih => by
      have a1 : (i : Int) < (l.length : Int) := by omega
      have a3 : 0 ≤ (i : Int) := by omega
      simp only [laws_eqRevS.l0, laws_eqRev.f, a1, a3, ↓reduceIte, B.wsucc (show i < 9223372036854775807 by omega), Option.bind_some]
      exact ih) k 0 (by omega) (by omega)

/-- The sizes are measured: -1, or no more revisions than allowed. -/
theorem szRevS (l : List S93) (hs : l.length ≤ maxLen) (h : ∀ x ∈ l, x.f1.size ≤ maxLen) (k : Nat) (hk : 1048576 < k) : ∃ r, laws_szRevS.f k l 1048576 = some r ∧ (r < 0 ∨ l.length ≤ 1048576) := by
  unfold laws_szRevS.f
  have hl : l.length ≤ 9223372036854775807 := hs
  rw [B.wsub (by omega) (by omega) hl]
  by_cases hn : (1048576 : Int) - (l.length : Int) < 0
  · rw [if_pos hn]; exact ⟨-1, rfl, Or.inl (by omega)⟩
  rw [if_neg hn]
  suffices hh : ∀ (d i k : Nat) (a : Int), 0 ≤ a → a ≤ 1048576 → i ≤ l.length → l.length - i = d → d < k → ∃ r, laws_szRevS.l0 k l a (i : Int) = some r by
    obtain ⟨r, hr⟩ := hh _ 0 k ((1048576 : Int) - (l.length : Int)) (by omega) (by omega) (by omega) rfl (by omega)
    exact ⟨r, hr, Or.inr (by omega)⟩
  intro d
  induction d with
  | zero =>
    intro i k a h0 h1 hi hd hk
    obtain ⟨k, rfl⟩ : ∃ m, k = m + 1 := ⟨k - 1, by omega⟩
    refine ⟨a, ?_⟩
    simp only [laws_szRevS.l0]; rw [if_neg (by omega)]
  | succ d ih =>
    intro i k a h0 h1 hi hd hk
    obtain ⟨k, rfl⟩ : ∃ m, k = m + 1 := ⟨k - 1, by omega⟩
    have hlt : i < l.length := by omega
    have a1 : (i : Int) < (l.length : Int) := by omega
    have a3 : 0 ≤ (i : Int) := by omega
    have hz : (l[i].f1).size ≤ 9223372036854775807 := h _ (List.getElem_mem hlt)
    simp only [laws_szRevS.l0, laws_szRev.f, a1, a3, ↓reduceIte, B.wsucc (show i < 9223372036854775807 by omega), rdlRev hlt, B.wsub h0 (by omega) hz]
    by_cases hc : a - ((l[i].f1).size : Int) < 0
    · rw [if_pos hc]; exact ⟨-1, rfl⟩
    · rw [if_neg hc]
      simp only [Option.bind_some, hc, ↓reduceIte]
      exact ih (i + 1) k _ (by omega) (by omega) (by omega) (by omega) (by omega)

theorem repoSize (l : List S77) (hl : l.length ≤ 4194304) (k : Nat) (hk : l.length < k) : ∃ r, spec_RepoSize.f k l = some r ∧ impl_RepoSize.f k l = some r := by
  unfold spec_RepoSize.f impl_RepoSize.f
  suffices h : ∀ (d i k : Nat) (a : Int), i ≤ l.length → l.length - i = d → d < k → ∃ r, spec_RepoSize.l0 k a (i : Int) l = some r ∧ impl_RepoSize.l0 k a l (l.length : Int) (i : Int) = some r from h _ 0 k 0 (by omega) rfl (by omega)
  intro d
  induction d with
  | zero =>
    intro i k a hi hd hk
    obtain ⟨k, rfl⟩ : ∃ m, k = m + 1 := ⟨k - 1, by omega⟩
    refine ⟨a, ?_, ?_⟩
    · simp only [spec_RepoSize.l0]; rw [if_neg (by omega)]
    · simp only [impl_RepoSize.l0]; rw [if_neg (by omega)]
  | succ d ih =>
    intro i k a hi hd hk
    obtain ⟨k, rfl⟩ : ∃ m, k = m + 1 := ⟨k - 1, by omega⟩
    have a1 : (i : Int) < (l.length : Int) := by omega
    have a3 : 0 ≤ (i : Int) := by omega
    simp only [spec_RepoSize.l0, impl_RepoSize.l0, a1, a3, ↓reduceIte, B.wsucc (show i < 9223372036854775807 by omega)]
    exact ih (i + 1) k _ (by omega) (by omega) (by omega)

theorem FnExactRepoSize : fnExactRepoSize.Pure := by
  intro l0 h0
  refine ⟨4194306, ?_⟩
  unfold laws_FnExactRepoSize.f laws_szRepo.f
  obtain ⟨r, hr, hc⟩ := szRevS l0 h0.1 (fun x hx => (h0.2 x hx).2) 4194306 (by omega)
  rw [hr]
  simp only [Option.bind_some]
  by_cases hs : r < 0
  · simp [hs]
  simp only [hs, ↓reduceIte, Option.bind_some]
  have hn : l0.length ≤ 1048576 := by rcases hc with h | h <;> omega
  have m0 : (l0.map rv).length ≤ 4194304 := by rw [List.length_map]; omega
  unfold laws_toRepo.f laws_eqRepo.f
  obtain ⟨q, e1, e2⟩ := repoSize _ m0 4194306 (by omega)
  simp only [toRevS l0 (by omega) 4194306 (by omega), Option.bind_some, e1, e2, ↓reduceIte, eqRevS _ m0 4194306 (by omega)]
end Go.Proofs.Ytlniclcfmaofhaa.Pure
