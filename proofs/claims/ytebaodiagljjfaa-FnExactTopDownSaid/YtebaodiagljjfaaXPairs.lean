/- What the laws' helpers on lists of pairs do: count, copy, compare. -/
import Derived.Test.YtebaodiagljjfaaXMap
import Derived.Test.YtebaodiagljjfaaG17
import Derived.Test.YtebaodiagljjfaaG40
import Derived.Test.YtebaodiagljjfaaG71
namespace Go.Proofs.Ytebaodiagljjfaa.X
open Go Go.RowKit Go.Proofs.YtebaodiagljjfaaW.PrintWords Go.Proofs.YtebaodiagljjfaaW.PrintLast Go.Proofs.YtebaodiagljjfaaW.PrintMore Go.Proofs.Ytebaodiagljjfaa.P

def pd (x : S66) : S64 := ⟨x.f0, x.f1⟩
theorem rdlPair {xs : List S66} {i : Nat} (h : i < xs.length) : rd_T66 xs (i : Int) = xs[i] := by unfold rd_T66; rw [Int.toNat_natCast]; exact B.getD_lt h
theorem szPairS (l : List S66) (a : Int) (h0 : 0 ≤ a) (h1 : a ≤ 1048576) (hl : l.length ≤ maxLen) : laws_szPairS.f l a = some (if a < (l.length : Int) then -1 else a - (l.length : Int)) := by
  have hl' : l.length ≤ 9223372036854775807 := hl
  unfold laws_szPairS.f
  rw [B.wsub h0 (by omega) hl']
  by_cases h : a < (l.length : Int)
  · rw [if_pos (by omega), if_pos h]
  · rw [if_neg (by omega), if_neg h]
theorem toPairS (l : List S66) (hl : l.length ≤ 4194304) (k : Nat) (hk : l.length < k) : laws_toPairS.f k l = some (l.map pd) := by
  unfold laws_toPairS.f
  rw [if_pos (by omega), if_pos (by omega), Int.toNat_natCast]
  have h := B.loop (fun k i => laws_toPairS.l0 k l (B.filled l pd z64 i) (i : Int)) l.length (fun _ => some (l.map pd))
    (fun k => by simp only [laws_toPairS.l0]; rw [if_neg (by omega), B.filled_all])
    (fun k i hi ih => by
      have a1 : (i : Int) < (l.length : Int) := by omega
      have a2 : (i : Int) < ((B.filled l pd z64 i).length : Int) := by rw [B.filled_length _ _ _ (by omega)]; omega
      have a3 : 0 ≤ (i : Int) := by omega
      simp only [laws_toPairS.l0, laws_toPair.f, a1, a2, a3, ↓reduceIte, B.wsucc (show i < 9223372036854775807 by omega), Int.toNat_natCast, rdlPair hi, Option.bind_some]
      rw [← B.filled_set l pd z64 hi] at ih
      exact ih) k 0 (by omega) (by omega)
  rw [B.filled_zero] at h
  exact h
theorem eqPairS (l : List S64) (hl : l.length ≤ 4194304) (k : Nat) (hk : l.length < k) : laws_eqPairS.f k l l = some true := by
  unfold laws_eqPairS.f
  rw [if_pos rfl]
  exact B.loop (fun k i => laws_eqPairS.l0 k l l (i : Int)) l.length (fun _ => some true)
    (fun k => by simp only [laws_eqPairS.l0]; rw [if_neg (by omega)])
    (fun k i hi ih => by
      have a1 : (i : Int) < (l.length : Int) := by omega
      have a3 : 0 ≤ (i : Int) := by omega
      simp only [laws_eqPairS.l0, laws_eqPair.f, a1, a3, ↓reduceIte, B.wsucc (show i < 9223372036854775807 by omega), Option.bind_some]
      exact ih) k 0 (by omega) (by omega)
end Go.Proofs.Ytebaodiagljjfaa.X
