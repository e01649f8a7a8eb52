/- What the laws' helpers on lists of nodes do: measure, copy, compare, mark. -/
import Derived.Test.YtockkelkdimehaaXTree
import Derived.Test.YtockkelkdimehaaG9
namespace Go.Proofs.Ytockkelkdimehaa.X
open Go Go.RowKit Go.Proofs.YtockkelkdimehaaW.PrintWords Go.Proofs.YtockkelkdimehaaW.PrintLast Go.Proofs.YtockkelkdimehaaW.PrintMore Go.Proofs.Ytockkelkdimehaa.P

def nd (x : S61) : S59 := ⟨x.f0, x.f1⟩
theorem rdlNode {xs : List S61} {i : Nat} (h : i < xs.length) : rd_T61 xs (i : Int) = xs[i] := by unfold rd_T61; rw [Int.toNat_natCast]; exact B.getD_lt h

theorem szNodeS (l : List S61) (a : Int) (h0 : 0 ≤ a) (h1 : a ≤ 1048576) (hl : l.length ≤ maxLen) : laws_szNodeS.f l a = some (if a < (l.length : Int) then -1 else a - (l.length : Int)) := by
  have hl' : l.length ≤ 9223372036854775807 := hl
  unfold laws_szNodeS.f
  rw [B.wsub h0 (by omega) hl']
  by_cases h : a < (l.length : Int)
  · rw [if_pos (by omega), if_pos h]
  · rw [if_neg (by omega), if_neg h]

theorem toNodeS (l : List S61) (hl : l.length ≤ 4194304) (k : Nat) (hk : l.length < k) : laws_toNodeS.f k l = some (l.map nd) := by
  unfold laws_toNodeS.f
  rw [if_pos (by omega), if_pos (by omega), Int.toNat_natCast]
  have h := B.loop (fun k i => laws_toNodeS.l0 k l (B.filled l nd z59 i) (i : Int)) l.length (fun _ => some (l.map nd))
    (fun k => by simp only [laws_toNodeS.l0]; rw [if_neg (by omega), B.filled_all])
    (fun k i hi ih => by
      have a1 : (i : Int) < (l.length : Int) := by omega
      have a2 : (i : Int) < ((B.filled l nd z59 i).length : Int) := by rw [B.filled_length _ _ _ (by omega)]; omega
      have a3 : 0 ≤ (i : Int) := by omega
      simp only [laws_toNodeS.l0, laws_toNode.f, a1, a2, a3, ↓reduceIte, B.wsucc (show i < 9223372036854775807 by omega), Int.toNat_natCast, rdlNode hi, Option.bind_some]
      rw [← B.filled_set l nd z59 hi] at ih
      exact ih) k 0 (by omega) (by omega)
  rw [B.filled_zero] at h
  exact h

theorem eqNodeS (l : List S59) (hl : l.length ≤ 4194304) (k : Nat) (hk : l.length < k) : laws_eqNodeS.f k l l = some true := by
  unfold laws_eqNodeS.f
  rw [if_pos rfl]
  exact B.loop (fun k i => laws_eqNodeS.l0 k l l (i : Int)) l.length (fun _ => some true)
    (fun k => by simp only [laws_eqNodeS.l0]; rw [if_neg (by omega)])
    (fun k i hi ih => by
      have a1 : (i : Int) < (l.length : Int) := by omega
      have a3 : 0 ≤ (i : Int) := by omega
      simp only [laws_eqNodeS.l0, laws_eqNode.f, a1, a3, ↓reduceIte, B.wsucc (show i < 9223372036854775807 by omega), Option.bind_some]
      exact ih) k 0 (by omega) (by omega)

end Go.Proofs.Ytockkelkdimehaa.X
