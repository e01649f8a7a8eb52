/- Lists of picks: copy, compare; QueryOk. -/
import Derived.Test.YtfdaifgfnpjoaaaDoorXMark
import Derived.Test.YtfdaifgfnpjoaaaDoorXRd
import Derived.Test.YtfdaifgfnpjoaaaDoorG33
namespace Go.Proofs.YtfdaifgfnpjoaaaDoor.X
open Go Go.RowKit Go.Proofs.YtfdaifgfnpjoaaaDoorW.PrintWords Go.Proofs.YtfdaifgfnpjoaaaDoorW.PrintLast Go.Proofs.YtfdaifgfnpjoaaaDoorW.PrintMore Go.Proofs.YtfdaifgfnpjoaaaDoor.P

theorem rdPick {xs : List S40} {i : Nat} (h : i < xs.length) : rd_T40 xs (i : Int) = xs[i] := by unfold rd_T40; rw [Int.toNat_natCast]; exact B.getD_lt h

def badPick (p : S40) : Bool := !decide (p.f1 = -1 ∨ (0 ≤ p.f1 ∧ p.f1 ≤ 5))
/-- The query is valid. -/
def okQ (q : List S40) : Bool := decide (1 ≤ q.length ∧ q.length ≤ 6) && !q.any badPick

theorem specQueryOk (q : List S40) (hl : q.length ≤ 4194304) (k : Nat) (hk : q.length < k) : spec_QueryOk.f k q = some (okQ q) := by
  unfold spec_QueryOk.f
  have h := B.loop (fun k i => spec_QueryOk.l0 k q (i : Int)) q.length (fun i => some (decide (1 ≤ q.length ∧ q.length ≤ 6) && !(q.drop i).any badPick))
    (fun k => by
      simp only [spec_QueryOk.l0]
      rw [if_neg (by omega), l1In, List.drop_length]
      simp only [Option.bind_some, List.any_nil, Bool.not_false, Bool.and_true, Option.some.injEq]
      congr 1
      apply propext
      omega)
    (fun k i hi ih => by
      have a1 : (i : Int) < (q.length : Int) := by omega
      have a3 : 0 ≤ (i : Int) := by omega
      simp only [spec_QueryOk.l0, a1, a3, ↓reduceIte, B.wsucc (show i < 9223372036854775807 by omega), rdPick hi, specLabelOk, Option.bind_some]
      rw [List.drop_eq_getElem_cons hi, List.any_cons]
      by_cases h1 : q[i].f1 = -1
      · rw [if_pos h1, ih]; simp [badPick, h1]
      · rw [if_neg h1]
        by_cases h2 : 0 ≤ q[i].f1 ∧ q[i].f1 ≤ 5
        · rw [if_pos (by simpa using h2), ih]; simp [badPick, h2]
        · rw [if_neg (by simpa using h2)]
          have : badPick q[i] = true := by unfold badPick; simp only [Bool.not_eq_true', decide_eq_false_iff_not]; omega
          rw [this]; simp) k 0 (by omega) (by omega)
  exact h

theorem idxPick (q : List S40) (hl : q.length ≤ 4194304) (k : Nat) (hk : q.length < k) : impl_Pick__QueryOk_lit1_81.f k q = some (B.idxFrom badPick q 0) := by
  unfold impl_Pick__QueryOk_lit1_81.f
  have h := B.loop (fun k i => impl_Pick__QueryOk_lit1_81.l0 k q (q.length : Int) (i : Int)) q.length (fun i => some (B.idxFrom badPick (q.drop i) i))
    (fun k => by
      simp only [impl_Pick__QueryOk_lit1_81.l0]
      rw [if_neg (by omega), List.drop_length]; rfl)
    (fun k i hi ih => by
      have a1 : (i : Int) < (q.length : Int) := by omega
      have a3 : 0 ≤ (i : Int) := by omega
      have hf : impl_QueryOk_lit1.f q[i].f0 q[i].f1 = some (badPick q[i]) := by
        unfold impl_QueryOk_lit1.f badPick
        by_cases h1 : q[i].f1 = -1
        · rw [if_pos h1]; simp [h1]
        · rw [if_neg h1, implLabelOk]; simp [h1]
      simp only [impl_Pick__QueryOk_lit1_81.l0, a1, a3, ↓reduceIte, B.wsucc (show i < 9223372036854775807 by omega), rdPick hi, hf, Option.bind_some]
      rw [B.idxFrom_drop _ _ hi]
      split
      · rfl
      · exact ih) k 0 (by omega) (by omega)
  exact h

theorem implQueryOk (q : List S40) (hl : q.length ≤ 4194304) (k : Nat) (hk : q.length < k) : impl_QueryOk.f k q = some (okQ q) := by
  unfold impl_QueryOk.f okQ
  rw [within]
  simp only [Option.bind_some]
  by_cases h : 1 ≤ q.length ∧ q.length ≤ 6
  · rw [if_pos (by simp; omega), decide_eq_true h]
    unfold impl_Pick__QueryOk_lit1_80.f
    rw [idxPick q hl k hk]
    simp only [Option.bind_some, B.idxFrom_any, Bool.true_and]
  · rw [if_neg (by simp; omega), decide_eq_false h]; rfl
end Go.Proofs.YtfdaifgfnpjoaaaDoor.X
