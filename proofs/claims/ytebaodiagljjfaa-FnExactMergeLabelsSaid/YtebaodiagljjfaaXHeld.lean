/- The marks that the laws' helpers leave in lists of nodes, and that they find them again. -/
import Derived.Test.YtebaodiagljjfaaXNodes
import Derived.Test.YtebaodiagljjfaaXShape
import Derived.Test.YtebaodiagljjfaaG14
import Derived.Test.YtebaodiagljjfaaG63
namespace Go.Proofs.Ytebaodiagljjfaa.X
open Go Go.RowKit Go.Proofs.YtebaodiagljjfaaW.PrintWords Go.Proofs.YtebaodiagljjfaaW.PrintLast Go.Proofs.YtebaodiagljjfaaW.PrintMore Go.Proofs.Ytebaodiagljjfaa.P

def nrun (a : Int) (n : Nat) : List S57 := (List.range n).map fun (i : Nat) => ⟨a + 2 * (i : Int), a + 2 * (i : Int) + 1⟩
theorem nrun_length (a : Int) (n : Nat) : (nrun a n).length = n := by simp [nrun]
theorem nrun_succ (a : Int) (i : Nat) : nrun a (i + 1) = nrun a i ++ [⟨a + 2 * (i : Int), a + 2 * (i : Int) + 1⟩] := by unfold nrun; rw [List.range_succ, List.map_append]; rfl
theorem nrun_get (a : Int) (n : Nat) {i : Nat} (h : i < n) : (nrun a n).getD i z57 = ⟨a + 2 * (i : Int), a + 2 * (i : Int) + 1⟩ := by
  rw [B.getD_lt (by rw [nrun_length]; exact h)]
  simp [nrun]
def nmarked (l : List S57) (a : Int) (i : Nat) : List S57 := nrun a i ++ l.drop i
theorem nmarked_length (l : List S57) (a : Int) {i : Nat} (h : i ≤ l.length) : (nmarked l a i).length = l.length := by unfold nmarked; rw [List.length_append, nrun_length, List.length_drop]; omega
theorem nmarked_set (l : List S57) (a : Int) {i : Nat} (h : i < l.length) : (nmarked l a i).set i ⟨a + 2 * (i : Int), a + 2 * (i : Int) + 1⟩ = nmarked l a (i + 1) := by
  unfold nmarked
  rw [List.set_append_right _ _ (by rw [nrun_length]; omega), nrun_length, Nat.sub_self, nrun_succ, List.append_assoc]
  congr 1
  rw [List.drop_eq_getElem_cons h, List.set_cons_zero]; rfl
theorem set2 {l : List S57} {i : Nat} {x y : S57} : (l.set i x).set i y = l.set i y := by rw [List.set_set]
theorem rd_set {l : List S57} {i : Nat} {x : S57} (h : i < l.length) : rd_T57 (l.set i x) (i : Int) = x := by
  rw [rdNode, List.getD_eq_getElem?_getD, List.getElem?_set_self h]; rfl

theorem markNodeS' (l : List S57) (a : Int) (hl : l.length ≤ 4194304) (h0 : 0 ≤ a) (h1 : a ≤ 1000000000) (k : Nat) (hk : l.length < k) : laws_markNodeS.f k l a = some (a + 2 * (l.length : Int), nrun a l.length) := by
  unfold laws_markNodeS.f
  have h := B.loop (fun k i => laws_markNodeS.l0 k (nmarked l a i) (a + 2 * (i : Int)) (i : Int)) l.length (fun _ => some (a + 2 * (l.length : Int), nrun a l.length))
    (fun k => by
      simp only [laws_markNodeS.l0]
      rw [if_neg (by rw [nmarked_length _ _ (Nat.le_refl _)]; omega)]
      unfold nmarked; rw [List.drop_length, List.append_nil])
    (fun k i hi ih => by
      have a0 : i < (nmarked l a i).length := by rw [nmarked_length _ _ (by omega)]; exact hi
      have a1 : (i : Int) < ((nmarked l a i).length : Int) := by omega
      have a3 : 0 ≤ (i : Int) := by omega
      have e : wrap64 (a + 2 * (i : Int) + 1) = a + 2 * (i : Int) + 1 := by unfold wrap64; omega
      have e' : wrap64 (a + 2 * (i : Int) + 1 + 1) = a + 2 * ((i + 1 : Nat) : Int) := by unfold wrap64; omega
      simp only [laws_markNodeS.l0, a1, a3, ↓reduceIte, B.wsucc (show i < 9223372036854775807 by omega), Int.toNat_natCast, e, e', Option.bind_some, rd_set a0, set2]
      rw [nmarked_set _ _ hi]
      exact ih) k 0 (by omega) (by omega)
  have e : nmarked l a 0 = l := by simp [nmarked, nrun]
  rw [e] at h
  simpa using h

theorem heldNodeS (a : Int) (n : Nat) (hn : n ≤ 4194304) (h0 : 0 ≤ a) (h1 : a ≤ 1000000000) (k : Nat) (hk : n < k) : laws_heldNodeS.f k (nrun a n) a = some (a + 2 * (n : Int)) := by
  unfold laws_heldNodeS.f
  have h := B.loop (fun k i => laws_heldNodeS.l0 k (nrun a n) (a + 2 * (i : Int)) (i : Int)) n (fun _ => some (a + 2 * (n : Int)))
    (fun k => by
      simp only [laws_heldNodeS.l0]
      rw [if_neg (by rw [nrun_length]; omega)])
    (fun k i hi ih => by
      have a1 : (i : Int) < ((nrun a n).length : Int) := by rw [nrun_length]; omega
      have a3 : 0 ≤ (i : Int) := by omega
      have e : wrap64 (a + 2 * (i : Int) + 1) = a + 2 * (i : Int) + 1 := by unfold wrap64; omega
      have e' : wrap64 (a + 2 * (i : Int) + 1 + 1) = a + 2 * ((i + 1 : Nat) : Int) := by unfold wrap64; omega
      simp only [laws_heldNodeS.l0, a1, a3, ↓reduceIte, B.wsucc (show i < 9223372036854775807 by omega), e, e', rdNode, nrun_get a n hi]
      exact ih) k 0 (by omega) (by omega)
  simpa using h
end Go.Proofs.Ytebaodiagljjfaa.X
