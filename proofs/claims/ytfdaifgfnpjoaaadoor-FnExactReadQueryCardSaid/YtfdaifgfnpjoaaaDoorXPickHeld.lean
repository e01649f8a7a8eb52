/- The marks that the laws' helpers leave in lists of picks, and that they find them again. -/
import Derived.Test.YtfdaifgfnpjoaaaDoorXPicks
import Derived.Test.YtfdaifgfnpjoaaaDoorG24
namespace Go.Proofs.YtfdaifgfnpjoaaaDoor.X
open Go Go.RowKit Go.Proofs.YtfdaifgfnpjoaaaDoorW.PrintWords Go.Proofs.YtfdaifgfnpjoaaaDoorW.PrintLast Go.Proofs.YtfdaifgfnpjoaaaDoorW.PrintMore Go.Proofs.YtfdaifgfnpjoaaaDoor.P
theorem rdPickD {xs : List S40} {i : Nat} : rd_T40 xs (i : Int) = xs.getD i z40 := by unfold rd_T40; rw [Int.toNat_natCast]

def prun (a : Int) (n : Nat) : List S40 := (List.range n).map fun (i : Nat) => ⟨(Int.tmod (a + 2 * (i : Int)) 3) == 0, a + 2 * (i : Int) + 1⟩
theorem prun_length (a : Int) (n : Nat) : (prun a n).length = n := by simp [prun]
theorem prun_succ (a : Int) (i : Nat) : prun a (i + 1) = prun a i ++ [⟨(Int.tmod (a + 2 * (i : Int)) 3) == 0, a + 2 * (i : Int) + 1⟩] := by unfold prun; rw [List.range_succ, List.map_append]; rfl
theorem prun_get (a : Int) (n : Nat) {i : Nat} (h : i < n) : (prun a n).getD i z40 = ⟨(Int.tmod (a + 2 * (i : Int)) 3) == 0, a + 2 * (i : Int) + 1⟩ := by
  rw [B.getD_lt (by rw [prun_length]; exact h)]
  simp [prun]
def pmarked (l : List S40) (a : Int) (i : Nat) : List S40 := prun a i ++ l.drop i
theorem pmarked_length (l : List S40) (a : Int) {i : Nat} (h : i ≤ l.length) : (pmarked l a i).length = l.length := by unfold pmarked; rw [List.length_append, prun_length, List.length_drop]; omega
theorem pmarked_set (l : List S40) (a : Int) {i : Nat} (h : i < l.length) : (pmarked l a i).set i ⟨(Int.tmod (a + 2 * (i : Int)) 3) == 0, a + 2 * (i : Int) + 1⟩ = pmarked l a (i + 1) := by
  unfold pmarked
  rw [List.set_append_right _ _ (by rw [prun_length]; omega), prun_length, Nat.sub_self, prun_succ, List.append_assoc]
  congr 1
  rw [List.drop_eq_getElem_cons h, List.set_cons_zero]; rfl
theorem pset2 {l : List S40} {i : Nat} {x y : S40} : (l.set i x).set i y = l.set i y := by rw [List.set_set]
theorem prd_set {l : List S40} {i : Nat} {x : S40} (h : i < l.length) : rd_T40 (l.set i x) (i : Int) = x := by
  rw [rdPickD, List.getD_eq_getElem?_getD, List.getElem?_set_self h]; rfl

theorem markPickS' (l : List S40) (a : Int) (hl : l.length ≤ 4194304) (h0 : 0 ≤ a) (h1 : a ≤ 1000000000) (k : Nat) (hk : l.length < k) : laws_markPickS.f k l a = some (a + 2 * (l.length : Int), prun a l.length) := by
  unfold laws_markPickS.f
  have h := B.loop (fun k i => laws_markPickS.l0 k (pmarked l a i) (a + 2 * (i : Int)) (i : Int)) l.length (fun _ => some (a + 2 * (l.length : Int), prun a l.length))
    (fun k => by
      simp only [laws_markPickS.l0]
      rw [if_neg (by rw [pmarked_length _ _ (Nat.le_refl _)]; omega)]
      unfold pmarked; rw [List.drop_length, List.append_nil])
    (fun k i hi ih => by
      have a0 : i < (pmarked l a i).length := by rw [pmarked_length _ _ (by omega)]; exact hi
      have a1 : (i : Int) < ((pmarked l a i).length : Int) := by omega
      have a3 : 0 ≤ (i : Int) := by omega
      have e : wrap64 (a + 2 * (i : Int) + 1) = a + 2 * (i : Int) + 1 := by unfold wrap64; omega
      have e' : wrap64 (a + 2 * (i : Int) + 1 + 1) = a + 2 * ((i + 1 : Nat) : Int) := by unfold wrap64; omega
      simp only [laws_markPickS.l0, a1, a3, ↓reduceIte, B.wsucc (show i < 9223372036854775807 by omega), Int.toNat_natCast, e, e', Option.bind_some, prd_set a0, pset2]
      rw [pmarked_set _ _ hi]
      exact ih) k 0 (by omega) (by omega)
  have e : pmarked l a 0 = l := by simp [pmarked, prun]
  rw [e] at h
  simpa using h

theorem heldPickS (a : Int) (n : Nat) (hn : n ≤ 4194304) (h0 : 0 ≤ a) (h1 : a ≤ 1000000000) (k : Nat) (hk : n < k) : laws_heldPickS.f k (prun a n) a = some (a + 2 * (n : Int)) := by
  unfold laws_heldPickS.f
  have h := B.loop (fun k i => laws_heldPickS.l0 k (prun a n) (a + 2 * (i : Int)) (i : Int)) n (fun _ => some (a + 2 * (n : Int)))
    (fun k => by
      simp only [laws_heldPickS.l0]
      rw [if_neg (by rw [prun_length]; omega)])
    (fun k i hi ih => by
      have a1 : (i : Int) < ((prun a n).length : Int) := by rw [prun_length]; omega
      have a3 : 0 ≤ (i : Int) := by omega
      have e : wrap64 (a + 2 * (i : Int) + 1) = a + 2 * (i : Int) + 1 := by unfold wrap64; omega
      have e' : wrap64 (a + 2 * (i : Int) + 1 + 1) = a + 2 * ((i + 1 : Nat) : Int) := by unfold wrap64; omega
      simp only [laws_heldPickS.l0, a1, a3, ↓reduceIte, B.wsucc (show i < 9223372036854775807 by omega), e, e', rdPickD, prun_get a n hi, bne_self_eq_false, Bool.false_eq_true]
      exact ih) k 0 (by omega) (by omega)
  simpa using h
end Go.Proofs.YtfdaifgfnpjoaaaDoor.X
