/- What the laws' helpers on lists of whole numbers do: compare, mark, look at the marks, copy. -/
import Derived.Test.YtekpggmnnfjphaaXRd
import Derived.Test.YtekpggmnnfjphaaG35
namespace Go.Proofs.Ytekpggmnnfjphaa.X
open Go Go.RowKit Go.Proofs.YtekpggmnnfjphaaW.PrintWords Go.Proofs.YtekpggmnnfjphaaW.PrintLast Go.Proofs.YtekpggmnnfjphaaW.PrintMore Go.Proofs.Ytekpggmnnfjphaa.P


theorem eqIntS (l : List Int) (hl : l.length ≤ 4194304) (k : Nat) (hk : l.length < k) : laws_eqIntS.f k l l = some true := by
  unfold laws_eqIntS.f
  rw [if_pos rfl]
  exact B.loop (fun k i => laws_eqIntS.l0 k l l (i : Int)) l.length (fun _ => some true)
    (fun k => by simp only [laws_eqIntS.l0]; rw [if_neg (by omega)])
    (fun k i hi ih => by
      have a1 : (i : Int) < (l.length : Int) := by omega
      have a3 : 0 ≤ (i : Int) := by omega
      simp only [laws_eqIntS.l0, a1, a3, ↓reduceIte, B.wsucc (show i < 9223372036854775807 by omega)]
      exact ih) k 0 (by omega) (by omega)

/-- l with its first i numbers turned to a, a + 1, .. -/
def marked (l : List Int) (a : Int) (i : Nat) : List Int := B.run a i ++ l.drop i
theorem marked_length (l : List Int) (a : Int) {i : Nat} (h : i ≤ l.length) : (marked l a i).length = l.length := by unfold marked; rw [List.length_append, B.run_length, List.length_drop]; omega
theorem run_succ (a : Int) (i : Nat) : B.run a (i + 1) = B.run a i ++ [a + (i : Int)] := by unfold B.run; rw [List.range_succ, List.map_append]; rfl
theorem marked_set (l : List Int) (a : Int) {i : Nat} (h : i < l.length) : (marked l a i).set i (a + (i : Int)) = marked l a (i + 1) := by
  unfold marked
  rw [List.set_append_right _ _ (by rw [B.run_length]; omega), B.run_length, Nat.sub_self, run_succ, List.append_assoc]
  congr 1
  rw [List.drop_eq_getElem_cons h, List.set_cons_zero]; rfl

theorem markIntS (l : List Int) (a : Int) (hl : l.length ≤ 4194304) (h0 : 0 ≤ a) (h1 : a ≤ 1000000000) (k : Nat) (hk : l.length < k) : laws_markIntS.f k l a = some (a + (l.length : Int), B.run a l.length) := by
  unfold laws_markIntS.f
  have h := B.loop (fun k i => laws_markIntS.l0 k (marked l a i) (a + (i : Int)) (i : Int)) l.length (fun _ => some (a + (l.length : Int), B.run a l.length))
    (fun k => by
      simp only [laws_markIntS.l0]
      rw [if_neg (by rw [marked_length _ _ (Nat.le_refl _)]; omega)]
      unfold marked; rw [List.drop_length, List.append_nil])
    (fun k i hi ih => by
      have a1 : (i : Int) < ((marked l a i).length : Int) := by rw [marked_length _ _ (by omega)]; omega
      have a3 : 0 ≤ (i : Int) := by omega
      have e : wrap64 (a + (i : Int) + 1) = a + ((i + 1 : Nat) : Int) := by unfold wrap64; omega
      simp only [laws_markIntS.l0, a1, a3, ↓reduceIte, B.wsucc (show i < 9223372036854775807 by omega), Int.toNat_natCast, e]
      rw [marked_set _ _ hi]
      exact ih) k 0 (by omega) (by omega)
  have e : marked l a 0 = l := by simp [marked, B.run]
  rw [e] at h
  simpa using h

theorem heldIntS (a : Int) (n : Nat) (hn : n ≤ 4194304) (h0 : 0 ≤ a) (h1 : a ≤ 1000000000) (k : Nat) (hk : n < k) : laws_heldIntS.f k (B.run a n) a = some (a + (n : Int)) := by
  unfold laws_heldIntS.f
  have h := B.loop (fun k i => laws_heldIntS.l0 k (B.run a n) (a + (i : Int)) (i : Int)) n (fun _ => some (a + (n : Int)))
    (fun k => by
      simp only [laws_heldIntS.l0]
      rw [if_neg (by rw [B.run_length]; omega)])
    (fun k i hi ih => by
      have a1 : (i : Int) < ((B.run a n).length : Int) := by rw [B.run_length]; omega
      have a3 : 0 ≤ (i : Int) := by omega
      have e : wrap64 (a + (i : Int) + 1) = a + ((i + 1 : Nat) : Int) := by unfold wrap64; omega
      simp only [laws_heldIntS.l0, a1, a3, ↓reduceIte, B.wsucc (show i < 9223372036854775807 by omega), e, rdInt]
      rw [B.run_get a n hi, if_pos rfl]
      exact ih) k 0 (by omega) (by omega)
  simpa using h

end Go.Proofs.Ytekpggmnnfjphaa.X
