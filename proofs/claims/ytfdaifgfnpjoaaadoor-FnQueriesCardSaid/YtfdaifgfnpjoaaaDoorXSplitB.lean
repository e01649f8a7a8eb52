/- strings.Split at a sign of one byte cuts as the reference cuts. -/
import Derived.Test.YtfdaifgfnpjoaaaDoorXEv
import Derived.Test.YtfdaifgfnpjoaaaDoorG33
namespace Go.Proofs.YtfdaifgfnpjoaaaDoor.X
open Go Go.RowKit Go.Proofs.YtfdaifgfnpjoaaaDoorW.PrintWords Go.Proofs.YtfdaifgfnpjoaaaDoorW.PrintLast Go.Proofs.YtfdaifgfnpjoaaaDoorW.PrintMore Go.Proofs.YtfdaifgfnpjoaaaDoor.P
theorem idx_none (c : UInt8) : ∀ l : List UInt8, c ∉ l → Lib.index l [c] = -1
  | [], _ => rfl
  | b :: l, h => by
    have h1 : ¬ c = b := fun e => h (e ▸ List.mem_cons_self ..)
    have h2 := idx_none c l (fun q => h (List.mem_cons_of_mem _ q))
    unfold Lib.index
    rw [h2]
    simp [List.isPrefixOf, h1]
theorem idx_hit (c : UInt8) (q : List UInt8) : ∀ p : List UInt8, c ∉ p → Lib.index (p ++ c :: q) [c] = (p.length : Int)
  | [], _ => by simp [Lib.index, List.isPrefixOf]
  | b :: p, h => by
    have h1 : ¬ c = b := fun e => h (e ▸ List.mem_cons_self ..)
    have h2 := idx_hit c q p (fun r => h (List.mem_cons_of_mem _ r))
    rw [List.cons_append]
    unfold Lib.index
    rw [h2]
    simp [List.isPrefixOf, h1]
def cutG (s : ByteArray) (c : UInt8) : Nat → Nat → Nat → List ByteArray
  | 0, a, _ => [s.extract a s.size]
  | n + 1, a, i => if bt s (i : Int) = (c.toNat : Int) then s.extract a i :: cutG s c n (i + 1) (i + 1) else cutG s c n a (i + 1)
theorem ext_data (s : ByteArray) (a b : Nat) : (s.extract a b).data.toList = (s.data.toList.drop a).take (b - a) := by
  simp [ByteArray.data_extract, Array.toList_extract, List.extract_eq_take_drop]
theorem split_cut (s sep : ByteArray) (c : UInt8) (hs : sep.data.toList = [c]) : ∀ n a i : Nat, i + n = s.size → a ≤ i → (∀ p, a ≤ p → p < i → bt s (p : Int) ≠ (c.toNat : Int)) →
    Lib.splitB sep 0 (Lib.countB (s.extract a s.size) sep) (s.extract a s.size) = cutG s c n a i := by
  have hsz : sep.size = 1 := by
    have := congrArg List.length hs
    simpa using this
  have hL : s.data.toList.length = s.size := by simp
  have hb : ∀ p (hp : p < s.size), bt s (p : Int) = ((s.data.toList[p]'(by omega)).toNat : Int) := by
    intro p hp
    unfold bt
    rw [dif_pos (by simpa using hp)]
    simp
    rfl
  have hcc : ∀ x : UInt8, ((x.toNat : Int) = (c.toNat : Int)) ↔ x = c := by
    intro x
    constructor
    · intro h; exact UInt8.toNat_inj.1 (by omega)
    · rintro rfl; rfl
  intro n
  induction n with
  | zero =>
    intro a i hi ha hno
    have hmiss : Lib.indexB (s.extract a s.size) sep = -1 := by
      show Lib.index _ _ = -1
      rw [hs, ext_data]
      apply idx_none
      intro hm
      obtain ⟨j, hj, e⟩ := List.getElem_of_mem hm
      rw [List.length_take, List.length_drop] at hj
      rw [List.getElem_take, List.getElem_drop] at e
      have := hno (a + j) (by omega) (by omega)
      rw [hb _ (by omega)] at this
      exact this ((hcc _).2 e)
    rw [Lib.splitB_miss _ _ _ _ hmiss]
    rfl
  | succ n ih =>
    intro a i hi ha hno
    simp only [cutG]
    by_cases hc : bt s (i : Int) = (c.toNat : Int)
    · rw [if_pos hc]
      have hi' : i < s.size := by omega
      have hit : Lib.indexB (s.extract a s.size) sep = ((i - a : Nat) : Int) := by
        show Lib.index _ _ = _
        rw [hs, ext_data]
        have e1 : (s.data.toList.drop a).take (s.size - a) = (s.data.toList.drop a).take (i - a) ++ c :: s.data.toList.drop (i + 1) := by
          rw [List.take_of_length_le (by simp)]
          conv => lhs; rw [← List.take_append_drop (i - a) (s.data.toList.drop a)]
          have e0 : s.data.toList[i]'(by omega) = c := (hcc _).1 (by rw [← hb i hi']; exact hc)
          rw [List.drop_drop, show a + (i - a) = i by omega, List.drop_eq_getElem_cons (show i < s.data.toList.length by omega), e0]
        rw [e1, idx_hit]
        · rw [List.length_take, List.length_drop]; omega
        · intro hm
          obtain ⟨j, hj, e⟩ := List.getElem_of_mem hm
          rw [List.length_take, List.length_drop] at hj
          rw [List.getElem_take, List.getElem_drop] at e
          have := hno (a + j) (by omega) (by omega)
          rw [hb _ (by omega)] at this
          exact this ((hcc _).2 e)
      have e2 : (s.extract a s.size).extract (i - a + sep.size) (s.extract a s.size).size = s.extract (i + 1) s.size := by
        rw [hsz]
        apply ByteArray.ext
        apply Array.toList_inj.1
        rw [ext_data, ext_data, ext_data]
        have e5 : (s.extract a s.size).size = s.size - a := by simp
        rw [e5, List.drop_take, List.drop_drop, show a + (i - a + 1) = i + 1 by omega, List.take_of_length_le (by rw [List.length_take, List.length_drop]; omega), List.take_of_length_le (by rw [List.length_drop]; omega), List.take_of_length_le (by rw [List.length_drop]; omega)]
      have e3 : (s.extract a s.size).extract 0 (i - a + 0) = s.extract a i := by
        apply ByteArray.ext
        apply Array.toList_inj.1
        rw [ext_data, ext_data, ext_data, List.drop_zero, List.take_take]
        congr 1
        omega
      rw [Lib.countB_hit _ _ _ (by omega) hit, Nat.add_comm 1, Lib.splitB_hit _ _ _ _ _ hit, e2, e3, ih (i + 1) (i + 1) (by omega) (Nat.le_refl _) (fun p h1 h2 => by omega)]
    · rw [if_neg hc]
      refine ih a (i + 1) (by omega) (by omega) (fun p h1 h2 => ?_)
      rcases Nat.lt_or_ge p i with h | h
      · exact hno p h1 h
      · obtain rfl : p = i := by omega
        exact hc
end Go.Proofs.YtfdaifgfnpjoaaaDoor.X
