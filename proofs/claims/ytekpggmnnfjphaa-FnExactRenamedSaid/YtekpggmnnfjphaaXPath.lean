/- The way from the root to a node: which child to take at each step. -/
import Derived.Test.YtekpggmnnfjphaaXNav
import Derived.Test.YtekpggmnnfjphaaXAnc
import Derived.Test.YtekpggmnnfjphaaXKids
import Derived.Test.YtekpggmnnfjphaaXRev
import Derived.Test.YtekpggmnnfjphaaG108
import Derived.Test.YtekpggmnnfjphaaG115
namespace Go.Proofs.Ytekpggmnnfjphaa.X
open Go Go.RowKit Go.Proofs.YtekpggmnnfjphaaW.PrintWords Go.Proofs.YtekpggmnnfjphaaW.PrintLast Go.Proofs.YtekpggmnnfjphaaW.PrintMore Go.Proofs.Ytekpggmnnfjphaa.P
theorem evKids' {l : List S48} (h : okT l = true) {i : Nat} (hi : i < l.length) : B.Ev (fun k => impl_KidsOf.f k l (i : Int)) ((kids l i).map fun (j : Nat) => (j : Int)) := by
  have hl := (okT_len h).2
  have a := endN_spec l hi
  simp only [impl_KidsOf.f, Option.bind_some, B.wsucc (show i < 9223372036854775807 by omega)]
  refine B.Ev.bind (evHas l (by omega) _) ?_
  rw [isAt_of h hi]
  simp only [↓reduceIte]
  have e0 : ([] : List Int) = (kidF l i (i + 1) (i + 1)).map fun (j : Nat) => (j : Int) := by rw [kidF_end]; rfl
  rw [e0]
  have a3 : 0 ≤ (i : Int) := by omega
  have a4 : (i : Int) < (l.length : Int) := by omega
  refine B.Ev.loop (g := fun k j => impl_KidsOf.l0 k l (i : Int) ((kidF l i (i + 1) j).map fun (j : Nat) => (j : Int)) (j : Int)) (endN l i) (fun j => i + 1 ≤ j) ?_ ?_ (i + 1) (by omega) (Nat.le_refl _)
  · intro _
    refine B.Ev.succ ?_
    simp only [impl_KidsOf.l0]
    refine B.Ev.bind (evEnd' h hi) ?_
    simp only [Int.lt_irrefl, ↓reduceIte]
    exact B.Ev.pure _
  · intro j hj hI ih
    refine B.Ev.succ ?_
    simp only [impl_KidsOf.l0]
    refine B.Ev.bind (evEnd' h hi) ?_
    have a1 : (j : Int) < (l.length : Int) := by omega
    have a2 : 0 ≤ (j : Int) := by omega
    have a5 : (j : Int) < (endN l i : Int) := by omega
    have d := okT_at h hi
    have ew : wrap64 (dep l i + 1) = dep l i + 1 := B.wid (by omega) (by omega)
    have ew' : wrap64 ((l.getD i z48).f1 + 1) = (l.getD i z48).f1 + 1 := ew
    have hk := kidF_len l i (i + 1) j
    have lm : ((kidF l i (i + 1) j).map fun (j : Nat) => (j : Int)).length < 17592186044416 := by rw [List.length_map]; omega
    simp only [a1, a2, a3, a4, a5, lm, ↓reduceIte, rdNode, ew', B.wsucc (show j < 9223372036854775807 by omega)]
    have ih := ih (by omega)
    rw [kidF_snoc l i (i + 1) j hI] at ih
    by_cases c : dep l j = dep l i + 1
    · have c' : (l.getD j z48).f1 = (l.getD i z48).f1 + 1 := c
      simp only [c', ↓reduceIte]
      simp only [c, ↓reduceIte, List.map_append, List.map_cons, List.map_nil] at ih
      exact ih
    · have c' : ¬ (l.getD j z48).f1 = (l.getD i z48).f1 + 1 := c
      simp only [c', ↓reduceIte]
      simp only [c, ↓reduceIte, List.append_nil] at ih
      exact ih

def parI (l : List S48) (i : Nat) : Nat := (parN l i).toNat
theorem parI_lt {l : List S48} (h : okT l = true) {i : Nat} (hi : i < l.length) (h0 : i ≠ 0) : parN l i = (parI l i : Int) ∧ parI l i < i := by
  have a := parN_nn h hi h0
  have b := (parN_spec l i).1
  unfold parI
  omega
/-- A node is a child of its parent. -/
theorem kid_par {l : List S48} (h : okT l = true) {i : Nat} (hi : i < l.length) (h0 : i ≠ 0) : i ∈ kids l (parI l i) := by
  obtain ⟨e, hp⟩ := parI_lt h hi h0
  have s := parN_spec l i
  rw [e] at s
  have s4 := s.2.2.2 (by omega)
  rw [Int.toNat_natCast] at s4
  have hu := (under_iff l (i := parI l i) hi).2 ⟨hp, fun g g1 g2 => by
    rcases Nat.lt_or_ge g i with c | c
    · have := s.2.2.1 g (by omega) c
      omega
    · obtain rfl : g = i := by omega
      exact s4⟩
  have d1 := (okT_at h (show parI l i + 1 < l.length by omega)).2.2.2
  rw [show parI l i + 1 - 1 = parI l i by omega] at d1
  have d2 : dep l i ≤ dep l (parI l i + 1) := by
    rcases Nat.lt_or_ge (parI l i + 1) i with c | c
    · exact s.2.2.1 (parI l i + 1) (by omega) c
    · rw [show i = parI l i + 1 by omega]
      rw [show parI l (parI l i + 1) = parI l i by rw [← show i = parI l i + 1 by omega]]
      omega
  unfold kids kidF
  rw [List.mem_filter, List.mem_range'_1]
  refine ⟨by omega, decide_eq_true ?_⟩
  omega
def rank (l : List S48) (i : Nat) : Int := B.idxFrom (fun y => decide (y = (i : Int))) ((kids l (parI l i)).map fun (j : Nat) => (j : Int)) 0
theorem rank_nn {l : List S48} (h : okT l = true) {i : Nat} (hi : i < l.length) (h0 : i ≠ 0) : rank l i ≥ 0 := by
  have := B.idxFrom_any (fun y => decide (y = (i : Int))) ((kids l (parI l i)).map fun (j : Nat) => (j : Int)) 0
  unfold rank
  refine of_decide_eq_true ?_
  rw [this, List.any_eq_true]
  exact ⟨(i : Int), List.mem_map.2 ⟨i, kid_par h hi h0, rfl⟩, by simp⟩
theorem evRank {l : List S48} (h : okT l = true) {i : Nat} (hi : i < l.length) : B.Ev (fun k => spec_KidRank.f k l (i : Int)) (if i = 0 then -1 else rank l i) := by
  have hl := (okT_len h).2
  simp only [spec_KidRank.f]
  refine B.Ev.bind (evPar h hi) ?_
  by_cases h0 : i = 0
  · subst h0
    have e : parN l 0 = -1 := rfl
    simp only [e, show (-1 : Int) < 0 by decide, ↓reduceIte]
    exact B.Ev.pure _
  · obtain ⟨e, hp⟩ := parI_lt h hi h0
    simp only [e, show ¬ ((parI l i : Nat) : Int) < 0 by omega, h0, ↓reduceIte]
    refine B.Ev.bind (evKids h (by omega)) ?_
    unfold rank
    generalize hxs : ((kids l (parI l i)).map fun (j : Nat) => (j : Int)) = xs
    have hlen : xs.length ≤ 24 := by
      rw [← hxs, List.length_map]
      have := kidF_len l (parI l i) (parI l i + 1) (endN l (parI l i))
      have := endN_spec l (show parI l i < l.length by omega)
      unfold kids
      omega
    have key : ∀ n p : Nat, p + n = xs.length → B.Ev (fun k => spec_KidRank.l0 k (i : Int) xs (p : Int)) (B.idxFrom (fun y => decide (y = (i : Int))) (xs.drop p) p) := by
      intro n
      induction n with
      | zero =>
        intro p hp
        refine B.Ev.succ ?_
        simp only [spec_KidRank.l0, show ¬ ((p : Int) < (xs.length : Int)) by omega, ↓reduceIte]
        exact (B.Ev.pure _).eq (by rw [List.drop_eq_nil_of_le (by omega)]; rfl)
      | succ n ih =>
        intro p hp
        have hlt : p < xs.length := by omega
        refine B.Ev.succ ?_
        rw [B.idxFrom_drop _ _ hlt]
        simp only [spec_KidRank.l0, show (p : Int) < (xs.length : Int) by omega, show 0 ≤ (p : Int) by omega, ↓reduceIte, rd, Int.toNat_natCast, B.getD_lt hlt, B.wsucc (show p < 9223372036854775807 by omega), decide_eq_true_eq]
        by_cases c : xs[p] = (i : Int)
        · simp only [c, ↓reduceIte]
          exact B.Ev.pure _
        · simp only [c, ↓reduceIte]
          exact ih (p + 1) (by omega)
    have := key xs.length 0 (by omega)
    rw [List.drop_zero] at this
    exact this
theorem evRank' {l : List S48} (h : okT l = true) {i : Nat} (hi : i < l.length) (h0 : i ≠ 0) : B.Ev (fun k => impl_KidRank.f k l (i : Int)) (rank l i) := by
  have hl := (okT_len h).2
  simp only [impl_KidRank.f]
  refine B.Ev.bind (evPar' h hi) ?_
  obtain ⟨e, hp⟩ := parI_lt h hi h0
  rw [e]
  refine B.Ev.bind (evKids' h (by omega)) ?_
  refine B.Ev.bind (a := rank l i) ?_ (B.Ev.pure _)
  unfold rank
  generalize hxs : ((kids l (parI l i)).map fun (j : Nat) => (j : Int)) = xs
  have hlen : xs.length ≤ 24 := by
    rw [← hxs, List.length_map]
    have := kidF_len l (parI l i) (parI l i + 1) (endN l (parI l i))
    have := endN_spec l (show parI l i < l.length by omega)
    unfold kids
    omega
  simp only [slices_Index_int_int.f]
  have key : ∀ n p : Nat, p + n = xs.length → B.Ev (fun k => slices_Index_int_int.l0 k xs (i : Int) (xs.length : Int) (p : Int)) (B.idxFrom (fun y => decide (y = (i : Int))) (xs.drop p) p) := by
    intro n
    induction n with
    | zero =>
      intro p hp
      refine B.Ev.succ ?_
      simp only [slices_Index_int_int.l0, show ¬ ((p : Int) < (xs.length : Int)) by omega, ↓reduceIte]
      exact (B.Ev.pure _).eq (by rw [List.drop_eq_nil_of_le (by omega)]; rfl)
    | succ n ih =>
      intro p hp
      have hlt : p < xs.length := by omega
      refine B.Ev.succ ?_
      rw [B.idxFrom_drop _ _ hlt]
      simp only [slices_Index_int_int.l0, show (p : Int) < (xs.length : Int) by omega, show 0 ≤ (p : Int) by omega, ↓reduceIte, rd, Int.toNat_natCast, B.getD_lt hlt, B.wsucc (show p < 9223372036854775807 by omega), decide_eq_true_eq]
      by_cases c : xs[p] = (i : Int)
      · simp only [c, ↓reduceIte]
        exact B.Ev.pure _
      · simp only [c, show ¬ (i : Int) = xs[p] from fun q => c q.symm, ↓reduceIte]
        exact ih (p + 1) (by omega)
  have := key xs.length 0 (by omega)
  rw [List.drop_zero] at this
  exact this

def pathG (l : List S48) : Nat → Nat → List Int
  | 0, _ => []
  | n + 1, i => if i = 0 then [] else pathG l n (parI l i) ++ [rank l i]
def pathN (l : List S48) (i : Nat) : List Int := pathG l i i
theorem pathG_eq {l : List S48} (h : okT l = true) : ∀ n i, i < l.length → i ≤ n → pathG l n i = pathN l i := by
  intro n
  induction n using Nat.strongRecOn with
  | _ n ih =>
    intro i hi hn
    unfold pathN
    cases n with
    | zero => obtain rfl : i = 0 := by omega
              rfl
    | succ n =>
      cases i with
      | zero => simp [pathG]
      | succ i =>
        have hp := (parI_lt h hi (by omega)).2
        simp only [pathG, show ¬ (i + 1 = 0) by omega, ↓reduceIte]
        rw [ih n (by omega) _ (by omega) (by omega)]
        rcases Nat.lt_or_ge i n with c | c
        · rw [ih i (by omega) _ (by omega) (by omega)]
        · obtain rfl : i = n := by omega
          rw [ih i (by omega) _ (by omega) (by omega)]
theorem pathN_succ {l : List S48} (h : okT l = true) {i : Nat} (hi : i < l.length) (h0 : i ≠ 0) : pathN l i = pathN l (parI l i) ++ [rank l i] := by
  have hp := (parI_lt h hi h0).2
  obtain ⟨m, rfl⟩ : ∃ m, i = m + 1 := ⟨i - 1, by omega⟩
  conv => lhs; unfold pathN
  simp only [pathG, show ¬ (m + 1 = 0) by omega, ↓reduceIte]
  rw [pathG_eq h m _ (by omega) (by omega)]
theorem pathG_len (l : List S48) : ∀ n i, (pathG l n i).length ≤ n := by
  intro n
  induction n with
  | zero => intro i; simp [pathG]
  | succ n ih =>
    intro i
    simp only [pathG]
    split
    · simp
    · have := ih (parI l i)
      simp
      omega
theorem pathN_len (l : List S48) (i : Nat) : (pathN l i).length ≤ i := pathG_len l i i
theorem evPath {l : List S48} (h : okT l = true) {i : Nat} (hi : i < l.length) : B.Ev (fun k => spec_PathOf.f k l (i : Int)) (pathN l i) := by
  have hl := (okT_len h).2
  simp only [spec_PathOf.f]
  have key : ∀ i, i < l.length → ∀ acc : List Int, acc.length + i ≤ 1000 → B.Ev (fun k => spec_PathOf.l0 k l acc (i : Int)) (pathN l i ++ acc) := by
    intro i
    induction i using Nat.strongRecOn with
    | _ i ih =>
      intro hi acc ha
      refine B.Ev.succ ?_
      simp only [spec_PathOf.l0]
      refine B.Ev.bind (evRank h hi) ?_
      by_cases h0 : i = 0
      · subst h0
        simp only [↓reduceIte, show ¬ ((-1 : Int) ≥ 0) by decide]
        exact B.Ev.pure _
      · have hr := rank_nn h hi h0
        obtain ⟨e, hp⟩ := parI_lt h hi h0
        simp only [h0, hr, ↓reduceIte]
        refine B.Ev.bind (evRank h hi) ?_
        simp only [h0, ↓reduceIte, Option.bind_some, List.length_cons, List.length_nil, show 0 + 1 + acc.length < 17592186044416 by omega]
        refine B.Ev.bind (evPar h hi) ?_
        rw [e]
        refine (ih _ hp (by omega) _ (by simp; omega)).eq ?_
        rw [pathN_succ h hi h0, List.append_assoc]
  have := key i hi [] (by simp; omega)
  rw [List.append_nil] at this
  exact this
theorem evPath' {l : List S48} (h : okT l = true) {i : Nat} (hi : i < l.length) : B.Ev (fun k => impl_PathOf.f k l (i : Int)) (pathN l i) := by
  have hl := (okT_len h).2
  simp only [impl_PathOf.f]
  have key : ∀ i, i < l.length → ∀ acc : List Int, acc.length + i ≤ 1000 → B.Ev (fun k => impl_PathOf.l0 k l (i : Int) acc) (pathN l i ++ acc.reverse) := by
    intro i
    induction i using Nat.strongRecOn with
    | _ i ih =>
      intro hi acc ha
      refine B.Ev.succ ?_
      simp only [impl_PathOf.l0]
      refine B.Ev.bind (evHas l (by omega) _) ?_
      rw [isAt_of h hi]
      simp only [↓reduceIte]
      refine B.Ev.succ ?_
      by_cases h0 : i = 0
      · subst h0
        simp only [impl_PathOf.j1, show ¬ (((0 : Nat) : Int) > 0) by decide, decide_false, Bool.false_eq_true, ↓reduceIte]
        refine B.Ev.bind (evReverse acc (by omega)) ?_
        exact B.Ev.pure _
      · obtain ⟨e, hp⟩ := parI_lt h hi h0
        simp only [impl_PathOf.j1, show (i : Int) > 0 by omega, decide_true, ↓reduceIte]
        refine B.Ev.bind (evRank' h hi h0) ?_
        simp only [show acc.length < 17592186044416 by omega, ↓reduceIte]
        refine B.Ev.bind (evPar' h hi) ?_
        rw [e]
        refine (ih _ hp (by omega) _ (by simp; omega)).eq ?_
        rw [pathN_succ h hi h0, List.reverse_append]
        simp
  have := key i hi [] (by simp; omega)
  rw [List.reverse_nil, List.append_nil] at this
  exact this
end Go.Proofs.Ytekpggmnnfjphaa.X
