/- Merging labels: what the reference and the program both compute. -/
import Derived.Test.YtebaodiagljjfaaXShape
import Derived.Test.YtebaodiagljjfaaG63
namespace Go.Proofs.Ytebaodiagljjfaa.X
open Go Go.RowKit Go.Proofs.YtebaodiagljjfaaW.PrintWords Go.Proofs.YtebaodiagljjfaaW.PrintLast Go.Proofs.YtebaodiagljjfaaW.PrintMore Go.Proofs.Ytebaodiagljjfaa.P

/-- n steps from place i on. -/
def mergeGo (o a b : List S57) : Nat → Nat → List S57 → List Int → List S57 × List Int
  | 0, _, x, c => (x, c)
  | n + 1, i, x, c => if (a.getD i z57).f0 = (o.getD i z57).f0 then mergeGo o a b n (i + 1) (x.set i ⟨(b.getD i z57).f0, (x.getD i z57).f1⟩) c
      else if (b.getD i z57).f0 = (o.getD i z57).f0 ∨ (a.getD i z57).f0 = (b.getD i z57).f0 then mergeGo o a b n (i + 1) x c
      else mergeGo o a b n (i + 1) x (c ++ [(i : Int)])
def merged (o a b : List S57) : List S57 × List Int × Bool :=
  if sameShape o a && sameShape o b then ((mergeGo o a b o.length 0 a []).1, (mergeGo o a b o.length 0 a []).2, true) else ([], [], false)

theorem mergeGo_length (o a b : List S57) : ∀ (n i : Nat) (x : List S57) (c : List Int), (mergeGo o a b n i x c).1.length = x.length ∧ (mergeGo o a b n i x c).2.length ≤ c.length + n := by
  intro n
  induction n with
  | zero => intro i x c; exact ⟨rfl, Nat.le_refl _⟩
  | succ n ih =>
    intro i x c
    simp only [mergeGo]
    split
    · have h := ih (i + 1) (x.set i ⟨(b.getD i z57).f0, (x.getD i z57).f1⟩) c
      rw [List.length_set] at h; omega
    · split
      · have h := ih (i + 1) x c; omega
      · have h := ih (i + 1) x (c ++ [(i : Int)])
        rw [List.length_append] at h; simp only [List.length_singleton] at h; omega

theorem sameShape_length {a b : List S57} (h : sameShape a b = true) : a.length = b.length := by
  unfold sameShape at h
  have h2 : a.map S57.f1 = b.map S57.f1 := by simp at h; exact h.2.2
  have := congrArg List.length h2
  rw [List.length_map, List.length_map] at this
  exact this

theorem specMergeLoop (o a b : List S57) (ho : o.length ≤ 4194304) (ha : a.length = o.length) (hb : b.length = o.length) : ∀ (n i : Nat) (x : List S57) (c : List Int) (k : Nat), i + n = o.length → x.length = o.length → c.length ≤ i → n < k →
    spec_MergeLabels.l0 k o a b c x (i : Int) = some ((mergeGo o a b n i x c).1, (mergeGo o a b n i x c).2, true) := by
  intro n
  induction n with
  | zero =>
    intro i x c k hi hx hc hk
    obtain ⟨k, rfl⟩ : ∃ m, k = m + 1 := ⟨k - 1, by omega⟩
    simp only [spec_MergeLabels.l0, mergeGo]
    rw [if_neg (by omega)]
  | succ n ih =>
    intro i x c k hi hx hc hk
    obtain ⟨k, rfl⟩ : ∃ m, k = m + 1 := ⟨k - 1, by omega⟩
    have a1 : (i : Int) < (o.length : Int) := by omega
    have a2 : 0 ≤ (i : Int) := by omega
    have a3 : (i : Int) < (a.length : Int) := by omega
    have a4 : (i : Int) < (b.length : Int) := by omega
    have a5 : (i : Int) < (x.length : Int) := by omega
    have a6 : c.length < 17592186044416 := by omega
    simp only [spec_MergeLabels.l0, a1, a2, a3, a4, a5, a6, ↓reduceIte, B.wsucc (show i < 9223372036854775807 by omega), Int.toNat_natCast, rdNode, mergeGo]
    by_cases c1 : (a.getD i z57).f0 = (o.getD i z57).f0
    · rw [if_pos c1, if_pos c1]
      exact ih (i + 1) _ c k (by omega) (by rw [List.length_set]; exact hx) (by omega) (by omega)
    · rw [if_neg c1, if_neg c1]
      by_cases c2 : (b.getD i z57).f0 = (o.getD i z57).f0
      · rw [if_pos c2, if_pos (Or.inl c2)]
        exact ih (i + 1) x c k (by omega) hx (by omega) (by omega)
      · rw [if_neg c2]
        by_cases c3 : (a.getD i z57).f0 = (b.getD i z57).f0
        · rw [if_pos c3, if_pos (Or.inr c3)]
          exact ih (i + 1) x c k (by omega) hx (by omega) (by omega)
        · rw [if_neg c3, if_neg (fun h => h.elim c2 c3)]
          exact ih (i + 1) x (c ++ [(i : Int)]) k (by omega) hx (by rw [List.length_append]; simp only [List.length_singleton]; omega) (by omega)

theorem implMergeLoop (o a b : List S57) (ho : o.length ≤ 4194304) (ha : a.length = o.length) (hb : b.length = o.length) : ∀ (n i : Nat) (x : List S57) (c : List Int) (k : Nat), i + n = o.length → x.length = o.length → c.length ≤ i → n < k →
    impl_MergeLabels.l0 k o a b x c (o.length : Int) (i : Int) = some ((mergeGo o a b n i x c).1, (mergeGo o a b n i x c).2, true) := by
  intro n
  induction n with
  | zero =>
    intro i x c k hi hx hc hk
    obtain ⟨k, rfl⟩ : ∃ m, k = m + 1 := ⟨k - 1, by omega⟩
    simp only [impl_MergeLabels.l0, mergeGo]
    rw [if_neg (by omega)]
  | succ n ih =>
    intro i x c k hi hx hc hk
    obtain ⟨k, rfl⟩ : ∃ m, k = m + 1 := ⟨k - 1, by omega⟩
    have a1 : (i : Int) < (o.length : Int) := by omega
    have a2 : 0 ≤ (i : Int) := by omega
    have a3 : (i : Int) < (a.length : Int) := by omega
    have a4 : (i : Int) < (b.length : Int) := by omega
    have a5 : (i : Int) < (x.length : Int) := by omega
    have a6 : c.length < 17592186044416 := by omega
    simp only [impl_MergeLabels.l0, a1, a2, a3, a4, a5, a6, ↓reduceIte, B.wsucc (show i < 9223372036854775807 by omega), Int.toNat_natCast, rdNode, mergeGo]
    by_cases c1 : (a.getD i z57).f0 = (o.getD i z57).f0
    · rw [if_pos c1, if_pos c1]
      exact ih (i + 1) _ c k (by omega) (by rw [List.length_set]; exact hx) (by omega) (by omega)
    · rw [if_neg c1, if_neg c1]
      by_cases c3 : (a.getD i z57).f0 = (b.getD i z57).f0
      · rw [if_pos c3, if_pos (Or.inr c3)]
        exact ih (i + 1) x c k (by omega) hx (by omega) (by omega)
      · rw [if_neg c3]
        by_cases c2 : (b.getD i z57).f0 = (o.getD i z57).f0
        · rw [if_pos c2, if_pos (Or.inl c2)]
          exact ih (i + 1) x c k (by omega) hx (by omega) (by omega)
        · rw [if_neg c2, if_neg (fun h => h.elim c2 c3)]
          exact ih (i + 1) x (c ++ [(i : Int)]) k (by omega) hx (by rw [List.length_append]; simp only [List.length_singleton]; omega) (by omega)

theorem copyN (l : List S57) (hl : l.length ≤ 4194304) : spec_l3Copy.f l = some l := by
  unfold spec_l3Copy.f
  simp only [Option.bind_some, List.nil_append, List.length_nil, Nat.zero_add]
  rw [if_pos (by omega)]
theorem cloneN (l : List S57) (hl : l.length ≤ 4194304) : impl_Node.f l = some l := by
  unfold impl_Node.f
  simp only [Option.bind_some, List.nil_append, List.length_nil, Nat.zero_add]
  rw [if_pos (by omega)]

theorem specMergeLabels (o a b : List S57) (ho : o.length ≤ 4194304) (ha : a.length ≤ 4194304) (hb : b.length ≤ 4194304) (k : Nat) (hk : 4194305 < k) : spec_MergeLabels.f k o a b = some (merged o a b) := by
  unfold spec_MergeLabels.f merged
  obtain ⟨k, rfl⟩ : ∃ m, k = m + 1 := ⟨k - 1, by omega⟩
  simp only [Option.bind_some]
  rw [specSameShape o a ho ha _ (by omega), specSameShape o b ho hb _ (by omega)]
  simp only [Option.bind_some]
  cases h1 : sameShape o a
  · simp [spec_MergeLabels.j0]
  · cases h2 : sameShape o b
    · simp [spec_MergeLabels.j0]
    · have e1 := sameShape_length h1
      have e2 := sameShape_length h2
      simp only [↓reduceIte, Bool.not_true, spec_MergeLabels.j0, Bool.false_eq_true, copyN a ha, Option.bind_some, Bool.and_self]
      exact specMergeLoop o a b ho e1.symm e2.symm o.length 0 a [] k (by omega) e1.symm (Nat.le_refl _) (by omega)

theorem implMergeLabels (o a b : List S57) (ho : o.length ≤ 4194304) (ha : a.length ≤ 4194304) (hb : b.length ≤ 4194304) (k : Nat) (hk : 4194305 < k) : impl_MergeLabels.f k o a b = some (merged o a b) := by
  unfold impl_MergeLabels.f merged
  obtain ⟨k, rfl⟩ : ∃ m, k = m + 1 := ⟨k - 1, by omega⟩
  rw [implSameShape o a ho ha _ (by omega)]
  simp only [Option.bind_some]
  rw [implSameShape o b ho hb _ (by omega)]
  simp only [Option.bind_some]
  cases h1 : sameShape o a
  · simp [impl_MergeLabels.j0]
  · cases h2 : sameShape o b
    · simp [impl_MergeLabels.j0]
    · have e1 := sameShape_length h1
      have e2 := sameShape_length h2
      simp only [↓reduceIte, Bool.not_true, impl_MergeLabels.j0, Bool.false_eq_true, cloneN a ha, Option.bind_some, Bool.and_self]
      exact implMergeLoop o a b ho e1.symm e2.symm o.length 0 a [] k (by omega) e1.symm (Nat.le_refl _) (by omega)

theorem merged_length (o a b : List S57) : (merged o a b).1.length ≤ a.length ∧ (merged o a b).2.1.length ≤ o.length := by
  unfold merged
  split
  · have h := mergeGo_length o a b o.length 0 a []
    simp only [List.length_nil] at h
    exact ⟨by rw [h.1]; exact Nat.le_refl _, by simp only; omega⟩
  · exact ⟨Nat.zero_le _, Nat.zero_le _⟩
end Go.Proofs.Ytebaodiagljjfaa.X
