/- LabelCounts, HeightOf, DepthCounts, CountBound: the reference's and the program's tell the same lists and numbers. -/
import Derived.Test.YtlniclcfmaofhaaXShape
import Derived.Test.YtlniclcfmaofhaaG34
import Derived.Test.YtlniclcfmaofhaaG42
import Derived.Test.YtlniclcfmaofhaaG78
namespace Go.Proofs.Ytlniclcfmaofhaa.X
open Go Go.RowKit Go.Proofs.YtlniclcfmaofhaaW.PrintWords Go.Proofs.YtlniclcfmaofhaaW.PrintLast Go.Proofs.YtlniclcfmaofhaaW.PrintMore Go.Proofs.Ytlniclcfmaofhaa.P

/-- One more at place n. -/
def bump (x : List Int) (n : Int) : List Int := x.set n.toNat (wrap64 (rd x n + 1))
theorem bump_length (x : List Int) (n : Int) : (bump x n).length = x.length := by unfold bump; simp
def tally (f : S82 → Int) (m : Nat) (l : List S82) : List Int := l.foldl (fun x n => bump x (f n)) (List.replicate m 0)
theorem tally_length (f : S82 → Int) (m : Nat) (l : List S82) : (tally f m l).length = m := by
  unfold tally
  have h : ∀ (x : List Int), (l.foldl (fun x n => bump x (f n)) x).length = x.length := by
    induction l with
    | nil => intro x; rfl
    | cons a l ih => intro x; rw [List.foldl_cons, ih, bump_length]
  rw [h, List.length_replicate]
def labelCounts (l : List S82) : List Int := if okT l then tally S82.f0 6 l else []
theorem labelCounts_length (l : List S82) : (labelCounts l).length = if okT l then 6 else 0 := by
  unfold labelCounts; split
  · exact tally_length _ _ _
  · rfl

theorem specLabelCounts (l : List S82) (hl : l.length ≤ 4194304) (k : Nat) (hk : l.length + 1 < k) : spec_LabelCounts.f k l = some (labelCounts l) := by
  unfold spec_LabelCounts.f labelCounts
  rw [specTreeOk l hl k (by omega)]
  simp only [Option.bind_some]
  cases hok : okT l with
  | false => simp
  | true =>
    simp only [↓reduceIte]
    rw [if_pos (by omega)]
    have h := B.loop (fun k i => spec_LabelCounts.l0 k l (tally S82.f0 6 (l.take i)) (i : Int)) l.length (fun _ => some (tally S82.f0 6 l))
      (fun k => by simp only [spec_LabelCounts.l0]; rw [if_neg (by omega), List.take_length])
      (fun k i hi ih => by
        have a1 : (i : Int) < (l.length : Int) := by omega
        have a3 : 0 ≤ (i : Int) := by omega
        have hv := (okT_at hok hi).1
        have el : lab l i = l[i].f0 := by unfold lab; rw [getD_z hi]
        rw [el] at hv
        have a4 : 0 ≤ l[i].f0 := hv.1
        have a5 : l[i].f0 < ((tally S82.f0 6 (l.take i)).length : Int) := by rw [tally_length]; omega
        simp only [spec_LabelCounts.l0, a1, a3, ↓reduceIte, B.wsucc (show i < 9223372036854775807 by omega), rdNode, getD_z hi, a4, a5]
        have e : tally S82.f0 6 (l.take (i + 1)) = bump (tally S82.f0 6 (l.take i)) l[i].f0 := B.foldl_take _ _ l hi
        rw [e] at ih
        exact ih) k 0 (by omega) (by omega)
    exact h

theorem implLabelCounts (l : List S82) (hl : l.length ≤ 4194304) (k : Nat) (hk : l.length + 1 < k) : impl_LabelCounts.f k l = some (labelCounts l) := by
  unfold impl_LabelCounts.f labelCounts
  rw [implTreeOk l hl k (by omega)]
  simp only [Option.bind_some]
  cases hok : okT l with
  | false => simp
  | true =>
    simp only [↓reduceIte]
    rw [if_pos (by omega)]
    have h := B.loop (fun k i => impl_LabelCounts.l0 k (tally S82.f0 6 (l.take i)) l (l.length : Int) (i : Int)) l.length (fun _ => some (tally S82.f0 6 l))
      (fun k => by simp only [impl_LabelCounts.l0]; rw [if_neg (by omega), List.take_length])
      (fun k i hi ih => by
        have a1 : (i : Int) < (l.length : Int) := by omega
        have a3 : 0 ≤ (i : Int) := by omega
        have hv := (okT_at hok hi).1
        have el : lab l i = l[i].f0 := by unfold lab; rw [getD_z hi]
        rw [el] at hv
        have a4 : 0 ≤ l[i].f0 := hv.1
        have a5 : l[i].f0 < ((tally S82.f0 6 (l.take i)).length : Int) := by rw [tally_length]; omega
        simp only [impl_LabelCounts.l0, a1, a3, ↓reduceIte, B.wsucc (show i < 9223372036854775807 by omega), rdNode, getD_z hi, a4, a5]
        have e : tally S82.f0 6 (l.take (i + 1)) = bump (tally S82.f0 6 (l.take i)) l[i].f0 := B.foldl_take _ _ l hi
        rw [e] at ih
        exact ih) k 0 (by omega) (by omega)
    exact h

/-- The height, as a number. -/
def heightOf (l : List S82) : Int := if okT l then l.foldl (fun m n => mx m (n.f1 + 1)) 0 else 0
theorem mx_max (a b : Int) : mx a b = max a b := by unfold mx; omega
theorem height_bounds (l : List S82) (m : Int) (b : Int) (hm : m ≤ b) (h : ∀ n ∈ l, n.f1 + 1 ≤ b) : m ≤ l.foldl (fun m n => mx m (n.f1 + 1)) m ∧ l.foldl (fun m n => mx m (n.f1 + 1)) m ≤ b ∧ ∀ n ∈ l, n.f1 + 1 ≤ l.foldl (fun m n => mx m (n.f1 + 1)) m := by
  induction l generalizing m with
  | nil => simp; omega
  | cons a l ih =>
    rw [List.foldl_cons]
    have h1 := h a (by simp)
    have e := mx_max m (a.f1 + 1)
    obtain ⟨h2, h3, h4⟩ := ih (mx m (a.f1 + 1)) (by omega) (fun n hn => h n (by simp [hn]))
    refine ⟨by omega, h3, fun n hn => ?_⟩
    rcases List.mem_cons.1 hn with rfl | hn
    · omega
    · exact h4 n hn
theorem okT_mem {l : List S82} (h : okT l = true) {n : S82} (hn : n ∈ l) : (0 ≤ n.f0 ∧ n.f0 ≤ 5) ∧ 0 ≤ n.f1 ∧ n.f1 ≤ 12 := by
  obtain ⟨i, hi, rfl⟩ := List.mem_iff_getElem.1 hn
  have := okT_at h hi
  unfold lab dep at this
  rw [getD_z hi] at this
  exact ⟨this.1, this.2.1⟩
theorem heightOf_bounds {l : List S82} (h : okT l = true) : 1 ≤ heightOf l ∧ heightOf l ≤ 13 ∧ ∀ n ∈ l, n.f1 + 1 ≤ heightOf l := by
  unfold heightOf
  rw [if_pos h]
  obtain ⟨h1, h2, h3⟩ := height_bounds l 0 13 (by omega) (fun n hn => by have := (okT_mem h hn).2; omega)
  refine ⟨?_, h2, h3⟩
  have hl := (okT_len h).1
  have hm : l[0] ∈ l := List.getElem_mem _
  have := h3 _ hm
  have := (okT_mem h hm).2
  omega

theorem specHeightOf (l : List S82) (hl : l.length ≤ 4194304) (k : Nat) (hk : l.length + l.length + 1 < k) : spec_HeightOf.f k l = some (heightOf l) := by
  unfold spec_HeightOf.f heightOf
  cases hok : okT l with
  | false =>
    obtain ⟨k, rfl⟩ : ∃ m, k = m + 1 := ⟨k - 1, by omega⟩
    simp only [spec_HeightOf.l0]
    rw [specTreeOk l hl k (by omega), hok]
    simp only [Option.bind_some]
    split <;> simp
  | true =>
    have h := B.loopk (fun k i => spec_HeightOf.l0 k l ((l.take i).foldl (fun m n => mx m (n.f1 + 1)) 0) (i : Int)) l.length (l.length + 1) (fun _ => some (l.foldl (fun m n => mx m (n.f1 + 1)) 0))
      (fun k _ => by simp only [spec_HeightOf.l0]; rw [if_neg (by omega), List.take_length])
      (fun k i hb hi ih => by
        have a1 : (i : Int) < (l.length : Int) := by omega
        have a3 : 0 ≤ (i : Int) := by omega
        have hd := (okT_mem hok (List.getElem_mem hi)).2
        simp only [spec_HeightOf.l0, a1, a3, ↓reduceIte, B.wsucc (show i < 9223372036854775807 by omega), rdNode, getD_z hi]
        rw [specTreeOk l hl k (by omega), hok, B.wid (by omega) (by omega)]
        simp only [Option.bind_some, ↓reduceIte]
        rw [B.foldl_take _ _ l hi] at ih
        exact ih) k 0 (by omega) (by omega)
    exact h

theorem implHeightOf (l : List S82) (hl : l.length ≤ 4194304) (k : Nat) (hk : l.length + 1 < k) : impl_HeightOf.f k l = some (heightOf l) := by
  unfold impl_HeightOf.f heightOf
  rw [implTreeOk l hl k (by omega)]
  simp only [Option.bind_some]
  cases hok : okT l with
  | false => simp
  | true =>
    simp only [↓reduceIte]
    have h := B.loop (fun k i => impl_HeightOf.l0 k ((l.take i).foldl (fun m n => mx m (n.f1 + 1)) 0) l (l.length : Int) (i : Int)) l.length (fun _ => some (l.foldl (fun m n => mx m (n.f1 + 1)) 0))
      (fun k => by simp only [impl_HeightOf.l0]; rw [if_neg (by omega), List.take_length])
      (fun k i hi ih => by
        have a1 : (i : Int) < (l.length : Int) := by omega
        have a3 : 0 ≤ (i : Int) := by omega
        have hd := (okT_mem hok (List.getElem_mem hi)).2
        simp only [impl_HeightOf.l0, a1, a3, ↓reduceIte, B.wsucc (show i < 9223372036854775807 by omega), rdNode, getD_z hi]
        rw [B.wid (by omega) (by omega)]
        rw [B.foldl_take _ _ l hi] at ih
        exact ih) k 0 (by omega) (by omega)
    exact h

def depthCounts (l : List S82) : List Int := if okT l then tally S82.f1 (heightOf l).toNat l else []
theorem depthCounts_length (l : List S82) : (depthCounts l).length ≤ 13 := by
  unfold depthCounts; split
  · rename_i h; rw [tally_length]; have := heightOf_bounds h; omega
  · simp

theorem specDepthCounts (l : List S82) (hl : l.length ≤ 4194304) (k : Nat) (hk : l.length + l.length + 1 < k) : spec_DepthCounts.f k l = some (depthCounts l) := by
  unfold spec_DepthCounts.f depthCounts
  rw [specHeightOf l hl k (by omega)]
  simp only [Option.bind_some]
  cases hok : okT l with
  | false =>
    have e : heightOf l = 0 := by unfold heightOf; rw [hok]; rfl
    rw [e]
    rw [if_pos (by omega), if_pos (by omega)]
    obtain ⟨k, rfl⟩ : ∃ m, k = m + 1 := ⟨k - 1, by omega⟩
    simp only [spec_DepthCounts.l0]
    rw [specTreeOk l hl k (by omega), hok]
    simp only [Option.bind_some]
    split <;> simp
  | true =>
    have hb := heightOf_bounds hok
    rw [if_pos (by omega), if_pos (by omega)]
    have h := B.loopk (fun k i => spec_DepthCounts.l0 k l (tally S82.f1 (heightOf l).toNat (l.take i)) (i : Int)) l.length (l.length + 1) (fun _ => some (tally S82.f1 (heightOf l).toNat l))
      (fun k _ => by simp only [spec_DepthCounts.l0]; rw [if_neg (by omega), List.take_length])
      (fun k i hk' hi ih => by
        have a1 : (i : Int) < (l.length : Int) := by omega
        have a3 : 0 ≤ (i : Int) := by omega
        have hd := (okT_mem hok (List.getElem_mem hi)).2
        have hh := hb.2.2 _ (List.getElem_mem hi)
        have a4 : 0 ≤ l[i].f1 := hd.1
        have a5 : l[i].f1 < ((tally S82.f1 (heightOf l).toNat (l.take i)).length : Int) := by rw [tally_length]; omega
        simp only [spec_DepthCounts.l0, a1, a3, ↓reduceIte, B.wsucc (show i < 9223372036854775807 by omega), rdNode, getD_z hi, a4, a5]
        rw [specTreeOk l hl k (by omega), hok]
        simp only [Option.bind_some, ↓reduceIte]
        have e : tally S82.f1 (heightOf l).toNat (l.take (i + 1)) = bump (tally S82.f1 (heightOf l).toNat (l.take i)) l[i].f1 := B.foldl_take _ _ l hi
        rw [e] at ih
        exact ih) k 0 (by omega) (by omega)
    exact h

theorem implDepthCounts (l : List S82) (hl : l.length ≤ 4194304) (k : Nat) (hk : l.length + 1 < k) : impl_DepthCounts.f k l = some (depthCounts l) := by
  unfold impl_DepthCounts.f depthCounts
  rw [implHeightOf l hl k (by omega)]
  simp only [Option.bind_some]
  cases hok : okT l with
  | false =>
    have e : heightOf l = 0 := by unfold heightOf; rw [hok]; rfl
    rw [e]
    simp
  | true =>
    have hb := heightOf_bounds hok
    rw [if_pos (by omega), if_pos (by omega), if_neg (by rw [List.length_replicate]; omega)]
    have h := B.loop (fun k i => impl_DepthCounts.l0 k (tally S82.f1 (heightOf l).toNat (l.take i)) l (l.length : Int) (i : Int)) l.length (fun _ => some (tally S82.f1 (heightOf l).toNat l))
      (fun k => by simp only [impl_DepthCounts.l0]; rw [if_neg (by omega), List.take_length])
      (fun k i hi ih => by
        have a1 : (i : Int) < (l.length : Int) := by omega
        have a3 : 0 ≤ (i : Int) := by omega
        have hd := (okT_mem hok (List.getElem_mem hi)).2
        have hh := hb.2.2 _ (List.getElem_mem hi)
        have a4 : 0 ≤ l[i].f1 := hd.1
        have a5 : l[i].f1 < ((tally S82.f1 (heightOf l).toNat (l.take i)).length : Int) := by rw [tally_length]; omega
        simp only [impl_DepthCounts.l0, a1, a3, ↓reduceIte, B.wsucc (show i < 9223372036854775807 by omega), rdNode, getD_z hi, a4, a5]
        have e : tally S82.f1 (heightOf l).toNat (l.take (i + 1)) = bump (tally S82.f1 (heightOf l).toNat (l.take i)) l[i].f1 := B.foldl_take _ _ l hi
        rw [e] at ih
        exact ih) k 0 (by omega) (by omega)
    exact h

/-- The reference's and the program's CountBound go alike. -/
theorem countBoundLoop (x y : List Int) (hx : x.length = 6) (hy : y.length = 6) (k : Nat) (hk : 6 < k) (a b : Int) : ∃ r, spec_CountBound.l0 k x y a b 0 = some r ∧ impl_CountBound.l0 k x y a b 6 0 = some r := by
  suffices h : ∀ (d i k : Nat) (a b : Int), i ≤ 6 → 6 - i = d → d < k → ∃ r, spec_CountBound.l0 k x y a b (i : Int) = some r ∧ impl_CountBound.l0 k x y a b 6 (i : Int) = some r from h _ 0 k a b (by omega) rfl (by omega)
  intro d
  induction d with
  | zero =>
    intro i k a b hi hd hk
    obtain ⟨k, rfl⟩ : ∃ m, k = m + 1 := ⟨k - 1, by omega⟩
    refine ⟨mx a b, ?_, ?_⟩
    · simp only [spec_CountBound.l0]; rw [if_neg (by omega)]
    · simp only [impl_CountBound.l0]; rw [if_neg (by omega)]
  | succ d ih =>
    intro i k a b hi hd hk
    obtain ⟨k, rfl⟩ : ∃ m, k = m + 1 := ⟨k - 1, by omega⟩
    have a1 : (i : Int) < 6 := by omega
    have a2 : (i : Int) < (x.length : Int) := by omega
    have a4 : (i : Int) < (y.length : Int) := by omega
    have a3 : 0 ≤ (i : Int) := by omega
    simp only [spec_CountBound.l0, impl_CountBound.l0, a1, a2, a3, a4, ↓reduceIte, B.wsucc (show i < 9223372036854775807 by omega)]
    exact ih (i + 1) k _ _ (by omega) (by omega) (by omega)

theorem countBound (a b : List S82) (ha : a.length ≤ 4194304) (hb : b.length ≤ 4194304) (k : Nat) (hk : 4194306 < k) : ∃ r, spec_CountBound.f k a b = some r ∧ impl_CountBound.f k a b = some r := by
  unfold spec_CountBound.f impl_CountBound.f
  rw [specLabelCounts a ha k (by omega), specLabelCounts b hb k (by omega), implLabelCounts a ha k (by omega), implLabelCounts b hb k (by omega)]
  simp only [Option.bind_some]
  obtain ⟨k, rfl⟩ : ∃ m, k = m + 1 := ⟨k - 1, by omega⟩
  have la := labelCounts_length a
  have lb := labelCounts_length b
  cases ha' : okT a with
  | false =>
    rw [ha'] at la
    simp only [Bool.false_eq_true, ↓reduceIte] at la
    simp only [la, spec_CountBound.j0, impl_CountBound.j0]
    exact ⟨-1, by simp, by simp⟩
  | true =>
    rw [ha'] at la
    simp only [↓reduceIte] at la
    cases hb' : okT b with
    | false =>
      rw [hb'] at lb
      simp only [Bool.false_eq_true, ↓reduceIte] at lb
      simp only [la, lb, spec_CountBound.j0, impl_CountBound.j0]
      exact ⟨-1, by simp, by simp⟩
    | true =>
      rw [hb'] at lb
      simp only [↓reduceIte] at lb
      obtain ⟨r, h1, h2⟩ := countBoundLoop _ _ la lb k (by omega) 0 0
      simp only [la, lb, spec_CountBound.j0, impl_CountBound.j0]
      exact ⟨r, by simpa using h1, by simpa using h2⟩
end Go.Proofs.Ytlniclcfmaofhaa.X
