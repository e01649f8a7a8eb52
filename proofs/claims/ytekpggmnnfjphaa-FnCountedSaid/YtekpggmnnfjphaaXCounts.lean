/- LabelCounts, HeightOf, DepthCounts, CountBound: the reference's and the program's tell the same lists and numbers. -/
import Derived.Test.YtekpggmnnfjphaaXShape
import Derived.Test.YtekpggmnnfjphaaG10
namespace Go.Proofs.Ytekpggmnnfjphaa.X
open Go Go.RowKit Go.Proofs.YtekpggmnnfjphaaW.PrintWords Go.Proofs.YtekpggmnnfjphaaW.PrintLast Go.Proofs.YtekpggmnnfjphaaW.PrintMore Go.Proofs.Ytekpggmnnfjphaa.P

/-- One more at place n. -/
def bump (x : List Int) (n : Int) : List Int := x.set n.toNat (wrap64 (rd x n + 1))
theorem bump_length (x : List Int) (n : Int) : (bump x n).length = x.length := by unfold bump; simp
def tally (f : S48 → Int) (m : Nat) (l : List S48) : List Int := l.foldl (fun x n => bump x (f n)) (List.replicate m 0)
theorem tally_length (f : S48 → Int) (m : Nat) (l : List S48) : (tally f m l).length = m := by
  unfold tally
  have h : ∀ (x : List Int), (l.foldl (fun x n => bump x (f n)) x).length = x.length := by
    induction l with
    | nil => intro x; rfl
    | cons a l ih => intro x; rw [List.foldl_cons, ih, bump_length]
  rw [h, List.length_replicate]
def labelCounts (l : List S48) : List Int := if okT l then tally S48.f0 6 l else []
theorem labelCounts_length (l : List S48) : (labelCounts l).length = if okT l then 6 else 0 := by
  unfold labelCounts; split
  · exact tally_length _ _ _
  · rfl

theorem implLabelCounts (l : List S48) (hl : l.length ≤ 4194304) (k : Nat) (hk : l.length + 1 < k) : impl_LabelCounts.f k l = some (labelCounts l) := by
  unfold impl_LabelCounts.f labelCounts
  rw [implTreeOk l hl k (by omega)]
  simp only [Option.bind_some]
  cases hok : okT l with
  | false => simp
  | true =>
    simp only [↓reduceIte]
    rw [if_pos (by omega)]
    have h := B.loop (fun k i => impl_LabelCounts.l0 k (tally S48.f0 6 (l.take i)) l (l.length : Int) (i : Int)) l.length (fun _ => some (tally S48.f0 6 l))
      (fun k => by simp only [impl_LabelCounts.l0]; rw [if_neg (by omega), List.take_length])
      (fun k i hi ih => by
        have a1 : (i : Int) < (l.length : Int) := by omega
        have a3 : 0 ≤ (i : Int) := by omega
        have hv := (okT_at hok hi).1
        have el : lab l i = l[i].f0 := by unfold lab; rw [getD_z hi]
        rw [el] at hv
        have a4 : 0 ≤ l[i].f0 := hv.1
        have a5 : l[i].f0 < ((tally S48.f0 6 (l.take i)).length : Int) := by rw [tally_length]; omega
        simp only [impl_LabelCounts.l0, a1, a3, ↓reduceIte, B.wsucc (show i < 9223372036854775807 by omega), rdNode, getD_z hi, a4, a5]
        have e : tally S48.f0 6 (l.take (i + 1)) = bump (tally S48.f0 6 (l.take i)) l[i].f0 := B.foldl_take _ _ l hi
        rw [e] at ih
        exact ih) k 0 (by omega) (by omega)
    exact h

/-- The height, as a number. -/
def heightOf (l : List S48) : Int := if okT l then l.foldl (fun m n => mx m (n.f1 + 1)) 0 else 0
theorem mx_max (a b : Int) : mx a b = max a b := by unfold mx; omega
theorem height_bounds (l : List S48) (m : Int) (b : Int) (hm : m ≤ b) (h : ∀ n ∈ l, n.f1 + 1 ≤ b) : m ≤ l.foldl (fun m n => mx m (n.f1 + 1)) m ∧ l.foldl (fun m n => mx m (n.f1 + 1)) m ≤ b ∧ ∀ n ∈ l, n.f1 + 1 ≤ l.foldl (fun m n => mx m (n.f1 + 1)) m := by
  induction l generalizing m with
  | nil => simp; omega
  | cons a l ih =>
    rw [List.foldl_cons]
    have h1 := h a (by simp)
    have e := mx_max m (a.f1 + 1)
    obtain ⟨h2, h3, h4⟩ := ih (mx m (a.f1 + 1)) (by omega) (fun n hn => h n (by simp [hn]))
    refine ⟨by omega, h3, fun n hn => ?_⟩
    rcases List.mem_cons.1 hn with rfl | hn
    · omega
    · exact h4 n hn
theorem okT_mem {l : List S48} (h : okT l = true) {n : S48} (hn : n ∈ l) : (0 ≤ n.f0 ∧ n.f0 ≤ 5) ∧ 0 ≤ n.f1 ∧ n.f1 ≤ 12 := by
  obtain ⟨i, hi, rfl⟩ := List.mem_iff_getElem.1 hn
  have := okT_at h hi
  unfold lab dep at this
  rw [getD_z hi] at this
  exact ⟨this.1, this.2.1⟩
theorem heightOf_bounds {l : List S48} (h : okT l = true) : 1 ≤ heightOf l ∧ heightOf l ≤ 13 ∧ ∀ n ∈ l, n.f1 + 1 ≤ heightOf l := by
  unfold heightOf
  rw [if_pos h]
  obtain ⟨h1, h2, h3⟩ := height_bounds l 0 13 (by omega) (fun n hn => by have := (okT_mem h hn).2; omega)
  refine ⟨?_, h2, h3⟩
  have hl := (okT_len h).1
  have hm : l[0] ∈ l := List.getElem_mem _
  have := h3 _ hm
  have := (okT_mem h hm).2
  omega

theorem specHeightOf (l : List S48) (hl : l.length ≤ 4194304) (k : Nat) (hk : l.length + l.length + 1 < k) : spec_HeightOf.f k l = some (heightOf l) := by
  unfold spec_HeightOf.f heightOf
  cases hok : okT l with
  | false =>
    obtain ⟨k, rfl⟩ : ∃ m, k = m + 1 := ⟨k - 1, by omega⟩
    simp only [spec_HeightOf.l0]
    rw [specTreeOk l hl k (by omega), hok]
    simp only [Option.bind_some]
    split <;> simp
  | true =>
    have h := B.loopk (fun k i => spec_HeightOf.l0 k l ((l.take i).foldl (fun m n => mx m (n.f1 + 1)) 0) (i : Int)) l.length (l.length + 1) (fun _ => some (l.foldl (fun m n => mx m (n.f1 + 1)) 0))
      (fun k _ => by simp only [spec_HeightOf.l0]; rw [if_neg (by omega), List.take_length])
      (fun k i hb hi ih => by
        have a1 : (i : Int) < (l.length : Int) := by omega
        have a3 : 0 ≤ (i : Int) := by omega
        have hd := (okT_mem hok (List.getElem_mem hi)).2
        simp only [spec_HeightOf.l0, a1, a3, ↓reduceIte, B.wsucc (show i < 9223372036854775807 by omega), rdNode, getD_z hi]
        rw [specTreeOk l hl k (by omega), hok, B.wid (by omega) (by omega)]
        simp only [Option.bind_some, ↓reduceIte]
        rw [B.foldl_take _ _ l hi] at ih
        exact ih) k 0 (by omega) (by omega)
    exact h

theorem implHeightOf (l : List S48) (hl : l.length ≤ 4194304) (k : Nat) (hk : l.length + 1 < k) : impl_HeightOf.f k l = some (heightOf l) := by
  unfold impl_HeightOf.f heightOf
  rw [implTreeOk l hl k (by omega)]
  simp only [Option.bind_some]
  cases hok : okT l with
  | false => simp
  | true =>
    simp only [↓reduceIte]
    have h := B.loop (fun k i => impl_HeightOf.l0 k ((l.take i).foldl (fun m n => mx m (n.f1 + 1)) 0) l (l.length : Int) (i : Int)) l.length (fun _ => some (l.foldl (fun m n => mx m (n.f1 + 1)) 0))
      (fun k => by simp only [impl_HeightOf.l0]; rw [if_neg (by omega), List.take_length])
      (fun k i hi ih => by
        have a1 : (i : Int) < (l.length : Int) := by omega
        have a3 : 0 ≤ (i : Int) := by omega
        have hd := (okT_mem hok (List.getElem_mem hi)).2
        simp only [impl_HeightOf.l0, a1, a3, ↓reduceIte, B.wsucc (show i < 9223372036854775807 by omega), rdNode, getD_z hi]
        rw [B.wid (by omega) (by omega)]
        rw [B.foldl_take _ _ l hi] at ih
        exact ih) k 0 (by omega) (by omega)
    exact h

def depthCounts (l : List S48) : List Int := if okT l then tally S48.f1 (heightOf l).toNat l else []
theorem depthCounts_length (l : List S48) : (depthCounts l).length ≤ 13 := by
  unfold depthCounts; split
  · rename_i h; rw [tally_length]; have := heightOf_bounds h; omega
  · simp

theorem implDepthCounts (l : List S48) (hl : l.length ≤ 4194304) (k : Nat) (hk : l.length + 1 < k) : impl_DepthCounts.f k l = some (depthCounts l) := by
  unfold impl_DepthCounts.f depthCounts
  rw [implHeightOf l hl k (by omega)]
  simp only [Option.bind_some]
  cases hok : okT l with
  | false =>
    have e : heightOf l = 0 := by unfold heightOf; rw [hok]; rfl
    rw [e]
    simp
  | true =>
    have hb := heightOf_bounds hok
    rw [if_pos (by omega), if_pos (by omega), if_neg (by rw [List.length_replicate]; omega)]
    have h := B.loop (fun k i => impl_DepthCounts.l0 k (tally S48.f1 (heightOf l).toNat (l.take i)) l (l.length : Int) (i : Int)) l.length (fun _ => some (tally S48.f1 (heightOf l).toNat l))
      (fun k => by simp only [impl_DepthCounts.l0]; rw [if_neg (by omega), List.take_length])
      (fun k i hi ih => by
        have a1 : (i : Int) < (l.length : Int) := by omega
        have a3 : 0 ≤ (i : Int) := by omega
        have hd := (okT_mem hok (List.getElem_mem hi)).2
        have hh := hb.2.2 _ (List.getElem_mem hi)
        have a4 : 0 ≤ l[i].f1 := hd.1
        have a5 : l[i].f1 < ((tally S48.f1 (heightOf l).toNat (l.take i)).length : Int) := by rw [tally_length]; omega
        simp only [impl_DepthCounts.l0, a1, a3, ↓reduceIte, B.wsucc (show i < 9223372036854775807 by omega), rdNode, getD_z hi, a4, a5]
        have e : tally S48.f1 (heightOf l).toNat (l.take (i + 1)) = bump (tally S48.f1 (heightOf l).toNat (l.take i)) l[i].f1 := B.foldl_take _ _ l hi
        rw [e] at ih
        exact ih) k 0 (by omega) (by omega)
    exact h

end Go.Proofs.Ytekpggmnnfjphaa.X
