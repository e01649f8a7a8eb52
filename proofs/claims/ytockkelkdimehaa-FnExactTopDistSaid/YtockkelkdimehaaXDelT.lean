/- What it costs to take out a whole tree, or to put one in. -/
import Derived.Test.YtockkelkdimehaaXCost
import Derived.Test.YtockkelkdimehaaXEv
import Derived.Test.YtockkelkdimehaaG127
import Derived.Test.YtockkelkdimehaaG52
import Derived.Test.YtockkelkdimehaaG66
namespace Go.Proofs.Ytockkelkdimehaa.X
open Go Go.RowKit Go.Proofs.YtockkelkdimehaaW.PrintWords Go.Proofs.YtockkelkdimehaaW.PrintLast Go.Proofs.YtockkelkdimehaaW.PrintMore Go.Proofs.Ytockkelkdimehaa.P
def delT (l : List S59) (d i r : List Int) : Int := if okT l then l.foldl (fun n x => n + delC d i r x.f0) 0 else 0
def insT (l : List S59) (d i r : List Int) : Int := if okT l then l.foldl (fun n x => n + insC d i r x.f0) 0 else 0
theorem fold_bound (f : S59 → Int) (h : ∀ x, 0 ≤ f x ∧ f x ≤ 1000) : ∀ (l : List S59) (n : Int), n ≤ l.foldl (fun n x => n + f x) n ∧ l.foldl (fun n x => n + f x) n ≤ n + 1000 * (l.length : Int) := by
  intro l
  induction l with
  | nil => intro n; simp
  | cons x l ih =>
    intro n
    have h1 := ih (n + f x)
    have h2 := h x
    simp only [List.foldl_cons, List.length_cons]
    constructor <;> omega
theorem delT_bound (l : List S59) (d i r : List Int) : 0 ≤ delT l d i r ∧ delT l d i r ≤ 24000 := by
  unfold delT
  split
  · rename_i h
    have h1 := okT_len h
    have h2 := fold_bound (fun x => delC d i r x.f0) (fun x => delC_bound d i r x.f0) l 0
    constructor <;> omega
  · omega
theorem insT_bound (l : List S59) (d i r : List Int) : 0 ≤ insT l d i r ∧ insT l d i r ≤ 24000 := by
  unfold insT
  split
  · rename_i h
    have h1 := okT_len h
    have h2 := fold_bound (fun x => insC d i r x.f0) (fun x => insC_bound d i r x.f0) l 0
    constructor <;> omega
  · omega

theorem specDelTree (l : List S59) (d i r : List Int) (hl : l.length ≤ 1048576) (hd : d.length ≤ 4194304) (hi : i.length ≤ 4194304) (hr : r.length ≤ 4194304) (k : Nat) (hk : 6000000 < k) :
    spec_DelTree.f k l d i r = some (delT l d i r) := by
  unfold spec_DelTree.f delT
  cases hok : okT l with
  | false =>
    obtain ⟨k, rfl⟩ : ∃ m, k = m + 1 := ⟨k - 1, by omega⟩
    simp only [spec_DelTree.l0]
    rw [specTreeOk l (by omega) k (by omega), hok]
    simp only [Option.bind_some]
    split <;> simp
  | true =>
    have hlen := okT_len hok
    have h := B.loopI (fun k j => spec_DelTree.l0 k l ((l.take j).foldl (fun n x => n + delC d i r x.f0) 0) (j : Int) d i r) l.length 5000000 (fun j => 0 ≤ (l.take j).foldl (fun n x => n + delC d i r x.f0) 0 ∧ (l.take j).foldl (fun n x => n + delC d i r x.f0) 0 ≤ 1000 * (j : Int)) (fun _ => some (l.foldl (fun n x => n + delC d i r x.f0) 0))
      (fun k _ _ => by simp only [spec_DelTree.l0]; rw [if_neg (by omega), List.take_length])
      (fun k j hb hj hI ih => by
        have a1 : (j : Int) < (l.length : Int) := by omega
        have a3 : 0 ≤ (j : Int) := by omega
        have hc := delC_bound d i r l[j].f0
        simp only [spec_DelTree.l0, a1, a3, ↓reduceIte, B.wsucc (show j < 9223372036854775807 by omega), rdNode, B.getD_lt hj]
        rw [specTreeOk l (by omega) k (by omega), hok, specDelCost d i r _ hd hi hr k (by omega)]
        simp only [Option.bind_some, ↓reduceIte]
        rw [B.wid (by omega) (by omega)]
        rw [B.foldl_take _ _ l hj] at ih
        exact ih (by constructor <;> omega)) k 0 (by omega) (by simp) (by omega)
    exact h

theorem implDelTree (l : List S59) (d i r : List Int) (hl : l.length ≤ 1048576) (hd : d.length ≤ 4194304) (hi : i.length ≤ 4194304) (hr : r.length ≤ 4194304) (k : Nat) (hk : 6000000 < k) :
    impl_DelTree.f k l d i r = some (delT l d i r) := by
  unfold impl_DelTree.f delT
  rw [implTreeOk l (by omega) k (by omega)]
  simp only [Option.bind_some]
  cases hok : okT l with
  | false => simp
  | true =>
    simp only [↓reduceIte]
    have hlen := okT_len hok
    have h := B.loopI (fun k j => impl_DelTree.l0 k ((l.take j).foldl (fun n x => n + delC d i r x.f0) 0) l (l.length : Int) (j : Int) d i r) l.length 5000000 (fun j => 0 ≤ (l.take j).foldl (fun n x => n + delC d i r x.f0) 0 ∧ (l.take j).foldl (fun n x => n + delC d i r x.f0) 0 ≤ 1000 * (j : Int)) (fun _ => some (l.foldl (fun n x => n + delC d i r x.f0) 0))
      (fun k _ _ => by simp only [impl_DelTree.l0]; rw [if_neg (by omega), List.take_length])
      (fun k j hb hj hI ih => by
        have a1 : (j : Int) < (l.length : Int) := by omega
        have a3 : 0 ≤ (j : Int) := by omega
        have hc := delC_bound d i r l[j].f0
        simp only [impl_DelTree.l0, a1, a3, ↓reduceIte, B.wsucc (show j < 9223372036854775807 by omega), rdNode, B.getD_lt hj]
        rw [implDelCost d i r _ hd hi hr k (by omega)]
        simp only [Option.bind_some]
        rw [B.wid (by omega) (by omega)]
        rw [B.foldl_take _ _ l hj] at ih
        exact ih (by constructor <;> omega)) k 0 (by omega) (by simp) (by omega)
    exact h

theorem specInsTree (l : List S59) (d i r : List Int) (hl : l.length ≤ 1048576) (hd : d.length ≤ 4194304) (hi : i.length ≤ 4194304) (hr : r.length ≤ 4194304) (k : Nat) (hk : 6000000 < k) :
    spec_InsTree.f k l d i r = some (insT l d i r) := by
  unfold spec_InsTree.f insT
  cases hok : okT l with
  | false =>
    obtain ⟨k, rfl⟩ : ∃ m, k = m + 1 := ⟨k - 1, by omega⟩
    simp only [spec_InsTree.l0]
    rw [specTreeOk l (by omega) k (by omega), hok]
    simp only [Option.bind_some]
    split <;> simp
  | true =>
    have hlen := okT_len hok
    have h := B.loopI (fun k j => spec_InsTree.l0 k l ((l.take j).foldl (fun n x => n + insC d i r x.f0) 0) (j : Int) d i r) l.length 5000000 (fun j => 0 ≤ (l.take j).foldl (fun n x => n + insC d i r x.f0) 0 ∧ (l.take j).foldl (fun n x => n + insC d i r x.f0) 0 ≤ 1000 * (j : Int)) (fun _ => some (l.foldl (fun n x => n + insC d i r x.f0) 0))
      (fun k _ _ => by simp only [spec_InsTree.l0]; rw [if_neg (by omega), List.take_length])
      (fun k j hb hj hI ih => by
        have a1 : (j : Int) < (l.length : Int) := by omega
        have a3 : 0 ≤ (j : Int) := by omega
        have hc := insC_bound d i r l[j].f0
        simp only [spec_InsTree.l0, a1, a3, ↓reduceIte, B.wsucc (show j < 9223372036854775807 by omega), rdNode, B.getD_lt hj]
        rw [specTreeOk l (by omega) k (by omega), hok, specInsCost d i r _ hd hi hr k (by omega)]
        simp only [Option.bind_some, ↓reduceIte]
        rw [B.wid (by omega) (by omega)]
        rw [B.foldl_take _ _ l hj] at ih
        exact ih (by constructor <;> omega)) k 0 (by omega) (by simp) (by omega)
    exact h

theorem implInsTree (l : List S59) (d i r : List Int) (hl : l.length ≤ 1048576) (hd : d.length ≤ 4194304) (hi : i.length ≤ 4194304) (hr : r.length ≤ 4194304) (k : Nat) (hk : 6000000 < k) :
    impl_InsTree.f k l d i r = some (insT l d i r) := by
  unfold impl_InsTree.f insT
  rw [implTreeOk l (by omega) k (by omega)]
  simp only [Option.bind_some]
  cases hok : okT l with
  | false => simp
  | true =>
    simp only [↓reduceIte]
    have hlen := okT_len hok
    have h := B.loopI (fun k j => impl_InsTree.l0 k ((l.take j).foldl (fun n x => n + insC d i r x.f0) 0) l (l.length : Int) (j : Int) d i r) l.length 5000000 (fun j => 0 ≤ (l.take j).foldl (fun n x => n + insC d i r x.f0) 0 ∧ (l.take j).foldl (fun n x => n + insC d i r x.f0) 0 ≤ 1000 * (j : Int)) (fun _ => some (l.foldl (fun n x => n + insC d i r x.f0) 0))
      (fun k _ _ => by simp only [impl_InsTree.l0]; rw [if_neg (by omega), List.take_length])
      (fun k j hb hj hI ih => by
        have a1 : (j : Int) < (l.length : Int) := by omega
        have a3 : 0 ≤ (j : Int) := by omega
        have hc := insC_bound d i r l[j].f0
        simp only [impl_InsTree.l0, a1, a3, ↓reduceIte, B.wsucc (show j < 9223372036854775807 by omega), rdNode, B.getD_lt hj]
        rw [implInsCost d i r _ hd hi hr k (by omega)]
        simp only [Option.bind_some]
        rw [B.wid (by omega) (by omega)]
        rw [B.foldl_take _ _ l hj] at ih
        exact ih (by constructor <;> omega)) k 0 (by omega) (by simp) (by omega)
    exact h

theorem evDelT (l : List S59) (d i r : List Int) (hl : l.length ≤ 1048576) (hd : d.length ≤ 4194304) (hi : i.length ≤ 4194304) (hr : r.length ≤ 4194304) : B.Ev (fun k => spec_DelTree.f k l d i r) (delT l d i r) := B.Ev.of 6000000 (specDelTree l d i r hl hd hi hr)
theorem evDelT' (l : List S59) (d i r : List Int) (hl : l.length ≤ 1048576) (hd : d.length ≤ 4194304) (hi : i.length ≤ 4194304) (hr : r.length ≤ 4194304) : B.Ev (fun k => impl_DelTree.f k l d i r) (delT l d i r) := B.Ev.of 6000000 (implDelTree l d i r hl hd hi hr)
theorem evInsT (l : List S59) (d i r : List Int) (hl : l.length ≤ 1048576) (hd : d.length ≤ 4194304) (hi : i.length ≤ 4194304) (hr : r.length ≤ 4194304) : B.Ev (fun k => spec_InsTree.f k l d i r) (insT l d i r) := B.Ev.of 6000000 (specInsTree l d i r hl hd hi hr)
theorem evInsT' (l : List S59) (d i r : List Int) (hl : l.length ≤ 1048576) (hd : d.length ≤ 4194304) (hi : i.length ≤ 4194304) (hr : r.length ≤ 4194304) : B.Ev (fun k => impl_InsTree.f k l d i r) (insT l d i r) := B.Ev.of 6000000 (implInsTree l d i r hl hd hi hr)
end Go.Proofs.Ytockkelkdimehaa.X
