/- The law FnExactInsTree, as a statement over numbers and lists: for any list of nodes and any costs the law's function answers true. -/
import Derived.Test.YtlniclcfmaofhaaXCost
import Derived.Test.YtlniclcfmaofhaaXNodes
import Derived.Test.YtlniclcfmaofhaaStFnExactInsTree
namespace Go.Proofs.Ytlniclcfmaofhaa.Pure
open Go Go.RowKit Go.Proofs.YtlniclcfmaofhaaW.PrintWords Go.Proofs.YtlniclcfmaofhaaW.PrintLast Go.Proofs.YtlniclcfmaofhaaW.PrintMore Go.Proofs.Ytlniclcfmaofhaa.P Go.Proofs.Ytlniclcfmaofhaa.X
theorem specInsTree (l : List S82) (d i r : List Int) (hl : l.length ≤ 1048576) (hd : d.length ≤ 4194304) (hi : i.length ≤ 4194304) (hr : r.length ≤ 4194304) (k : Nat) (hk : 6000000 < k) :
    spec_InsTree.f k l d i r = some (if okT l then l.foldl (fun n x => n + insC d i r x.f0) 0 else 0) := by
  unfold spec_InsTree.f
  cases hok : okT l with
  | false =>
    obtain ⟨k, rfl⟩ : ∃ m, k = m + 1 := ⟨k - 1, by omega⟩
    simp only [spec_InsTree.l0]
    rw [specTreeOk l (by omega) k (by omega), hok]
    simp only [Option.bind_some]
    split <;> simp
  | true =>
    have hlen := okT_len hok
    have h := B.loopI (fun k j => spec_InsTree.l0 k l ((l.take j).foldl (fun n x => n + insC d i r x.f0) 0) (j : Int) d i r) l.length 5000000 (fun j => 0 ≤ (l.take j).foldl (fun n x => n + insC d i r x.f0) 0 ∧ (l.take j).foldl (fun n x => n + insC d i r x.f0) 0 ≤ 1000 * (j : Int)) (fun _ => some (l.foldl (fun n x => n + insC d i r x.f0) 0))
      (fun k _ _ => by simp only [spec_InsTree.l0]; rw [if_neg (by omega), List.take_length])
      (fun k j hb hj hI ih => by
        have a1 : (j : Int) < (l.length : Int) := by omega
        have a3 : 0 ≤ (j : Int) := by omega
        have hc := insC_bound d i r l[j].f0
        simp only [spec_InsTree.l0, a1, a3, ↓reduceIte, B.wsucc (show j < 9223372036854775807 by omega), rdNode, B.getD_lt hj]
        rw [specTreeOk l (by omega) k (by omega), hok, specInsCost d i r _ hd hi hr k (by omega)]
        simp only [Option.bind_some, ↓reduceIte]
        rw [B.wid (by omega) (by omega)]
        rw [B.foldl_take _ _ l hj] at ih
        exact ih (by constructor <;> omega)) k 0 (by omega) (by simp) (by omega)
    exact h

theorem implInsTree (l : List S82) (d i r : List Int) (hl : l.length ≤ 1048576) (hd : d.length ≤ 4194304) (hi : i.length ≤ 4194304) (hr : r.length ≤ 4194304) (k : Nat) (hk : 6000000 < k) :
    impl_InsTree.f k l d i r = some (if okT l then l.foldl (fun n x => n + insC d i r x.f0) 0 else 0) := by
  unfold impl_InsTree.f
  rw [implTreeOk l (by omega) k (by omega)]
  simp only [Option.bind_some]
  cases hok : okT l with
  | false => simp
  | true =>
    simp only [↓reduceIte]
    have hlen := okT_len hok
    have h := B.loopI (fun k j => impl_InsTree.l0 k ((l.take j).foldl (fun n x => n + insC d i r x.f0) 0) l (l.length : Int) (j : Int) d i r) l.length 5000000 (fun j => 0 ≤ (l.take j).foldl (fun n x => n + insC d i r x.f0) 0 ∧ (l.take j).foldl (fun n x => n + insC d i r x.f0) 0 ≤ 1000 * (j : Int)) (fun _ => some (l.foldl (fun n x => n + insC d i r x.f0) 0))
      (fun k _ _ => by simp only [impl_InsTree.l0]; rw [if_neg (by omega), List.take_length])
      (fun k j hb hj hI ih => by
        have a1 : (j : Int) < (l.length : Int) := by omega
        have a3 : 0 ≤ (j : Int) := by omega
        have hc := insC_bound d i r l[j].f0
        simp only [impl_InsTree.l0, a1, a3, ↓reduceIte, B.wsucc (show j < 9223372036854775807 by omega), rdNode, B.getD_lt hj]
        rw [implInsCost d i r _ hd hi hr k (by omega)]
        simp only [Option.bind_some]
        rw [B.wid (by omega) (by omega)]
        rw [B.foldl_take _ _ l hj] at ih
        exact ih (by constructor <;> omega)) k 0 (by omega) (by simp) (by omega)
    exact h

theorem FnExactInsTree : fnExactInsTree.Pure := by
  intro l0 d i r h0 hd hi hr
  refine ⟨8000000, ?_⟩
  unfold laws_FnExactInsTree.f
  rw [szNodeS l0 _ (by omega) (by omega) h0.1]
  simp only [Option.bind_some]
  by_cases hs : (1048576 : Int) < (l0.length : Int)
  · rw [if_pos hs]; rfl
  rw [if_neg hs, if_neg (by omega)]
  rcases szCost d i r (1048576 - (l0.length : Int)) (by omega) (by omega) hd.1 hi.1 hr.1 with hz | ⟨hz, hz0⟩
  · rw [hz]; rfl
  rw [hz]
  simp only [Option.bind_some]
  rw [if_neg (by omega), toNodeS l0 (by omega) _ (by omega), toCost d i r (by omega) (by omega) (by omega) _ (by omega)]
  simp only [Option.bind_some]
  have m0 : (l0.map nd).length ≤ 1048576 := by rw [List.length_map]; omega
  rw [specInsTree _ _ _ _ m0 (by omega) (by omega) (by omega) _ (by omega), implInsTree _ _ _ _ m0 (by omega) (by omega) (by omega) _ (by omega)]
  simp only [Option.bind_some, ↓reduceIte]
  rw [eqNodeS _ (by omega) _ (by omega), eqCost d i r (by omega) (by omega) (by omega) _ (by omega)]
  simp
end Go.Proofs.Ytlniclcfmaofhaa.Pure
