/- What it costs to take out and to put in. -/
import Derived.Test.YtockkelkdimehaaXTree
import Derived.Test.YtockkelkdimehaaXCostOk
import Derived.Test.YtockkelkdimehaaG127
import Derived.Test.YtockkelkdimehaaG52
import Derived.Test.YtockkelkdimehaaG66
namespace Go.Proofs.Ytockkelkdimehaa.X
open Go Go.RowKit Go.Proofs.YtockkelkdimehaaW.PrintWords Go.Proofs.YtockkelkdimehaaW.PrintLast Go.Proofs.YtockkelkdimehaaW.PrintMore Go.Proofs.Ytockkelkdimehaa.P

def delC (d i r : List Int) (a : Int) : Int := if okC d i r && decide (0 ≤ a ∧ a ≤ 5) then d.getD a.toNat 0 else 0
def insC (d i r : List Int) (a : Int) : Int := if okC d i r && decide (0 ≤ a ∧ a ≤ 5) then i.getD a.toNat 0 else 0
theorem delC_bound (d i r : List Int) (a : Int) : 0 ≤ delC d i r a ∧ delC d i r a ≤ 1000 := by
  unfold delC; split
  · rename_i h; simp only [Bool.and_eq_true] at h; exact getD_bound (okC_parts h.1).1.2 _
  · omega
theorem insC_bound (d i r : List Int) (a : Int) : 0 ≤ insC d i r a ∧ insC d i r a ≤ 1000 := by
  unfold insC; split
  · rename_i h; simp only [Bool.and_eq_true] at h; exact getD_bound (okC_parts h.1).2.1.2 _
  · omega

theorem specDelCost (d i r : List Int) (a : Int) (hd : d.length ≤ 4194304) (hi : i.length ≤ 4194304) (hr : r.length ≤ 4194304) (k : Nat) (hk : 4194305 < k) : spec_DelCost.f k d i r a = some (delC d i r a) := by
  unfold spec_DelCost.f delC
  rw [specCostOk d i r hd hi hr k hk, specLabelOk]
  simp only [Option.bind_some]
  cases hc : okC d i r
  · rfl
  by_cases hl : 0 ≤ a ∧ a ≤ 5
  · have := (okC_parts hc).1.1
    rw [if_pos rfl, if_pos (by simpa using hl), if_pos hl.1, if_pos (by omega)]
    simp [hl, rd]
  · simp [hl]
theorem implDelCost (d i r : List Int) (a : Int) (hd : d.length ≤ 4194304) (hi : i.length ≤ 4194304) (hr : r.length ≤ 4194304) (k : Nat) (hk : 4194305 < k) : impl_DelCost.f k d i r a = some (delC d i r a) := by
  unfold impl_DelCost.f delC
  rw [implCostOk d i r hd hi hr k hk, implLabelOk]
  simp only [Option.bind_some]
  cases hc : okC d i r
  · rfl
  by_cases hl : 0 ≤ a ∧ a ≤ 5
  · have := (okC_parts hc).1.1
    rw [if_pos rfl, if_pos (by simpa using hl), if_pos hl.1, if_pos (by omega)]
    simp [hl, rd]
  · simp [hl]
theorem specInsCost (d i r : List Int) (a : Int) (hd : d.length ≤ 4194304) (hi : i.length ≤ 4194304) (hr : r.length ≤ 4194304) (k : Nat) (hk : 4194305 < k) : spec_InsCost.f k d i r a = some (insC d i r a) := by
  unfold spec_InsCost.f insC
  rw [specCostOk d i r hd hi hr k hk, specLabelOk]
  simp only [Option.bind_some]
  cases hc : okC d i r
  · rfl
  by_cases hl : 0 ≤ a ∧ a ≤ 5
  · have := (okC_parts hc).2.1.1
    rw [if_pos rfl, if_pos (by simpa using hl), if_pos hl.1, if_pos (by omega)]
    simp [hl, rd]
  · simp [hl]
theorem implInsCost (d i r : List Int) (a : Int) (hd : d.length ≤ 4194304) (hi : i.length ≤ 4194304) (hr : r.length ≤ 4194304) (k : Nat) (hk : 4194305 < k) : impl_InsCost.f k d i r a = some (insC d i r a) := by
  unfold impl_InsCost.f insC
  rw [implCostOk d i r hd hi hr k hk, implLabelOk]
  simp only [Option.bind_some]
  cases hc : okC d i r
  · rfl
  by_cases hl : 0 ≤ a ∧ a ≤ 5
  · have := (okC_parts hc).2.1.1
    rw [if_pos rfl, if_pos (by simpa using hl), if_pos hl.1, if_pos (by omega)]
    simp [hl, rd]
  · simp [hl]

end Go.Proofs.Ytockkelkdimehaa.X
