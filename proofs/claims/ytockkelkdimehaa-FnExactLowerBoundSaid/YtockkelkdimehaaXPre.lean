/- PreLabels: the reference's and the program's both tell the labels in order, of a valid tree. -/
import Derived.Test.YtockkelkdimehaaXTree
import Derived.Test.YtockkelkdimehaaG20
import Derived.Test.YtockkelkdimehaaG43
namespace Go.Proofs.Ytockkelkdimehaa.X
open Go Go.RowKit Go.Proofs.YtockkelkdimehaaW.PrintWords Go.Proofs.YtockkelkdimehaaW.PrintLast Go.Proofs.YtockkelkdimehaaW.PrintMore Go.Proofs.Ytockkelkdimehaa.P
theorem getD_zp {xs : List S59} {i : Nat} (h : i < xs.length) : xs.getD i z59 = xs[i] := B.getD_lt h

def preLabels (l : List S59) : List Int := if okT l then l.map S59.f0 else []
theorem preLabels_length (l : List S59) : (preLabels l).length ≤ 24 := by
  unfold preLabels
  split
  · rename_i h; rw [List.length_map]; exact (okT_len h).2
  · simp

theorem specPreLabels (l : List S59) (hl : l.length ≤ 4194304) (k : Nat) (hk : l.length + l.length + 1 < k) : spec_PreLabels.f k l = some (preLabels l) := by
  unfold spec_PreLabels.f preLabels
  cases hok : okT l with
  | false =>
    obtain ⟨k, rfl⟩ : ∃ m, k = m + 1 := ⟨k - 1, by omega⟩
    simp only [spec_PreLabels.l0]
    rw [specTreeOk l hl k (by omega), hok]
    simp only [Option.bind_some]
    split <;> simp
  | true =>
    have h := B.loopk (fun k i => spec_PreLabels.l0 k l ((l.take i).map S59.f0) (i : Int)) l.length (l.length + 1) (fun _ => some (l.map S59.f0))
      (fun k _ => by simp only [spec_PreLabels.l0]; rw [if_neg (by omega), List.take_length])
      (fun k i hb hi ih => by
        have a1 : (i : Int) < (l.length : Int) := by omega
        have a2 : ((l.take i).map S59.f0).length < 17592186044416 := by rw [List.length_map, List.length_take]; omega
        have a3 : 0 ≤ (i : Int) := by omega
        simp only [spec_PreLabels.l0, a1, a2, a3, ↓reduceIte, B.wsucc (show i < 9223372036854775807 by omega), rdNode]
        rw [specTreeOk l hl k (by omega), hok]
        simp only [Option.bind_some, ↓reduceIte]
        rw [← B.take_snoc l S59.f0 hi] at ih
        rw [getD_zp hi]
        exact ih) k 0 (by omega) (by omega)
    exact h

theorem implPreLabels (l : List S59) (hl : l.length ≤ 4194304) (k : Nat) (hk : l.length + 1 < k) : impl_PreLabels.f k l = some (preLabels l) := by
  unfold impl_PreLabels.f preLabels
  rw [implTreeOk l hl k (by omega)]
  simp only [Option.bind_some]
  cases hok : okT l with
  | false => simp
  | true =>
    simp only [↓reduceIte]
    have h := B.loop (fun k i => impl_PreLabels.l0 k ((l.take i).map S59.f0) l (l.length : Int) (i : Int)) l.length (fun _ => some (l.map S59.f0))
      (fun k => by simp only [impl_PreLabels.l0]; rw [if_neg (by omega), List.take_length])
      (fun k i hi ih => by
        have a1 : (i : Int) < (l.length : Int) := by omega
        have a2 : ((l.take i).map S59.f0).length < 17592186044416 := by rw [List.length_map, List.length_take]; omega
        have a3 : 0 ≤ (i : Int) := by omega
        simp only [impl_PreLabels.l0, a1, a2, a3, ↓reduceIte, B.wsucc (show i < 9223372036854775807 by omega), rdNode]
        rw [← B.take_snoc l S59.f0 hi] at ih
        rw [getD_zp hi]
        exact ih) k 0 (by omega) (by omega)
    exact h
end Go.Proofs.Ytockkelkdimehaa.X
