/- What a function answers once it is given enough steps: `Ev g v`. Small rules put such answers together. -/
import Derived.Test.YtockkelkdimehaaXBase
namespace Go.Proofs.Ytockkelkdimehaa.B
open Go Go.RowKit Go.Proofs.YtockkelkdimehaaW.PrintWords Go.Proofs.YtockkelkdimehaaW.PrintLast Go.Proofs.YtockkelkdimehaaW.PrintMore
def Ev {α : Type} (g : Nat → Option α) (v : α) : Prop := ∃ K, ∀ k, K ≤ k → g k = some v
theorem Ev.of {α : Type} {g : Nat → Option α} {v : α} (K : Nat) (h : ∀ k, K < k → g k = some v) : Ev g v := ⟨K + 1, fun k hk => h k hk⟩
theorem Ev.succ {α : Type} {g : Nat → Option α} {v : α} (h : Ev (fun k => g (k + 1)) v) : Ev g v := by
  obtain ⟨K, h⟩ := h
  refine ⟨K + 1, fun k hk => ?_⟩
  obtain ⟨m, rfl⟩ : ∃ m, k = m + 1 := ⟨k - 1, by omega⟩
  exact h m (by omega)
theorem Ev.pure {α : Type} (v : α) : Ev (fun _ => some v) v := ⟨0, fun _ _ => rfl⟩
theorem Ev.bind {α β : Type} {f : Nat → Option α} {g : Nat → α → Option β} {a : α} {v : β} (hf : Ev f a) (hg : Ev (fun k => g k a) v) : Ev (fun k => (f k).bind (g k)) v := by
  obtain ⟨K, hf⟩ := hf
  obtain ⟨L, hg⟩ := hg
  refine ⟨K + L, fun k hk => ?_⟩
  show (f k).bind (g k) = some v
  rw [hf k (by omega), Option.bind_some]
  exact hg k (by omega)
theorem Ev.ite {α : Type} {p : Prop} [Decidable p] {f g : Nat → Option α} {v : α} (hf : p → Ev f v) (hg : ¬p → Ev g v) : Ev (fun k => if p then f k else g k) v := by
  by_cases h : p
  · obtain ⟨K, hf⟩ := hf h; exact ⟨K, fun k hk => by show (if p then f k else g k) = some v; rw [if_pos h]; exact hf k hk⟩
  · obtain ⟨K, hg⟩ := hg h; exact ⟨K, fun k hk => by show (if p then f k else g k) = some v; rw [if_neg h]; exact hg k hk⟩
theorem Ev.eq {α : Type} {g : Nat → Option α} {v w : α} (h : Ev g v) (e : v = w) : Ev g w := e ▸ h
theorem Ev.ex {α : Type} {g : Nat → Option α} {v : α} (h : Ev g v) : ∃ k, g k = some v := by obtain ⟨K, h⟩ := h; exact ⟨K, h K (Nat.le_refl _)⟩
/-- A loop over i, i + 1, .., n, with what holds ahead of each round. -/
theorem Ev.loop {ρ : Type} {g : Nat → Nat → Option ρ} (n : Nat) (I : Nat → Prop) {v : ρ} (last : I n → Ev (fun k => g k n) v)
    (step : ∀ i, i < n → I i → (I (i + 1) → Ev (fun k => g k (i + 1)) v) → Ev (fun k => g k i) v) : ∀ i, i ≤ n → I i → Ev (fun k => g k i) v := by
  intro i hi
  obtain ⟨d, hd⟩ : ∃ d, n - i = d := ⟨_, rfl⟩
  induction d generalizing i with
  | zero => obtain rfl : i = n := by omega
            exact last
  | succ d ih => exact fun hI => step i (by omega) hI (ih (i + 1) (by omega) (by omega))
end Go.Proofs.Ytockkelkdimehaa.B
