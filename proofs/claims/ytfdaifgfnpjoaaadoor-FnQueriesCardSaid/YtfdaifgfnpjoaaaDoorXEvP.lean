/- What a function answers once it is given enough steps, where only a property of the answer is told: `EvP g P`. -/
import Derived.Test.YtfdaifgfnpjoaaaDoorXEv
namespace Go.Proofs.YtfdaifgfnpjoaaaDoor.B
open Go Go.RowKit Go.Proofs.YtfdaifgfnpjoaaaDoorW.PrintWords Go.Proofs.YtfdaifgfnpjoaaaDoorW.PrintLast Go.Proofs.YtfdaifgfnpjoaaaDoorW.PrintMore
def EvP {α : Type} (g : Nat → Option α) (P : α → Prop) : Prop := ∃ v, P v ∧ Ev g v
theorem EvP.of {α : Type} {g : Nat → Option α} {v : α} {P : α → Prop} (h : Ev g v) (p : P v) : EvP g P := ⟨v, p, h⟩
theorem EvP.pure {α : Type} {v : α} {P : α → Prop} (p : P v) : EvP (fun _ => some v) P := ⟨v, p, Ev.pure v⟩
theorem EvP.mono {α : Type} {g : Nat → Option α} {P Q : α → Prop} (h : EvP g P) (q : ∀ v, P v → Q v) : EvP g Q := by
  obtain ⟨v, p, h⟩ := h; exact ⟨v, q v p, h⟩
theorem EvP.succ {α : Type} {g : Nat → Option α} {P : α → Prop} (h : EvP (fun k => g (k + 1)) P) : EvP g P := by
  obtain ⟨v, p, h⟩ := h; exact ⟨v, p, Ev.succ h⟩
theorem EvP.bind {α β : Type} {f : Nat → Option α} {g : Nat → α → Option β} {P : α → Prop} {Q : β → Prop} (hf : EvP f P) (hg : ∀ v, P v → EvP (fun k => g k v) Q) : EvP (fun k => (f k).bind (g k)) Q := by
  obtain ⟨v, p, h⟩ := hf
  obtain ⟨u, q, h'⟩ := hg v p
  exact ⟨u, q, Ev.bind h h'⟩
theorem EvP.ite {α : Type} {p : Prop} [Decidable p] {f g : Nat → Option α} {P : α → Prop} (hf : p → EvP f P) (hg : ¬p → EvP g P) : EvP (fun k => if p then f k else g k) P := by
  by_cases h : p
  · obtain ⟨v, q, e⟩ := hf h; exact ⟨v, q, Ev.ite (fun _ => e) (fun c => absurd h c)⟩
  · obtain ⟨v, q, e⟩ := hg h; exact ⟨v, q, Ev.ite (fun c => absurd c h) (fun _ => e)⟩
/-- From a property of the answer to an answer: the part behind is told of the answer itself. -/
theorem EvP.ev {α : Type} {g : Nat → Option α} {P : α → Prop} (h : EvP g P) : ∃ v, P v ∧ Ev g v := h
theorem Ev.of_mono {α : Type} {g : Nat → Option α} {v : α} (m : ∀ k r, g k = some r → g (k + 1) = some r) {k : Nat} (h : g k = some v) : Ev g v := by
  refine ⟨k, fun j hj => ?_⟩
  obtain ⟨d, rfl⟩ : ∃ d, j = k + d := ⟨j - k, by omega⟩
  clear hj
  induction d with
  | zero => exact h
  | succ d ih => exact m _ _ ih
/-- A drawn answer: a property of what is drawn, and the cursor stays in the code. -/
def Cu (b : List Int) {α : Type} (Q : α → Prop) (t : α × Int × Int) : Prop := Q t.1 ∧ 0 ≤ t.2.1 ∧ t.2.1 ≤ (b.length : Int)
theorem Cu.mk_ {b : List Int} {α : Type} {Q : α → Prop} {v : α} {i h : Int} (q : Q v) (h0 : 0 ≤ i) (h1 : i ≤ (b.length : Int)) : Cu b Q (v, i, h) := ⟨q, h0, h1⟩
end Go.Proofs.YtfdaifgfnpjoaaaDoor.B
