/- What the laws' helper that marks a list of nodes returns. -/
import Derived.Test.YtekpggmnnfjphaaXNodes
import Derived.Test.YtekpggmnnfjphaaXEvP
import Derived.Test.YtekpggmnnfjphaaG35
namespace Go.Proofs.Ytekpggmnnfjphaa.X
open Go Go.RowKit Go.Proofs.YtekpggmnnfjphaaW.PrintWords Go.Proofs.YtekpggmnnfjphaaW.PrintLast Go.Proofs.YtekpggmnnfjphaaW.PrintMore Go.Proofs.Ytekpggmnnfjphaa.P

theorem markNodeS (l : List S48) (a : Int) (hl : l.length ≤ 4194304) (h0 : 0 ≤ a) (h1 : a ≤ 1000000000) (k : Nat) (hk : l.length < k) : ∃ l', laws_markNodeS.f k l a = some (a + 2 * (l.length : Int), l') := by
  unfold laws_markNodeS.f
  suffices h : ∀ d i k (l' : List S48), l'.length = l.length → i ≤ l.length → l.length - i = d → d < k → ∃ l'', laws_markNodeS.l0 k l' (a + 2 * (i : Int)) (i : Int) = some (a + 2 * (l.length : Int), l'') by
    have := h _ 0 k l rfl (by omega) rfl (by omega)
    simpa using this
  intro d
  induction d with
  | zero =>
    intro i k l' he hi hd hk
    obtain ⟨k, rfl⟩ : ∃ m, k = m + 1 := ⟨k - 1, by omega⟩
    obtain rfl : i = l.length := by omega
    refine ⟨l', ?_⟩
    simp only [laws_markNodeS.l0]
    rw [if_neg (by omega)]
  | succ d ih =>
    intro i k l' he hi hd hk
    obtain ⟨k, rfl⟩ : ∃ m, k = m + 1 := ⟨k - 1, by omega⟩
    have a1 : (i : Int) < (l'.length : Int) := by omega
    have a3 : 0 ≤ (i : Int) := by omega
    have e : wrap64 (wrap64 (a + 2 * (i : Int) + 1) + 1) = a + 2 * ((i + 1 : Nat) : Int) := by unfold wrap64; omega
    simp only [laws_markNodeS.l0, a1, a3, ↓reduceIte, B.wsucc (show i < 9223372036854775807 by omega), Option.bind_some, e]
    exact ih (i + 1) k _ (by simp [he]) (by omega) (by omega) (by omega)
theorem evMarkN (l : List S48) (a : Int) (hl : l.length ≤ 4194304) (h0 : 0 ≤ a) (h1 : a ≤ 1000000000) : B.EvP (fun k => laws_markNodeS.f k l a) (fun v => v.1 = a + 2 * (l.length : Int)) := by
  obtain ⟨l', h⟩ := markNodeS l a hl h0 h1 (l.length + 1) (by omega)
  exact ⟨_, rfl, B.Ev.of_mono (fun k r hr => laws_markNodeS.mono _ _ k r hr) h⟩
end Go.Proofs.Ytekpggmnnfjphaa.X
