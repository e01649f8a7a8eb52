/- What is drawn: numbers below a limit, and a cursor that stays in the code. -/
import Derived.Test.YtfdaifgfnpjoaaaDoorXEvP
import Derived.Test.YtfdaifgfnpjoaaaDoorG10
namespace Go.Proofs.YtfdaifgfnpjoaaaDoor.X
open Go Go.RowKit Go.Proofs.YtfdaifgfnpjoaaaDoorW.PrintWords Go.Proofs.YtfdaifgfnpjoaaaDoorW.PrintLast Go.Proofs.YtfdaifgfnpjoaaaDoorW.PrintMore Go.Proofs.YtfdaifgfnpjoaaaDoor.P

theorem and255 (n : Int) : 0 ≤ bits .and .i64 n 255 ∧ bits .and .i64 n 255 ≤ 255 := by
  have h255 : (BitVec.ofInt 64 255).toNat = 2 ^ 8 - 1 := by decide
  have key : (BitVec.ofInt 64 n &&& BitVec.ofInt 64 255).toNat = (n % ((2 ^ 64 : Nat) : Int)).toNat % 2 ^ 8 := by
    rw [BitVec.toNat_and, BitVec.toNat_ofInt, h255, Nat.and_two_pow_sub_one_eq_mod]
  have e : bits .and .i64 n 255 = n % 256 := by
    show IntKind.i64.wrap ((BitVec.ofInt 64 n &&& BitVec.ofInt 64 255).toNat : Nat) = n % 256
    rw [key, IntKind.wrap_i64]
    omega
  omega

theorem drByte {b : List Int} (hb : b.length ≤ 4194304) {i : Int} (h : Int) (h0 : 0 ≤ i) (h1 : i ≤ (b.length : Int)) : B.EvP (fun _ => spec_l1Byte.f b i h) (B.Cu b fun v => 0 ≤ v ∧ v ≤ 255) := by
  unfold spec_l1Byte.f
  refine B.EvP.ite (fun c => ?_) (fun c => B.EvP.pure ⟨and255 _, h0, h1⟩)
  rw [if_pos h0]
  have e : wrap64 (i + 1) = i + 1 := B.wid (by omega) (by omega)
  rw [e]
  exact B.EvP.pure ⟨and255 _, by simp only; omega, by simp only; omega⟩

def Below_ (n v : Int) : Prop := 0 ≤ v ∧ (0 < n → v < n) ∧ (n ≤ 0 → v = 0)
theorem drBelow {b : List Int} (hb : b.length ≤ 4194304) {i : Int} (h : Int) (n : Int) (h0 : 0 ≤ i) (h1 : i ≤ (b.length : Int)) : B.EvP (fun _ => spec_l1Below.f b i h n) (B.Cu b (Below_ n)) := by
  unfold spec_l1Below.f
  refine B.EvP.ite (fun c => B.EvP.pure ⟨⟨by omega, by omega, fun _ => rfl⟩, h0, h1⟩) (fun c => ?_)
  have fin : ∀ x : Int, 0 ≤ x → Below_ n (Int.tmod x n) := fun x hx => ⟨Int.tmod_nonneg _ hx, fun hn => Int.tmod_lt_of_pos _ hn, fun hn => absurd hn c⟩
  refine B.EvP.ite (fun c2 => ?_) (fun c2 => ?_)
  · refine B.EvP.bind (drByte hb h h0 h1) ?_
    rintro ⟨v, i, h⟩ ⟨q, h0, h1⟩
    rw [if_neg (by omega)]
    exact B.EvP.pure ⟨fin _ q.1, h0, h1⟩
  · refine B.EvP.bind (drByte hb h h0 h1) ?_
    rintro ⟨v, i, h⟩ ⟨q, h0, h1⟩
    refine B.EvP.bind (drByte hb h h0 h1) ?_
    rintro ⟨v2, i, h⟩ ⟨q2, h0, h1⟩
    refine B.EvP.bind (drByte hb h h0 h1) ?_
    rintro ⟨v3, i, h⟩ ⟨q3, h0, h1⟩
    refine B.EvP.bind (drByte hb h h0 h1) ?_
    rintro ⟨v4, i, h⟩ ⟨q4, h0, h1⟩
    rw [if_neg (by omega)]
    refine B.EvP.pure ⟨fin _ ?_, h0, h1⟩
    simp only at q q2 q3 q4 ⊢
    rw [B.wid (n := v * 16777216) (by omega) (by omega), B.wid (n := v2 * 65536) (by omega) (by omega), B.wid (n := v3 * 256) (by omega) (by omega), B.wid (n := v * 16777216 + v2 * 65536) (by omega) (by omega), B.wid (n := v * 16777216 + v2 * 65536 + v3 * 256) (by omega) (by omega), B.wid (by omega) (by omega)]
    omega

theorem drPick {b : List Int} (hb : b.length ≤ 4194304) {i : Int} (h : Int) (l : List Int) (hl : 0 < l.length) (h0 : 0 ≤ i) (h1 : i ≤ (b.length : Int)) : B.EvP (fun _ => spec_l1PickInt.f b i h l) (B.Cu b fun v => v ∈ l) := by
  unfold spec_l1PickInt.f
  refine B.EvP.bind (drBelow hb h (l.length : Int) h0 h1) ?_
  rintro ⟨v, i, h⟩ ⟨q, h0, h1⟩
  have q1 := q.1
  have q2 := q.2.1 (by omega)
  simp only at q1 q2 ⊢
  rw [if_pos q1, if_pos q2]
  refine B.EvP.pure ⟨?_, h0, h1⟩
  show rd l v ∈ l
  unfold rd
  rw [B.getD_lt (by omega)]
  exact List.getElem_mem _
theorem drNew (l : List Int) (hl : l.length ≤ 4194304) : B.EvP (fun k => spec_l1New.f k l) (fun t => t.1 = l ∧ t.2.1 = 0) := by
  unfold spec_l1New.f
  suffices H : ∀ n : Nat, ∀ (i : Nat) (x : Int), i + n = l.length → B.EvP (fun k => spec_l1New.l0 k l x (i : Int)) (fun t => t.1 = l ∧ t.2.1 = 0) from H l.length 0 _ (by omega)
  intro n
  induction n with
  | zero =>
    intro i x hi
    refine B.EvP.succ ?_
    simp only [spec_l1New.l0, show ¬ ((i : Int) < (l.length : Int)) by omega, ↓reduceIte]
    exact B.EvP.pure ⟨rfl, rfl⟩
  | succ n ih =>
    intro i x hi
    refine B.EvP.succ ?_
    simp only [spec_l1New.l0, show (i : Int) < (l.length : Int) by omega, show 0 ≤ (i : Int) by omega, ↓reduceIte, B.wsucc (show i < 9223372036854775807 by omega)]
    exact B.EvP.ite (fun c => ih (i + 1) _ (by omega)) (fun c => B.EvP.pure ⟨rfl, rfl⟩)
theorem lawBig (l : List Int) : laws_big.f l = some (decide ((l.length : Int) > 1048576)) := rfl
end Go.Proofs.YtfdaifgfnpjoaaaDoor.X
