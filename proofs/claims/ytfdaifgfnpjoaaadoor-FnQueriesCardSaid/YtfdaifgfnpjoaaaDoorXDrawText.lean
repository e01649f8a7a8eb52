/- Drawn texts are short. -/
import Derived.Test.YtfdaifgfnpjoaaaDoorXDraw
import Derived.Test.YtfdaifgfnpjoaaaDoorXDrawOnce
import Derived.Test.YtfdaifgfnpjoaaaDoorG10
namespace Go.Proofs.YtfdaifgfnpjoaaaDoor.X
open Go Go.RowKit Go.Proofs.YtfdaifgfnpjoaaaDoorW.PrintWords Go.Proofs.YtfdaifgfnpjoaaaDoorW.PrintLast Go.Proofs.YtfdaifgfnpjoaaaDoorW.PrintMore Go.Proofs.YtfdaifgfnpjoaaaDoor.P
theorem drPickT {b : List Int} (hb : b.length ≤ 4194304) {i : Int} (h : Int) (l : List ByteArray) (hl : 0 < l.length) (h0 : 0 ≤ i) (h1 : i ≤ (b.length : Int)) : B.EvP (fun _ => spec_l1Pick.f b i h l) (B.Cu b fun v => v ∈ l) := by
  unfold spec_l1Pick.f
  refine B.EvP.bind (drBelow hb h (l.length : Int) h0 h1) ?_
  rintro ⟨v, i, h⟩ ⟨q, h0, h1⟩
  have q1 := q.1
  have q2 := q.2.1 (by omega)
  simp only at q1 q2 ⊢
  rw [if_pos q1, if_pos q2]
  refine B.EvP.pure ⟨?_, h0, h1⟩
  show rdOf ByteArray.empty l v ∈ l
  unfold rdOf
  rw [B.getD_lt (by omega)]
  exact List.getElem_mem _
theorem sizeOf_nums (xs : List Int) : (strOfNums xs).size = xs.length := by
  unfold strOfNums
  show (List.toArray _).size = _
  simp
theorem drText {b : List Int} (hb : b.length ≤ 4194304) {i : Int} (h : Int) (h0 : 0 ≤ i) (h1 : i ≤ (b.length : Int)) : B.EvP (fun k => spec_l1Text.f k b i h 3) (B.Cu b fun v => v.size ≤ 1000) := by
  simp only [spec_l1Text.f]
  refine B.EvP.bind (drBelow hb h 4 h0 h1) ?_
  rintro ⟨md, i, h⟩ ⟨_, h0, h1⟩
  rw [show wrap64 ((3 : Int) + 1) = 4 from B.wid (by omega) (by omega)]
  refine B.EvP.bind (drBelow hb h 4 h0 h1) ?_
  rintro ⟨v, i, h⟩ ⟨q, h0, h1⟩
  have q1 := q.1
  have q2 := q.2.1 (by omega)
  simp only at q1 q2 h0 h1 ⊢
  obtain ⟨n, rfl⟩ : ∃ n : Nat, v = (n : Int) := ⟨v.toNat, by omega⟩
  have key : ∀ (n : Nat) (xs : List Int) (i h : Int), 0 ≤ i → i ≤ (b.length : Int) → xs.length + n ≤ 1000 → B.EvP (fun k => spec_l1Text.l0 k xs md (n : Int) b i h) (B.Cu b fun v => v.size ≤ 1000) := by
    intro n
    induction n with
    | zero =>
      intro xs i h h0 h1 hn
      refine B.EvP.succ ?_
      simp only [spec_l1Text.l0, show ¬ ((0 : Nat) : Int) > 0 by decide, ↓reduceIte]
      exact B.EvP.pure ⟨by show (strOfNums xs).size ≤ 1000; rw [sizeOf_nums]; omega, h0, h1⟩
    | succ n ih =>
      intro xs i h h0 h1 hn
      refine B.EvP.succ ?_
      have e2 : wrap64 (((n + 1 : Nat) : Int) - 1) = (n : Int) := by rw [B.wid (by omega) (by omega)]; omega
      simp only [spec_l1Text.l0, show ((n + 1 : Nat) : Int) > 0 by omega, show xs.length < 140737488355328 by omega, e2, ↓reduceIte]
      refine B.EvP.bind (drByte hb h h0 h1) ?_
      rintro ⟨w, i, h⟩ ⟨_, h0, h1⟩
      refine B.EvP.ite (fun _ => B.EvP.ite (fun _ => ?_) (fun _ => ?_)) (fun _ => B.EvP.ite (fun _ => ?_) (fun _ => ?_)) <;>
        exact ih _ _ _ h0 h1 (by rw [List.length_append, List.length_singleton]; omega)
  exact key n [] i h h0 h1 (by simp; omega)
theorem drSpoil {b : List Int} (hb : b.length ≤ 4194304) {i : Int} (h : Int) (s : ByteArray) (hs : s.size ≤ 100000) (h0 : 0 ≤ i) (h1 : i ≤ (b.length : Int)) : B.EvP (fun k => spec_l1Spoil.f k b i h s) (B.Cu b fun v => v.size ≤ 200002) := by
  simp only [spec_l1Spoil.f]
  refine B.EvP.ite (fun c => ?_) (fun c => ?_)
  · refine B.EvP.bind (drText hb h h0 h1) ?_
    rintro ⟨v, i, h⟩ ⟨q, h0, h1⟩
    exact B.EvP.pure ⟨by simp only at q ⊢; omega, h0, h1⟩
  · refine B.EvP.bind (drBelow hb h (s.size : Int) h0 h1) ?_
    rintro ⟨v, i, h⟩ ⟨q, h0, h1⟩
    have q1 := q.1
    have q2 := q.2.1 (by omega)
    simp only at q1 q2 h0 h1 ⊢
    obtain ⟨n, rfl⟩ : ∃ n : Nat, v = (n : Int) := ⟨v.toNat, by omega⟩
    have e : wrap64 ((n : Int) + 1) = ((n + 1 : Nat) : Int) := B.wsucc (by omega)
    have s1 : (s.extract 0 n).size ≤ 100000 := by simp; omega
    have s2 : (s.extract (n + 1) s.size).size ≤ 100000 := by simp; omega
    have s3 : (s.extract n s.size).size ≤ 100000 := by simp; omega
    refine B.EvP.bind (drBelow hb h 4 h0 h1) ?_
    rintro ⟨w, i, h⟩ ⟨_, h0, h1⟩
    simp only [e, show 0 ≤ (n : Int) by omega, show (n : Int) ≤ (s.size : Int) by omega, show (n : Int) < (s.size : Int) by omega, show 0 ≤ ((n + 1 : Nat) : Int) by omega, show ((n + 1 : Nat) : Int) ≤ (s.size : Int) by omega, ↓reduceIte, Int.toNat_natCast, Option.bind_some, sizeOf_nums, ByteArray.size_append, List.length_singleton]
    refine B.EvP.ite (fun _ => ?_) (fun _ => B.EvP.ite (fun _ => ?_) (fun _ => B.EvP.ite (fun _ => ?_) (fun _ => ?_)))
    · rw [if_pos (by omega)]
      exact B.EvP.pure ⟨by simp only [ByteArray.size_append]; omega, h0, h1⟩
    · refine B.EvP.bind (drByte hb h h0 h1) ?_
      rintro ⟨x, i, h⟩ ⟨_, h0, h1⟩
      rw [if_pos (by omega), if_pos (by omega)]
      exact B.EvP.pure ⟨by simp only [ByteArray.size_append, sizeOf_nums, List.length_singleton]; omega, h0, h1⟩
    · exact B.EvP.pure ⟨by simp only; omega, h0, h1⟩
    · refine B.EvP.bind (drBelow hb h 255 h0 h1) ?_
      rintro ⟨x, i, h⟩ ⟨_, h0, h1⟩
      rw [if_pos (by omega), if_pos (by omega)]
      exact B.EvP.pure ⟨by simp only [ByteArray.size_append, sizeOf_nums, List.length_singleton]; omega, h0, h1⟩
end Go.Proofs.YtfdaifgfnpjoaaaDoor.X
