/- The law FnExactHistUndo: called with any arguments that can be read as data it returns true, and its arguments read afterwards as before. Conditions: none. -/
import Derived.Test.YtinlbiphjgpmmaaBFnExactHistUndo4
import Derived.Test.YtinlbiphjgpmmaaRows
import Derived.WalkKit
import Derived.ProofKit
import Derived.OpenShut
import Derived.ShutString
import Derived.ChangeOld
import Derived.Below
import Derived.SizedLaws
namespace Go.Proofs.Ytinlbiphjgpmmaa.fnExactHistUndo
open Go.ChangeShapes Go.WideShapes Go.ChangeAt
open Go.ChangeMaps (open_string shut_string)
open Go.RowKit Go.Proofs.Ytinlbiphjgpmmaa.V Go.Proofs.Ytinlbiphjgpmmaa.P
set_option linter.unusedVariables false
set_option linter.all false
theorem Qty : OpV Try.prog 122 QcH (fun x => (I64 x.f0 ∧ I64 x.f1)) := Qek (n := 2) (e := fun q => eI q.1 ++ eI q.2) (Q := fun q => I64 q.1 ∧ I64 q.2) (g := fun y => ⟨y.1, y.2⟩) (f := fun x : QcI => (x.f0, x.f1)) (fun _ => rfl) (fun _ => rfl) Try.underlying122 (by kernel_rfl) (QcV (n := 1) (k := 1) (e := eI) (Q := fun q => I64 q) (e' := fun q : Int => eI q) (Q' := fun q : Int => I64 q) rfl (by kernel_rfl) (Qdi Try.underlying3) (by decide) (Qgm (n := 1) (e := eI) (Q := fun q => I64 q) rfl (by kernel_rfl) (Qdi Try.underlying3)))
theorem Qwr : OpV Try.prog 81 (e81 true) (fun x => (I64 x.f0 ∧ (x.f1.length ≤ maxLen ∧ ∀ y ∈ x.f1, I64 y) ∧ I64 x.f2 ∧ I64 x.f3 ∧ I64 x.f4)) := Qek (n := 5) (e := fun q => eI q.1 ++ (eL 1 true eI) q.2.1 ++ eI q.2.2.1 ++ eI q.2.2.2.1 ++ eI q.2.2.2.2) (Q := fun q => I64 q.1 ∧ (q.2.1.length ≤ maxLen ∧ ∀ y ∈ q.2.1, I64 y) ∧ I64 q.2.2.1 ∧ I64 q.2.2.2.1 ∧ I64 q.2.2.2.2) (g := fun y => ⟨y.1, y.2.1, y.2.2.1, y.2.2.2.1, y.2.2.2.2⟩) (f := fun x : S81 => (x.f0, x.f1, x.f2, x.f3, x.f4)) (fun _ => rfl) (fun _ => rfl) Try.underlying81 (by kernel_rfl) (QcV (n := 1) (k := 4) (e := eI) (Q := fun q => I64 q) (e' := fun q : (List Int) × Int × Int × Int => (eL 1 true eI) q.1 ++ eI q.2.1 ++ eI q.2.2.1 ++ eI q.2.2.2) (Q' := fun q : (List Int) × Int × Int × Int => (q.1.length ≤ maxLen ∧ ∀ y ∈ q.1, I64 y) ∧ I64 q.2.1 ∧ I64 q.2.2.1 ∧ I64 q.2.2.2) rfl (by kernel_rfl) (Qdi Try.underlying3) (by decide) (QcV (n := 1) (k := 3) (e := (eL 1 true eI)) (Q := fun q => (q.length ≤ maxLen ∧ ∀ y ∈ q, I64 y)) (e' := fun q : Int × Int × Int => eI q.1 ++ eI q.2.1 ++ eI q.2.2) (Q' := fun q : Int × Int × Int => I64 q.1 ∧ I64 q.2.1 ∧ I64 q.2.2) rfl (by kernel_rfl) (QdY (en := eI) (sz := 1) Try.underlying79 (by kernel_rfl) (by decide) (fun _ => rfl) (Qdi Try.underlying3)) (by decide) (QcV (n := 1) (k := 2) (e := eI) (Q := fun q => I64 q) (e' := fun q : Int × Int => eI q.1 ++ eI q.2) (Q' := fun q : Int × Int => I64 q.1 ∧ I64 q.2) rfl (by kernel_rfl) (Qdi Try.underlying3) (by decide) (QcV (n := 1) (k := 1) (e := eI) (Q := fun q => I64 q) (e' := fun q : Int => eI q) (Q' := fun q : Int => I64 q) rfl (by kernel_rfl) (Qdi Try.underlying3) (by decide) (Qgm (n := 1) (e := eI) (Q := fun q => I64 q) rfl (by kernel_rfl) (Qdi Try.underlying3))))))
structure S42 where
  f0 : (List QcI)
  f1 : (List (List S81))
def e42 (x : S42) : List AV := [.deep false true 2 (x.f0.map QcH), .deep false true 1 (x.f1.map (eL 5 true (e81 true)))]
theorem Qws : OpV Try.prog 42 e42 (fun x => ((x.f0.length ≤ maxLen ∧ ∀ y ∈ x.f0, (I64 y.f0 ∧ I64 y.f1)) ∧ (x.f1.length ≤ maxLen ∧ ∀ y ∈ x.f1, (y.length ≤ maxLen ∧ ∀ z ∈ y, (I64 z.f0 ∧ (z.f1.length ≤ maxLen ∧ ∀ u ∈ z.f1, I64 u) ∧ I64 z.f2 ∧ I64 z.f3 ∧ I64 z.f4))))) := Qek (n := 2) (e := fun q => (eL 2 true QcH) q.1 ++ (eL 1 true (eL 5 true (e81 true))) q.2) (Q := fun q => (q.1.length ≤ maxLen ∧ ∀ y ∈ q.1, (I64 y.f0 ∧ I64 y.f1)) ∧ (q.2.length ≤ maxLen ∧ ∀ y ∈ q.2, (y.length ≤ maxLen ∧ ∀ z ∈ y, (I64 z.f0 ∧ (z.f1.length ≤ maxLen ∧ ∀ u ∈ z.f1, I64 u) ∧ I64 z.f2 ∧ I64 z.f3 ∧ I64 z.f4)))) (g := fun y => ⟨y.1, y.2⟩) (f := fun x : S42 => (x.f0, x.f1)) (fun _ => rfl) (fun _ => rfl) Try.underlying42 (by kernel_rfl) (QcV (n := 1) (k := 1) (e := (eL 2 true QcH)) (Q := fun q => (q.length ≤ maxLen ∧ ∀ y ∈ q, (I64 y.f0 ∧ I64 y.f1))) (e' := fun q : (List (List S81)) => (eL 1 true (eL 5 true (e81 true))) q) (Q' := fun q : (List (List S81)) => (q.length ≤ maxLen ∧ ∀ y ∈ q, (y.length ≤ maxLen ∧ ∀ z ∈ y, (I64 z.f0 ∧ (z.f1.length ≤ maxLen ∧ ∀ u ∈ z.f1, I64 u) ∧ I64 z.f2 ∧ I64 z.f3 ∧ I64 z.f4)))) rfl (by kernel_rfl) (QdY (en := QcH) (sz := 2) Try.underlying39 (by kernel_rfl) (by decide) (fun _ => rfl) Qty) (by decide) (Qgm (n := 1) (e := (eL 1 true (eL 5 true (e81 true)))) (Q := fun q => (q.length ≤ maxLen ∧ ∀ y ∈ q, (y.length ≤ maxLen ∧ ∀ z ∈ y, (I64 z.f0 ∧ (z.f1.length ≤ maxLen ∧ ∀ u ∈ z.f1, I64 u) ∧ I64 z.f2 ∧ I64 z.f3 ∧ I64 z.f4)))) rfl (by kernel_rfl) (QdY (en := (eL 5 true (e81 true))) (sz := 1) Try.underlying40 (by kernel_rfl) (by decide) (fun _ => rfl) (QdY (en := (e81 true)) (sz := 5) Try.underlying43 (by kernel_rfl) (by decide) (fun _ => rfl) Qwr))))
theorem QzO (a : S42) : ∀ av ∈ e42 a, ∀ p bo sz ys, av = .deep p bo sz ys → bo = true := by
  intro av hav p bo sz ys e
  subst e
  unfold e42 at hav
  simp [eI, eB, eS, eL] at hav
  first | (simp [hav]; done) | (rcases hav with h | h <;> exact h.2.1) | (rcases hav with h | h | h <;> exact h.2.1)
theorem own : ownKnob Try.prog.godebug = none := by kernel_rfl
theorem Qrh : laidOutB Try.prog = true := by kernel_rfl
theorem Qwu : Try.prog.follows .mixedOrders = true := by kernel_rfl
theorem QcE {α : Type} {p : Nat → α → Bool} : ∀ {l : List (Nat × α)}, (l.all fun x => p x.1 x.2) = true → ∀ {f : Nat} {a : α}, l.lookup f = some a → p f a = true
  | [], _, f, a, h => by cases h
  | (g, b) :: l, ha, f, a, h => by
    rw [List.all_cons, Bool.and_eq_true] at ha
    rw [List.lookup_cons] at h
    split at h
    · rename_i e; injection h with h; rw [← h, eq_of_beq e]; exact ha.1
    · exact QcE ha.2 h
set_option maxRecDepth 1000000 in
theorem Qwi : (tab.all fun x => Qv1 Try.prog x.1 x.2) = true := by kernel_rfl
theorem QwR : Qok Try.prog env := ⟨fun f F h => QcE Qwi h, fun f g h => by cases h⟩
set_option maxRecDepth 100000 in
theorem QtR (os : Os) (started : os.Started) (H : Type) (enc : TypeId × Value → H) :
    ReturnsInHanded {} Try.checked os 7 .any (Rows.fnExactHistUndoSpec.pre6 enc Try.prog Try.f7 Rows.fnExactHistUndoRow.domain false) (Rows.fnExactHistUndoSpec.post enc Try.prog Try.f7 false true false false) := by
  refine returnsInHanded_of_change_sized (C := Try.checked) own started (by kernel_rfl) Try.func7
    (ChangeSpec.witness6 (enc := enc) (C := Try.checked) false ⟨#[], #[.agg #[.slice none 0 0, .slice none 0 0]], []⟩ 8 (by kernel_rfl) (by kernel_rfl) (by kernel_rfl) (by kernel_rfl)) ?_
  intro W base args ds gs before hval0 hW hcnd hsz0 _
  have hval : ∀ (j : Nat) t v, Try.f7.params[j]? = some t → args[j]? = some v → Value.okWide Try.prog W .any base t v := hval0
  have hW' := hW
  obtain ⟨p, q, hA0, hV, rfl, hfz, hnd⟩ := hW
  have hA : DataW.TrodAll enc Try.prog W 0 (fun _ => true) true Try.f7.params.toList args.toList ds p := hA0
  rw [Try.params7] at hA hval
  obtain ⟨v0, vs0, d0, ds0, p0, q0, hargs, rfl, rfl, h0, r0⟩ := trodAll_cons hA
  obtain ⟨rfl, rfl, rfl⟩ := trodAll_nil r0
  obtain rfl : args = #[v0] := by cases args; simp_all
  obtain ⟨rfl, rfl⟩ := trodVars_none hV
  have lt0 : ∀ x ∈ p0, x.block < W.heap.size := by obtain ⟨m, hm⟩ := h0; exact DataW.trod_lt m _ _ _ hm
  obtain ⟨a0, ⟨g0, H0⟩, Q0⟩ := Qic Try.underlying42 Qws QzO (hval 0 42 v0 rfl rfl) h0
  clear hA0 hval0 hsz0
  obtain ⟨k, hp⟩ := Pure.FnExactHistUndo a0.f0 a0.f1 Q0
  have hs := (Qh8 Qwu QwR (Qar.link hp)).2
  refine (QlN hs rfl (Qny H0 Qrn)).mono fun e W' ⟨he, bel⟩ => ?_
  subst he
  exact ⟨_, rfl, _, _, _, [], _, [], hW', trodAll_mk1 (shut_bool Try.underlying4 _), (trodAll_cons_mk (Below.trod Qrh (by kernel_rfl) (of_decide_eq_true (by kernel_rfl)) h0 bel lt0) trodAll_mk0), rfl, bel.frame _, fun h => by cases h⟩
theorem QzK : Rows.fnExactHistUndoRow.holds Try.pinned (OpenSpec.ofChange Rows.fnExactHistUndoSpec) :=
  OpenClaim.holds_of_wide 7 Try.f7 rfl rfl rfl rfl rfl rfl rfl ⟨rfl, rfl, rfl, rfl, rfl⟩ rfl rfl rfl rfl rfl (by kernel_rfl) Try.func7 (by kernel_rfl)
    (of_decide_eq_true (by kernel_rfl)) (by unfold Func.isWrapper; first | (rw [if_pos (by decide +kernel)]; kernel_rfl) | (rw [if_neg (by decide +kernel)]; exact ⟨rfl, rfl⟩))
    (fun os started H enc _ => QtR os started H enc)
theorem proved : Rows.FnExactHistUndoSaid := QzK
#print axioms proved
end Go.Proofs.Ytinlbiphjgpmmaa.fnExactHistUndo
namespace Go.Proofs.Ytinlbiphjgpmmaa
/-- The row, under a short name, for the claim. -/
theorem fnExactHistUndo_holds : Rows.FnExactHistUndoSaid := fnExactHistUndo.proved
end Go.Proofs.Ytinlbiphjgpmmaa
