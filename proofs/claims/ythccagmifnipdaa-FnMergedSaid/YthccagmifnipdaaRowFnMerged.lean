/- The law FnMerged: called with any arguments that can be read as data it returns true, and its arguments read afterwards as before. Conditions: none. -/
import Derived.Test.YthccagmifnipdaaBFnMerged3
import Derived.Test.YthccagmifnipdaaRows
import Derived.WalkKit
import Derived.ProofKit
import Derived.OpenShut
import Derived.ShutString
import Derived.ChangeOld
import Derived.Below
import Derived.SizedLaws
namespace Go.Proofs.Ythccagmifnipdaa.fnMerged
open Go.ChangeShapes Go.WideShapes Go.ChangeAt
open Go.ChangeMaps (open_string shut_string)
open Go.RowKit Go.Proofs.Ythccagmifnipdaa.V Go.Proofs.Ythccagmifnipdaa.P
set_option linter.unusedVariables false
set_option linter.all false
theorem own : ownKnob Try.prog.godebug = none := by kernel_rfl
theorem laidOut : laidOutB Try.prog = true := by kernel_rfl
theorem mixed : Try.prog.follows .mixedOrders = true := by kernel_rfl
theorem look {α : Type} {p : Nat → α → Bool} : ∀ {l : List (Nat × α)}, (l.all fun x => p x.1 x.2) = true → ∀ {f : Nat} {a : α}, l.lookup f = some a → p f a = true
  | [], _, f, a, h => by cases h
  | (g, b) :: l, ha, f, a, h => by
    rw [List.all_cons, Bool.and_eq_true] at ha
    rw [List.lookup_cons] at h
    split at h
    · rename_i e; injection h with h; rw [← h, eq_of_beq e]; exact ha.1
    · exact look ha.2 h
set_option maxRecDepth 1000000 in
theorem tabOk : (tab.all fun x => fnOk Try.prog x.1 x.2) = true := by kernel_rfl
theorem envOk : EnvOk Try.prog env := ⟨fun f F h => look tabOk h, fun f g h => by cases h⟩
set_option maxRecDepth 100000 in
theorem lifted (os : Os) (started : os.Started) (H : Type) (enc : TypeId × Value → H) :
    ReturnsInHanded {} Try.checked os 3 .any (Rows.fnMergedSpec.pre6 enc Try.prog Try.f3 Rows.fnMergedRow.domain false) (Rows.fnMergedSpec.post enc Try.prog Try.f3 false true false false) := by
  refine returnsInHanded_of_change_sized (C := Try.checked) own started (by kernel_rfl) Try.func3
    (ChangeSpec.witness6 (enc := enc) (C := Try.checked) false ⟨#[], #[.slice none 0 0], []⟩ 8 (by kernel_rfl) (by kernel_rfl) (by kernel_rfl) (by kernel_rfl)) ?_
  intro W base args ds gs before hval0 hW hcnd hsz0 _
  have hval : ∀ (j : Nat) t v, Try.f3.params[j]? = some t → args[j]? = some v → Value.okWide Try.prog W .any base t v := hval0
  have hW' := hW
  obtain ⟨p, q, hA0, hV, rfl, hfz, hnd⟩ := hW
  have hA : DataW.TrodAll enc Try.prog W 0 (fun _ => true) true Try.f3.params.toList args.toList ds p := hA0
  rw [Try.params3] at hA hval
  obtain ⟨v0, vs0, d0, ds0, p0, q0, hargs, rfl, rfl, h0, r0⟩ := trodAll_cons hA
  obtain ⟨rfl, rfl, rfl⟩ := trodAll_nil r0
  obtain rfl : args = #[v0] := by cases args; simp_all
  obtain ⟨rfl, rfl⟩ := trodVars_none hV
  have lt0 : ∀ x ∈ p0, x.block < W.heap.size := by obtain ⟨m, hm⟩ := h0; exact DataW.trod_lt m _ _ _ hm
  obtain ⟨l0, ⟨g0, H0⟩, Q0⟩ := argv_slice (en := e8) (sz := 1) (opv_slice (en := e8) (sz := 1) (bo := true) Try.underlying22 (by kernel_rfl) (by decide) (fun _ => rfl) (opv_u8 Try.underlying5)) Try.underlying22 (hval 0 22 v0 rfl rfl) h0
  clear hA0 hval0 hsz0
  obtain ⟨k, hp⟩ := Pure.FnMerged l0 Q0
  have hs := (callW_sound mixed envOk (laws_FnMerged.link hp)).2
  refine (law_calls hs rfl (hvs_cons H0 hvs_nil)).mono fun e W' ⟨he, bel⟩ => ?_
  subst he
  exact ⟨_, rfl, _, _, _, [], _, [], hW', trodAll_mk1 (shut_bool Try.underlying4 _), (trodAll_cons_mk (Below.trod laidOut (by kernel_rfl) (of_decide_eq_true (by kernel_rfl)) h0 bel lt0) trodAll_mk0), rfl, bel.frame _, fun h => by cases h⟩
theorem over : Rows.fnMergedRow.holds Try.pinned (OpenSpec.ofChange Rows.fnMergedSpec) :=
  OpenClaim.holds_of_wide 3 Try.f3 rfl rfl rfl rfl rfl rfl rfl ⟨rfl, rfl, rfl, rfl, rfl⟩ rfl rfl rfl rfl rfl (by kernel_rfl) Try.func3 (by kernel_rfl)
    (of_decide_eq_true (by kernel_rfl)) (by unfold Func.isWrapper; first | (rw [if_pos (by decide +kernel)]; kernel_rfl) | (rw [if_neg (by decide +kernel)]; exact ⟨rfl, rfl⟩))
    (fun os started H enc _ => lifted os started H enc)
theorem proved : Rows.FnMergedSaid := over
#print axioms proved
end Go.Proofs.Ythccagmifnipdaa.fnMerged
namespace Go.Proofs.Ythccagmifnipdaa
/-- The row, under a short name, for the claim. -/
theorem fnMerged_holds : Rows.FnMergedSaid := fnMerged.proved
end Go.Proofs.Ythccagmifnipdaa
