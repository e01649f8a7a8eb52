/- The law FnExactPostLabels: called with any arguments that can be read as data it returns true, and its arguments read afterwards as before. Conditions: none. -/
import Derived.Test.YtockkelkdimehaaRows
import Derived.Test.YtockkelkdimehaaStFnExactPostLabels
import Derived.Test.YtockkelkdimehaaPureFnExactPostLabels
import Derived.WalkKit
import Derived.ProofKit
import Derived.OpenShut
import Derived.ShutString
import Derived.ChangeOld
import Derived.Below
import Derived.SizedLaws
namespace Go.Proofs.Ytockkelkdimehaa.fnExactPostLabels
open Go.ChangeShapes Go.WideShapes Go.ChangeAt
open Go.ChangeMaps (open_string shut_string)
open Go.RowKit Go.Proofs.YtockkelkdimehaaW.PrintWords Go.Proofs.YtockkelkdimehaaW.PrintLast Go.Proofs.YtockkelkdimehaaW.PrintMore Go.Proofs.Ytockkelkdimehaa.P
set_option linter.unusedVariables false
theorem opn61 : Opn.Opens Try.prog 61 k61 Ok61 := Opn.opens_struct (P := Try.prog) (f := fun x : S61 => (x.f0, x.f1)) (fun y => ⟨y.1, y.2⟩) (fun _ => rfl) Try.underlying61 (by kernel_rfl) (Opn.opensFs_cons rfl (by kernel_rfl) (Opn.opens_i64 Try.underlying3) (by decide) (Opn.opensFs_one rfl (by kernel_rfl) (Opn.opens_i64 Try.underlying3)))
theorem own : ownKnob Try.prog.godebug = none := by kernel_rfl
theorem laidOut : laidOutB Try.prog = true := by kernel_rfl
set_option maxRecDepth 100000 in
theorem lifted (pure : Pure) (os : Os) (started : os.Started) (H : Type) (enc : TypeId × Value → H) :
    ReturnsInHanded {} Try.checked os 3 .any (Rows.fnExactPostLabelsSpec.pre6 enc Try.prog Try.f3 Rows.fnExactPostLabelsRow.domain false) (Rows.fnExactPostLabelsSpec.post enc Try.prog Try.f3 false true false false) := by
  refine returnsInHanded_of_change_sized (C := Try.checked) own started (by kernel_rfl) Try.func3
    (ChangeSpec.witness6 (enc := enc) (C := Try.checked) false ⟨#[], #[.slice none 0 0], []⟩ 8 (by kernel_rfl) (by kernel_rfl) (by kernel_rfl) (by kernel_rfl)) ?_
  intro W base args ds gs before hval0 hW hcnd hsz0 _
  have hval : ∀ (j : Nat) t v, Try.f3.params[j]? = some t → args[j]? = some v → Value.okWide Try.prog W .any base t v := hval0
  have hW' := hW
  obtain ⟨p, q, hA0, hV, rfl, hfz, hnd⟩ := hW
  have hA : DataW.TrodAll enc Try.prog W 0 (fun _ => true) true Try.f3.params.toList args.toList ds p := hA0
  rw [Try.params3] at hA hval
  obtain ⟨v0, vs0, d0, ds0, p0, q0, hargs, rfl, rfl, h0, r0⟩ := trodAll_cons hA
  obtain ⟨rfl, rfl, rfl⟩ := trodAll_nil r0
  obtain rfl : args = #[v0] := by cases args; simp_all
  obtain ⟨rfl, rfl⟩ := trodVars_none hV
  have lt0 : ∀ x ∈ p0, x.block < W.heap.size := by obtain ⟨m, hm⟩ := h0; exact DataW.trod_lt m _ _ _ hm
  have k0T := h0
  obtain ⟨A0, len0, c0, rfl⟩ := okWide_slice Try.underlying22 (hval 0 22 v0 rfl rfl)
  obtain ⟨l0, rfl, hc0, hr0, Q0⟩ := Opn.arg_slice (P := Try.prog) (Opn.opens_slice Try.underlying22 (by kernel_rfl) opn61) h0
  clear hA0 hval0 hsz0
  obtain ⟨k, hp⟩ := pure l0 Q0
  refine (Go.Proofs.Ytockkelkdimehaa.P.laws_FnExactPostLabels.calls k A0 c0 l0 true W hr0 hc0 hp rfl).mono fun e W' ⟨he, bel⟩ => ?_
  subst he
  exact ⟨_, rfl, _, _, _, [], _, [], hW', trodAll_mk1 (shut_bool Try.underlying4 _), (trodAll_cons_mk (Below.trod laidOut (by kernel_rfl) (of_decide_eq_true (by kernel_rfl)) k0T bel lt0) trodAll_mk0), rfl, bel.frame _, fun h => by cases h⟩
theorem over (pure : Pure) : Rows.fnExactPostLabelsRow.holds Try.pinned (OpenSpec.ofChange Rows.fnExactPostLabelsSpec) :=
  OpenClaim.holds_of_wide 3 Try.f3 rfl rfl rfl rfl rfl rfl rfl ⟨rfl, rfl, rfl, rfl, rfl⟩ rfl rfl rfl rfl rfl (by kernel_rfl) Try.func3 (by kernel_rfl)
    (of_decide_eq_true (by kernel_rfl)) (by unfold Func.isWrapper; first | (rw [if_pos (by decide +kernel)]; kernel_rfl) | (rw [if_neg (by decide +kernel)]; exact ⟨rfl, rfl⟩))
    (fun os started H enc _ => lifted pure os started H enc)
theorem proved : Rows.FnExactPostLabelsSaid := over Pure.FnExactPostLabels
#print axioms proved
end Go.Proofs.Ytockkelkdimehaa.fnExactPostLabels
namespace Go.Proofs.Ytockkelkdimehaa
/-- The row, under a short name, for the claim. -/
theorem fnExactPostLabels_holds : Rows.FnExactPostLabelsSaid := fnExactPostLabels.proved
end Go.Proofs.Ytockkelkdimehaa
