/- The law FnExactRepoSize: called with any arguments that can be read as data it returns true, and its arguments read afterwards as before. Conditions: none. -/
import Derived.Test.YtlniclcfmaofhaaRows
import Derived.Test.YtlniclcfmaofhaaStFnExactRepoSize
import Derived.Test.YtlniclcfmaofhaaPureFnExactRepoSize
import Derived.WalkKit
import Derived.ProofKit
import Derived.OpenShut
import Derived.ShutString
import Derived.ChangeOld
import Derived.Below
import Derived.SizedLaws
namespace Go.Proofs.Ytlniclcfmaofhaa.fnExactRepoSize
open Go.ChangeShapes Go.WideShapes Go.ChangeAt
open Go.ChangeMaps (open_string shut_string)
open Go.RowKit Go.Proofs.YtlniclcfmaofhaaW.PrintWords Go.Proofs.YtlniclcfmaofhaaW.PrintLast Go.Proofs.YtlniclcfmaofhaaW.PrintMore Go.Proofs.Ytlniclcfmaofhaa.P
set_option linter.unusedVariables false
theorem opn93 : Opn.Opens Try.prog 93 k93 Ok93 := Opn.opens_struct (P := Try.prog) (f := fun x : S93 => (x.f0, x.f1)) (fun y => ⟨y.1, y.2⟩) (fun _ => rfl) Try.underlying93 (by kernel_rfl) (Opn.opensFs_cons rfl (by kernel_rfl) (Opn.opens_i64 Try.underlying3) (by decide) (Opn.opensFs_one rfl (by kernel_rfl) (Opn.opens_string Try.underlying9)))
theorem own : ownKnob Try.prog.godebug = none := by kernel_rfl
theorem laidOut : laidOutB Try.prog = true := by kernel_rfl
set_option maxRecDepth 100000 in
theorem lifted (pure : Pure) (os : Os) (started : os.Started) (H : Type) (enc : TypeId × Value → H) :
    ReturnsInHanded {} Try.checked os 5 .any (Rows.fnExactRepoSizeSpec.pre6 enc Try.prog Try.f5 Rows.fnExactRepoSizeRow.domain false) (Rows.fnExactRepoSizeSpec.post enc Try.prog Try.f5 false true false false) := by
  refine returnsInHanded_of_change_sized (C := Try.checked) own started (by kernel_rfl) Try.func5
    (ChangeSpec.witness6 (enc := enc) (C := Try.checked) false ⟨#[], #[.agg #[.slice none 0 0]], []⟩ 8 (by kernel_rfl) (by kernel_rfl) (by kernel_rfl) (by kernel_rfl)) ?_
  intro W base args ds gs before hval0 hW hcnd hsz0 _
  have hval : ∀ (j : Nat) t v, Try.f5.params[j]? = some t → args[j]? = some v → Value.okWide Try.prog W .any base t v := hval0
  have hW' := hW
  obtain ⟨p, q, hA0, hV, rfl, hfz, hnd⟩ := hW
  have hA : DataW.TrodAll enc Try.prog W 0 (fun _ => true) true Try.f5.params.toList args.toList ds p := hA0
  rw [Try.params5] at hA hval
  obtain ⟨v0, vs0, d0, ds0, p0, q0, hargs, rfl, rfl, h0, r0⟩ := trodAll_cons hA
  obtain ⟨rfl, rfl, rfl⟩ := trodAll_nil r0
  obtain rfl : args = #[v0] := by cases args; simp_all
  obtain ⟨rfl, rfl⟩ := trodVars_none hV
  have lt0 : ∀ x ∈ p0, x.block < W.heap.size := by obtain ⟨m, hm⟩ := h0; exact DataW.trod_lt m _ _ _ hm
  have k0T := h0
  obtain ⟨l0_0, cs0, rfl, hK0, hQ0⟩ := Opn.arg_struct (P := Try.prog) Try.underlying32 (by kernel_rfl) (Opn.opensFs_one rfl (by kernel_rfl) (Opn.opens_slice Try.underlying30 (by kernel_rfl) opn93)) (hval 0 32 v0 rfl rfl) h0
  obtain ⟨A0_0, c0_0, rfl, hc0_0, hr0_0⟩ := hK0
  have Q0_0 := hQ0
  clear hA0 hval0 hsz0
  obtain ⟨k, hp⟩ := pure l0_0 Q0_0
  refine (Go.Proofs.Ytlniclcfmaofhaa.P.laws_FnExactRepoSize.calls k A0_0 c0_0 l0_0 true W hr0_0 hc0_0 hp).mono fun e W' ⟨he, bel⟩ => ?_
  subst he
  exact ⟨_, rfl, _, _, _, [], _, [], hW', trodAll_mk1 (shut_bool Try.underlying4 _), (trodAll_cons_mk (Below.trod laidOut (by kernel_rfl) (of_decide_eq_true (by kernel_rfl)) k0T bel lt0) trodAll_mk0), rfl, bel.frame _, fun h => by cases h⟩
theorem over (pure : Pure) : Rows.fnExactRepoSizeRow.holds Try.pinned (OpenSpec.ofChange Rows.fnExactRepoSizeSpec) :=
  OpenClaim.holds_of_wide 5 Try.f5 rfl rfl rfl rfl rfl rfl rfl ⟨rfl, rfl, rfl, rfl, rfl⟩ rfl rfl rfl rfl rfl (by kernel_rfl) Try.func5 (by kernel_rfl)
    (of_decide_eq_true (by kernel_rfl)) (by unfold Func.isWrapper; first | (rw [if_pos (by decide +kernel)]; kernel_rfl) | (rw [if_neg (by decide +kernel)]; exact ⟨rfl, rfl⟩))
    (fun os started H enc _ => lifted pure os started H enc)
theorem proved : Rows.FnExactRepoSizeSaid := over Pure.FnExactRepoSize
#print axioms proved
end Go.Proofs.Ytlniclcfmaofhaa.fnExactRepoSize
namespace Go.Proofs.Ytlniclcfmaofhaa
/-- The row, under a short name, for the claim. -/
theorem fnExactRepoSize_holds : Rows.FnExactRepoSizeSaid := fnExactRepoSize.proved
end Go.Proofs.Ytlniclcfmaofhaa
