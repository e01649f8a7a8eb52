/- The law FnExactTopDist: called with any arguments that can be read as data it returns true, and its arguments read afterwards as before. Conditions: none. -/
import Derived.Test.YtockkelkdimehaaRows
import Derived.Test.YtockkelkdimehaaStFnExactTopDist
import Derived.Test.YtockkelkdimehaaPureFnExactTopDist
import Derived.WalkKit
import Derived.ProofKit
import Derived.OpenShut
import Derived.ShutString
import Derived.ChangeOld
import Derived.Below
import Derived.SizedLaws
namespace Go.Proofs.Ytockkelkdimehaa.fnExactTopDist
open Go.ChangeShapes Go.WideShapes Go.ChangeAt
open Go.ChangeMaps (open_string shut_string)
open Go.RowKit Go.Proofs.YtockkelkdimehaaW.PrintWords Go.Proofs.YtockkelkdimehaaW.PrintLast Go.Proofs.YtockkelkdimehaaW.PrintMore Go.Proofs.Ytockkelkdimehaa.P
set_option linter.unusedVariables false
theorem opn61 : Opn.Opens Try.prog 61 k61 Ok61 := Opn.opens_struct (P := Try.prog) (f := fun x : S61 => (x.f0, x.f1)) (fun y => ⟨y.1, y.2⟩) (fun _ => rfl) Try.underlying61 (by kernel_rfl) (Opn.opensFs_cons rfl (by kernel_rfl) (Opn.opens_i64 Try.underlying3) (by decide) (Opn.opensFs_one rfl (by kernel_rfl) (Opn.opens_i64 Try.underlying3)))
theorem own : ownKnob Try.prog.godebug = none := by kernel_rfl
theorem laidOut : laidOutB Try.prog = true := by kernel_rfl
set_option maxRecDepth 100000 in
theorem lifted (pure : Pure) (os : Os) (started : os.Started) (H : Type) (enc : TypeId × Value → H) :
    ReturnsInHanded {} Try.checked os 5 .any (Rows.fnExactTopDistSpec.pre6 enc Try.prog Try.f5 Rows.fnExactTopDistRow.domain false) (Rows.fnExactTopDistSpec.post enc Try.prog Try.f5 false true false false) := by
  refine returnsInHanded_of_change_sized (C := Try.checked) own started (by kernel_rfl) Try.func5
    (ChangeSpec.witness6 (enc := enc) (C := Try.checked) false ⟨#[], #[.slice none 0 0, .slice none 0 0, .agg #[.slice none 0 0, .slice none 0 0, .slice none 0 0]], []⟩ 8 (by kernel_rfl) (by kernel_rfl) (by kernel_rfl) (by kernel_rfl)) ?_
  intro W base args ds gs before hval0 hW hcnd hsz0 _
  have hval : ∀ (j : Nat) t v, Try.f5.params[j]? = some t → args[j]? = some v → Value.okWide Try.prog W .any base t v := hval0
  have hW' := hW
  obtain ⟨p, q, hA0, hV, rfl, hfz, hnd⟩ := hW
  have hA : DataW.TrodAll enc Try.prog W 0 (fun _ => true) true Try.f5.params.toList args.toList ds p := hA0
  rw [Try.params5] at hA hval
  obtain ⟨v0, vs0, d0, ds0, p0, q0, hargs, rfl, rfl, h0, r0⟩ := trodAll_cons hA
  obtain ⟨v1, vs1, d1, ds1, p1, q1, rfl, rfl, rfl, h1, r1⟩ := trodAll_cons r0
  obtain ⟨v2, vs2, d2, ds2, p2, q2, rfl, rfl, rfl, h2, r2⟩ := trodAll_cons r1
  obtain ⟨rfl, rfl, rfl⟩ := trodAll_nil r2
  obtain rfl : args = #[v0, v1, v2] := by cases args; simp_all
  obtain ⟨rfl, rfl⟩ := trodVars_none hV
  have lt0 : ∀ x ∈ p0, x.block < W.heap.size := by obtain ⟨m, hm⟩ := h0; exact DataW.trod_lt m _ _ _ hm
  have k0T := h0
  obtain ⟨A0, len0, c0, rfl⟩ := okWide_slice Try.underlying22 (hval 0 22 v0 rfl rfl)
  obtain ⟨l0, rfl, hc0, hr0, Q0⟩ := Opn.arg_slice (P := Try.prog) (Opn.opens_slice Try.underlying22 (by kernel_rfl) opn61) h0
  have lt1 : ∀ x ∈ p1, x.block < W.heap.size := by obtain ⟨m, hm⟩ := h1; exact DataW.trod_lt m _ _ _ hm
  have k1T := h1
  obtain ⟨A1, len1, c1, rfl⟩ := okWide_slice Try.underlying22 (hval 1 22 v1 rfl rfl)
  obtain ⟨l1, rfl, hc1, hr1, Q1⟩ := Opn.arg_slice (P := Try.prog) (Opn.opens_slice Try.underlying22 (by kernel_rfl) opn61) h1
  have lt2 : ∀ x ∈ p2, x.block < W.heap.size := by obtain ⟨m, hm⟩ := h2; exact DataW.trod_lt m _ _ _ hm
  have k2T := h2
  obtain ⟨⟨l2_0, l2_1, l2_2⟩, cs2, rfl, hK2, hQ2⟩ := Opn.arg_struct (P := Try.prog) Try.underlying34 (by kernel_rfl) (Opn.opensFs_cons rfl (by kernel_rfl) (Opn.opens_slice Try.underlying24 (by kernel_rfl) (Opn.opens_i64 Try.underlying3)) (by decide) (Opn.opensFs_cons rfl (by kernel_rfl) (Opn.opens_slice Try.underlying24 (by kernel_rfl) (Opn.opens_i64 Try.underlying3)) (by decide) (Opn.opensFs_one rfl (by kernel_rfl) (Opn.opens_slice Try.underlying24 (by kernel_rfl) (Opn.opens_i64 Try.underlying3))))) (hval 2 34 v2 rfl rfl) h2
  obtain ⟨_, _, rfl, ⟨A2_0, c2_0, rfl, hc2_0, hr2_0⟩, ⟨_, _, rfl, ⟨A2_1, c2_1, rfl, hc2_1, hr2_1⟩, ⟨A2_2, c2_2, rfl, hc2_2, hr2_2⟩⟩⟩ := hK2
  obtain ⟨Q2_0, ⟨Q2_1, Q2_2⟩⟩ := hQ2
  clear hA0 hval0 hsz0
  obtain ⟨k, hp⟩ := pure l0 l1 l2_0 l2_1 l2_2 Q0 Q1 Q2_0 Q2_1 Q2_2
  refine (Go.Proofs.Ytockkelkdimehaa.P.laws_FnExactTopDist.calls k A0 c0 l0 A1 c1 l1 A2_0 c2_0 l2_0 A2_1 c2_1 l2_1 A2_2 c2_2 l2_2 true W hr0 hc0 hr1 hc1 hr2_0 hc2_0 hr2_1 hc2_1 hr2_2 hc2_2 hp rfl).mono fun e W' ⟨he, bel⟩ => ?_
  subst he
  exact ⟨_, rfl, _, _, _, [], _, [], hW', trodAll_mk1 (shut_bool Try.underlying4 _), (trodAll_cons_mk (Below.trod laidOut (by kernel_rfl) (of_decide_eq_true (by kernel_rfl)) k0T bel lt0) (trodAll_cons_mk (Below.trod laidOut (by kernel_rfl) (of_decide_eq_true (by kernel_rfl)) k1T bel lt1) (trodAll_cons_mk (Below.trod laidOut (by kernel_rfl) (of_decide_eq_true (by kernel_rfl)) k2T bel lt2) trodAll_mk0))), rfl, bel.frame _, fun h => by cases h⟩
theorem over (pure : Pure) : Rows.fnExactTopDistRow.holds Try.pinned (OpenSpec.ofChange Rows.fnExactTopDistSpec) :=
  OpenClaim.holds_of_wide 5 Try.f5 rfl rfl rfl rfl rfl rfl rfl ⟨rfl, rfl, rfl, rfl, rfl⟩ rfl rfl rfl rfl rfl (by kernel_rfl) Try.func5 (by kernel_rfl)
    (of_decide_eq_true (by kernel_rfl)) (by unfold Func.isWrapper; first | (rw [if_pos (by decide +kernel)]; kernel_rfl) | (rw [if_neg (by decide +kernel)]; exact ⟨rfl, rfl⟩))
    (fun os started H enc _ => lifted pure os started H enc)
theorem proved : Rows.FnExactTopDistSaid := over Pure.FnExactTopDist
#print axioms proved
end Go.Proofs.Ytockkelkdimehaa.fnExactTopDist
namespace Go.Proofs.Ytockkelkdimehaa
/-- The row, under a short name, for the claim. -/
theorem fnExactTopDist_holds : Rows.FnExactTopDistSaid := fnExactTopDist.proved
end Go.Proofs.Ytockkelkdimehaa
