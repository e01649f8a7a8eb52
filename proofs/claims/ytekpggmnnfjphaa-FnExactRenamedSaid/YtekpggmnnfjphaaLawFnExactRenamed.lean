/- The law FnExactRenamed: called with any arguments that can be read as data it returns true, and its arguments read afterwards as before. Conditions: none. -/
import Derived.Test.YtekpggmnnfjphaaRows
import Derived.Test.YtekpggmnnfjphaaStFnExactRenamed
import Derived.Test.YtekpggmnnfjphaaPureFnExactRenamed
import Derived.WalkKit
import Derived.ProofKit
import Derived.OpenShut
import Derived.ShutString
import Derived.ChangeOld
import Derived.Below
import Derived.SizedLaws
namespace Go.Proofs.Ytekpggmnnfjphaa.fnExactRenamed
open Go.ChangeShapes Go.WideShapes Go.ChangeAt
open Go.ChangeMaps (open_string shut_string)
open Go.RowKit Go.Proofs.YtekpggmnnfjphaaW.PrintWords Go.Proofs.YtekpggmnnfjphaaW.PrintLast Go.Proofs.YtekpggmnnfjphaaW.PrintMore Go.Proofs.Ytekpggmnnfjphaa.P
set_option linter.unusedVariables false
theorem opn91 : Opn.Opens Try.prog 91 k91 Ok91 := Opn.opens_struct (P := Try.prog) (f := fun x : S91 => (x.f0, x.f1)) (fun y => ⟨y.1, y.2⟩) (fun _ => rfl) Try.underlying91 (by kernel_rfl) (Opn.opensFs_cons rfl (by kernel_rfl) (Opn.opens_i64 Try.underlying3) (by decide) (Opn.opensFs_one rfl (by kernel_rfl) (Opn.opens_i64 Try.underlying3)))
theorem own : ownKnob Try.prog.godebug = none := by kernel_rfl
theorem laidOut : laidOutB Try.prog = true := by kernel_rfl
set_option maxRecDepth 100000 in
theorem lifted (pure : Pure) (os : Os) (started : os.Started) (H : Type) (enc : TypeId × Value → H) :
    ReturnsInHanded {} Try.checked os 8 .any (Rows.fnExactRenamedSpec.pre6 enc Try.prog Try.f8 Rows.fnExactRenamedRow.domain false) (Rows.fnExactRenamedSpec.post enc Try.prog Try.f8 false true false false) := by
  refine returnsInHanded_of_change_sized (C := Try.checked) own started (by kernel_rfl) Try.func8
    (ChangeSpec.witness6 (enc := enc) (C := Try.checked) false ⟨#[], #[.slice none 0 0, .slice none 0 0], []⟩ 8 (by kernel_rfl) (by kernel_rfl) (by kernel_rfl) (by kernel_rfl)) ?_
  intro W base args ds gs before hval0 hW hcnd hsz0 _
  have hval : ∀ (j : Nat) t v, Try.f8.params[j]? = some t → args[j]? = some v → Value.okWide Try.prog W .any base t v := hval0
  have hW' := hW
  obtain ⟨p, q, hA0, hV, rfl, hfz, hnd⟩ := hW
  have hA : DataW.TrodAll enc Try.prog W 0 (fun _ => true) true Try.f8.params.toList args.toList ds p := hA0
  rw [Try.params8] at hA hval
  obtain ⟨v0, vs0, d0, ds0, p0, q0, hargs, rfl, rfl, h0, r0⟩ := trodAll_cons hA
  obtain ⟨v1, vs1, d1, ds1, p1, q1, rfl, rfl, rfl, h1, r1⟩ := trodAll_cons r0
  obtain ⟨rfl, rfl, rfl⟩ := trodAll_nil r1
  obtain rfl : args = #[v0, v1] := by cases args; simp_all
  obtain ⟨rfl, rfl⟩ := trodVars_none hV
  have lt0 : ∀ x ∈ p0, x.block < W.heap.size := by obtain ⟨m, hm⟩ := h0; exact DataW.trod_lt m _ _ _ hm
  have k0T := h0
  obtain ⟨A0, len0, c0, rfl⟩ := okWide_slice Try.underlying59 (hval 0 59 v0 rfl rfl)
  obtain ⟨l0, rfl, hc0, hr0, Q0⟩ := Opn.arg_slice (P := Try.prog) (Opn.opens_slice Try.underlying59 (by kernel_rfl) opn91) h0
  have lt1 : ∀ x ∈ p1, x.block < W.heap.size := by obtain ⟨m, hm⟩ := h1; exact DataW.trod_lt m _ _ _ hm
  have k1T := h1
  obtain ⟨A1, len1, c1, rfl⟩ := okWide_slice Try.underlying59 (hval 1 59 v1 rfl rfl)
  obtain ⟨l1, rfl, hc1, hr1, Q1⟩ := Opn.arg_slice (P := Try.prog) (Opn.opens_slice Try.underlying59 (by kernel_rfl) opn91) h1
  clear hA0 hval0 hsz0
  obtain ⟨k, hp⟩ := pure l0 l1 Q0 Q1
  refine (Go.Proofs.Ytekpggmnnfjphaa.P.laws_FnExactRenamed.calls k A0 c0 l0 A1 c1 l1 true W hr0 hc0 hr1 hc1 hp rfl).mono fun e W' ⟨he, bel⟩ => ?_
  subst he
  exact ⟨_, rfl, _, _, _, [], _, [], hW', trodAll_mk1 (shut_bool Try.underlying4 _), (trodAll_cons_mk (Below.trod laidOut (by kernel_rfl) (of_decide_eq_true (by kernel_rfl)) k0T bel lt0) (trodAll_cons_mk (Below.trod laidOut (by kernel_rfl) (of_decide_eq_true (by kernel_rfl)) k1T bel lt1) trodAll_mk0)), rfl, bel.frame _, fun h => by cases h⟩
theorem over (pure : Pure) : Rows.fnExactRenamedRow.holds Try.pinned (OpenSpec.ofChange Rows.fnExactRenamedSpec) :=
  OpenClaim.holds_of_wide 8 Try.f8 rfl rfl rfl rfl rfl rfl rfl ⟨rfl, rfl, rfl, rfl, rfl⟩ rfl rfl rfl rfl rfl (by kernel_rfl) Try.func8 (by kernel_rfl)
    (of_decide_eq_true (by kernel_rfl)) (by unfold Func.isWrapper; first | (rw [if_pos (by decide +kernel)]; kernel_rfl) | (rw [if_neg (by decide +kernel)]; exact ⟨rfl, rfl⟩))
    (fun os started H enc _ => lifted pure os started H enc)
theorem proved : Rows.FnExactRenamedSaid := over Pure.FnExactRenamed
#print axioms proved
end Go.Proofs.Ytekpggmnnfjphaa.fnExactRenamed
namespace Go.Proofs.Ytekpggmnnfjphaa
/-- The row, under a short name, for the claim. -/
theorem fnExactRenamed_holds : Rows.FnExactRenamedSaid := fnExactRenamed.proved
end Go.Proofs.Ytekpggmnnfjphaa
