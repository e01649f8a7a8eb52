/- The law FnExactFlat: called with any arguments that can be read as data it returns true, and its arguments read afterwards as before. Conditions: none. -/
import Derived.Test.YtinlbiphjgpmmaaBFnExactFlat4
import Derived.Test.YtinlbiphjgpmmaaRows
import Derived.WalkKit
import Derived.ProofKit
import Derived.OpenShut
import Derived.ShutString
import Derived.ChangeOld
import Derived.Below
import Derived.SizedLaws
namespace Go.Proofs.Ytinlbiphjgpmmaa.fnExactFlat
open Go.ChangeShapes Go.WideShapes Go.ChangeAt
open Go.ChangeMaps (open_string shut_string)
open Go.RowKit Go.Proofs.Ytinlbiphjgpmmaa.V Go.Proofs.Ytinlbiphjgpmmaa.P
set_option linter.unusedVariables false
set_option linter.all false
theorem opv100 : OpV Try.prog 100 e100 (fun x => (I64 x.f0 ∧ x.f1.size ≤ maxLen)) := opv_struct (n := 2) (e := fun q => eI q.1 ++ eS q.2) (Q := fun q => I64 q.1 ∧ q.2.size ≤ maxLen) (g := fun y => ⟨y.1, y.2⟩) (f := fun x : S100 => (x.f0, x.f1)) (fun _ => rfl) (fun _ => rfl) Try.underlying100 (by kernel_rfl) (opvs_cons (n := 1) (k := 1) (e := eI) (Q := fun q => I64 q) (e' := fun q => eS q) (Q' := fun q => q.size ≤ maxLen) rfl (by kernel_rfl) (opv_i64 Try.underlying3) (by decide) (opvs_one (n := 1) (e := eS) (Q := fun q => q.size ≤ maxLen) rfl (by kernel_rfl) (opv_string Try.underlying9)))
structure S24 where
  f0 : (List S100)
def e24 (x : S24) : List AV := [.deep false true 2 (x.f0.map e100)]
theorem opv24 : OpV Try.prog 24 e24 (fun x => ((x.f0.length ≤ maxLen ∧ ∀ y ∈ x.f0, (I64 y.f0 ∧ y.f1.size ≤ maxLen)))) := opv_struct (n := 1) (e := fun q => (eL 2 true e100) q) (Q := fun q => (q.length ≤ maxLen ∧ ∀ y ∈ q, (I64 y.f0 ∧ y.f1.size ≤ maxLen))) (g := fun y => ⟨y⟩) (f := fun x : S24 => x.f0) (fun _ => rfl) (fun _ => rfl) Try.underlying24 (by kernel_rfl) (opvs_one (n := 1) (e := (eL 2 true e100)) (Q := fun q => (q.length ≤ maxLen ∧ ∀ y ∈ q, (I64 y.f0 ∧ y.f1.size ≤ maxLen))) rfl (by kernel_rfl) (opv_slice (en := e100) (sz := 2) Try.underlying22 (by kernel_rfl) (by decide) (fun _ => rfl) opv100))
theorem bo24 (a : S24) : ∀ av ∈ e24 a, ∀ p bo sz ys, av = .deep p bo sz ys → bo = true := by
  intro av hav p bo sz ys e
  subst e
  unfold e24 at hav
  simp [eI, eB, eS, eL] at hav
  try simp [hav]
theorem own : ownKnob Try.prog.godebug = none := by kernel_rfl
theorem laidOut : laidOutB Try.prog = true := by kernel_rfl
theorem mixed : Try.prog.follows .mixedOrders = true := by kernel_rfl
theorem look {α : Type} {p : Nat → α → Bool} : ∀ {l : List (Nat × α)}, (l.all fun x => p x.1 x.2) = true → ∀ {f : Nat} {a : α}, l.lookup f = some a → p f a = true
  | [], _, f, a, h => by cases h
  | (g, b) :: l, ha, f, a, h => by
    rw [List.all_cons, Bool.and_eq_true] at ha
    rw [List.lookup_cons] at h
    split at h
    · rename_i e; injection h with h; rw [← h, eq_of_beq e]; exact ha.1
    · exact look ha.2 h
set_option maxRecDepth 1000000 in
theorem tabOk : (tab.all fun x => fnOk Try.prog x.1 x.2) = true := by kernel_rfl
theorem envOk : EnvOk Try.prog env := ⟨fun f F h => look tabOk h, fun f g h => by cases h⟩
set_option maxRecDepth 100000 in
theorem lifted (os : Os) (started : os.Started) (H : Type) (enc : TypeId × Value → H) :
    ReturnsInHanded {} Try.checked os 5 .any (Rows.fnExactFlatSpec.pre6 enc Try.prog Try.f5 Rows.fnExactFlatRow.domain false) (Rows.fnExactFlatSpec.post enc Try.prog Try.f5 false true false false) := by
  refine returnsInHanded_of_change_sized (C := Try.checked) own started (by kernel_rfl) Try.func5
    (ChangeSpec.witness6 (enc := enc) (C := Try.checked) false ⟨#[], #[.agg #[.slice none 0 0], .int .i64 0], []⟩ 8 (by kernel_rfl) (by kernel_rfl) (by kernel_rfl) (by kernel_rfl)) ?_
  intro W base args ds gs before hval0 hW hcnd hsz0 _
  have hval : ∀ (j : Nat) t v, Try.f5.params[j]? = some t → args[j]? = some v → Value.okWide Try.prog W .any base t v := hval0
  have hW' := hW
  obtain ⟨p, q, hA0, hV, rfl, hfz, hnd⟩ := hW
  have hA : DataW.TrodAll enc Try.prog W 0 (fun _ => true) true Try.f5.params.toList args.toList ds p := hA0
  rw [Try.params5] at hA hval
  obtain ⟨v0, vs0, d0, ds0, p0, q0, hargs, rfl, rfl, h0, r0⟩ := trodAll_cons hA
  obtain ⟨v1, vs1, d1, ds1, p1, q1, rfl, rfl, rfl, h1, r1⟩ := trodAll_cons r0
  obtain ⟨rfl, rfl, rfl⟩ := trodAll_nil r1
  obtain rfl : args = #[v0, v1] := by cases args; simp_all
  obtain ⟨rfl, rfl⟩ := trodVars_none hV
  have lt0 : ∀ x ∈ p0, x.block < W.heap.size := by obtain ⟨m, hm⟩ := h0; exact DataW.trod_lt m _ _ _ hm
  obtain ⟨a0, ⟨g0, H0⟩, Q0⟩ := argv_struct Try.underlying24 opv24 bo24 (hval 0 24 v0 rfl rfl) h0
  have lt1 : ∀ x ∈ p1, x.block < W.heap.size := by obtain ⟨m, hm⟩ := h1; exact DataW.trod_lt m _ _ _ hm
  obtain ⟨a1, ⟨g1, H1⟩, Q1⟩ := argv_int Try.underlying3 (hval 1 3 v1 rfl rfl) h1
  clear hA0 hval0 hsz0
  obtain ⟨k, hp⟩ := Pure.FnExactFlat a0.f0 a1 Q0 Q1
  have hs := (callW_sound mixed envOk (laws_FnExactFlat.link hp)).2
  refine (law_calls hs rfl (hvs_cons H0 (hvs_cons H1 hvs_nil))).mono fun e W' ⟨he, bel⟩ => ?_
  subst he
  exact ⟨_, rfl, _, _, _, [], _, [], hW', trodAll_mk1 (shut_bool Try.underlying4 _), (trodAll_cons_mk (Below.trod laidOut (by kernel_rfl) (of_decide_eq_true (by kernel_rfl)) h0 bel lt0) (trodAll_cons_mk (Below.trod laidOut (by kernel_rfl) (of_decide_eq_true (by kernel_rfl)) h1 bel lt1) trodAll_mk0)), rfl, bel.frame _, fun h => by cases h⟩
theorem over : Rows.fnExactFlatRow.holds Try.pinned (OpenSpec.ofChange Rows.fnExactFlatSpec) :=
  OpenClaim.holds_of_wide 5 Try.f5 rfl rfl rfl rfl rfl rfl rfl ⟨rfl, rfl, rfl, rfl, rfl⟩ rfl rfl rfl rfl rfl (by kernel_rfl) Try.func5 (by kernel_rfl)
    (of_decide_eq_true (by kernel_rfl)) (by unfold Func.isWrapper; first | (rw [if_pos (by decide +kernel)]; kernel_rfl) | (rw [if_neg (by decide +kernel)]; exact ⟨rfl, rfl⟩))
    (fun os started H enc _ => lifted os started H enc)
theorem proved : Rows.FnExactFlatSaid := over
#print axioms proved
end Go.Proofs.Ytinlbiphjgpmmaa.fnExactFlat
namespace Go.Proofs.Ytinlbiphjgpmmaa
/-- The row, under a short name, for the claim. -/
theorem fnExactFlat_holds : Rows.FnExactFlatSaid := fnExactFlat.proved
end Go.Proofs.Ytinlbiphjgpmmaa
