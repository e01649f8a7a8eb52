/- The law FnExactHistAdd: called with any arguments that can be read as data it returns true, and its arguments read afterwards as before. Conditions: none. -/
import Derived.Test.YtinlbiphjgpmmaaBFnExactHistAdd5
import Derived.Test.YtinlbiphjgpmmaaRows
import Derived.WalkKit
import Derived.ProofKit
import Derived.OpenShut
import Derived.ShutString
import Derived.ChangeOld
import Derived.Below
import Derived.SizedLaws
namespace Go.Proofs.Ytinlbiphjgpmmaa.fnExactHistAdd
open Go.ChangeShapes Go.WideShapes Go.ChangeAt
open Go.ChangeMaps (open_string shut_string)
open Go.RowKit Go.Proofs.Ytinlbiphjgpmmaa.V Go.Proofs.Ytinlbiphjgpmmaa.P
set_option linter.unusedVariables false
set_option linter.all false
theorem opv122 : OpV Try.prog 122 e122 (fun x => (I64 x.f0 ∧ I64 x.f1)) := opv_struct (n := 2) (e := fun q => eI q.1 ++ eI q.2) (Q := fun q => I64 q.1 ∧ I64 q.2) (g := fun y => ⟨y.1, y.2⟩) (f := fun x : S122 => (x.f0, x.f1)) (fun _ => rfl) (fun _ => rfl) Try.underlying122 (by kernel_rfl) (opvs_cons (n := 1) (k := 1) (e := eI) (Q := fun q => I64 q) (e' := fun q : Int => eI q) (Q' := fun q : Int => I64 q) rfl (by kernel_rfl) (opv_i64 Try.underlying3) (by decide) (opvs_one (n := 1) (e := eI) (Q := fun q => I64 q) rfl (by kernel_rfl) (opv_i64 Try.underlying3)))
theorem opv81 : OpV Try.prog 81 (e81 true) (fun x => (I64 x.f0 ∧ (x.f1.length ≤ maxLen ∧ ∀ y ∈ x.f1, I64 y) ∧ I64 x.f2 ∧ I64 x.f3 ∧ I64 x.f4)) := opv_struct (n := 5) (e := fun q => eI q.1 ++ (eL 1 true eI) q.2.1 ++ eI q.2.2.1 ++ eI q.2.2.2.1 ++ eI q.2.2.2.2) (Q := fun q => I64 q.1 ∧ (q.2.1.length ≤ maxLen ∧ ∀ y ∈ q.2.1, I64 y) ∧ I64 q.2.2.1 ∧ I64 q.2.2.2.1 ∧ I64 q.2.2.2.2) (g := fun y => ⟨y.1, y.2.1, y.2.2.1, y.2.2.2.1, y.2.2.2.2⟩) (f := fun x : S81 => (x.f0, x.f1, x.f2, x.f3, x.f4)) (fun _ => rfl) (fun _ => rfl) Try.underlying81 (by kernel_rfl) (opvs_cons (n := 1) (k := 4) (e := eI) (Q := fun q => I64 q) (e' := fun q : (List Int) × Int × Int × Int => (eL 1 true eI) q.1 ++ eI q.2.1 ++ eI q.2.2.1 ++ eI q.2.2.2) (Q' := fun q : (List Int) × Int × Int × Int => (q.1.length ≤ maxLen ∧ ∀ y ∈ q.1, I64 y) ∧ I64 q.2.1 ∧ I64 q.2.2.1 ∧ I64 q.2.2.2) rfl (by kernel_rfl) (opv_i64 Try.underlying3) (by decide) (opvs_cons (n := 1) (k := 3) (e := (eL 1 true eI)) (Q := fun q => (q.length ≤ maxLen ∧ ∀ y ∈ q, I64 y)) (e' := fun q : Int × Int × Int => eI q.1 ++ eI q.2.1 ++ eI q.2.2) (Q' := fun q : Int × Int × Int => I64 q.1 ∧ I64 q.2.1 ∧ I64 q.2.2) rfl (by kernel_rfl) (opv_slice (en := eI) (sz := 1) Try.underlying79 (by kernel_rfl) (by decide) (fun _ => rfl) (opv_i64 Try.underlying3)) (by decide) (opvs_cons (n := 1) (k := 2) (e := eI) (Q := fun q => I64 q) (e' := fun q : Int × Int => eI q.1 ++ eI q.2) (Q' := fun q : Int × Int => I64 q.1 ∧ I64 q.2) rfl (by kernel_rfl) (opv_i64 Try.underlying3) (by decide) (opvs_cons (n := 1) (k := 1) (e := eI) (Q := fun q => I64 q) (e' := fun q : Int => eI q) (Q' := fun q : Int => I64 q) rfl (by kernel_rfl) (opv_i64 Try.underlying3) (by decide) (opvs_one (n := 1) (e := eI) (Q := fun q => I64 q) rfl (by kernel_rfl) (opv_i64 Try.underlying3))))))
structure S42 where
  f0 : (List S122)
  f1 : (List (List S81))
def e42 (x : S42) : List AV := [.deep false true 2 (x.f0.map e122), .deep false true 1 (x.f1.map (eL 5 true (e81 true)))]
theorem opv42 : OpV Try.prog 42 e42 (fun x => ((x.f0.length ≤ maxLen ∧ ∀ y ∈ x.f0, (I64 y.f0 ∧ I64 y.f1)) ∧ (x.f1.length ≤ maxLen ∧ ∀ y ∈ x.f1, (y.length ≤ maxLen ∧ ∀ z ∈ y, (I64 z.f0 ∧ (z.f1.length ≤ maxLen ∧ ∀ u ∈ z.f1, I64 u) ∧ I64 z.f2 ∧ I64 z.f3 ∧ I64 z.f4))))) := opv_struct (n := 2) (e := fun q => (eL 2 true e122) q.1 ++ (eL 1 true (eL 5 true (e81 true))) q.2) (Q := fun q => (q.1.length ≤ maxLen ∧ ∀ y ∈ q.1, (I64 y.f0 ∧ I64 y.f1)) ∧ (q.2.length ≤ maxLen ∧ ∀ y ∈ q.2, (y.length ≤ maxLen ∧ ∀ z ∈ y, (I64 z.f0 ∧ (z.f1.length ≤ maxLen ∧ ∀ u ∈ z.f1, I64 u) ∧ I64 z.f2 ∧ I64 z.f3 ∧ I64 z.f4)))) (g := fun y => ⟨y.1, y.2⟩) (f := fun x : S42 => (x.f0, x.f1)) (fun _ => rfl) (fun _ => rfl) Try.underlying42 (by kernel_rfl) (opvs_cons (n := 1) (k := 1) (e := (eL 2 true e122)) (Q := fun q => (q.length ≤ maxLen ∧ ∀ y ∈ q, (I64 y.f0 ∧ I64 y.f1))) (e' := fun q : (List (List S81)) => (eL 1 true (eL 5 true (e81 true))) q) (Q' := fun q : (List (List S81)) => (q.length ≤ maxLen ∧ ∀ y ∈ q, (y.length ≤ maxLen ∧ ∀ z ∈ y, (I64 z.f0 ∧ (z.f1.length ≤ maxLen ∧ ∀ u ∈ z.f1, I64 u) ∧ I64 z.f2 ∧ I64 z.f3 ∧ I64 z.f4)))) rfl (by kernel_rfl) (opv_slice (en := e122) (sz := 2) Try.underlying39 (by kernel_rfl) (by decide) (fun _ => rfl) opv122) (by decide) (opvs_one (n := 1) (e := (eL 1 true (eL 5 true (e81 true)))) (Q := fun q => (q.length ≤ maxLen ∧ ∀ y ∈ q, (y.length ≤ maxLen ∧ ∀ z ∈ y, (I64 z.f0 ∧ (z.f1.length ≤ maxLen ∧ ∀ u ∈ z.f1, I64 u) ∧ I64 z.f2 ∧ I64 z.f3 ∧ I64 z.f4)))) rfl (by kernel_rfl) (opv_slice (en := (eL 5 true (e81 true))) (sz := 1) Try.underlying40 (by kernel_rfl) (by decide) (fun _ => rfl) (opv_slice (en := (e81 true)) (sz := 5) Try.underlying43 (by kernel_rfl) (by decide) (fun _ => rfl) opv81))))
theorem bo42 (a : S42) : ∀ av ∈ e42 a, ∀ p bo sz ys, av = .deep p bo sz ys → bo = true := by
  intro av hav p bo sz ys e
  subst e
  unfold e42 at hav
  simp [eI, eB, eS, eL] at hav
  first | (simp [hav]; done) | (rcases hav with h | h <;> exact h.2.1) | (rcases hav with h | h | h <;> exact h.2.1)
theorem own : ownKnob Try.prog.godebug = none := by kernel_rfl
theorem laidOut : laidOutB Try.prog = true := by kernel_rfl
theorem mixed : Try.prog.follows .mixedOrders = true := by kernel_rfl
theorem look {α : Type} {p : Nat → α → Bool} : ∀ {l : List (Nat × α)}, (l.all fun x => p x.1 x.2) = true → ∀ {f : Nat} {a : α}, l.lookup f = some a → p f a = true
  | [], _, f, a, h => by cases h
  | (g, b) :: l, ha, f, a, h => by
    rw [List.all_cons, Bool.and_eq_true] at ha
    rw [List.lookup_cons] at h
    split at h
    · rename_i e; injection h with h; rw [← h, eq_of_beq e]; exact ha.1
    · exact look ha.2 h
set_option maxRecDepth 1000000 in
theorem tabOk : (tab.all fun x => fnOk Try.prog x.1 x.2) = true := by kernel_rfl
theorem envOk : EnvOk Try.prog env := ⟨fun f F h => look tabOk h, fun f g h => by cases h⟩
set_option maxRecDepth 100000 in
theorem lifted (os : Os) (started : os.Started) (H : Type) (enc : TypeId × Value → H) :
    ReturnsInHanded {} Try.checked os 6 .any (Rows.fnExactHistAddSpec.pre6 enc Try.prog Try.f6 Rows.fnExactHistAddRow.domain false) (Rows.fnExactHistAddSpec.post enc Try.prog Try.f6 false true false false) := by
  refine returnsInHanded_of_change_sized (C := Try.checked) own started (by kernel_rfl) Try.func6
    (ChangeSpec.witness6 (enc := enc) (C := Try.checked) false ⟨#[], #[.agg #[.slice none 0 0, .slice none 0 0], .slice none 0 0], []⟩ 8 (by kernel_rfl) (by kernel_rfl) (by kernel_rfl) (by kernel_rfl)) ?_
  intro W base args ds gs before hval0 hW hcnd hsz0 _
  have hval : ∀ (j : Nat) t v, Try.f6.params[j]? = some t → args[j]? = some v → Value.okWide Try.prog W .any base t v := hval0
  have hW' := hW
  obtain ⟨p, q, hA0, hV, rfl, hfz, hnd⟩ := hW
  have hA : DataW.TrodAll enc Try.prog W 0 (fun _ => true) true Try.f6.params.toList args.toList ds p := hA0
  rw [Try.params6] at hA hval
  obtain ⟨v0, vs0, d0, ds0, p0, q0, hargs, rfl, rfl, h0, r0⟩ := trodAll_cons hA
  obtain ⟨v1, vs1, d1, ds1, p1, q1, rfl, rfl, rfl, h1, r1⟩ := trodAll_cons r0
  obtain ⟨rfl, rfl, rfl⟩ := trodAll_nil r1
  obtain rfl : args = #[v0, v1] := by cases args; simp_all
  obtain ⟨rfl, rfl⟩ := trodVars_none hV
  have lt0 : ∀ x ∈ p0, x.block < W.heap.size := by obtain ⟨m, hm⟩ := h0; exact DataW.trod_lt m _ _ _ hm
  obtain ⟨a0, ⟨g0, H0⟩, Q0⟩ := argv_struct Try.underlying42 opv42 bo42 (hval 0 42 v0 rfl rfl) h0
  have lt1 : ∀ x ∈ p1, x.block < W.heap.size := by obtain ⟨m, hm⟩ := h1; exact DataW.trod_lt m _ _ _ hm
  obtain ⟨l1, ⟨g1, H1⟩, Q1⟩ := argv_slice (en := (e81 true)) (sz := 5) (opv_slice (en := (e81 true)) (sz := 5) Try.underlying43 (by kernel_rfl) (by decide) (fun _ => rfl) opv81) Try.underlying43 (hval 1 43 v1 rfl rfl) h1
  clear hA0 hval0 hsz0
  obtain ⟨k, hp⟩ := Pure.FnExactHistAdd a0.f0 a0.f1 l1 Q0 Q1
  have hs := (callW_sound mixed envOk (laws_FnExactHistAdd.link hp)).2
  refine (law_calls hs rfl (hvs_cons H0 (hvs_cons H1 hvs_nil))).mono fun e W' ⟨he, bel⟩ => ?_
  subst he
  exact ⟨_, rfl, _, _, _, [], _, [], hW', trodAll_mk1 (shut_bool Try.underlying4 _), (trodAll_cons_mk (Below.trod laidOut (by kernel_rfl) (of_decide_eq_true (by kernel_rfl)) h0 bel lt0) (trodAll_cons_mk (Below.trod laidOut (by kernel_rfl) (of_decide_eq_true (by kernel_rfl)) h1 bel lt1) trodAll_mk0)), rfl, bel.frame _, fun h => by cases h⟩
theorem over : Rows.fnExactHistAddRow.holds Try.pinned (OpenSpec.ofChange Rows.fnExactHistAddSpec) :=
  OpenClaim.holds_of_wide 6 Try.f6 rfl rfl rfl rfl rfl rfl rfl ⟨rfl, rfl, rfl, rfl, rfl⟩ rfl rfl rfl rfl rfl (by kernel_rfl) Try.func6 (by kernel_rfl)
    (of_decide_eq_true (by kernel_rfl)) (by unfold Func.isWrapper; first | (rw [if_pos (by decide +kernel)]; kernel_rfl) | (rw [if_neg (by decide +kernel)]; exact ⟨rfl, rfl⟩))
    (fun os started H enc _ => lifted os started H enc)
theorem proved : Rows.FnExactHistAddSaid := over
#print axioms proved
end Go.Proofs.Ytinlbiphjgpmmaa.fnExactHistAdd
namespace Go.Proofs.Ytinlbiphjgpmmaa
/-- The row, under a short name, for the claim. -/
theorem fnExactHistAdd_holds : Rows.FnExactHistAddSaid := fnExactHistAdd.proved
end Go.Proofs.Ytinlbiphjgpmmaa
