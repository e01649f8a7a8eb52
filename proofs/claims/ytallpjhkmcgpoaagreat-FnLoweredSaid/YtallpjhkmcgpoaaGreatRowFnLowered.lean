/- The law FnLowered: called with any arguments that can be read as data it returns true, and its arguments read afterwards as before. Conditions: none. -/
import Derived.Test.YtallpjhkmcgpoaaGreatBFnLowered5
import Derived.Test.YtallpjhkmcgpoaaGreatRows
import Derived.WalkKit
import Derived.ProofKit
import Derived.OpenShut
import Derived.ShutString
import Derived.ChangeOld
import Derived.Below
import Derived.SizedLaws
import Derived.Shelf.SlSortCmp.NoneTotal
import Derived.Shelf.Lay
import Derived.Ground.SlsfProg
namespace Go.Proofs.YtallpjhkmcgpoaaGreat.fnLowered
open Go.ChangeShapes Go.WideShapes Go.ChangeAt
open Go.ChangeMaps (open_string shut_string)
open Go.RowKit Go.Proofs.YtallpjhkmcgpoaaGreat.V Go.Proofs.YtallpjhkmcgpoaaGreat.P
set_option linter.unusedVariables false
set_option linter.all false
theorem own : ownKnob Tryz.prog.godebug = none := by kernel_rfl
theorem Qs9 : laidOutB Tryz.prog = true := by kernel_rfl
theorem QyG : Tryz.prog.follows .mixedOrders = true := by kernel_rfl
theorem QcV {α : Type} {p : Nat → α → Bool} : ∀ {l : List (Nat × α)}, (l.all fun x => p x.1 x.2) = true → ∀ {f : Nat} {a : α}, l.lookup f = some a → p f a = true
  | [], _, f, a, h => by cases h
  | (g, b) :: l, ha, f, a, h => by
    rw [List.all_cons, Bool.and_eq_true] at ha
    rw [List.lookup_cons] at h
    split at h
    · rename_i e; injection h with h; rw [← h, eq_of_beq e]; exact ha.1
    · exact QcV ha.2 h
set_option maxRecDepth 1000000 in
theorem Qyw : (tab.all fun x => Qyj Tryz.prog x.1 x.2) = true := by kernel_rfl
shelf_lay_g SlLaysF.n6 Slsf 6 at Tryz 82 as sortLays
theorem QuF {call : QaM} (hc : ∀ f ds out, call f ds = some out → QbM Tryz.prog f = true ∧ Ctr Tryz.prog f ds out) {ds : List AV} {out : Out} (h : Qg2 call ds = some out) : QbM Tryz.prog 82 = true ∧ Ctr Tryz.prog 82 ds out := by
  have := QoK sortLays { sortLays with } (by kernel_rfl) hc h
  exact this
theorem QyY : Qp6 Tryz.prog env := ⟨fun f F h => QcV Qyw h, fun f x h call hc ds out hx => by
  have h : (if f = 82 then some QoL else none) = some x := h
  split at h
  · rename_i e
    injection h with h
    subst h e
    exact QuF hc hx
  · cases h⟩
set_option maxRecDepth 100000 in
theorem Qv1 (os : Os) (started : os.Started) (H : Type) (enc : TypeId × Value → H) :
    ReturnsInHanded {} Tryz.checked os 3 .any (Rows.fnLoweredSpec.pre6 enc Tryz.prog Tryz.f3 Rows.fnLoweredRow.domain false) (Rows.fnLoweredSpec.post enc Tryz.prog Tryz.f3 false true false false) := by
  refine returnsInHanded_of_change_sized (C := Tryz.checked) own started (by kernel_rfl) Tryz.func3
    (ChangeSpec.witness6 (enc := enc) (C := Tryz.checked) false ⟨#[], #[.slice none 0 0], []⟩ 8 (by kernel_rfl) (by kernel_rfl) (by kernel_rfl) (by kernel_rfl)) ?_
  intro W base args ds gs before hval0 hW hcnd hsz0 _
  have hval : ∀ (j : Nat) t v, Tryz.f3.params[j]? = some t → args[j]? = some v → Value.okWide Tryz.prog W .any base t v := hval0
  have hW' := hW
  obtain ⟨p, q, hA0, hV, rfl, hfz, hnd⟩ := hW
  have hA : DataW.TrodAll enc Tryz.prog W 0 (fun _ => true) true Tryz.f3.params.toList args.toList ds p := hA0
  rw [Tryz.params3] at hA hval
  obtain ⟨v0, vs0, d0, ds0, p0, q0, hargs, rfl, rfl, h0, r0⟩ := trodAll_cons hA
  obtain ⟨rfl, rfl, rfl⟩ := trodAll_nil r0
  obtain rfl : args = #[v0] := by cases args; simp_all
  obtain ⟨rfl, rfl⟩ := trodVars_none hV
  have lt0 : ∀ x ∈ p0, x.block < W.heap.size := by obtain ⟨m, hm⟩ := h0; exact DataW.trod_lt m _ _ _ hm
  obtain ⟨l0, ⟨g0, H0⟩, Q0⟩ := Qlk (en := e8) (sz := 1) (Qml (en := e8) (sz := 1) Tryz.underlying22 (by kernel_rfl) (by decide) (fun _ => rfl) (QvA Tryz.underlying5)) Tryz.underlying22 (hval 0 22 v0 rfl rfl) h0
  clear hA0 hval0 hsz0
  obtain ⟨k, hp⟩ := Pure.FnLowered l0 Q0
  have hs := (Qjc QyG QyY (Qv.link hp)).2
  refine (Qm4 hs rfl (Qpm H0 Qtd)).mono fun e W' ⟨he, bel⟩ => ?_
  subst he
  exact ⟨_, rfl, _, _, _, [], _, [], hW', trodAll_mk1 (shut_bool Tryz.underlying4 _), (trodAll_cons_mk (Below.trod Qs9 (by kernel_rfl) (of_decide_eq_true (by kernel_rfl)) h0 bel lt0) trodAll_mk0), rfl, bel.frame _, fun h => by cases h⟩
theorem QBN : Rows.fnLoweredRow.holds Tryz.pinned (OpenSpec.ofChange Rows.fnLoweredSpec) :=
  OpenClaim.holds_of_wide 3 Tryz.f3 rfl rfl rfl rfl rfl rfl rfl ⟨rfl, rfl, rfl, rfl, rfl⟩ rfl rfl rfl rfl rfl (by kernel_rfl) Tryz.func3 (by kernel_rfl)
    (of_decide_eq_true (by kernel_rfl)) (by unfold Func.isWrapper; first | (rw [if_pos (by decide +kernel)]; kernel_rfl) | (rw [if_neg (by decide +kernel)]; exact ⟨rfl, rfl⟩))
    (fun os started H enc _ => Qv1 os started H enc)
theorem proved : Rows.FnLoweredSaid := QBN
#print axioms proved
end Go.Proofs.YtallpjhkmcgpoaaGreat.fnLowered
namespace Go.Proofs.YtallpjhkmcgpoaaGreat
/-- The row, under a short name, for the claim. -/
theorem fnLowered_holds : Rows.FnLoweredSaid := fnLowered.proved
end Go.Proofs.YtallpjhkmcgpoaaGreat
