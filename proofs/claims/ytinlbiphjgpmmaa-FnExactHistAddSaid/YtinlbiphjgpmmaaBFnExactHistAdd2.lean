/- FnExactHistAdd: WF WG WH WI WJ WK WO WM L0. -/
import Derived.Test.YtinlbiphjgpmmaaBFnExactHistAdd1
import Derived.RowKit
import Derived.Laws.Entries
import Derived.Laws.Strings
import Derived.Deep.Slices
import Derived.ChangeArms
import Derived.WideShapes
import Derived.Below
section YtinlbiphjgpmmaaWF
namespace Go.Proofs.Ytinlbiphjgpmmaa.V
open Go
set_option linter.unusedVariables false
set_option linter.unusedSimpArgs false

/-- The evaluator's function is the program's. -/
def fnOk (P : Program) (f : Nat) (F : Fn) : Bool :=
  match P.funcs[f]? with
  | some fn => (match fn.body with | some c => cOk P fn.ntmps F.m c F.body | none => false) && (decide (fn.results.size ≤ 3) && (rsOk P fn.results.toList F.res && fn.name != "runtime.NumGoroutine"))
  | none => false

theorem nodup_flat {al : List (List Nat)} : al.flatten.Nodup → ∀ {k k' : Nat} {l l' : List Nat} {r : Nat}, al[k]? = some l → al[k']? = some l' → r ∈ l → r ∈ l' → k = k' := by
  induction al with
  | nil => intro _ k k' l l' r h; simp at h
  | cons x al ih =>
    intro hn k k' l l' r h1 h2 h3 h4
    rw [List.flatten_cons, List.nodup_append] at hn
    obtain ⟨_, hn2, hn3⟩ := hn
    have mem : ∀ {j : Nat} {l : List Nat}, al[j]? = some l → r ∈ l → r ∈ al.flatten := fun h hr => List.mem_flatten.2 ⟨_, List.mem_of_getElem? h, hr⟩
    cases k with
    | zero =>
      cases k' with
      | zero => rfl
      | succ k' =>
        simp only [List.getElem?_cons_zero, Option.some.injEq, List.getElem?_cons_succ] at h1 h2
        subst h1
        exact absurd rfl (hn3 r h3 r (mem h2 h4))
    | succ k =>
      cases k' with
      | zero =>
        simp only [List.getElem?_cons_zero, Option.some.injEq, List.getElem?_cons_succ] at h1 h2
        subst h2
        exact absurd rfl (hn3 r h4 r (mem h1 h3))
      | succ k' => rw [ih hn2 h1 h2 h3 h4]

theorem backs_get (rs : Rs) (us : List Nat) : ∀ (l : List Root) (n k : Nat) (R : Root), l[k]? = some R → (backs rs us n l)[k]? = some (if R.own then (if n + k ∈ us then none else (rs (n + k)).map Root.xs) else none)
  | [], n, k, R, h => by simp at h
  | R0 :: l, n, k, R, h => by
    cases k with
    | zero => simp only [List.getElem?_cons_zero, Option.some.injEq] at h; subst h; simp only [backs, List.getElem?_cons_zero, Nat.add_zero]
    | succ k => simp only [backs, List.getElem?_cons_succ] at h ⊢; rw [backs_get rs us l (n + 1) k R h, Nat.add_assoc, Nat.add_comm 1 k]
theorem backs_len (rs : Rs) (us : List Nat) : ∀ (l : List Root) (n : Nat), (backs rs us n l).length = l.length
  | [], n => rfl
  | R0 :: l, n => by simp only [backs, List.length_cons, backs_len]
theorem backs_some {rs : Rs} {us : List Nat} {l : List Root} {k : Nat} {ys : Els} (h : (backs rs us 0 l)[k]? = some (some ys)) : k ∉ us ∧ ∃ R0 R, l[k]? = some R0 ∧ R0.own = true ∧ rs k = some R ∧ ys = R.xs := by
  have hk : k < l.length := by have := (List.getElem?_eq_some_iff.1 h).1; rwa [backs_len] at this
  have h1 := backs_get rs us l 0 k l[k] (List.getElem?_eq_getElem hk)
  rw [h, Nat.zero_add] at h1
  injection h1 with h1
  split at h1
  · rename_i hown
    split at h1
    · cases h1
    · rename_i hu
      have h1 := h1.symm
      simp only [Option.map_eq_some_iff] at h1
      obtain ⟨R, e1, e2⟩ := h1
      exact ⟨hu, _, R, List.getElem?_eq_getElem hk, hown, e1, e2.symm⟩
  · cases h1

section
variable {P : Program}

theorem fn_sound (hm : P.follows .mixedOrders = true) {call : CallF} (hctr : ∀ f ds out, call f ds = some out → funcOk P f = true ∧ Ctr P f ds out) {again : C → St → Kont → Option Out}
    (hag : ∀ cx w0 N M, cx.m0 ≤ M → AgainOk P cx w0 N M again) {f : Nat} {F : Fn} (hf : fnOk P f F = true) {ds : List AV} {out : Out} (hle : (enterVs ds 0).2.length ≤ F.m)
    (he : evC call again F.body (startSt ds) (endK F ds) = some out) : funcOk P f = true ∧ Ctr P f ds out := by
  unfold fnOk at hf
  split at hf
  case h_2 => cases hf
  rename_i fn hfn
  simp only [Bool.and_eq_true, decide_eq_true_eq, bne_iff_ne] at hf
  obtain ⟨hb, hr3, hres, hname⟩ := hf
  split at hb
  case h_2 => cases hb
  rename_i c hbody
  refine ⟨by simp only [funcOk, hfn, hbody]; simpa using hname, ?_⟩
  intro w S args gs hS hvs hsta hno hinj
  have hrts : (enterVs ds 0).2 = rtsVs ds := enterVs_rts ds 0
  obtain ⟨⟨hlen, hrg⟩, hent⟩ := enterVs_ok hvs 0
  rw [hrts] at hlen hrg hle
  let A0 : Nat → Gh := fun k => gs.getD k fun _ => none
  let rs0 : Rs := fun r => (rtsVs ds)[r]?
  let cx : Cx := { base := w.heap.size, O := fun b => ∃ k ρ, KOf (rtsVs ds) gs false k ρ b, S := S, ok := fun b hb => ⟨hS b hb, fun ⟨k, ρ, h⟩ => hno k ρ b h hb⟩, m0 := (rtsVs ds).length, rs0 := rs0, A0 := A0 }
  have hA0 : ∀ {k : Nat} {G : Gh}, gs[k]? = some G → A0 k = G := fun h => by simp only [A0, List.getD_eq_getElem?_getD, h, Option.getD_some]
  have kof : ∀ {r : Nat} {R : Root} {f : Bool} {ρ : Path} {b : Nat}, rs0 r = some R → R.Key (A0 r) f ρ b → KOf (rtsVs ds) gs f r ρ b := fun {r R f ρ b} e hk => by
    obtain ⟨G, hG, _⟩ := hrg r R e
    exact ⟨R, G, e, hG, by rw [hA0 hG] at hk; exact hk⟩
  have hheap : HR cx w A0 rs0 := by
    refine ⟨fun r R e => ?_, fun r R ρ b e hk => .inr ⟨r, ρ, kof e hk⟩, fun r R ρ b e hk => hsta r ρ b (kof e hk), fun r R ρ r' R' ρ' b e hk e' hk' => hinj r ρ r' ρ' b (kof e hk) (kof e' hk')⟩
    obtain ⟨G, hG, ht⟩ := hrg r R e
    rw [hA0 hG]; exact ht
  have hst : startSt ds = ⟨fun t => (enterVs ds 0).1.getD t .undef, rs0, (rtsVs ds).length⟩ := by simp only [startSt, hrts]; rfl
  have hpw := hent (D := (· < (rtsVs ds).length)) (A := A0) (rs := rs0) (by
    rw [hrts]
    intro k R G h1 h2
    rw [Nat.zero_add]
    exact ⟨h1, hA0 h2, (List.getElem?_eq_some_iff.1 h1).1⟩)
  have hsr : SR cx w fn.ntmps (· < (startSt ds).nx) A0 (startSt ds).tm (startSt ds).rs { tmps := args.toArray ++ Array.replicate (fn.ntmps - args.toArray.size) undef, defers := [] } w := by
    rw [hst]
    refine ⟨hheap, fun t => ?_, fun r R e => (List.getElem?_eq_some_iff.1 e).1, by simp only [Array.size_append, Array.size_replicate]; omega, rfl, ⟨Nat.le_refl _, fun _ _ _ => rfl, rfl, rfl, rfl⟩, fun _ _ h => h, fun k hk => hk, fun k hk R' e => ⟨R', e, rfl, rfl, rfl, rfl⟩⟩
    simp only [List.getD_eq_getElem?_getD]
    cases e : (enterVs ds 0).1[t]? with
    | none => exact VR_undef
    | some av =>
      obtain ⟨v, h1, h2⟩ := hpw.2 t av e
      have : (args.toArray ++ Array.replicate (fn.ntmps - args.toArray.size) undef).getD t undef = v := by
        have ht : t < args.length := (List.getElem?_eq_some_iff.1 h1).1
        rw [Array.getD_eq_getD_getElem?, Array.getElem?_append_left (by simpa using ht)]
        simp [h1]
      simp only [Option.getD_some, this]
      exact h2.vr
  refine calls_of_wp hfn hbody ?_
  refine evC_sound (cx := cx) (w0 := w) (M := F.m) hle hm hctr (hag _ _ _ _ hle) F.body c _ _ out _ _ _ hb he ⟨A0, hsr⟩ ?_
  intro e st a w' hk hat
  obtain ⟨A, hs⟩ := hat
  have main : ((resVals st F.res).bind fun vs => (splitVs st.nx st.rs vs).bind fun p => leave (enterVs ds 0).2 p.2 p.1) = some out → a.defers = [] ∧ ∃ v, (results fn a.tmps).run P w' = .ok v w' ∧ ∃ v_1 vs gs' gb, Ending.returned v = .returned v_1 ∧ Post S (rtsVs ds) gs w out v_1 w' vs gs' gb := by
    intro h
    simp only [Option.bind_eq_some_iff, leave] at h
    obtain ⟨vs, h1, p, hsp, ⟨outs, us⟩, h2, h3⟩ := h
    split at h3
    case isFalse => cases h3
    rename_i hnd
    injection h3 with h3
    subst h3
    obtain ⟨vals, g1, g2'⟩ := resVals_ok hs hres h1
    obtain ⟨D2, A2, st2, hD2, g2⟩ := splitVs_ok hs.heap hs.fr hs.ids g2' (fun j (hj : st.nx + j < st.nx) => by omega) hsp
    obtain ⟨vs, rs2⟩ := p
    replace hs := hs.stepped st2 hD2
    simp only at h2 g2 hs
    obtain ⟨gs', al, g3, g4, g5⟩ := outVs_ok hs.heap (outVs_V1 h2 g2) h2
    subst g5
    rw [hrts]
    refine ⟨hs.defers, _, run_results (l := fn.results.toList) (by simp) (by simpa using hr3) g1, _, vals, gs', A2, rfl, ?_⟩
    have bk : ∀ {f : Bool} {k : Nat} {ρ : Path} {b : Nat}, KBk (rtsVs ds) A2 (backs rs2 al.flatten 0 (rtsVs ds)) f k ρ b → k ∉ al.flatten ∧ ∃ R, rs2 k = some R ∧ R.Key (A2 k) f ρ b := fun {f k ρ b} ⟨R0, ys, e1, e2, e3⟩ => by
      obtain ⟨hu, R0', R, d1, d2, d3, d4⟩ := backs_some e2
      rw [e1] at d1; injection d1 with d1; subst d1
      obtain ⟨R0', k1, k2, k3, k4, k5⟩ := hs.kept k (List.getElem?_eq_some_iff.1 e1).1 R d3
      have e1' : rs0 k = some R0 := e1
      have k1' : rs0 k = some R0' := k1
      rw [e1'] at k1'; injection k1' with k1'; subst k1'
      refine ⟨hu, R, d3, ?_⟩
      subst d4
      unfold Root.Key at e3 ⊢
      rw [k2] at e3
      rw [← k3, d2]
      exact e3
    have ok : ∀ {k : Nat} {ρ : Path} {b : Nat}, KOf (rtsVs outs) gs' false k ρ b → ∃ r l R ρ', al[k]? = some l ∧ r ∈ l ∧ rs2 r = some R ∧ R.Key (A2 r) false ρ' b := fun {k ρ b} ⟨R, G, e1, e2, e3⟩ => by
      have hkl : k < al.length := by rw [← g4.len2]; exact (List.getElem?_eq_some_iff.1 e1).1
      obtain ⟨r, Rr, ρ', d1, d2, d3⟩ := g4.own k R G al[k] ρ b e1 e2 (List.getElem?_eq_getElem hkl) e3
      exact ⟨r, _, Rr, ρ', List.getElem?_eq_getElem hkl, d1, d2, d3⟩
    exact {
      val := rfl
      res := g3
      blen := backs_len _ _ _ _
      back := fun k R0 G ys e1 e2 e3 => by
        obtain ⟨hu, R0', R, d1, d2, d3, d4⟩ := backs_some e3
        rw [e1] at d1; injection d1 with d1; subst d1
        obtain ⟨R0', k1, k2, k3, k4, k5⟩ := hs.kept k (List.getElem?_eq_some_iff.1 e1).1 R d3
        have e1' : rs0 k = some R0 := e1
        have k1' : rs0 k = some R0' := k1
        rw [e1'] at k1'; injection k1' with k1'; subst k1'
        subst d4
        have ht := hs.heap.tree k R d3
        rw [← k3, d2, ← k2] at ht
        have k5' : A2 k [] = A0 k [] := k5
        exact ⟨d2, by rw [k5', hA0 e2], k4.symm, ht⟩
      size := hs.fr.base
      block := fun b hb hno' => hs.fr.block b hb fun ⟨k, ρ, h⟩ => hno' k ρ h
      big := hs.big
      os := hs.fr.os
      tape := hs.fr.tape
      output := hs.fr.output
      rown := fun k ρ b h => by
        obtain ⟨r, l, R, ρ', d1, d2, d3, d4⟩ := ok h
        exact hs.heap.own r R ρ' b d3 d4
      rsta := fun k ρ b ⟨R, G, e1, e2, e3⟩ => g4.sta k R G ρ b e1 e2 e3
      bown := fun k ρ b h => by
        obtain ⟨_, R, d1, d2⟩ := bk h
        exact hs.heap.own k R ρ b d1 d2
      bsta := fun k ρ b h => by
        obtain ⟨_, R, d1, d2⟩ := bk h
        exact hs.heap.sta k R ρ b d1 d2
      rinj := fun k ρ k' ρ' b h h' => by
        obtain ⟨r, l, R, p, d1, d2, d3, d4⟩ := ok h
        obtain ⟨r', l', R', p', d1', d2', d3', d4'⟩ := ok h'
        obtain ⟨e, _⟩ := hs.heap.inj r R p r' R' p' b d3 d4 d3' d4'
        subst e
        have e := nodup_flat hnd d1 d1' d2 d2'
        subst e
        obtain ⟨R1, G1, a1, a2, a3⟩ := h
        obtain ⟨R2, G2, b1, b2, b3⟩ := h'
        rw [a1] at b1; rw [a2] at b2
        injection b1 with b1; injection b2 with b2; subst b1; subst b2
        exact ⟨rfl, g4.inj k R1 G1 ρ ρ' b a1 a2 a3 b3⟩
      binj := fun k ρ k' ρ' b h h' => by
        obtain ⟨_, R, d1, d2⟩ := bk h
        obtain ⟨_, R', d1', d2'⟩ := bk h'
        exact hs.heap.inj k R ρ k' R' ρ' b d1 d2 d1' d2'
      xinj := fun k ρ k' ρ' b h h' => by
        obtain ⟨r, l, R, p, d1, d2, d3, d4⟩ := ok h
        obtain ⟨hu, R', d1', d2'⟩ := bk h'
        obtain ⟨e, _⟩ := hs.heap.inj r R p k' R' ρ' b d3 d4 d1' d2'
        subst e
        exact hu (List.mem_flatten.2 ⟨l, List.mem_of_getElem? d1, d2⟩) }
  cases e with
  | normal => exact main hk
  | ret => exact main hk
  | exit i => cases hk

/-- What is given of the functions. -/
structure EnvOk (P : Program) (E : Env) : Prop where
  fns : ∀ f F, E.fns f = some F → fnOk P f F = true
  ext : ∀ f g, E.ext f = some g → ∀ ds out, g ds = some out → funcOk P f = true ∧ Ctr P f ds out

theorem ev_sound (hm : P.follows .mixedOrders = true) {E : Env} (hE : EnvOk P E) : ∀ k : Nat, (∀ f ds out, callN E k f ds = some out → funcOk P f = true ∧ Ctr P f ds out) ∧ ∀ cx w0 N M, cx.m0 ≤ M → AgainOk P cx w0 N M (ev E k) := by
  intro k
  induction k with
  | zero =>
    refine ⟨fun f ds out h => ?_, fun cx w0 N M hM m live c C st K out Q a w _ hc he => by simp [ev] at he⟩
    unfold callN callBy at h
    split at h
    · rename_i g hg; exact hE.ext f g hg ds out h
    · simp only [Option.bind_eq_some_iff] at h
      obtain ⟨F, h1, h2⟩ := h
      split at h2
      · simp [ev] at h2
      · cases h2
  | succ k ih =>
    have hag : ∀ cx w0 N M, cx.m0 ≤ M → AgainOk P cx w0 N M (ev E (k + 1)) := fun cx w0 N M hM => by
      unfold ev
      exact loop_sound hM hm ih.1 (ih.2 cx w0 N M hM)
    refine ⟨fun f ds out h => ?_, hag⟩
    unfold callN callBy at h
    split at h
    · rename_i g hg; exact hE.ext f g hg ds out h
    · simp only [Option.bind_eq_some_iff] at h
      obtain ⟨F, h1, h2⟩ := h
      split at h2
      · rename_i hle
        unfold ev at h2
        exact fn_sound hm ih.1 ih.2 (hE.fns f F h1) hle h2
      · cases h2

theorem callN_sound (hm : P.follows .mixedOrders = true) {E : Env} (hE : EnvOk P E) {k f : Nat} {ds : List AV} {out : Out} (h : callN E k f ds = some out) : funcOk P f = true ∧ Ctr P f ds out := (ev_sound hm hE k).1 f ds out h
end
end Go.Proofs.Ytinlbiphjgpmmaa.V
end YtinlbiphjgpmmaaWF
section YtinlbiphjgpmmaaWG
namespace Go.Proofs.Ytinlbiphjgpmmaa.V
open Go
set_option linter.unusedVariables false
set_option linter.unusedSimpArgs false

def CLe (c c' : CallF) : Prop := ∀ f ds out, c f ds = some out → c' f ds = some out
theorem CLe.rfl' {c : CallF} : CLe c c := fun _ _ _ h => h

theorem aCall_mono {c c' : CallF} (h : CLe c c') {n : Nat} {rs : Rs} {f : Nat} {ms : List Bool} {vs : List AV} {x : AV × Rs} (e : aCall c n rs f ms vs = some x) : aCall c' n rs f ms vs = some x := by
  unfold aCall at e ⊢
  simp only [Option.bind_eq_some_iff] at e ⊢
  obtain ⟨a, h1, h2⟩ := e
  refine ⟨a, h1, ?_⟩
  split at h2
  · rename_i h3
    rw [if_pos h3]
    simp only [Option.bind_eq_some_iff] at h2 ⊢
    obtain ⟨b, h4, h5⟩ := h2
    exact ⟨b, h _ _ _ h4, h5⟩
  · cases h2
theorem evI_mono {c c' : CallF} (h : CLe c c') {n : Nat} {tm : Tm} {rs : Rs} {i : I} {x : AV × Rs} (e : evI c n tm rs i = some x) : evI c' n tm rs i = some x := by
  cases i
  case call f ms args => exact aCall_mono h e
  case callv g ms args =>
    simp only [evI] at e ⊢
    split at e
    · exact aCall_mono h e
    · cases e
  all_goals exact e
theorem evOp_mono {c c' : CallF} (h : CLe c c') {n : Nat} {o : Op'} {s t : Tm × Rs} (e : evOp c n o s = some t) : evOp c' n o s = some t := by
  unfold evOp at e ⊢
  simp only [Option.bind_eq_some_iff] at e ⊢
  obtain ⟨w, h1, h2⟩ := e
  refine ⟨w, h1, ?_⟩
  cases w with
  | false => exact h2
  | true =>
    simp only [↓reduceIte, Option.bind_eq_some_iff, Option.map_eq_some_iff] at h2 ⊢
    obtain ⟨a, h3, b, h4, h5⟩ := h2
    exact ⟨a, h3, b, evI_mono h h4, h5⟩
theorem evOps_mono {c c' : CallF} (h : CLe c c') : ∀ {l : List Op'} {n : Nat} {s t : Tm × Rs}, evOps c n l s = some t → evOps c' n l s = some t
  | [], n, s, t, e => e
  | o :: l, n, s, t, e => by
    simp only [evOps, Option.bind_eq_some_iff] at e ⊢
    obtain ⟨a, h1, h2⟩ := e
    exact ⟨a, evOp_mono h h1, evOps_mono h h2⟩
theorem evSch_mono {c c' : CallF} (h : CLe c c') {n : Nat} {l : List Op'} : ∀ {sc : Sched} {s t : Tm × Rs}, evSch c n l sc s = some t → evSch c' n l sc s = some t
  | .done, s, t, e => e
  | .take k sc, s, t, e => by
    simp only [evSch, Option.bind_eq_some_iff] at e ⊢
    obtain ⟨o, h0, a, h1, h2⟩ := e
    exact ⟨o, h0, a, evOp_mono h h1, evSch_mono h h2⟩
  | .alt x y, s, t, e => by
    simp only [evSch, Option.bind_eq_some_iff] at e ⊢
    obtain ⟨a, h1, h2⟩ := e
    split at h2
    · rename_i h3
      injection h2 with h2; subst h2
      exact ⟨a, evSch_mono h h1, by rw [if_pos (evSch_mono h h3)]⟩
    · cases h2

def KLe (K K' : Kont) : Prop := ∀ e s out, K e s = some out → K' e s = some out
theorem evC_mono {c c' : CallF} (h : CLe c c') {ag ag' : C → St → Kont → Option Out} (ha : ∀ C st K K' out, KLe K K' → ag C st K = some out → ag' C st K' = some out) :
    ∀ (C : C) (st : St) (K K' : Kont) (out : Out), KLe K K' → evC c ag C st K = some out → evC c' ag' C st K' = some out := by
  intro C
  induction C with
  | skip => intro st K K' out hK e; exact hK _ _ _ e
  | ops l =>
    intro st K K' out hK e
    simp only [evC, Option.bind_eq_some_iff] at e ⊢
    obtain ⟨s, h1, h2⟩ := e
    exact ⟨s, evOps_mono h h1, hK _ _ _ h2⟩
  | draw sch l =>
    intro st K K' out hK e
    simp only [evC, Option.bind_eq_some_iff] at e ⊢
    obtain ⟨s, h1, h2⟩ := e
    exact ⟨s, evSch_mono h h1, hK _ _ _ h2⟩
  | seq a b iha ihb =>
    intro st K K' out hK e
    simp only [evC] at e ⊢
    refine iha st _ _ out (fun e s out h1 => ?_) e
    cases e with
    | normal => exact ihb s K K' out hK h1
    | exit id => exact hK _ _ _ h1
    | ret => exact hK _ _ _ h1
  | cond x a b iha ihb =>
    intro st K K' out hK e
    simp only [evC] at e ⊢
    split at e
    · rename_i t _
      cases t
      · exact ihb st K K' out hK e
      · exact iha st K K' out hK e
    · simp only [Option.bind_eq_some_iff] at e ⊢
      obtain ⟨r, h1, h2⟩ := e
      split at h2
      · rename_i h3
        injection h2 with h2; subst h2
        exact ⟨r, iha st K K' r hK h1, by rw [if_pos (ihb st K K' r hK h3)]⟩
      · cases h2
    · simp only [Option.bind_eq_some_iff] at e ⊢
      obtain ⟨r, h1, h2⟩ := e
      split at h2
      · rename_i h3
        injection h2 with h2; subst h2
        exact ⟨r, iha _ K K' r hK h1, by rw [if_pos (ihb _ K K' r hK h3)]⟩
      · cases h2
    · cases e
  | blk id x ih =>
    intro st K K' out hK e
    simp only [evC] at e ⊢
    refine ih st _ _ out (fun e s out h1 => ?_) e
    cases e with
    | normal => exact hK _ _ _ h1
    | exit i =>
      simp only at h1 ⊢
      split at h1 <;> rename_i h2
      · rw [if_pos h2]; exact hK _ _ _ h1
      · rw [if_neg h2]; exact hK _ _ _ h1
    | ret => exact hK _ _ _ h1
  | loop m live x ih =>
    intro st K K' out hK e
    simp only [evC] at e ⊢
    refine ih _ _ _ out (fun e s out h1 => ?_) e
    cases e with
    | normal => exact ha _ _ _ _ _ hK h1
    | exit id => exact hK _ _ _ h1
    | ret => exact hK _ _ _ h1
  | exit id => intro st K K' out hK e; exact hK _ _ _ e
  | ret => intro st K K' out hK e; exact hK _ _ _ e
  | kp live x ih =>
    intro st K K' out hK e
    simp only [evC] at e ⊢
    refine ih _ _ _ out (fun e s out h1 => ?_) e
    cases e with
    | normal => exact hK _ _ _ h1
    | exit id => exact hK _ _ _ h1
    | ret => exact hK _ _ _ h1
  | jn m live x ih =>
    intro st K K' out hK e
    simp only [evC] at e ⊢
    refine ih _ _ _ out (fun e s out h1 => ?_) e
    cases e with
    | normal => exact hK _ _ _ h1
    | exit id => exact hK _ _ _ h1
    | ret => exact hK _ _ _ h1

theorem callBy_mono {E : Env} {run run' : C → St → Kont → Option Out} (ha : ∀ C st K out, run C st K = some out → run' C st K = some out) : CLe (callBy E run) (callBy E run') := by
  intro f ds out e
  unfold callBy at e ⊢
  split at e
  · rename_i g hg; exact e
  · rename_i hg
    simp only [Option.bind_eq_some_iff] at e ⊢
    obtain ⟨F, h1, h2⟩ := e
    refine ⟨F, h1, ?_⟩
    split at h2
    · rename_i h3; rw [if_pos h3]; exact ha _ _ _ _ h2
    · cases h2
theorem ev_mono (E : Env) : ∀ (k : Nat) (C : C) (st : St) (K K' : Kont) (out : Out), KLe K K' → ev E k C st K = some out → ev E (k + 1) C st K' = some out
  | 0, _, _, _, _, _, _, e => by simp [ev] at e
  | k + 1, C, st, K, K', out, hK, e => by
    have e' : evC (callBy E (ev E k)) (ev E k) C st K = some out := by simpa only [ev] using e
    have := evC_mono (callBy_mono (fun C st K out h => ev_mono E k C st K K out (fun _ _ _ h => h) h)) (fun C st K K' out h1 h2 => ev_mono E k C st K K' out h1 h2) C st K K' out hK e'
    simpa only [ev] using this
theorem callN_succ (E : Env) (k : Nat) : CLe (callN E k) (callN E (k + 1)) := callBy_mono fun C st K out h => ev_mono E k C st K K out (fun _ _ _ h => h) h
theorem callN_le (E : Env) {k k' : Nat} (h : k ≤ k') : CLe (callN E k) (callN E k') := by
  induction h with
  | refl => exact .rfl'
  | step _ ih => exact fun f ds out e => callN_succ E _ f ds out (ih f ds out e)

open Classical in
noncomputable def callW (E : Env) : CallF := fun f ds => if h : ∃ out k, callN E k f ds = some out then some h.choose else none
theorem callW_of {E : Env} {k f : Nat} {ds : List AV} {out : Out} (h : callN E k f ds = some out) : callW E f ds = some out := by
  have hx : ∃ out k, callN E k f ds = some out := ⟨out, k, h⟩
  unfold callW
  rw [dif_pos hx]
  obtain ⟨k', h'⟩ := hx.choose_spec
  have h1 := callN_le E (Nat.le_max_left k k') _ _ _ h
  have h2 := callN_le E (Nat.le_max_right k k') _ _ _ h'
  rw [h1] at h2
  exact h2.symm
theorem callW_elim {E : Env} {f : Nat} {ds : List AV} {out : Out} (h : callW E f ds = some out) : ∃ k, callN E k f ds = some out := by
  unfold callW at h
  split at h
  · rename_i hx
    injection h with h
    obtain ⟨k, e⟩ := hx.choose_spec
    exact ⟨k, h ▸ e⟩
  · cases h
theorem callN_leW (E : Env) (k : Nat) : CLe (callN E k) (callW E) := fun _ _ _ h => callW_of h

section
variable {E : Env}
theorem aCall_cont {n : Nat} {rs : Rs} {f : Nat} {ms : List Bool} {vs : List AV} {x : AV × Rs} (e : aCall (callW E) n rs f ms vs = some x) : ∃ k, aCall (callN E k) n rs f ms vs = some x := by
  unfold aCall at e
  simp only [Option.bind_eq_some_iff] at e
  obtain ⟨a, h1, h2⟩ := e
  split at h2
  · rename_i h3
    simp only [Option.bind_eq_some_iff] at h2
    obtain ⟨b, h4, h5⟩ := h2
    obtain ⟨k, hk⟩ := callW_elim h4
    refine ⟨k, ?_⟩
    unfold aCall
    simp only [Option.bind_eq_some_iff]
    exact ⟨a, h1, by rw [if_pos h3]; exact Option.bind_eq_some_iff.2 ⟨b, hk, h5⟩⟩
  · cases h2
theorem evI_cont {n : Nat} {tm : Tm} {rs : Rs} {i : I} {x : AV × Rs} (e : evI (callW E) n tm rs i = some x) : ∃ k, evI (callN E k) n tm rs i = some x := by
  cases i
  case call f ms args => exact aCall_cont e
  case callv g ms args =>
    simp only [evI] at e ⊢
    split at e
    · exact aCall_cont e
    · cases e
  all_goals exact ⟨0, e⟩
theorem evOp_cont {n : Nat} {o : Op'} {s t : Tm × Rs} (e : evOp (callW E) n o s = some t) : ∃ k, evOp (callN E k) n o s = some t := by
  unfold evOp at e ⊢
  simp only [Option.bind_eq_some_iff] at e ⊢
  obtain ⟨w, h1, h2⟩ := e
  cases w with
  | false => exact ⟨0, false, h1, h2⟩
  | true =>
    simp only [↓reduceIte, Option.bind_eq_some_iff, Option.map_eq_some_iff] at h2
    obtain ⟨a, h3, b, h4, h5⟩ := h2
    obtain ⟨k, hk⟩ := evI_cont h4
    refine ⟨k, true, h1, ?_⟩
    simp only [↓reduceIte, Option.bind_eq_some_iff, Option.map_eq_some_iff]
    exact ⟨a, h3, b, hk, h5⟩
theorem evOps_cont : ∀ {l : List Op'} {n : Nat} {s t : Tm × Rs}, evOps (callW E) n l s = some t → ∃ k, evOps (callN E k) n l s = some t
  | [], n, s, t, e => ⟨0, e⟩
  | o :: l, n, s, t, e => by
    simp only [evOps, Option.bind_eq_some_iff] at e ⊢
    obtain ⟨a, h1, h2⟩ := e
    obtain ⟨k1, g1⟩ := evOp_cont h1
    obtain ⟨k2, g2⟩ := evOps_cont h2
    exact ⟨max k1 k2, a, evOp_mono (callN_le E (Nat.le_max_left k1 k2)) g1, evOps_mono (callN_le E (Nat.le_max_right k1 k2)) g2⟩
theorem evSch_cont {n : Nat} {l : List Op'} : ∀ {sc : Sched} {s t : Tm × Rs}, evSch (callW E) n l sc s = some t → ∃ k, evSch (callN E k) n l sc s = some t
  | .done, s, t, e => ⟨0, e⟩
  | .take k sc, s, t, e => by
    simp only [evSch, Option.bind_eq_some_iff] at e ⊢
    obtain ⟨o, h0, a, h1, h2⟩ := e
    obtain ⟨k1, g1⟩ := evOp_cont h1
    obtain ⟨k2, g2⟩ := evSch_cont h2
    exact ⟨max k1 k2, o, h0, a, evOp_mono (callN_le E (Nat.le_max_left k1 k2)) g1, evSch_mono (callN_le E (Nat.le_max_right k1 k2)) g2⟩
  | .alt x y, s, t, e => by
    simp only [evSch, Option.bind_eq_some_iff] at e ⊢
    obtain ⟨a, h1, h2⟩ := e
    split at h2
    · rename_i h3
      injection h2 with h2; subst h2
      obtain ⟨k1, g1⟩ := evSch_cont h1
      obtain ⟨k2, g2⟩ := evSch_cont h3
      exact ⟨max k1 k2, a, evSch_mono (callN_le E (Nat.le_max_left k1 k2)) g1, by rw [if_pos (evSch_mono (callN_le E (Nat.le_max_right k1 k2)) g2)]⟩
    · cases h2
end

/-! ### What must hold behind code -/
abbrev Pst := Ex → St → Prop
def PLe (Q Q' : Pst) : Prop := ∀ e s, Q e s → Q' e s

def wC (call : CallF) (again : C → St → Pst → Prop) : C → St → Pst → Prop
  | .skip, st, Q => Q .normal st
  | .ops l, st, Q => ∃ s, evOps call st.nx l (st.tm, st.rs) = some s ∧ Q .normal ⟨s.1, s.2, st.nx + l.length * idw⟩
  | .draw sch l, st, Q => ∃ s, evSch call st.nx l sch (st.tm, st.rs) = some s ∧ Q .normal ⟨s.1, s.2, st.nx + l.length * idw⟩
  | .seq a b, st, Q => wC call again a st fun e st' => match e with
    | .normal => wC call again b st' Q
    | .exit id => Q (.exit id) st'
    | .ret => Q .ret st'
  | .cond x a b, st, Q => match x.ev st.tm with
    | .b t => if t then wC call again a st Q else wC call again b st Q
    | .mb => wC call again a st Q ∧ wC call again b st Q
    | .cv 1 r off sz n => wC call again a (tok x 3 r off sz n st) Q ∧ wC call again b (tok x 2 r off sz n st) Q
    | _ => False
  | .blk id c, st, Q => wC call again c st fun e st' => match e with
    | .normal => Q .normal st'
    | .exit i => if i = id then Q .normal st' else Q (.exit i) st'
    | .ret => Q .ret st'
  | .loop m live c, st, Q => wC call again c (canon m live st) fun e st' => match e with
    | .normal => again (.loop m live c) st' Q
    | .exit id => Q (.exit id) st'
    | .ret => Q .ret st'
  | .exit id, st, Q => Q (.exit id) st
  | .ret, st, Q => Q .ret st
  | .kp live c, st, Q => wC call again c st fun e st' => match e with
    | .normal => Q .normal (forget live st')
    | .exit id => Q (.exit id) st'
    | .ret => Q .ret st'
  | .jn m live c, st, Q => wC call again c st fun e st' => match e with
    | .normal => Q .normal (canon m live st')
    | .exit id => Q (.exit id) st'
    | .ret => Q .ret st'

theorem wC_mono {c c' : CallF} (h : CLe c c') {ag ag' : C → St → Pst → Prop} (ha : ∀ C st Q Q', PLe Q Q' → ag C st Q → ag' C st Q') :
    ∀ (C : C) (st : St) (Q Q' : Pst), PLe Q Q' → wC c ag C st Q → wC c' ag' C st Q' := by
  intro C
  induction C with
  | skip => intro st Q Q' hQ e; exact hQ _ _ e
  | ops l => intro st Q Q' hQ ⟨s, h1, h2⟩; exact ⟨s, evOps_mono h h1, hQ _ _ h2⟩
  | draw sch l => intro st Q Q' hQ ⟨s, h1, h2⟩; exact ⟨s, evSch_mono h h1, hQ _ _ h2⟩
  | seq a b iha ihb =>
    intro st Q Q' hQ e
    simp only [wC] at e ⊢
    refine iha st _ _ (fun e s h1 => ?_) e
    cases e with
    | normal => exact ihb s Q Q' hQ h1
    | exit id => exact hQ _ _ h1
    | ret => exact hQ _ _ h1
  | cond x a b iha ihb =>
    intro st Q Q' hQ e
    simp only [wC] at e ⊢
    split at e
    · rename_i t _
      cases t
      · exact ihb st Q Q' hQ e
      · exact iha st Q Q' hQ e
    · exact ⟨iha st Q Q' hQ e.1, ihb st Q Q' hQ e.2⟩
    · exact ⟨iha _ Q Q' hQ e.1, ihb _ Q Q' hQ e.2⟩
    · cases e
  | blk id x ih =>
    intro st Q Q' hQ e
    simp only [wC] at e ⊢
    refine ih st _ _ (fun e s h1 => ?_) e
    cases e with
    | normal => exact hQ _ _ h1
    | exit i =>
      simp only at h1 ⊢
      split at h1 <;> rename_i h2
      · rw [if_pos h2]; exact hQ _ _ h1
      · rw [if_neg h2]; exact hQ _ _ h1
    | ret => exact hQ _ _ h1
  | loop m live x ih =>
    intro st Q Q' hQ e
    simp only [wC] at e ⊢
    refine ih _ _ _ (fun e s h1 => ?_) e
    cases e with
    | normal => exact ha _ _ _ _ hQ h1
    | exit id => exact hQ _ _ h1
    | ret => exact hQ _ _ h1
  | exit id => intro st Q Q' hQ e; exact hQ _ _ e
  | ret => intro st Q Q' hQ e; exact hQ _ _ e
  | kp live x ih =>
    intro st Q Q' hQ e
    simp only [wC] at e ⊢
    refine ih _ _ _ (fun e s h1 => ?_) e
    cases e <;> exact hQ _ _ h1
  | jn m live x ih =>
    intro st Q Q' hQ e
    simp only [wC] at e ⊢
    refine ih _ _ _ (fun e s h1 => ?_) e
    cases e <;> exact hQ _ _ h1

/-- Of growing demands one is met. -/
theorem wC_swap {c : CallF} {ag : C → St → Pst → Prop} (hm : ∀ C st Q Q', PLe Q Q' → ag C st Q → ag C st Q') (hs : ∀ (C : C) (st : St) (Q : Nat → Pst), (∀ m, PLe (Q m) (Q (m + 1))) → ag C st (fun e s => ∃ m, Q m e s) → ∃ m, ag C st (Q m)) :
    ∀ (C : C) (st : St) (Q : Nat → Pst), (∀ m, PLe (Q m) (Q (m + 1))) → wC c ag C st (fun e s => ∃ m, Q m e s) → ∃ m, wC c ag C st (Q m) := by
  have up : ∀ {Q : Nat → Pst}, (∀ m, PLe (Q m) (Q (m + 1))) → ∀ {m m' : Nat}, m ≤ m' → PLe (Q m) (Q m') := fun {Q} h m m' hle => by
    induction hle with
    | refl => exact fun _ _ h => h
    | step _ ih => exact fun e s hq => h _ e s (ih e s hq)
  have mono := wC_mono (c := c) (c' := c) .rfl' hm
  intro C
  induction C with
  | skip => intro st Q hQ ⟨m, e⟩; exact ⟨m, e⟩
  | ops l => intro st Q hQ ⟨s, h1, m, h2⟩; exact ⟨m, s, h1, h2⟩
  | draw sch l => intro st Q hQ ⟨s, h1, m, h2⟩; exact ⟨m, s, h1, h2⟩
  | seq a b iha ihb =>
    intro st Q hQ e
    simp only [wC] at e ⊢
    refine iha st (fun m e st' => match e with | .normal => wC c ag b st' (Q m) | .exit id => Q m (.exit id) st' | .ret => Q m .ret st') (fun m e s h1 => ?_) (mono a st _ _ (fun e s h1 => ?_) e)
    · cases e with
      | normal => exact mono b s _ _ (hQ m) h1
      | exit id => exact hQ m _ _ h1
      | ret => exact hQ m _ _ h1
    · cases e with
      | normal => exact ihb s Q hQ h1
      | exit id => exact h1
      | ret => exact h1
  | cond x a b iha ihb =>
    intro st Q hQ e
    simp only [wC] at e ⊢
    split at e
    · rename_i t ht
      cases t
      · exact ihb st Q hQ e
      · exact iha st Q hQ e
    · obtain ⟨m1, h1⟩ := iha st Q hQ e.1
      obtain ⟨m2, h2⟩ := ihb st Q hQ e.2
      exact ⟨max m1 m2, mono a st _ _ (up hQ (Nat.le_max_left _ _)) h1, mono b st _ _ (up hQ (Nat.le_max_right _ _)) h2⟩
    · obtain ⟨m1, h1⟩ := iha _ Q hQ e.1
      obtain ⟨m2, h2⟩ := ihb _ Q hQ e.2
      exact ⟨max m1 m2, mono a _ _ _ (up hQ (Nat.le_max_left _ _)) h1, mono b _ _ _ (up hQ (Nat.le_max_right _ _)) h2⟩
    · cases e
  | blk id x ih =>
    intro st Q hQ e
    simp only [wC] at e ⊢
    refine ih st (fun m e st' => match e with | .normal => Q m .normal st' | .exit i => if i = id then Q m .normal st' else Q m (.exit i) st' | .ret => Q m .ret st') (fun m e s h1 => ?_) (mono x st _ _ (fun e s h1 => ?_) e)
    · cases e with
      | normal => exact hQ m _ _ h1
      | exit i =>
        simp only at h1 ⊢
        split at h1 <;> rename_i h2
        · rw [if_pos h2]; exact hQ m _ _ h1
        · rw [if_neg h2]; exact hQ m _ _ h1
      | ret => exact hQ m _ _ h1
    · cases e with
      | normal => exact h1
      | exit i =>
        simp only at h1 ⊢
        split at h1 <;> rename_i h2
        · obtain ⟨m, h1⟩ := h1; exact ⟨m, by rw [if_pos h2]; exact h1⟩
        · obtain ⟨m, h1⟩ := h1; exact ⟨m, by rw [if_neg h2]; exact h1⟩
      | ret => exact h1
  | loop m0 live x ih =>
    intro st Q hQ e
    simp only [wC] at e ⊢
    refine ih _ (fun m e st' => match e with | .normal => ag (.loop m0 live x) st' (Q m) | .exit id => Q m (.exit id) st' | .ret => Q m .ret st') (fun m e s h1 => ?_) (mono x _ _ _ (fun e s h1 => ?_) e)
    · cases e with
      | normal => exact hm _ _ _ _ (hQ m) h1
      | exit id => exact hQ m _ _ h1
      | ret => exact hQ m _ _ h1
    · cases e with
      | normal => exact hs _ _ Q hQ h1
      | exit id => exact h1
      | ret => exact h1
  | exit id => intro st Q hQ ⟨m, e⟩; exact ⟨m, e⟩
  | ret => intro st Q hQ ⟨m, e⟩; exact ⟨m, e⟩
  | kp live x ih =>
    intro st Q hQ e
    simp only [wC] at e ⊢
    refine ih _ (fun m e st' => match e with | .normal => Q m .normal (forget live st') | .exit id => Q m (.exit id) st' | .ret => Q m .ret st') (fun m e s h1 => ?_) (mono x _ _ _ (fun e s h1 => ?_) e)
    · cases e <;> exact hQ m _ _ h1
    · cases e <;> exact h1
  | jn m0 live x ih =>
    intro st Q hQ e
    simp only [wC] at e ⊢
    refine ih _ (fun m e st' => match e with | .normal => Q m .normal (canon m0 live st') | .exit id => Q m (.exit id) st' | .ret => Q m .ret st') (fun m e s h1 => ?_) (mono x _ _ _ (fun e s h1 => ?_) e)
    · cases e <;> exact hQ m _ _ h1
    · cases e <;> exact h1

theorem wC_sound {c : CallF} {ag : C → St → Pst → Prop} {ag' : C → St → Kont → Option Out} (hm : ∀ C st Q Q', PLe Q Q' → ag C st Q → ag C st Q') (ha : ∀ C st K out, ag C st (fun e s => K e s = some out) → ag' C st K = some out) :
    ∀ (C : C) (st : St) (K : Kont) (out : Out), wC c ag C st (fun e s => K e s = some out) → evC c ag' C st K = some out := by
  have mono := wC_mono (c := c) (c' := c) .rfl' hm
  intro C
  induction C with
  | skip => intro st K out e; exact e
  | ops l => intro st K out ⟨s, h1, h2⟩; simp only [evC, h1, Option.bind_some]; exact h2
  | draw sch l => intro st K out ⟨s, h1, h2⟩; simp only [evC, h1, Option.bind_some]; exact h2
  | seq a b iha ihb =>
    intro st K out e
    simp only [evC]
    refine iha st _ out (mono a st _ _ (fun e s h1 => ?_) e)
    cases e with
    | normal => exact ihb s K out h1
    | exit id => exact h1
    | ret => exact h1
  | cond x a b iha ihb =>
    intro st K out e
    simp only [wC, evC] at e ⊢
    split at e
    · rename_i t hx
      simp only [hx]
      cases t
      · exact ihb st K out e
      · exact iha st K out e
    · rename_i hx
      simp only [hx, iha st K out e.1, Option.bind_some, if_pos (ihb st K out e.2)]
    · rename_i hx
      simp only [hx, iha _ K out e.1, Option.bind_some, if_pos (ihb _ K out e.2)]
    · exact e.elim
  | blk id x ih =>
    intro st K out e
    simp only [evC]
    refine ih st _ out (mono x st _ _ (fun e s h1 => ?_) e)
    cases e with
    | normal => exact h1
    | exit i =>
      simp only at h1 ⊢
      split at h1 <;> rename_i h2
      · rw [if_pos h2]; exact h1
      · rw [if_neg h2]; exact h1
    | ret => exact h1
  | loop m live x ih =>
    intro st K out e
    simp only [evC]
    refine ih _ _ out (mono x _ _ _ (fun e s h1 => ?_) e)
    cases e with
    | normal => exact ha _ _ _ _ h1
    | exit id => exact h1
    | ret => exact h1
  | exit id => intro st K out e; exact e
  | ret => intro st K out e; exact e
  | kp live x ih =>
    intro st K out e
    simp only [evC]
    refine ih _ _ out (mono x _ _ _ (fun e s h1 => ?_) e)
    cases e <;> exact h1
  | jn m live x ih =>
    intro st K out e
    simp only [evC]
    refine ih _ _ out (mono x _ _ _ (fun e s h1 => ?_) e)
    cases e <;> exact h1

def Wn (E : Env) : Nat → C → St → Pst → Prop
  | 0 => fun _ _ _ => False
  | k + 1 => wC (callN E k) (Wn E k)
theorem Wn_pm (E : Env) : ∀ (k : Nat) (C : C) (st : St) (Q Q' : Pst), PLe Q Q' → Wn E k C st Q → Wn E k C st Q'
  | 0, _, _, _, _, _, h => h
  | k + 1, C, st, Q, Q', hQ, h => wC_mono .rfl' (Wn_pm E k) C st Q Q' hQ h
theorem Wn_succ (E : Env) : ∀ (k : Nat) (C : C) (st : St) (Q Q' : Pst), PLe Q Q' → Wn E k C st Q → Wn E (k + 1) C st Q'
  | 0, _, _, _, _, _, h => h.elim
  | k + 1, C, st, Q, Q', hQ, h => wC_mono (callN_succ E k) (Wn_succ E k) C st Q Q' hQ h
theorem Wn_le (E : Env) {k k' : Nat} (h : k ≤ k') {C : C} {st : St} {Q : Pst} (e : Wn E k C st Q) : Wn E k' C st Q := by
  induction h with
  | refl => exact e
  | step _ ih => exact Wn_succ E _ C st Q Q (fun _ _ h => h) ih
theorem Wn_swap (E : Env) : ∀ (k : Nat) (C : C) (st : St) (Q : Nat → Pst), (∀ m, PLe (Q m) (Q (m + 1))) → Wn E k C st (fun e s => ∃ m, Q m e s) → ∃ m, Wn E k C st (Q m)
  | 0, _, _, _, _, h => h.elim
  | k + 1, C, st, Q, hQ, h => wC_swap (Wn_pm E k) (Wn_swap E k) C st Q hQ h
theorem Wn_sound (E : Env) : ∀ (k : Nat) (C : C) (st : St) (K : Kont) (out : Out), Wn E k C st (fun e s => K e s = some out) → ev E k C st K = some out
  | 0, _, _, _, _, h => h.elim
  | k + 1, C, st, K, out, h => by
    have := wC_sound (c := callN E k) (Wn_pm E k) (Wn_sound E k) C st K out h
    rw [ev]
    exact this

def W (E : Env) (C : C) (st : St) (Q : Pst) : Prop := ∃ k, Wn E k C st Q

section
variable {E : Env}
theorem W_pm {C : C} {st : St} {Q Q' : Pst} (h : PLe Q Q') : W E C st Q → W E C st Q' := fun ⟨k, e⟩ => ⟨k, Wn_pm E k C st Q Q' h e⟩

/-- What is asked behind the parts of code. -/
def Qs (E : Env) (b : C) (Q : Pst) : Pst := fun e st => match e with
  | .normal => W E b st Q
  | .exit id => Q (.exit id) st
  | .ret => Q .ret st
def Qb (id : Nat) (Q : Pst) : Pst := fun e st => match e with
  | .normal => Q .normal st
  | .exit i => if i = id then Q .normal st else Q (.exit i) st
  | .ret => Q .ret st
def Ql (E : Env) (L : C) (Q : Pst) : Pst := fun e st => match e with
  | .normal => W E L st Q
  | .exit id => Q (.exit id) st
  | .ret => Q .ret st
def Qk (live : List Nat) (Q : Pst) : Pst := fun e st => match e with
  | .normal => Q .normal (forget live st)
  | .exit id => Q (.exit id) st
  | .ret => Q .ret st
def Qj (m : Nat) (live : List Nat) (Q : Pst) : Pst := fun e st => match e with
  | .normal => Q .normal (canon m live st)
  | .exit id => Q (.exit id) st
  | .ret => Q .ret st
/-- What is asked behind a region. -/
def OQ (o : Option (Tm × Rs)) (nx : Nat) (Q : Pst) : Prop := ∃ s, o = some s ∧ Q .normal ⟨s.1, s.2, nx⟩

theorem Wn_one {k : Nat} {C : C} {st : St} {Q : Pst} (h : wC (callN E k) (Wn E k) C st Q) : W E C st Q := ⟨k + 1, h⟩

theorem W_skip {st : St} {Q : Pst} : W E .skip st Q = Q .normal st := propext ⟨fun ⟨k, h⟩ => by cases k with | zero => exact h.elim | succ k => exact h, fun h => ⟨1, h⟩⟩
theorem W_exit {id : Nat} {st : St} {Q : Pst} : W E (.exit id) st Q = Q (.exit id) st := propext ⟨fun ⟨k, h⟩ => by cases k with | zero => exact h.elim | succ k => exact h, fun h => ⟨1, h⟩⟩
theorem W_ret {st : St} {Q : Pst} : W E .ret st Q = Q .ret st := propext ⟨fun ⟨k, h⟩ => by cases k with | zero => exact h.elim | succ k => exact h, fun h => ⟨1, h⟩⟩
theorem W_ops {l : List Op'} {tm : Tm} {rs : Rs} {nx : Nat} {Q : Pst} : W E (.ops l) ⟨tm, rs, nx⟩ Q = OQ (evOps (callW E) nx l (tm, rs)) (nx + l.length * idw) Q := by
  refine propext ⟨fun ⟨k, h⟩ => ?_, fun ⟨s, h1, h2⟩ => ?_⟩
  · cases k with
    | zero => exact h.elim
    | succ k => obtain ⟨s, h1, h2⟩ := h; exact ⟨s, evOps_mono (callN_leW E k) h1, h2⟩
  · obtain ⟨k, hk⟩ := evOps_cont h1
    exact ⟨k + 1, s, hk, h2⟩
theorem W_draw {sch : Sched} {l : List Op'} {tm : Tm} {rs : Rs} {nx : Nat} {Q : Pst} : W E (.draw sch l) ⟨tm, rs, nx⟩ Q = OQ (evSch (callW E) nx l sch (tm, rs)) (nx + l.length * idw) Q := by
  refine propext ⟨fun ⟨k, h⟩ => ?_, fun ⟨s, h1, h2⟩ => ?_⟩
  · cases k with
    | zero => exact h.elim
    | succ k => obtain ⟨s, h1, h2⟩ := h; exact ⟨s, evSch_mono (callN_leW E k) h1, h2⟩
  · obtain ⟨k, hk⟩ := evSch_cont h1
    exact ⟨k + 1, s, hk, h2⟩
theorem W_seq {a b : C} {st : St} {Q : Pst} : W E (.seq a b) st Q = W E a st (Qs E b Q) := by
  refine propext ⟨fun ⟨k, h⟩ => ?_, fun ⟨k, h⟩ => ?_⟩
  · cases k with
    | zero => exact h.elim
    | succ k =>
      refine ⟨k + 1, Wn_pm E _ _ _ _ _ (fun e s h1 => ?_) (show Wn E (k + 1) a st _ from h)⟩
      cases e with
      | normal => exact ⟨k + 1, h1⟩
      | exit id => exact h1
      | ret => exact h1
  · obtain ⟨m, h2⟩ := Wn_swap E k a st (fun m e st' => match e with | .normal => Wn E m b st' Q | .exit id => Q (.exit id) st' | .ret => Q .ret st') (fun m e s h1 => by
      cases e with
      | normal => exact Wn_le E (Nat.le_succ m) h1
      | exit id => exact h1
      | ret => exact h1) (Wn_pm E _ _ _ _ _ (fun e s h1 => by
      cases e with
      | normal => exact h1
      | exit id => exact ⟨0, h1⟩
      | ret => exact ⟨0, h1⟩) h)
    refine ⟨max k m + 1, ?_⟩
    show wC _ _ _ _ _
    simp only [wC]
    refine wC_mono .rfl' (Wn_pm E (max k m)) a st _ _ (fun e s h1 => ?_) (Wn_le E (Nat.le_succ_of_le (Nat.le_max_left k m)) h2)
    cases e with
    | normal => exact Wn_le E (Nat.le_succ_of_le (Nat.le_max_right k m)) h1
    | exit id => exact h1
    | ret => exact h1
theorem W_cond_t {x : X} {a b : C} {st : St} {Q : Pst} {t : Bool} (hx : x.ev st.tm = .b t) : W E (.cond x a b) st Q = if t = true then W E a st Q else W E b st Q := by
  refine propext ⟨fun ⟨k, h⟩ => ?_, fun h => ?_⟩
  · cases k with
    | zero => exact h.elim
    | succ k =>
      have h' : wC (callN E k) (Wn E k) (.cond x a b) st Q := h
      simp only [wC, hx] at h'
      cases t with
      | true => exact ⟨k + 1, h'⟩
      | false => exact ⟨k + 1, h'⟩
  · cases t with
    | true =>
      obtain ⟨k, h⟩ := h
      refine ⟨k + 1, ?_⟩
      show wC _ _ _ _ _
      simp only [wC, hx]
      exact Wn_succ E k _ _ _ _ (fun _ _ h => h) h
    | false =>
      obtain ⟨k, h⟩ := h
      refine ⟨k + 1, ?_⟩
      show wC _ _ _ _ _
      simp only [wC, hx]
      exact Wn_succ E k _ _ _ _ (fun _ _ h => h) h
theorem W_cond_mb {x : X} {a b : C} {st : St} {Q : Pst} (hx : x.ev st.tm = .mb) (h1 : W E a st Q) (h2 : W E b st Q) : W E (.cond x a b) st Q := by
  obtain ⟨k, h1⟩ := h1
  obtain ⟨m, h2⟩ := h2
  refine ⟨max k m + 1, ?_⟩
  show wC _ _ _ _ _
  simp only [wC, hx]
  exact ⟨Wn_le E (Nat.le_succ_of_le (Nat.le_max_left k m)) h1, Wn_le E (Nat.le_succ_of_le (Nat.le_max_right k m)) h2⟩
theorem W_cond_cv {x : X} {a b : C} {st : St} {Q : Pst} {r off sz n : Nat} (hx : x.ev st.tm = .cv 1 r off sz n) (h1 : W E a (tok x 3 r off sz n st) Q) (h2 : W E b (tok x 2 r off sz n st) Q) : W E (.cond x a b) st Q := by
  obtain ⟨k, h1⟩ := h1
  obtain ⟨m, h2⟩ := h2
  refine ⟨max k m + 1, ?_⟩
  show wC _ _ _ _ _
  simp only [wC, hx]
  exact ⟨Wn_le E (Nat.le_succ_of_le (Nat.le_max_left k m)) h1, Wn_le E (Nat.le_succ_of_le (Nat.le_max_right k m)) h2⟩
theorem W_blk {id : Nat} {c : C} {st : St} {Q : Pst} : W E (.blk id c) st Q = W E c st (Qb id Q) := by
  refine propext ⟨fun ⟨k, h⟩ => ?_, fun ⟨k, h⟩ => ?_⟩
  · cases k with
    | zero => exact h.elim
    | succ k => exact ⟨k + 1, h⟩
  · exact ⟨k + 1, Wn_succ E k c st _ _ (fun _ _ h => h) h⟩
theorem W_kp {live : List Nat} {c : C} {st : St} {Q : Pst} : W E (.kp live c) st Q = W E c st (Qk live Q) := by
  refine propext ⟨fun ⟨k, h⟩ => ?_, fun ⟨k, h⟩ => ?_⟩
  · cases k with
    | zero => exact h.elim
    | succ k => exact ⟨k + 1, h⟩
  · exact ⟨k + 1, Wn_succ E k c st _ _ (fun _ _ h => h) h⟩
theorem W_jn {m : Nat} {live : List Nat} {c : C} {st : St} {Q : Pst} : W E (.jn m live c) st Q = W E c st (Qj m live Q) := by
  refine propext ⟨fun ⟨k, h⟩ => ?_, fun ⟨k, h⟩ => ?_⟩
  · cases k with
    | zero => exact h.elim
    | succ k => exact ⟨k + 1, h⟩
  · exact ⟨k + 1, Wn_succ E k c st _ _ (fun _ _ h => h) h⟩
theorem W_loop {m : Nat} {live : List Nat} {c : C} {st : St} {Q : Pst} : W E (.loop m live c) st Q = W E c (canon m live st) (Ql E (.loop m live c) Q) := by
  refine propext ⟨fun ⟨k, h⟩ => ?_, fun ⟨k, h⟩ => ?_⟩
  · cases k with
    | zero => exact h.elim
    | succ k =>
      refine ⟨k + 1, Wn_pm E _ _ _ _ _ (fun e s h1 => ?_) (show Wn E (k + 1) c (canon m live st) _ from h)⟩
      cases e with
      | normal => exact ⟨k, h1⟩
      | exit id => exact h1
      | ret => exact h1
  · obtain ⟨j, h2⟩ := Wn_swap E k c (canon m live st) (fun j e st' => match e with | .normal => Wn E j (.loop m live c) st' Q | .exit id => Q (.exit id) st' | .ret => Q .ret st') (fun j e s h1 => by
      cases e with
      | normal => exact Wn_le E (Nat.le_succ j) h1
      | exit id => exact h1
      | ret => exact h1) (Wn_pm E _ _ _ _ _ (fun e s h1 => by
      cases e with
      | normal => exact h1
      | exit id => exact ⟨0, h1⟩
      | ret => exact ⟨0, h1⟩) h)
    refine ⟨max k j + 1, ?_⟩
    show wC _ _ _ _ _
    simp only [wC]
    refine wC_mono .rfl' (Wn_pm E (max k j)) c _ _ _ (fun e s h1 => ?_) (Wn_le E (Nat.le_succ_of_le (Nat.le_max_left k j)) h2)
    cases e with
    | normal => exact Wn_le E (Nat.le_max_right k j) h1
    | exit id => exact h1
    | ret => exact h1

/-- A function's end. -/
def Qe (F : Fn) (ds : List AV) (out : Out) : Pst := fun e st => endK F ds e st = some out
theorem callW_fn {f : Nat} {F : Fn} {ds : List AV} {out : Out} (h0 : E.ext f = none) (hF : E.fns f = some F) (hm : (enterVs ds 0).2.length ≤ F.m) (h : W E F.body (startSt ds) (Qe F ds out)) : callW E f ds = some out := by
  obtain ⟨k, h⟩ := h
  have := Wn_sound E k F.body (startSt ds) (endK F ds) out h
  refine callW_of (k := k) ?_
  simp only [callN, callBy, h0, hF, Option.bind_some, if_pos hm]
  exact this
theorem callW_ext {f : Nat} {g : List AV → Option Out} {ds : List AV} {out : Out} (h0 : E.ext f = some g) (h : g ds = some out) : callW E f ds = some out :=
  callW_of (k := 0) (by simp only [callN, callBy, h0]; exact h)
end
theorem callW_sound {P : Program} (hm : P.follows .mixedOrders = true) {E : Env} (hE : EnvOk P E) {f : Nat} {ds : List AV} {out : Out} (h : callW E f ds = some out) : funcOk P f = true ∧ Ctr P f ds out := by
  obtain ⟨k, h⟩ := callW_elim h
  exact callN_sound hm hE h
end Go.Proofs.Ytinlbiphjgpmmaa.V
end YtinlbiphjgpmmaaWG
section YtinlbiphjgpmmaaWH
namespace Go.Proofs.Ytinlbiphjgpmmaa.V
open Go Go.RowKit
set_option linter.unusedVariables false
set_option linter.unusedSimpArgs false

/-! ### Printed code -/
def o (d : Nat) (i : I) : Op' := ⟨some d, none, [], i⟩
def og (d g : Nat) (b : Bool) (i : I) : Op' := ⟨some d, some (g, b), [], i⟩
def oz (d : Option Nat) (g : Option (Nat × Bool)) (s : List Nat) (i : I) : Op' := ⟨d, g, s, i⟩
def sqF : Nat → Nat → Sched
  | _, 0 => .done
  | k, n + 1 => .take k (sqF (k + 1) n)
/-- In order. -/
def sq (n : Nat) : Sched := sqF 0 n
def tk : List Nat → Sched → Sched
  | [], s => s
  | k :: l, s => .take k (tk l s)

theorem evSch_sqF {call : CallF} {n : Nat} {l : List Op'} : ∀ (m k : Nat) (s : Tm × Rs), k + m = l.length → evSch call n l (sqF k m) s = evOps call (n + k * idw) (l.drop k) s
  | 0, k, s, h => by rw [List.drop_eq_nil_of_le (by omega)]; rfl
  | m + 1, k, s, h => by
    have hk : k < l.length := by omega
    rw [List.drop_eq_getElem_cons hk]
    simp only [sqF, evSch, List.getElem?_eq_getElem hk, Option.bind_some, evOps]
    congr 1
    funext s'
    rw [evSch_sqF m (k + 1) s' (by omega), Nat.add_mul, Nat.one_mul, Nat.add_assoc]
theorem evSch_sq {call : CallF} {n : Nat} {l : List Op'} {s : Tm × Rs} {m : Nat} (h : m = l.length) : evSch call n l (sq m) s = evOps call n l s := by
  rw [sq, evSch_sqF m 0 s (by omega), Nat.zero_mul, Nat.add_zero, List.drop_zero]

/-! ### States as lists -/
def rsL : List (Nat × Option Root) → Rs
  | [] => fun _ => none
  | (r, R) :: l => up' (rsL l) r R
theorem tm_up {l : List (Nat × AV)} {d : Nat} {v : AV} : up' (tmOf l) d v = tmOf ((d, v) :: l) := (rfl)
theorem rs_up {l : List (Nat × Option Root)} {r : Nat} {R : Option Root} : up' (rsL l) r R = rsL ((r, R) :: l) := (rfl)
theorem tm_get {l : List (Nat × AV)} {d t : Nat} {v : AV} : tmOf ((d, v) :: l) t = if t = d then v else tmOf l t := (rfl)
theorem tm_nil {t : Nat} : tmOf [] t = .undef := (rfl)
theorem rs_get {l : List (Nat × Option Root)} {r q : Nat} {R : Option Root} : rsL ((r, R) :: l) q = if q = r then R else rsL l q := (rfl)
theorem rs_nil {q : Nat} : rsL [] q = none := (rfl)
theorem kill_nil' {rs : Rs} : kill rs [] = rs := by funext r; simp [kill]
theorem kill_cons' {l : List (Nat × Option Root)} {a : Nat} {asx : List Nat} : kill (rsL l) (a :: asx) = kill (rsL ((a, none) :: l)) asx := by
  funext r; simp only [kill, List.mem_cons, rs_get]
  by_cases h1 : r = a
  · simp [h1]
  · simp [h1]
def tmA : Nat → List AV → List (Nat × AV)
  | _, [] => []
  | n, v :: vs => (n, v) :: tmA (n + 1) vs
def rsA : Nat → List (Option Root) → List (Nat × Option Root)
  | _, [] => []
  | n, v :: vs => (n, v) :: rsA (n + 1) vs
theorem tmA_get : ∀ (l : List AV) (n t : Nat), tmOf (tmA n l) t = if n ≤ t then l.getD (t - n) .undef else .undef
  | [], n, t => by simp [tmA, tmOf]
  | v :: l, n, t => by
    simp only [tmA, tm_get, tmA_get l (n + 1) t]
    by_cases h : t = n
    · subst h; simp
    · rw [if_neg h]
      by_cases h2 : n ≤ t
      · rw [if_pos (by omega), if_pos h2]
        obtain ⟨m, rfl⟩ : ∃ m, t = n + m + 1 := ⟨t - n - 1, by omega⟩
        have e1 : n + m + 1 - (n + 1) = m := by omega
        have e2 : n + m + 1 - n = m + 1 := by omega
        rw [e1, e2]; rfl
      · rw [if_neg (by omega), if_neg h2]
theorem rsA_get : ∀ (l : List (Option Root)) (n t : Nat), rsL (rsA n l) t = if n ≤ t then (l[t - n]?).join else none
  | [], n, t => by simp [rsA, rsL]
  | v :: l, n, t => by
    simp only [rsA, rs_get, rsA_get l (n + 1) t]
    by_cases h : t = n
    · subst h; simp
    · rw [if_neg h]
      by_cases h2 : n ≤ t
      · rw [if_pos (by omega), if_pos h2]
        obtain ⟨m, rfl⟩ : ∃ m, t = n + m + 1 := ⟨t - n - 1, by omega⟩
        have e1 : n + m + 1 - (n + 1) = m := by omega
        have e2 : n + m + 1 - n = m + 1 := by omega
        rw [e1, e2]; rfl
      · rw [if_neg (by omega), if_neg h2]
theorem start_eq {ds : List AV} : startSt ds = ⟨tmOf (tmA 0 (enterVs ds 0).1), rsL (rsA 0 ((enterVs ds 0).2.map some)), (enterVs ds 0).2.length⟩ := by
  simp only [startSt, St.mk.injEq, and_true]
  constructor
  · funext t; rw [tmA_get]; simp
  · funext t; rw [rsA_get]; simp only [Nat.zero_le, ↓reduceIte, Nat.sub_zero, List.getElem?_map]
    cases (enterVs ds 0).2[t]? <;> rfl
theorem rsOf_eq {l : List (Option Root)} : rsOf l = rsL (rsA 0 l) := by funext t; rw [rsA_get]; simp [rsOf]

def canonL (m : Nat) (live : List Nat) (st : St) : St :=
  let od := order m live st
  ⟨tmOf (live.map fun t => (t, renV st.rs od (st.tm t))), rsL (rsA 0 (od.map fun r => (st.rs r).map fun R => { R with pv := 0 })), od.length⟩
theorem canon_eq {m : Nat} {live : List Nat} {st : St} : canon m live st = canonL m live st := by simp only [canon, canonL, rsOf_eq]

/-! ### One operation -/
def B1 (d : Nat) (tm : Tm) (r : Option (AV × Rs)) (k : Tm × Rs → Option (Tm × Rs)) : Option (Tm × Rs) := r.bind fun p => k (up' tm d p.1, p.2)
theorem B1_some {d : Nat} {l : List (Nat × AV)} {v : AV} {rs : Rs} {k : Tm × Rs → Option (Tm × Rs)} : B1 d (tmOf l) (some (v, rs)) k = k (tmOf ((d, v) :: l), rs) := (rfl)
theorem evOp_nos {call : CallF} {n d : Nat} {g : Option (Nat × Bool)} {i : I} {tm : Tm} {rs : Rs} (h : wants tm g = some true) : evOp call n ⟨some d, g, [], i⟩ (tm, rs) = (evI call n tm rs i).map fun p => (up' tm d p.1, p.2) := by
  simp only [evOp, h, Option.bind_some, ↓reduceIte, splitTs, List.length_nil, Nat.zero_le, regrafts_nil, ite_self, putT]
theorem ops_nil {call : CallF} {n : Nat} {s : Tm × Rs} : evOps call n [] s = some s := (rfl)
theorem ops_o {call : CallF} {n d : Nat} {i : I} {os : List Op'} {tm : Tm} {rs : Rs} : evOps call n (o d i :: os) (tm, rs) = B1 d tm (evI call n tm rs i) (evOps call (n + 80) os) := by
  simp only [evOps, o, evOp_nos (g := none) rfl, B1]
  cases evI call n tm rs i <;> rfl
theorem ops_g1 {call : CallF} {n d g : Nat} {b : Bool} {i : I} {os : List Op'} {tm : Tm} {rs : Rs} (h : tm g = .b b) : evOps call n (og d g b i :: os) (tm, rs) = B1 d tm (evI call n tm rs i) (evOps call (n + 80) os) := by
  have hw : wants tm (some (g, b)) = some true := by simp [wants, h]
  simp only [evOps, og, evOp_nos hw, B1]
  cases evI call n tm rs i <;> rfl
theorem ops_g0 {call : CallF} {n d g : Nat} {b : Bool} {i : I} {os : List Op'} {l : List (Nat × AV)} {rs : Rs} (h : tmOf l g = .b (!b)) : evOps call n (og d g b i :: os) (tmOf l, rs) = evOps call (n + 80) os (tmOf ((d, .tup []) :: l), rs) := by
  simp only [evOps, og, evOp, wants, h]
  cases b <;> simp <;> rfl
theorem ops_gt {call : CallF} {n d g : Nat} {b : Bool} {i : I} {os : List Op'} {l : List (Nat × AV)} {rs : Rs} (h : tmOf l g = .tup []) : evOps call n (og d g b i :: os) (tmOf l, rs) = evOps call (n + 80) os (tmOf ((d, .tup []) :: l), rs) := by
  simp only [evOps, og, evOp, wants, h]
  rfl

/-! ### Code -/
section
variable {E : Env}
theorem Q_some {tm : Tm} {rs : Rs} {nx : Nat} {Q : Pst} : OQ (some (tm, rs)) nx Q = Q .normal ⟨tm, rs, nx⟩ := propext ⟨fun ⟨_, h1, h2⟩ => by injection h1 with h1; subst h1; exact h2, fun h => ⟨_, rfl, h⟩⟩
theorem Qs_n {b : C} {Q : Pst} {st : St} : Qs E b Q .normal st = W E b st Q := (rfl)
theorem Qs_e {b : C} {Q : Pst} {st : St} {i : Nat} : Qs E b Q (.exit i) st = Q (.exit i) st := (rfl)
theorem Qs_r {b : C} {Q : Pst} {st : St} : Qs E b Q .ret st = Q .ret st := (rfl)
theorem Qb_n {i : Nat} {Q : Pst} {st : St} : Qb i Q .normal st = Q .normal st := (rfl)
theorem Qb_e {i j : Nat} {Q : Pst} {st : St} : Qb i Q (.exit j) st = if j = i then Q .normal st else Q (.exit j) st := (rfl)
theorem Qb_r {i : Nat} {Q : Pst} {st : St} : Qb i Q .ret st = Q .ret st := (rfl)
theorem Ql_n {L : C} {Q : Pst} {st : St} : Ql E L Q .normal st = W E L st Q := (rfl)
theorem Ql_e {L : C} {Q : Pst} {st : St} {i : Nat} : Ql E L Q (.exit i) st = Q (.exit i) st := (rfl)
theorem Ql_r {L : C} {Q : Pst} {st : St} : Ql E L Q .ret st = Q .ret st := (rfl)
theorem Qk_n {live : List Nat} {Q : Pst} {tm : Tm} {rs : Rs} {nx : Nat} : Qk live Q .normal ⟨tm, rs, nx⟩ = Q .normal ⟨tmOf (live.map fun t => (t, tm t)), rs, nx⟩ := (rfl)
theorem Qk_e {live : List Nat} {Q : Pst} {st : St} {i : Nat} : Qk live Q (.exit i) st = Q (.exit i) st := (rfl)
theorem Qk_r {live : List Nat} {Q : Pst} {st : St} : Qk live Q .ret st = Q .ret st := (rfl)
theorem Qj_n {m : Nat} {live : List Nat} {Q : Pst} {st : St} : Qj m live Q .normal st = Q .normal (canon m live st) := (rfl)
theorem Qj_e {m : Nat} {live : List Nat} {Q : Pst} {st : St} {i : Nat} : Qj m live Q (.exit i) st = Q (.exit i) st := (rfl)
theorem Qj_r {m : Nat} {live : List Nat} {Q : Pst} {st : St} : Qj m live Q .ret st = Q .ret st := (rfl)
def WC (E : Env) (x : X) (v : AV) (a b : C) (st : St) (Q : Pst) : Prop := match v with
  | .b t => if t = true then W E a st Q else W E b st Q
  | .mb => W E a st Q ∧ W E b st Q
  | .cv 1 r off sz n => W E a (tok x 3 r off sz n st) Q ∧ W E b (tok x 2 r off sz n st) Q
  | _ => False
theorem W_cond {x : X} {a b : C} {tm : Tm} {rs : Rs} {nx : Nat} {Q : Pst} : W E (.cond x a b) ⟨tm, rs, nx⟩ Q = WC E x (x.ev tm) a b ⟨tm, rs, nx⟩ Q := by
  have no : ∀ v : AV, x.ev tm = v → (∀ t, v ≠ .b t) → v ≠ .mb → (∀ r off sz n, v ≠ .cv 1 r off sz n) → W E (.cond x a b) ⟨tm, rs, nx⟩ Q = False := fun v e h1 h2 h3 => by
    refine eq_false fun ⟨k, h⟩ => ?_
    cases k with
    | zero => exact h.elim
    | succ k =>
      have h' : wC (callN E k) (Wn E k) (.cond x a b) ⟨tm, rs, nx⟩ Q := h
      simp only [wC, e] at h'
  cases e : x.ev tm
  case b t => exact W_cond_t (st := ⟨tm, rs, nx⟩) e
  case mb =>
    refine propext ⟨fun ⟨k, h⟩ => ?_, fun h => W_cond_mb e h.1 h.2⟩
    cases k with
    | zero => exact h.elim
    | succ k =>
      have h' : wC (callN E k) (Wn E k) (.cond x a b) ⟨tm, rs, nx⟩ Q := h
      simp only [wC, e] at h'
      exact ⟨⟨k + 1, h'.1⟩, ⟨k + 1, h'.2⟩⟩
  case cv k r off sz n =>
    by_cases hk : k = 1
    · subst hk
      refine propext ⟨fun ⟨k, h⟩ => ?_, fun h => W_cond_cv e h.1 h.2⟩
      cases k with
      | zero => exact h.elim
      | succ k =>
        have h' : wC (callN E k) (Wn E k) (.cond x a b) ⟨tm, rs, nx⟩ Q := h
        simp only [wC, e] at h'
        exact ⟨⟨k + 1, h'.1⟩, ⟨k + 1, h'.2⟩⟩
    · rw [no _ e (by intro t h; cases h) (by intro h; cases h) (by intro r off sz n h; injection h with h; exact hk h)]
      unfold WC
      split
      · rename_i h; cases h
      · rename_i h; cases h
      · rename_i h; injection h with h; exact absurd h hk
      · rfl
  all_goals exact no _ e (by intro t h; cases h) (by intro h; cases h) (by intro r off sz n h; cases h)
theorem WC_t {x : X} {a b : C} {st : St} {Q : Pst} : WC E x (.b true) a b st Q = W E a st Q := (rfl)
theorem WC_f {x : X} {a b : C} {st : St} {Q : Pst} : WC E x (.b false) a b st Q = W E b st Q := (rfl)
theorem W_sq {m : Nat} {l : List Op'} {tm : Tm} {rs : Rs} {nx : Nat} {Q : Pst} (h : m = l.length) : W E (.draw (sq m) l) ⟨tm, rs, nx⟩ Q = OQ (evOps (callW E) nx l (tm, rs)) (nx + m * 80) Q := by
  rw [W_draw, evSch_sq h, h]; rfl
theorem W_ops' {l : List Op'} {tm : Tm} {rs : Rs} {nx : Nat} {Q : Pst} : W E (.ops l) ⟨tm, rs, nx⟩ Q = OQ (evOps (callW E) nx l (tm, rs)) (nx + l.length * 80) Q := W_ops
end

/-! ### Values -/
theorem x_t {tm : Tm} {n : Nat} : X.ev tm (.t n) = tm n := (rfl)
theorem x_k {tm : Tm} {v : AV} : X.ev tm (.k v) = v := (rfl)
section
variable {call : CallF} {n : Nat} {tm : Tm} {rs : Rs}
theorem i_mv {x : X} : evI call n tm rs (.mv x) = some (x.ev tm, rs) := (rfl)
def fPick (c : AV) (a b : AV) (rs : Rs) : Option (AV × Rs) := match c with
  | .b t => some (if t then a else b, rs)
  | _ => none
theorem i_pick {c a b : X} : evI call n tm rs (.pick c a b) = fPick (c.ev tm) (a.ev tm) (b.ev tm) rs := (rfl)
theorem pick_t {a b : AV} : fPick (.b true) a b rs = some (a, rs) := (rfl)
theorem pick_f {a b : AV} : fPick (.b false) a b rs = some (b, rs) := (rfl)
def fBin (op : BinOp) (kd : Nat) (x y : AV) (rs : Rs) : Option (AV × Rs) := if formKd kd x then (aBin op x y).map (·, rs) else none
theorem i_bin {op : BinOp} {kd : Nat} {x y : X} : evI call n tm rs (.bin op kd x y) = fBin op kd (x.ev tm) (y.ev tm) rs := (rfl)
theorem b_add {k : IntKind} {x y : Int} : fBin .add 0 (.i k x) (.i k y) rs = some (.i k (k.wrap (x + y)), rs) := by simp [fBin, formKd, aBin, isShift, aArith]
theorem b_sub {k : IntKind} {x y : Int} : fBin .sub 0 (.i k x) (.i k y) rs = some (.i k (k.wrap (x - y)), rs) := by simp [fBin, formKd, aBin, isShift, aArith]
theorem b_mul {k : IntKind} {x y : Int} : fBin .mul 0 (.i k x) (.i k y) rs = some (.i k (k.wrap (x * y)), rs) := by simp [fBin, formKd, aBin, isShift, aArith]
theorem b_lss {k : IntKind} {x y : Int} : fBin .lss 0 (.i k x) (.i k y) rs = some (.b (decide (x < y)), rs) := by simp [fBin, formKd, aBin, isShift, aArith, aCmp]
theorem b_leq {k : IntKind} {x y : Int} : fBin .leq 0 (.i k x) (.i k y) rs = some (.b (decide (x ≤ y)), rs) := by simp [fBin, formKd, aBin, isShift, aArith, aCmp]
theorem b_gtr {k : IntKind} {x y : Int} : fBin .gtr 0 (.i k x) (.i k y) rs = some (.b (decide (x > y)), rs) := by simp [fBin, formKd, aBin, isShift, aArith, aCmp]
theorem b_geq {k : IntKind} {x y : Int} : fBin .geq 0 (.i k x) (.i k y) rs = some (.b (decide (x ≥ y)), rs) := by simp [fBin, formKd, aBin, isShift, aArith, aCmp]
theorem b_eql {k : IntKind} {x y : Int} : fBin .eql 0 (.i k x) (.i k y) rs = some (.b (decide (x = y)), rs) := by simp [fBin, formKd, aBin, isShift, aArith, aCmp]
theorem b_neq {k : IntKind} {x y : Int} : fBin .neq 0 (.i k x) (.i k y) rs = some (.b (!decide (x = y)), rs) := by simp [fBin, formKd, aBin, isShift, aArith, aCmp]
theorem wrap_i64 {x : Int} : IntKind.wrap .i64 x = wrap64 x := Go.IntKind.wrap_i64 x
def fLen (s : Bool) (x : AV) (rs : Rs) : Option (AV × Rs) := match x with
    | .s x => if s then some (.i .i64 x.size, rs) else none
    | .slc _ _ _ _ _ len => if s then none else some (.i .i64 len, rs)
    | .nl _ => if s then none else some (.i .i64 0, rs)
    | _ => none
theorem i_len {s : Bool} {x : X} : evI call n tm rs (.len s x) = fLen s (x.ev tm) rs := (rfl)
theorem len_c {r : Nat} {q : Path} {pv sz off len : Nat} : fLen false (.slc r q pv sz off len) rs = some (.i .i64 len, rs) := (rfl)
theorem len_n {sz : Nat} : fLen false (.nl sz) rs = some (.i .i64 0, rs) := (rfl)
theorem len_s {x : ByteArray} : fLen true (.s x) rs = some (.i .i64 x.size, rs) := (rfl)
def fIaddr (sz : Nat) (x j : AV) (rs : Rs) : Option (AV × Rs) := match x, j with
    | .slc r q pv sz' off len, .i _ n => if sz' = sz ∧ 0 ≤ n ∧ n < len then some (.ptr r q pv (off + n.toNat) 0, rs) else none
    | _, _ => none
theorem i_iaddr {sz : Nat} {x j : X} : evI call n tm rs (.iaddr sz x j) = fIaddr sz (x.ev tm) (j.ev tm) rs := (rfl)
theorem iaddr_c {sz r : Nat} {q : Path} {pv off len : Nat} {k : IntKind} {j : Int} (h1 : 0 ≤ j) (h2 : j < (len : Int)) : fIaddr sz (.slc r q pv sz off len) (.i k j) rs = some (.ptr r q pv (off + j.toNat) 0, rs) := by
  simp only [fIaddr]; rw [if_pos ⟨trivial, h1, h2⟩]
def fFaddr (off : Nat) (x : AV) (rs : Rs) : Option (AV × Rs) := match x with
    | .ptr r q pv i c => some (.ptr r q pv i (c + off), rs)
    | .bx cs c => some (.bx cs (c + off), rs)
    | _ => none
theorem i_faddr {off : Nat} {x : X} : evI call n tm rs (.faddr off x) = fFaddr off (x.ev tm) rs := (rfl)
theorem faddr_x {off c : Nat} {cs : List AV} : fFaddr off (.bx cs c) rs = some (.bx cs (c + off), rs) := (rfl)
theorem faddr_c {off r : Nat} {q : Path} {pv i c : Nat} : fFaddr off (.ptr r q pv i c) rs = some (.ptr r q pv i (c + off), rs) := (rfl)
def fLoad (k : Option Nat) (a : AV) (rs : Rs) : Option (AV × Rs) := match a with
    | .ptr r q pv i c => (look rs r q pv).bind fun (R, _, _, xs) => (xs[i]?).bind fun el => (loadVal r q R.pv i c el k).map (·, rs)
    | .bx cs c => (part' cs c k).map (·, rs)
    | _ => none
theorem i_load {k : Option Nat} {a : X} : evI call n tm rs (.load k a) = fLoad k (a.ev tm) rs := (rfl)
def lLoad (k : Option Nat) (r : Nat) (q : Path) (pv i c : Nat) (el : Option (List AV)) (rs : Rs) : Option (AV × Rs) := el.bind fun el => (loadVal r q pv i c el k).map (·, rs)
def lkLoad (k : Option Nat) (r i c : Nat) (R : Option Root) (rs : Rs) : Option (AV × Rs) := match R with
  | some R => lLoad k r [] R.pv i c R.xs[i]? rs
  | none => none
theorem load_c {k : Option Nat} {r pv i c : Nat} : fLoad k (.ptr r [] pv i c) rs = lkLoad k r i c (rs r) rs := by
  simp only [fLoad, look, lkLoad]
  cases rs r <;> rfl
theorem lkLoad_some {k : Option Nat} {r i c sz pv : Nat} {own : Bool} {xs : Els} : lkLoad k r i c (some ⟨own, sz, pv, xs⟩) rs = lLoad k r [] pv i c xs[i]? rs := (rfl)
theorem lLoad_none {r i c pv : Nat} {q : Path} {el : List AV} : lLoad none r q pv i c (some el) rs = ((el[c]?).map fun v => liftC r q pv i c v).map (·, rs) := (rfl)
end
theorem get_map {α : Type} {e : α → List AV} {l : List α} {z : α} {j : Int} (h1 : 0 ≤ j) (h2 : j < (l.length : Int)) : (l.map e)[0 + j.toNat]? = some (e (l.getD j.toNat z)) := by
  have h : j.toNat < l.length := by omega
  rw [Nat.zero_add, List.getElem?_map, List.getElem?_eq_getElem h, List.getD_eq_getElem?_getD, List.getElem?_eq_getElem h]; rfl
theorem lift_i {r : Nat} {q : Path} {pv i c : Nat} {k : IntKind} {x : Int} : liftC r q pv i c (.i k x) = .i k x := (rfl)
theorem lift_b {r : Nat} {q : Path} {pv i c : Nat} {x : Bool} : liftC r q pv i c (.b x) = .b x := (rfl)
theorem lift_s {r : Nat} {q : Path} {pv i c : Nat} {x : ByteArray} : liftC r q pv i c (.s x) = .s x := (rfl)
end Go.Proofs.Ytinlbiphjgpmmaa.V
end YtinlbiphjgpmmaaWH
section YtinlbiphjgpmmaaWI
namespace Go.Proofs.Ytinlbiphjgpmmaa.V
open Go Go.RowKit
set_option linter.unusedVariables false
set_option linter.unusedSimpArgs false

theorem ite_or {α : Type} {c : Prop} [Decidable c] {a b : Option α} {r : α} (h : (if c then a else b) = some r) : c ∧ a = some r ∨ ¬c ∧ b = some r := by
  by_cases hc : c
  · rw [if_pos hc] at h; exact .inl ⟨hc, h⟩
  · rw [if_neg hc] at h; exact .inr ⟨hc, h⟩
theorem ite_no {α : Type} {c : Prop} [Decidable c] {a : Option α} {r : α} (h : (if c then a else none) = some r) : c ∧ a = some r := by
  by_cases hc : c
  · rw [if_pos hc] at h; exact ⟨hc, h⟩
  · rw [if_neg hc] at h; cases h
theorem bnd_some {α β : Type} {a : Option α} {g : α → Option β} {r : β} (h : a.bind g = some r) : ∃ t, a = some t ∧ g t = some r := Option.bind_eq_some_iff.1 h
theorem some_bnd {α β : Type} {a : α} {g : α → Option β} {r : β} (h : (some a).bind g = some r) : ∃ y, a = y ∧ g y = some r := ⟨a, rfl, h⟩

/-! ### Typed content -/
def eI (n : Int) : List AV := [.i .i64 n]
def e8 (n : Int) : List AV := [.i .u8 n]
def eB (b : Bool) : List AV := [.b b]
def eS (s : ByteArray) : List AV := [.s s]
def eL {α : Type} (sz : Nat) (b : Bool) (e : α → List AV) (l : List α) : List AV := [.deep false b sz (l.map e)]
theorem wnd_full {α : Type} {e : α → List AV} {l : List α} : wnd (l.map e) 0 l.length = l.map e := by
  rw [wnd, List.drop_zero, List.take_of_length_le (by simp)]
theorem wnd_nil {n : Nat} : wnd [] 0 n = [] := by simp [wnd]
theorem wnd_cut {α : Type} {e : α → List AV} {l : List α} {off n : Nat} {v : List α} (h : (l.drop off).take n = v) : wnd (l.map e) off n = v.map e := by
  rw [wnd, ← List.map_drop, ← List.map_take, h]
theorem len_map {α : Type} {e : α → List AV} {l : List α} : (l.map e).length = l.length := by simp
def wnd1 (l : Els) : Els := l
/-- An element of typed content. -/
theorem get_e {α : Type} {e : α → List AV} {l : List α} {z : α} {j : Int} (h1 : 0 ≤ j) (h2 : j < (l.length : Int)) : (l.map e)[0 + j.toNat]? = some (e (l.getD j.toNat z)) := get_map h1 h2
theorem get_w {α : Type} {e : α → List AV} {l v : List α} {off n : Nat} {z : α} {j : Int} (hw : (l.drop off).take n = v) (h1 : 0 ≤ j) (h2 : j < (v.length : Int)) : (l.map e)[off + j.toNat]? = some (e (v.getD j.toNat z)) := by
  have h : j.toNat < v.length := by omega
  subst hw
  have h' := h
  rw [List.length_take, List.length_drop] at h'
  rw [List.getElem?_map, List.getD_eq_getElem?_getD, List.getElem?_take_of_lt (by omega), List.getElem?_drop, List.getElem?_eq_getElem (by omega)]
  rfl
theorem set_e {α : Type} {e : α → List AV} {l : List α} {j : Int} {c : Nat} {vs : List AV} {x y : α} (h1 : 0 ≤ j) (h2 : j < (l.length : Int)) (hx : l[j.toNat]? = some x) (hy : (e x).take c ++ vs ++ (e x).drop (c + vs.length) = e y) : setEl (l.map e) (0 + j.toNat) c vs = (l.set j.toNat y).map e := by
  have h : j.toNat < l.length := by omega
  rw [setEl, Nat.zero_add, List.getElem?_map, hx]
  simp only [Option.map_some]
  rw [hy, List.map_set]
theorem getD_at {α : Type} {l : List α} {z : α} {j : Int} (h1 : 0 ≤ j) (h2 : j < (l.length : Int)) : l[j.toNat]? = some (l.getD j.toNat z) := by
  have h : j.toNat < l.length := by omega
  rw [List.getD_eq_getElem?_getD, List.getElem?_eq_getElem h]; rfl

section
variable {call : CallF} {n : Nat} {tm : Tm} {rs : Rs}
/-! ### Numbers, bools, texts -/
theorem b_and {k : IntKind} {x y : Int} : fBin .and 0 (.i k x) (.i k y) rs = some (.i k (Go.bits .and k x y), rs) := by simp [fBin, formKd, aBin, isShift, aArith, Go.bits]
theorem b_or {k : IntKind} {x y : Int} : fBin .or 0 (.i k x) (.i k y) rs = some (.i k (Go.bits .or k x y), rs) := by simp [fBin, formKd, aBin, isShift, aArith, Go.bits]
theorem b_xor {k : IntKind} {x y : Int} : fBin .xor 0 (.i k x) (.i k y) rs = some (.i k (Go.bits .xor k x y), rs) := by simp [fBin, formKd, aBin, isShift, aArith, Go.bits]
def shl (k : IntKind) (x y : Int) : Int := k.wrap (x * 2 ^ min y.toNat k.bits)
def shr (k : IntKind) (x y : Int) : Int := x.fdiv (2 ^ min y.toNat k.bits)
theorem b_shl {k k' : IntKind} {x y : Int} (h : 0 ≤ y) : fBin .shl 0 (.i k x) (.i k' y) rs = some (.i k (shl k x y), rs) := by simp [fBin, formKd, aBin, isShift, aShift, shl, Int.not_lt.2 h]
theorem b_shr {k k' : IntKind} {x y : Int} (h : 0 ≤ y) : fBin .shr 0 (.i k x) (.i k' y) rs = some (.i k (shr k x y), rs) := by simp [fBin, formKd, aBin, isShift, aShift, shr, Int.not_lt.2 h]
theorem b_quo {k : IntKind} {x y : Int} (h : y ≠ 0) : fBin .quo 0 (.i k x) (.i k y) rs = some (.i k (k.wrap (x.tdiv y)), rs) := by simp [fBin, formKd, aBin, isShift, aArith, h]
theorem b_rem {k : IntKind} {x y : Int} (h : y ≠ 0) : fBin .rem 0 (.i k x) (.i k y) rs = some (.i k (x.tmod y), rs) := by simp [fBin, formKd, aBin, isShift, aArith, h]
theorem b_eqb {x y : Bool} : fBin .eql 1 (.b x) (.b y) rs = some (.b (decide (x = y)), rs) := by simp [fBin, formKd, aBin]
theorem b_neb {x y : Bool} : fBin .neq 1 (.b x) (.b y) rs = some (.b (!decide (x = y)), rs) := by simp [fBin, formKd, aBin]
theorem b_eqs {x y : ByteArray} : fBin .eql 0 (.s x) (.s y) rs = some (.b (decide (x = y)), rs) := by simp [fBin, formKd, aBin]
theorem b_nes {x y : ByteArray} : fBin .neq 0 (.s x) (.s y) rs = some (.b (!decide (x = y)), rs) := by simp [fBin, formKd, aBin]
theorem b_cat {x y : ByteArray} (h : x.size + y.size ≤ 9223372036854775807) : fBin .add 0 (.s x) (.s y) rs = some (.s (x ++ y), rs) := by simp [fBin, formKd, aBin, h]
theorem b_nil1 {r : Nat} {q : Path} {pv sz off len sz' : Nat} : fBin .eql 2 (.slc r q pv sz off len) (.nl sz') rs = some (isNil len, rs) := by simp [fBin, formKd, aBin]
theorem b_nil0 {sz sz' : Nat} : fBin .eql 2 (.nl sz) (.nl sz') rs = some (.b true, rs) := by simp [fBin, formKd, aBin]
def fUn (op : UnOp) (x : AV) (rs : Rs) : Option (AV × Rs) := (aUn op x).map (·, rs)
theorem i_un {op : UnOp} {x : X} : evI call n tm rs (.un op x) = fUn op (x.ev tm) rs := (rfl)
theorem un_not {x : Bool} : fUn .not (.b x) rs = some (.b (!x), rs) := (rfl)
theorem un_mb : fUn .not .mb rs = some (.mb, rs) := (rfl)
theorem un_neg {k : IntKind} {x : Int} : fUn .neg (.i k x) rs = some (.i k (k.wrap (0 - x)), rs) := (rfl)
def fConv (k : IntKind) (x : AV) (rs : Rs) : Option (AV × Rs) := match x with
    | .i _ n => some (.i k (k.wrap n), rs)
    | _ => none
theorem i_conv {k : IntKind} {x : X} : evI call n tm rs (.conv k x) = fConv k (x.ev tm) rs := (rfl)
theorem conv_c {k k' : IntKind} {x : Int} : fConv k (.i k' x) rs = some (.i k (k.wrap x), rs) := (rfl)
theorem wrap_u8 {x : Int} : IntKind.wrap .u8 x = x % 256 := by simp [IntKind.wrap, IntKind.bits, IntKind.signed]
def fNilc (x : AV) (rs : Rs) : Option (AV × Rs) := match x with
    | .ptr r q pv i c => some (.ptr r q pv i c, rs)
    | .fn f cs => some (.fn f cs, rs)
    | .bx cs c => some (.bx cs c, rs)
    | _ => none
theorem i_nilc {x : X} : evI call n tm rs (.nilc x) = fNilc (x.ev tm) rs := (rfl)
theorem nilc_p {r : Nat} {q : Path} {pv i c : Nat} : fNilc (.ptr r q pv i c) rs = some (.ptr r q pv i c, rs) := (rfl)
theorem nilc_f {f : Nat} {cs : List AV} : fNilc (.fn f cs) rs = some (.fn f cs, rs) := (rfl)
theorem nilc_x {cs : List AV} {c : Nat} : fNilc (.bx cs c) rs = some (.bx cs c, rs) := (rfl)
def fMm (m : Bool) (x : AV) (xs : List AV) (rs : Rs) : Option (AV × Rs) := (mnMx m x xs).map (·, rs)
theorem i_mm {m : Bool} {x : X} {xs : List X} : evI call n tm rs (.mm m (x :: xs)) = fMm m (x.ev tm) (xs.map (·.ev tm)) rs := (rfl)
def mx (a b : Int) : Int := if a < b then b else a
def mn (a b : Int) : Int := if b < a then b else a
theorem mm_nil {m : Bool} {v : AV} : fMm m v [] rs = some (v, rs) := (rfl)
theorem mm_x {k : IntKind} {a b : Int} {l : List AV} : fMm true (.i k a) (.i k b :: l) rs = fMm true (.i k (mx a b)) l rs := by simp [fMm, mnMx, mx]
theorem mm_n {k : IntKind} {a b : Int} {l : List AV} : fMm false (.i k a) (.i k b :: l) rs = fMm false (.i k (mn a b)) l rs := by simp [fMm, mnMx, mn]
def fIdxS (x j : AV) (rs : Rs) : Option (AV × Rs) := match x, j with
    | .s x, .i _ n => if 0 ≤ n ∧ n < x.size then some (.i .u8 ((x.toList.getD n.toNat 0).toNat : Nat), rs) else none
    | _, _ => none
theorem i_idxS {x j : X} : evI call n tm rs (.idxS x j) = fIdxS (x.ev tm) (j.ev tm) rs := (rfl)
def bt (s : ByteArray) (i : Int) : Int := if h : i.toNat < s.size then ((s[i.toNat]'h).toNat : Int) else 0
theorem toList_len (s : ByteArray) : s.toList.length = s.size := by rw [ByteArray.toList_eq, Array.length_toList]; rfl
theorem idxS_c {x : ByteArray} {k : IntKind} {j : Int} (h1 : 0 ≤ j) (h2 : j < (x.size : Int)) : fIdxS (.s x) (.i k j) rs = some (.i .u8 (bt x j), rs) := by
  have h : j.toNat < x.size := by omega
  simp only [fIdxS]
  rw [if_pos ⟨h1, h2⟩, bt, dif_pos h]
  have e : x.toList.getD j.toNat 0 = x[j.toNat] := by
    rw [List.getD_eq_getElem?_getD, List.getElem?_eq_getElem (by rw [toList_len]; exact h), Option.getD_some]
    simp [ByteArray.getElem_eq_getElem_data, ByteArray.toList_eq]
  rw [e]
def fSlS (x : AV) (lo hi : Option AV) (rs : Rs) : Option (AV × Rs) := match x with
    | .s x => (bndv x.size hi x.size).bind fun h => (bndv h lo 0).map fun l => (.s (x.extract l h), rs)
    | _ => none
where bndv (hi : Nat) : Option AV → Nat → Option Nat
  | none, d => some d
  | some v, _ => match v with
    | .i _ n => if 0 ≤ n ∧ n ≤ hi then some n.toNat else none
    | _ => none
theorem bnd_v {hi d : Nat} {x : Option X} : bnd tm hi x d = fSlS.bndv hi (x.map (·.ev tm)) d := by cases x <;> rfl
theorem i_slS {x : X} {lo hi : Option X} : evI call n tm rs (.slS x lo hi) = fSlS (x.ev tm) (lo.map (·.ev tm)) (hi.map (·.ev tm)) rs := by
  simp only [evI, fSlS, bnd_v]
  cases x.ev tm <;> rfl
theorem slS_l {x : ByteArray} {k : IntKind} {l : Int} (h1 : 0 ≤ l) (h2 : l ≤ (x.size : Int)) : fSlS (.s x) (some (.i k l)) none rs = some (.s (x.extract l.toNat x.size), rs) := by
  simp [fSlS, fSlS.bndv, h1, h2]
theorem slS_h {x : ByteArray} {k : IntKind} {h : Int} (h1 : 0 ≤ h) (h2 : h ≤ (x.size : Int)) : fSlS (.s x) none (some (.i k h)) rs = some (.s (x.extract 0 h.toNat), rs) := by
  simp [fSlS, fSlS.bndv, h1, h2]
theorem slS_lh {x : ByteArray} {k k' : IntKind} {l h : Int} (h0 : 0 ≤ l) (h1 : l ≤ h) (h2 : h ≤ (x.size : Int)) : fSlS (.s x) (some (.i k l)) (some (.i k' h)) rs = some (.s (x.extract l.toNat h.toNat), rs) := by
  have e : 0 ≤ h := by omega
  have e2 : l ≤ ((h.toNat : Nat) : Int) := by omega
  simp only [fSlS, fSlS.bndv, if_pos (show 0 ≤ h ∧ h ≤ (x.size : Int) from ⟨e, h2⟩), Option.bind_some, if_pos (show 0 ≤ l ∧ l ≤ ((h.toNat : Nat) : Int) from ⟨h0, e2⟩), Option.map_some]
/-! ### Structs -/
theorem ec_nil : eqCells [] [] [] = some true := (rfl)
theorem ec_0 {ks : List Nat} {k : IntKind} {x y : Int} {xs ys : List AV} : eqCells (0 :: ks) (.i k x :: xs) (.i k y :: ys) = (eqCells ks xs ys).map fun r => decide (x = y) && r := by simp [eqCells]
theorem ec_1 {ks : List Nat} {x y : Bool} {xs ys : List AV} : eqCells (1 :: ks) (.b x :: xs) (.b y :: ys) = (eqCells ks xs ys).map fun r => decide (x = y) && r := by simp [eqCells]
theorem ec_2 {ks : List Nat} {x y : ByteArray} {xs ys : List AV} : eqCells (2 :: ks) (.s x :: xs) (.s y :: ys) = (eqCells ks xs ys).map fun r => decide (x = y) && r := by simp [eqCells]
def fEqA (neg : Bool) (ks : List Nat) (x y : AV) (rs : Rs) : Option (AV × Rs) := match x, y with
    | .agg xs, .agg ys => gEqA neg (eqCells ks xs ys) rs
    | _, _ => none
where gEqA (neg : Bool) (r : Option Bool) (rs : Rs) : Option (AV × Rs) := r.map fun r => (.b (if neg then !r else r), rs)
theorem i_eqA {neg : Bool} {ks : List Nat} {x y : X} : evI call n tm rs (.eqA neg ks x y) = fEqA neg ks (x.ev tm) (y.ev tm) rs := (rfl)
theorem eqA_c {neg : Bool} {ks : List Nat} {xs ys : List AV} : fEqA neg ks (.agg xs) (.agg ys) rs = fEqA.gEqA neg (eqCells ks xs ys) rs := (rfl)
theorem eqA_t {r : Bool} : fEqA.gEqA true (some r) rs = some (.b (!r), rs) := (rfl)
theorem eqA_f {r : Bool} : fEqA.gEqA false (some r) rs = some (.b r, rs) := (rfl)
def fBld (tm : Tm) (cs : List AV) (ps : List (Nat × Nat × X)) (rs : Rs) : Option (AV × Rs) := (aBuild tm cs ps).map fun cs => (.agg cs, rs)
theorem i_build {z : List AV} {ps : List (Nat × Nat × X)} : evI call n tm rs (.build z ps) = fBld tm z ps rs := (rfl)
theorem bld_nil {cs : List AV} : fBld tm cs [] rs = some (.agg cs, rs) := (rfl)
def fBld1 (tm : Tm) (cs : List AV) (o k : Nat) (v : AV) (ps : List (Nat × Nat × X)) (rs : Rs) : Option (AV × Rs) :=
  if isVal v = true ∧ v.cells.length = k ∧ o + k ≤ cs.length then fBld tm (putCells cs o v.cells) ps rs else none
theorem bld_cons {cs : List AV} {o k : Nat} {x : X} {ps : List (Nat × Nat × X)} : fBld tm cs ((o, k, x) :: ps) rs = fBld1 tm cs o k (x.ev tm) ps rs := by
  simp only [fBld, aBuild, fBld1]; split <;> rfl
def isC1 : AV → Bool
  | .fn _ _ | .tup _ | .undef | .agg _ | .bx _ _ => false
  | _ => true
theorem bld_1 {cs : List AV} {o : Nat} {v : AV} {ps : List (Nat × Nat × X)} (hv : isC1 v = true) (h : o < cs.length) : fBld1 tm cs o 1 v ps rs = fBld tm (cs.set o v) ps rs := by
  have h' : o + 1 ≤ cs.length := h
  cases v <;> first | (simp [isC1] at hv; done) | simp [fBld1, isVal, AV.cells, putCells, h']
theorem bld_a {cs : List AV} {o k : Nat} {vs : List AV} {ps : List (Nat × Nat × X)} (h1 : vs.length = k) (h : o + k ≤ cs.length) : fBld1 tm cs o k (.agg vs) ps rs = fBld tm (putCells cs o vs) ps rs := by
  simp [fBld1, isVal, AV.cells, h1, h]
theorem put_nil {cs : List AV} {o : Nat} : putCells cs o [] = cs := (rfl)
theorem put_cons {cs : List AV} {o : Nat} {v : AV} {vs : List AV} : putCells cs o (v :: vs) = putCells (cs.set o v) (o + 1) vs := (rfl)
def fField (off : Nat) (k : Option Nat) (x : AV) (rs : Rs) : Option (AV × Rs) := match x with
    | .agg cs => (part' cs off k).map (·, rs)
    | _ => none
theorem i_field {off : Nat} {k : Option Nat} {x : X} : evI call n tm rs (.field off k x) = fField off k (x.ev tm) rs := (rfl)
def oSome (v : Option AV) (rs : Rs) : Option (AV × Rs) := v.map (·, rs)
theorem oSome_c {v : AV} : oSome (some v) rs = some (v, rs) := (rfl)
theorem load_x {c : Nat} {cs : List AV} : fLoad none (.bx cs c) rs = oSome cs[c]? rs := (rfl)
theorem load_xn {c k : Nat} {cs : List AV} (h : c + k ≤ cs.length) : fLoad (some k) (.bx cs c) rs = some (.agg ((cs.drop c).take k), rs) := by simp [fLoad, part', h]
theorem field_1 {off : Nat} {cs : List AV} : fField off none (.agg cs) rs = oSome cs[off]? rs := (rfl)
theorem field_n {off k : Nat} {cs : List AV} (h : off + k ≤ cs.length) : fField off (some k) (.agg cs) rs = some (.agg ((cs.drop off).take k), rs) := by simp [fField, part', h]
def fExt (j : Nat) (x : AV) (rs : Rs) : Option (AV × Rs) := match x with
    | .tup vs => oSome vs[j]? rs
    | _ => none
theorem i_ext {j : Nat} {x : X} : evI call n tm rs (.ext j x) = fExt j (x.ev tm) rs := (rfl)
theorem ext_c {j : Nat} {vs : List AV} : fExt j (.tup vs) rs = oSome vs[j]? rs := (rfl)
/-! ### Memory -/
theorem lLoad_one {r i c pv : Nat} {q : Path} {el : List AV} : lLoad none r q pv i c (some el) rs = oSome ((el[c]?).map (liftC r q pv i c)) rs := by
  simp only [lLoad_none, oSome]
def liftO (r : Nat) (q : Path) (pv i c : Nat) (v : Option AV) (rs : Rs) : Option (AV × Rs) := v.map fun v => (liftC r q pv i c v, rs)
theorem load_1 {r i c pv : Nat} {q : Path} {el : List AV} : lLoad none r q pv i c (some el) rs = liftO r q pv i c el[c]? rs := by
  simp only [lLoad_none, liftO, Option.map_map]; rfl
theorem liftO_c {r i c pv : Nat} {q : Path} {v : AV} : liftO r q pv i c (some v) rs = some (liftC r q pv i c v, rs) := (rfl)
theorem load_n {r i c pv k : Nat} {q : Path} {v : AV} {vs : List AV} (h : c + k ≤ (v :: vs).length) : lLoad (some k) r q pv i c (some (v :: vs)) rs = some (.agg (liftCs r q pv i c (((v :: vs).drop c).take k)), rs) := by
  have h' : c + k ≤ vs.length + 1 := h
  simp [lLoad, loadVal, h']
theorem lifts_nil {r i c pv : Nat} {q : Path} : liftCs r q pv i c [] = [] := (rfl)
theorem lifts_cons {r i c pv : Nat} {q : Path} {v : AV} {vs : List AV} : liftCs r q pv i c (v :: vs) = liftC r q pv i c v :: liftCs r q pv i (c + 1) vs := (rfl)
theorem lift_d {r : Nat} {q : Path} {pv i c : Nat} {b : Bool} {sz : Nat} {xs : Els} : liftC r q pv i c (.deep false b sz xs) = .slc r (q ++ [(i, c)]) pv sz 0 xs.length := (rfl)
theorem lift_p {r : Nat} {q : Path} {pv i c : Nat} {b : Bool} {sz : Nat} {xs : Els} : liftC r q pv i c (.deep true b sz xs) = .ptr r (q ++ [(i, c)]) pv 0 0 := (rfl)
/-- The array at a path of one step. -/
def lkP (k : Option Nat) (r pv i c : Nat) (j : Nat) (d : Nat) (R : Option Root) (rs : Rs) : Option (AV × Rs) := match R with
  | some R => if pv = R.pv then lkD k r R.pv i c j d (cellAt R.xs i c) rs else none
  | none => none
where lkD (k : Option Nat) (r pv i c : Nat) (j : Nat) (d : Nat) (v : Option AV) (rs : Rs) : Option (AV × Rs) := match v with
  | some (.deep _ _ _ ys) => lLoad k r [(i, c)] pv j d ys[j]? rs
  | _ => none
theorem load_p {k : Option Nat} {r pv i c j d : Nat} : fLoad k (.ptr r [(i, c)] pv j d) rs = lkP k r pv i c j d (rs r) rs := by
  simp only [fLoad, look, lkP]
  cases e : rs r with
  | none => rfl
  | some R =>
    simp only [Option.bind_some, Root.arr]
    by_cases h : pv = R.pv
    · rw [if_pos h, if_pos h]
      simp only [arrAt, lkP.lkD]
      cases cellAt R.xs i c with
      | none => rfl
      | some v => cases v <;> rfl
    · rw [if_neg h, if_neg h]; rfl
theorem lkP_some {k : Option Nat} {r i c j d sz pv : Nat} {own : Bool} {xs : Els} : lkP k r pv i c j d (some ⟨own, sz, pv, xs⟩) rs = lkP.lkD k r pv i c j d (cellAt xs i c) rs := by simp [lkP]
theorem lkD_some {k : Option Nat} {r i c j d sz pv : Nat} {p b : Bool} {ys : Els} : lkP.lkD k r pv i c j d (some (.deep p b sz ys)) rs = lLoad k r [(i, c)] pv j d ys[j]? rs := (rfl)
theorem cell_e {xs : Els} {i c : Nat} {el : List AV} (h : xs[i]? = some el) : cellAt xs i c = el[c]? := by simp [cellAt, h]
theorem cell_0 {el : List AV} {l : Els} {c : Nat} : cellAt (el :: l) 0 c = el[c]? := (rfl)
/-- On the way into memory. -/
theorem sinks_nil : sinks rs [] = some ([], []) := (rfl)
def sk1 (a : Option (AV × List Nat)) (rs : Rs) (vs : List AV) : Option (List AV × List Nat) := a.bind fun a => (sinks rs vs).map fun b => (a.1 :: b.1, a.2 ++ b.2)
theorem sinks_cons {v : AV} {vs : List AV} : sinks rs (v :: vs) = sk1 (sink rs v) rs vs := (rfl)
def sk2 (c : AV) (a : List Nat) (b : Option (List AV × List Nat)) : Option (List AV × List Nat) := b.map fun b => (c :: b.1, a ++ b.2)
theorem sk1_c {c : AV} {a : List Nat} {vs : List AV} : sk1 (some (c, a)) rs vs = sk2 c a (sinks rs vs) := (rfl)
theorem sk2_c {c : AV} {a b : List Nat} {cs : List AV} : sk2 c a (some (cs, b)) = some (c :: cs, a ++ b) := (rfl)
theorem sink_b {x : Bool} : sink rs (.b x) = some (.b x, []) := (rfl)
theorem sink_i {k : IntKind} {x : Int} : sink rs (.i k x) = some (.i k x, []) := (rfl)
theorem sink_s {x : ByteArray} : sink rs (.s x) = some (.s x, []) := (rfl)
theorem sink_nl {sz : Nat} : sink rs (.nl sz) = some (.deep false false sz [], []) := (rfl)
def skR (r : Nat) (sz off len : Nat) (R : Option Root) : Option (AV × List Nat) := match R with
  | some R => if R.own then some (.deep false false sz (wnd R.xs off len), [r]) else some (.deep false true sz (wnd R.xs off len), [])
  | none => none
theorem sink_r {r pv sz off len : Nat} : sink rs (.slc r [] pv sz off len) = skR r sz off len (rs r) := by
  simp only [sink, look, skR]
  cases rs r with
  | none => rfl
  | some R => obtain ⟨o, s, p, x⟩ := R; cases o <;> simp [Root.arr]
theorem skR_o {r sz off len pv sz' : Nat} {xs : Els} : skR r sz off len (some ⟨true, sz', pv, xs⟩) = some (.deep false false sz (wnd xs off len), [r]) := (rfl)
theorem skR_r {r sz off len pv sz' : Nat} {xs : Els} : skR r sz off len (some ⟨false, sz', pv, xs⟩) = some (.deep false true sz (wnd xs off len), []) := (rfl)
theorem cells_a {cs : List AV} : AV.cells (.agg cs) = cs := (rfl)
theorem cells_b {x : Bool} : AV.cells (.b x) = [.b x] := (rfl)
theorem cells_i {k : IntKind} {x : Int} : AV.cells (.i k x) = [.i k x] := (rfl)
theorem cells_s {x : ByteArray} : AV.cells (.s x) = [.s x] := (rfl)
theorem cells_n {sz : Nat} : AV.cells (.nl sz) = [.nl sz] := (rfl)
theorem cells_c {r : Nat} {q : Path} {pv sz off len : Nat} : AV.cells (.slc r q pv sz off len) = [.slc r q pv sz off len] := (rfl)
def fBox (n k : Nat) (a : Option (List AV × List Nat)) (rs : Rs) : Option (AV × Rs) := a.bind fun (vs, asx) =>
      if vs.length = k ∧ asx.Nodup then some (.ptr n [] 0 0 0, up' (kill rs asx) n (some ⟨true, k, 0, [vs]⟩)) else none
def fBxK (v : AV) (rs : Rs) : Option (AV × Rs) := if isVal v = true then some (.bx v.cells 0, rs) else none
theorem i_boxK {x : X} : evI call n tm rs (.boxK x) = fBxK (x.ev tm) rs := (rfl)
theorem bxk_a {cs : List AV} : fBxK (.agg cs) rs = some (.bx cs 0, rs) := (rfl)
theorem bxk_i {k : IntKind} {x : Int} : fBxK (.i k x) rs = some (.bx [.i k x] 0, rs) := (rfl)
theorem bxk_b {x : Bool} : fBxK (.b x) rs = some (.bx [.b x] 0, rs) := (rfl)
theorem bxk_s {x : ByteArray} : fBxK (.s x) rs = some (.bx [.s x] 0, rs) := (rfl)
theorem bxk_r {r : Nat} {q : Path} {pv sz off len : Nat} : fBxK (.slc r q pv sz off len) rs = some (.bx [.slc r q pv sz off len] 0, rs) := (rfl)
theorem i_box {k : Nat} {x : X} : evI call n tm rs (.box k x) = fBox n k (sinks rs (x.ev tm).cells) rs := (rfl)
theorem box_c {k : Nat} {vs : List AV} {asx : List Nat} {l : List (Nat × Option Root)} (h : (vs.length == k && decide asx.Nodup) = true) : fBox n k (some (vs, asx)) (rsL l) = some (.ptr n [] 0 0 0, up' (kill (rsL l) asx) n (some ⟨true, k, 0, [vs]⟩)) := by
  simp only [Bool.and_eq_true, beq_iff_eq, decide_eq_true_eq] at h
  simp [fBox, h]
theorem i_alloc {z : List AV} {l : List (Nat × Option Root)} : evI call n tm (rsL l) (.alloc z) = some (.ptr n [] 0 0 0, rsL ((n, some ⟨true, z.length, 0, [z]⟩) :: l)) := (rfl)
def fSto (k : Nat) (a : AV) (s : Option (List AV × List Nat)) (rs : Rs) : Option (AV × Rs) := match a with
    | .ptr r q pv i c => (look rs r q pv).bind fun (R, _, ro, xs) => (xs[i]?).bind fun el =>
        s.bind fun (vs, asx) =>
          if ro = false ∧ vs.length = k ∧ c + k ≤ el.length ∧ r ∉ asx ∧ asx.Nodup then
            some (.undef, up' (kill rs asx) r (some { R with
              pv := if anyDeep vs then R.pv + 1 else R.pv, xs := modArr R.xs q fun ys => setEl ys i c vs }))
          else none
    | _ => none
theorem i_store {k : Nat} {a v : X} : evI call n tm rs (.store k a v) = fSto k (a.ev tm) (sinks rs (v.ev tm).cells) rs := (rfl)
def stR (k r i c : Nat) (vs : List AV) (asx : List Nat) (R : Option Root) (rs : Rs) : Option (AV × Rs) := match R with
  | some R => if R.own = true then stE k r i c vs asx R (R.xs[i]?) rs else none
  | none => none
where stE (k r i c : Nat) (vs : List AV) (asx : List Nat) (R : Root) (el : Option (List AV)) (rs : Rs) : Option (AV × Rs) := match el with
  | some el => if (vs.length == k && decide (c + k ≤ el.length) && !asx.contains r && decide asx.Nodup) = true then some (.undef, up' (kill rs asx) r (some { R with pv := if anyDeep vs then R.pv + 1 else R.pv, xs := setEl R.xs i c vs })) else none
  | none => none
theorem sto_r {k r pv i c : Nat} {vs : List AV} {asx : List Nat} : fSto k (.ptr r [] pv i c) (some (vs, asx)) rs = stR k r i c vs asx (rs r) rs := by
  simp only [fSto, look, stR]
  cases rs r with
  | none => rfl
  | some R =>
    obtain ⟨o, s, p, x⟩ := R
    cases o
    · simp only [Option.bind_some, Root.arr, Option.map_some, Bool.not_false, Bool.true_eq_false, Bool.false_eq_true, false_and, ↓reduceIte]
      cases x[i]? <;> rfl
    · simp only [Option.bind_some, Root.arr, Option.map_some, Bool.not_true, true_and, ↓reduceIte, stR.stE]
      cases x[i]? with
      | none => rfl
      | some el =>
        simp only [Option.bind_some, modArr]
        congr 1
        simp [and_assoc, List.contains_iff_mem]
theorem stR_o {k r i c sz pv : Nat} {vs : List AV} {asx : List Nat} {xs : Els} : stR k r i c vs asx (some ⟨true, sz, pv, xs⟩) rs = stR.stE k r i c vs asx ⟨true, sz, pv, xs⟩ xs[i]? rs := (rfl)
theorem stE_n {k r i c sz pv : Nat} {vs : List AV} {asx : List Nat} {xs : Els} {el : List AV} {l : List (Nat × Option Root)} (h : (vs.length == k && decide (c + k ≤ el.length) && !asx.contains r && decide asx.Nodup) = true) (hd : anyDeep vs = false) :
    stR.stE k r i c vs asx ⟨true, sz, pv, xs⟩ (some el) (rsL l) = some (.undef, up' (kill (rsL l) asx) r (some ⟨true, sz, pv, setEl xs i c vs⟩)) := by
  simp only [stR.stE, h, hd, ↓reduceIte, Bool.false_eq_true]
theorem stE_d {k r i c sz pv : Nat} {vs : List AV} {asx : List Nat} {xs : Els} {el : List AV} {l : List (Nat × Option Root)} (h : (vs.length == k && decide (c + k ≤ el.length) && !asx.contains r && decide asx.Nodup) = true) (hd : anyDeep vs = true) :
    stR.stE k r i c vs asx ⟨true, sz, pv, xs⟩ (some el) (rsL l) = some (.undef, up' (kill (rsL l) asx) r (some ⟨true, sz, pv + 1, setEl xs i c vs⟩)) := by
  simp only [stR.stE, h, hd, ↓reduceIte]
theorem set_0 {el : List AV} {l : Els} {c : Nat} {vs : List AV} : setEl (el :: l) 0 c vs = (el.take c ++ vs ++ el.drop (c + vs.length)) :: l := (rfl)
theorem d_b {x : Bool} {vs : List AV} : anyDeep (.b x :: vs) = anyDeep vs := (rfl)
theorem d_i {k : IntKind} {x : Int} {vs : List AV} : anyDeep (.i k x :: vs) = anyDeep vs := (rfl)
theorem d_s {x : ByteArray} {vs : List AV} : anyDeep (.s x :: vs) = anyDeep vs := (rfl)
theorem d_d {p b : Bool} {sz : Nat} {xs : Els} {vs : List AV} : anyDeep (.deep p b sz xs :: vs) = true := (rfl)
theorem d_nil : anyDeep [] = false := (rfl)
def fMks (n sz by' : Nat) (z : List AV) (m : AV) (rs : Rs) : Option (AV × Rs) := match m with
    | .i _ m => if 0 ≤ m ∧ m * by' ≤ 140737488355328 then some (.slc n [] 0 sz 0 m.toNat, up' rs n (some ⟨true, sz, 0, List.replicate m.toNat z⟩)) else none
    | _ => none
theorem i_mks {sz by' : Nat} {z : List AV} {m : X} : evI call n tm rs (.mks sz by' z m) = fMks n sz by' z (m.ev tm) rs := (rfl)
theorem mks_c {sz by' : Nat} {z : List AV} {k : IntKind} {m : Int} {l : List (Nat × Option Root)} (h1 : 0 ≤ m) (h2 : m * by' ≤ 140737488355328) : fMks n sz by' z (.i k m) (rsL l) = some (.slc n [] 0 sz 0 m.toNat, rsL ((n, some ⟨true, sz, 0, List.replicate m.toNat z⟩) :: l)) := by
  simp only [fMks, if_pos (show 0 ≤ m ∧ m * by' ≤ 140737488355328 from ⟨h1, h2⟩), rs_up]
end
end Go.Proofs.Ytinlbiphjgpmmaa.V
end YtinlbiphjgpmmaaWI
section YtinlbiphjgpmmaaWJ
namespace Go.Proofs.Ytinlbiphjgpmmaa.V
open Go Go.RowKit
set_option linter.unusedVariables false
set_option linter.unusedSimpArgs false

section
variable {call : CallF} {n : Nat} {tm : Tm} {rs : Rs}
/-- An array at a path of at most one step: may it not be written, and its content. -/
def lkA (q : Path) (pv : Nat) (R : Option Root) : Option (Nat × Bool × Els) := R.bind fun R => R.arr q pv
theorem look_lkA {r : Nat} {q : Path} {pv : Nat} : look rs r q pv = (rs r).bind fun R => (lkA q pv (rs r)).map fun x => (R, x) := by
  simp only [look, lkA]; cases rs r <;> rfl
theorem lkA_0 {pv sz pv' : Nat} {own : Bool} {xs : Els} : lkA [] pv (some ⟨own, sz, pv', xs⟩) = some (sz, !own, xs) := (rfl)
def lkC (ro : Bool) (v : Option AV) : Option (Nat × Bool × Els) := match v with
  | some (.deep _ bo sz ys) => some (sz, ro || bo, ys)
  | _ => none
theorem lkA_1 {pv sz i c : Nat} {own : Bool} {xs : Els} : lkA [(i, c)] pv (some ⟨own, sz, pv, xs⟩) = lkC (!own) (cellAt xs i c) := by
  simp only [lkA, Option.bind_some, Root.arr, ↓reduceIte, arrAt, lkC]
  cases cellAt xs i c with
  | none => rfl
  | some v => cases v <;> rfl
theorem lkC_d {ro p b : Bool} {sz : Nat} {ys : Els} : lkC ro (some (.deep p b sz ys)) = some (sz, ro || b, ys) := (rfl)

/-! ### Handed over -/
theorem i_call {f : Nat} {ms : List Bool} {args : List X} : evI call n tm rs (.call f ms args) = aCall call n rs f ms (args.map (·.ev tm)) := (rfl)
theorem i_callv {g : X} {ms : List Bool} {args : List X} {f : Nat} {caps : List AV} (h : g.ev tm = .fn f caps) : evI call n tm rs (.callv g ms args) = aCall call n rs f ms (args.map (·.ev tm) ++ caps) := by simp only [evI, h]
def dv1 (a : Option (AV × List Use)) (b : Option (List AV × List Use)) : Option (List AV × List Use) := a.bind fun a => b.map fun b => (a.1 :: b.1, a.2 ++ b.2)
theorem dvs_nil {ms : List Bool} : deepVs rs ms [] = some ([], []) := by cases ms <;> rfl
theorem dvs_cons {m : Bool} {ms : List Bool} {v : AV} {vs : List AV} : deepVs rs (m :: ms) (v :: vs) = dv1 (deepV rs m v) (deepVs rs ms vs) := (rfl)
theorem dvs_cons' {v : AV} {vs : List AV} : deepVs rs [] (v :: vs) = dv1 (deepV rs false v) (deepVs rs [] vs) := (rfl)
theorem dv1_c {v : AV} {a b : List Use} {vs : List AV} : dv1 (some (v, a)) (some (vs, b)) = some (v :: vs, a ++ b) := (rfl)
def dvA (f : Option Nat) (a : Option (List AV × List Use)) : Option (AV × List Use) := a.map fun a => (match f with | none => .agg a.1 | some f => .fn f a.1, a.2)
theorem dv_a {o : Bool} {cs : List AV} : deepV rs o (.agg cs) = dvA none (deepCs rs o cs) := (rfl)
theorem dv_f {o : Bool} {f : Nat} {cs : List AV} : deepV rs o (.fn f cs) = dvA (some f) (deepCs rs o cs) := (rfl)
theorem dvA_a {cs : List AV} {u : List Use} : dvA none (some (cs, u)) = some (.agg cs, u) := (rfl)
theorem dvA_f {f : Nat} {cs : List AV} {u : List Use} : dvA (some f) (some (cs, u)) = some (.fn f cs, u) := (rfl)
theorem dv_b {o x : Bool} : deepV rs o (.b x) = some (.b x, []) := (rfl)
theorem dv_i {o : Bool} {k : IntKind} {x : Int} : deepV rs o (.i k x) = some (.i k x, []) := (rfl)
theorem dv_s {o : Bool} {x : ByteArray} : deepV rs o (.s x) = some (.s x, []) := (rfl)
theorem dv_n {sz : Nat} : deepV rs false (.nl sz) = some (.deep false true sz [], [⟨false, true, none⟩]) := (rfl)
theorem dv_n1 {sz : Nat} : deepV rs true (.nl sz) = some (.nl sz, []) := (rfl)
theorem dv_c {o : Bool} {r : Nat} {q : Path} {pv sz off len : Nat} : deepV rs o (.slc r q pv sz off len) = deepC rs o (.slc r q pv sz off len) := (rfl)
theorem dv_p {o : Bool} {r : Nat} {q : Path} {pv i c : Nat} : deepV rs o (.ptr r q pv i c) = deepC rs o (.ptr r q pv i c) := (rfl)
theorem dcs_nil {o : Bool} : deepCs rs o [] = some ([], []) := (rfl)
theorem dcs_cons {o : Bool} {v : AV} {vs : List AV} : deepCs rs o (v :: vs) = dv1 (deepC rs o v) (deepCs rs o vs) := (rfl)
theorem dc_b {o x : Bool} : deepC rs o (.b x) = some (.b x, []) := (rfl)
theorem dc_i {o : Bool} {k : IntKind} {x : Int} : deepC rs o (.i k x) = some (.i k x, []) := (rfl)
theorem dc_s {o : Bool} {x : ByteArray} : deepC rs o (.s x) = some (.s x, []) := (rfl)
theorem dc_n {sz : Nat} : deepC rs false (.nl sz) = some (.deep false true sz [], [⟨false, true, none⟩]) := (rfl)
theorem dc_n1 {sz : Nat} : deepC rs true (.nl sz) = some (.nl sz, []) := (rfl)
def dcR (r : Nat) (q : Path) (sz off len : Nat) (a : Option (Nat × Bool × Els)) : Option (AV × List Use) := a.map fun a => (.deep false true sz (wnd a.2.2 off len), [⟨false, a.2.1, some (r, q)⟩])
theorem dc_r {r : Nat} {q : Path} {pv sz off len : Nat} : deepC rs false (.slc r q pv sz off len) = dcR r q sz off len (lkA q pv (rs r)) := by
  simp only [deepC, look_lkA, dcR]
  cases rs r with
  | none => rfl
  | some R => cases lkA q pv (some R) <;> rfl
theorem dcR_c {r : Nat} {q : Path} {sz off len s : Nat} {ro : Bool} {xs : Els} : dcR r q sz off len (some (s, ro, xs)) = some (.deep false true sz (wnd xs off len), [⟨false, ro, some (r, q)⟩]) := (rfl)
def dcO (r sz len : Nat) (R : Option Root) : Option (AV × List Use) := match R with
  | some R => if R.own = true ∧ len = R.xs.length then some (.deep false false sz R.xs, [⟨true, false, some (r, [])⟩]) else none
  | none => none
theorem dc_o {r pv sz len : Nat} : deepC rs true (.slc r [] pv sz 0 len) = dcO r sz len (rs r) := by
  simp only [deepC, look_lkA, dcO]
  cases rs r with
  | none => rfl
  | some R =>
    obtain ⟨o, s, p, x⟩ := R
    cases o <;> simp [lkA, Root.arr]
theorem dcO_c {r sz s pv : Nat} {α : Type} {e : α → List AV} {l : List α} : dcO r sz l.length (some ⟨true, s, pv, l.map e⟩) = some (.deep false false sz (l.map e), [⟨true, false, some (r, [])⟩]) := by simp [dcO]
theorem dcO_0 {r sz s pv : Nat} : dcO r sz 0 (some ⟨true, s, pv, []⟩) = some (.deep false false sz [], [⟨true, false, some (r, [])⟩]) := by simp [dcO]
def dcP (o : Bool) (r : Nat) (R : Option Root) : Option (AV × List Use) := match R with
  | some R => if R.xs.length = 1 then (if o then (if R.own = true then some (.deep true false R.sz R.xs, [⟨true, false, some (r, [])⟩]) else none) else some (.deep true true R.sz R.xs, [⟨false, !R.own, some (r, [])⟩])) else none
  | none => none
theorem dc_p {o : Bool} {r pv : Nat} : deepC rs o (.ptr r [] pv 0 0) = dcP o r (rs r) := by
  simp only [deepC, look_lkA, dcP]
  cases rs r with
  | none => rfl
  | some R =>
    obtain ⟨w, s, p, x⟩ := R
    cases w <;> cases o <;> simp [lkA, Root.arr]
theorem dcP_o {r sz pv : Nat} {el : List AV} : dcP true r (some ⟨true, sz, pv, [el]⟩) = some (.deep true false sz [el], [⟨true, false, some (r, [])⟩]) := by simp [dcP]
theorem dcP_r {r sz pv : Nat} {own : Bool} {el : List AV} : dcP false r (some ⟨own, sz, pv, [el]⟩) = some (.deep true true sz [el], [⟨false, !own, some (r, [])⟩]) := by simp [dcP]
/-- The rest of a call. -/
def ac1 (call : CallF) (n : Nat) (rs : Rs) (f : Nat) (a : Option (List AV × List Use)) : Option (AV × Rs) := a.bind fun (ds, us) => if okUses us then
      (call f ds).bind fun (res, back) =>
        if ((us.all fun u => u.own || u.ro) || (!res.any hasBor && !back.any borBack)) ∧ (enterVs res n).2.length ≤ 16 ∧ back.length = us.length then
          (putBack rs us back).map fun rs' =>
            let a := enterVs res n
            (tupOf a.1, addRoots rs' n a.2)
        else none
    else none
theorem ac_1 {f : Nat} {ms : List Bool} {vs : List AV} : aCall call n rs f ms vs = ac1 call n rs f (deepVs rs ms vs) := (rfl)
def ac2 (n : Nat) (rs : Rs) (us : List Use) (a : Option Out) : Option (AV × Rs) := a.bind fun (res, back) =>
        if ((us.all fun u => u.own || u.ro) || (!res.any hasBor && !back.any borBack)) ∧ (enterVs res n).2.length ≤ 16 ∧ back.length = us.length then
          (putBack rs us back).map fun rs' =>
            let a := enterVs res n
            (tupOf a.1, addRoots rs' n a.2)
        else none
theorem ac1_c {f : Nat} {ds : List AV} {us : List Use} (h : okUses us = true) : ac1 call n rs f (some (ds, us)) = ac2 n rs us (call f ds) := by
  simp only [ac1, Option.bind_some, h, ↓reduceIte, ac2]
def ac3 (n : Nat) (a : Option Rs) (e : List AV × List Root) : Option (AV × Rs) := a.map fun rs' => (tupOf e.1, addRoots rs' n e.2)
/-- Whether what was handed over may go on being used. -/
def usOk (us : List Use) : Bool := us.all fun u => u.own || u.ro
def bkOk (res : List AV) (back : List (Option Els)) : Bool := !res.any hasBor && !back.any borBack
theorem ac2_c {us : List Use} {res : List AV} {back : List (Option Els)} (h : (usOk us || bkOk res back) = true) (h2 : decide ((enterVs res n).2.length ≤ 16) = true) (h3 : (back.length == us.length) = true) :
    ac2 n rs us (some (res, back)) = ac3 n (putBack rs us back) (enterVs res n) := by
  simp only [ac2, Option.bind_some]
  rw [if_pos ⟨h, by simpa using h2, by simpa using h3⟩]
  rfl
theorem ac3_c {vs : List AV} {l : List Root} : ac3 n (some rs) (vs, l) = some (tupOf vs, addRoots rs n l) := (rfl)
theorem tup_1 {v : AV} : tupOf [v] = v := (rfl)
theorem tup_0 : tupOf [] = .tup [] := (rfl)
theorem tup_2 {a b : AV} {l : List AV} : tupOf (a :: b :: l) = .tup (a :: b :: l) := (rfl)
theorem add_nil : addRoots rs n [] = rs := (rfl)
theorem add_cons {R : Root} {l : List Root} {m : List (Nat × Option Root)} : addRoots (rsL m) n (R :: l) = addRoots (rsL ((n, some R) :: m)) (n + 1) l := (rfl)
theorem pb_nil : putBack rs [] [] = some rs := (rfl)
theorem pb_ro {ro : Bool} {at' : Option (Nat × Path)} {us : List Use} {b : Option Els} {bs : List (Option Els)} : putBack rs (⟨false, ro, at'⟩ :: us) (b :: bs) = putBack rs us bs := (rfl)
theorem pb_at {ro : Bool} {us : List Use} {b : Option Els} {bs : List (Option Els)} : putBack rs (⟨true, ro, none⟩ :: us) (b :: bs) = putBack rs us bs := (rfl)
theorem pb_gone {ro : Bool} {r : Nat} {q : Path} {us : List Use} {bs : List (Option Els)} {m : List (Nat × Option Root)} : putBack (rsL m) (⟨true, ro, some (r, q)⟩ :: us) (none :: bs) = putBack (rsL ((r, none) :: m)) us bs := (rfl)
def pbR (r : Nat) (ys : Els) (us : List Use) (bs : List (Option Els)) (R : Option Root) (rs : Rs) : Option Rs := match R with
  | some R => putBack (up' rs r (some { R with pv := R.pv + 1, xs := ys })) us bs
  | none => none
theorem pb_own {ro : Bool} {r : Nat} {q : Path} {us : List Use} {ys : Els} {bs : List (Option Els)} : putBack rs (⟨true, ro, some (r, q)⟩ :: us) (some ys :: bs) = pbR r ys us bs (rs r) rs := by
  simp only [putBack, pbR, ↓reduceIte]; cases rs r <;> rfl
theorem pbR_c {r sz pv : Nat} {own : Bool} {xs ys : Els} {us : List Use} {bs : List (Option Els)} {m : List (Nat × Option Root)} : pbR r ys us bs (some ⟨own, sz, pv, xs⟩) (rsL m) = putBack (rsL ((r, some ⟨own, sz, pv + 1, ys⟩) :: m)) us bs := (rfl)
def ev1 (a : AV × List Root) (b : Nat → List AV × List Root) (n : Nat) : List AV × List Root := (a.1 :: (b (n + a.2.length)).1, a.2 ++ (b (n + a.2.length)).2)
theorem evs_nil : enterVs [] n = ([], []) := (rfl)
theorem evs_b {x : Bool} {vs : List AV} : enterVs (.b x :: vs) n = (.b x :: (enterVs vs n).1, (enterVs vs n).2) := (rfl)
theorem evs_n {k : Nat} {vs : List AV} : enterVs (.nl k :: vs) n = (.nl k :: (enterVs vs n).1, (enterVs vs n).2) := (rfl)
theorem evs_i {k : IntKind} {x : Int} {vs : List AV} : enterVs (.i k x :: vs) n = (.i k x :: (enterVs vs n).1, (enterVs vs n).2) := (rfl)
theorem evs_s {x : ByteArray} {vs : List AV} : enterVs (.s x :: vs) n = (.s x :: (enterVs vs n).1, (enterVs vs n).2) := (rfl)
theorem evs_d {b : Bool} {sz : Nat} {xs : Els} {vs : List AV} : enterVs (.deep false b sz xs :: vs) n = (.slc n [] 0 sz 0 xs.length :: (enterVs vs (n + 1)).1, ⟨!b, sz, 0, xs⟩ :: (enterVs vs (n + 1)).2) := (rfl)
theorem evs_p {b : Bool} {sz : Nat} {xs : Els} {vs : List AV} : enterVs (.deep true b sz xs :: vs) n = (.ptr n [] 0 0 0 :: (enterVs vs (n + 1)).1, ⟨!b, sz, 0, xs⟩ :: (enterVs vs (n + 1)).2) := (rfl)
theorem evs_a {cs vs : List AV} : enterVs (.agg cs :: vs) n = (.agg (enterCs cs n).1 :: (enterVs vs (n + (enterCs cs n).2.length)).1, (enterCs cs n).2 ++ (enterVs vs (n + (enterCs cs n).2.length)).2) := (rfl)
theorem evs_f {f : Nat} {cs vs : List AV} : enterVs (.fn f cs :: vs) n = (.fn f (enterCs cs n).1 :: (enterVs vs (n + (enterCs cs n).2.length)).1, (enterCs cs n).2 ++ (enterVs vs (n + (enterCs cs n).2.length)).2) := (rfl)
theorem ecs_nil : enterCs [] n = ([], []) := (rfl)
theorem ecs_b {x : Bool} {vs : List AV} : enterCs (.b x :: vs) n = (.b x :: (enterCs vs n).1, (enterCs vs n).2) := (rfl)
theorem ecs_i {k : IntKind} {x : Int} {vs : List AV} : enterCs (.i k x :: vs) n = (.i k x :: (enterCs vs n).1, (enterCs vs n).2) := (rfl)
theorem ecs_s {x : ByteArray} {vs : List AV} : enterCs (.s x :: vs) n = (.s x :: (enterCs vs n).1, (enterCs vs n).2) := (rfl)
theorem ecs_d {b : Bool} {sz : Nat} {xs : Els} {vs : List AV} : enterCs (.deep false b sz xs :: vs) n = (.slc n [] 0 sz 0 xs.length :: (enterCs vs (n + 1)).1, ⟨!b, sz, 0, xs⟩ :: (enterCs vs (n + 1)).2) := (rfl)
theorem ou_nil : okUses [] = true := (rfl)
def ouP (u v : Use) : Bool := !(u.own || v.own) || u.at'.isNone || v.at'.isNone || decide (u.root ≠ v.root)
def ouA (u : Use) : List Use → Bool
  | [] => true
  | v :: us => ouP u v && ouA u us
theorem ou_cons {u : Use} {us : List Use} : okUses (u :: us) = (ouA u us && okUses us) := by
  have : ∀ us : List Use, (us.all fun v => !(u.own || v.own) || u.at'.isNone || v.at'.isNone || decide (u.root ≠ v.root)) = ouA u us := fun us => by
    induction us with
    | nil => rfl
    | cons v us ih => simp only [List.all_cons, ih]; rfl
  simp only [okUses, this]
theorem oa_nil {u : Use} : ouA u [] = true := (rfl)
theorem oa_cons {u v : Use} {us : List Use} : ouA u (v :: us) = (ouP u v && ouA u us) := (rfl)
theorem op_rr {a b : Bool} {x y : Option (Nat × Path)} : ouP ⟨false, a, x⟩ ⟨false, b, y⟩ = true := (rfl)
theorem op_n1 {o p a b : Bool} {y : Option (Nat × Path)} : ouP ⟨o, a, none⟩ ⟨p, b, y⟩ = true := by simp [ouP]
theorem op_n2 {o p a b : Bool} {x : Option (Nat × Path)} : ouP ⟨o, a, x⟩ ⟨p, b, none⟩ = true := by simp [ouP]
theorem op_oo {o p a b : Bool} {r r' : Nat} {q q' : Path} (h : decide (r ≠ r') = true) : ouP ⟨o, a, some (r, q)⟩ ⟨p, b, some (r', q')⟩ = true := by
  have h' : r ≠ r' := by simpa using h
  have h'' : (Use.root ⟨o, a, some (r, q)⟩) ≠ (Use.root ⟨p, b, some (r', q')⟩) := by simpa [Use.root] using h'
  simp [ouP, h'']
theorem us_nil : usOk [] = true := (rfl)
theorem us_cons {o ro : Bool} {a : Option (Nat × Path)} {us : List Use} : usOk (⟨o, ro, a⟩ :: us) = ((o || ro) && usOk us) := (rfl)
def bkR (res : List AV) : Bool := res.any hasBor
def bkB (bs : List (Option Els)) : Bool := bs.any borBack
theorem bk_c {res : List AV} {back : List (Option Els)} : bkOk res back = (!bkR res && !bkB back) := (rfl)
theorem br_nil : bkR [] = false := (rfl)
theorem br_cons {v : AV} {vs : List AV} : bkR (v :: vs) = (hasBor v || bkR vs) := (rfl)
theorem bb_nil : bkB [] = false := (rfl)
theorem bb_n {bs : List (Option Els)} : bkB (none :: bs) = bkB bs := (rfl)
theorem bb_s {ys : Els} {bs : List (Option Els)} : bkB (some ys :: bs) = (borIn 6 ys || bkB bs) := (rfl)
theorem hb_b {x : Bool} : hasBor (.b x) = false := (rfl)
theorem hb_i {k : IntKind} {x : Int} : hasBor (.i k x) = false := (rfl)
theorem hb_s {x : ByteArray} : hasBor (.s x) = false := (rfl)
theorem hb_d {p b : Bool} {sz : Nat} {xs : Els} : hasBor (.deep p b sz xs) = (b || borIn 6 xs) := (rfl)
def hbA (cs : List AV) : Bool := cs.any hasBorC
theorem hb_a {cs : List AV} : hasBor (.agg cs) = hbA cs := (rfl)
theorem ha_nil : hbA [] = false := (rfl)
theorem ha_b {x : Bool} {cs : List AV} : hbA (.b x :: cs) = hbA cs := (rfl)
theorem ha_i {k : IntKind} {x : Int} {cs : List AV} : hbA (.i k x :: cs) = hbA cs := (rfl)
theorem ha_s {x : ByteArray} {cs : List AV} : hbA (.s x :: cs) = hbA cs := (rfl)
theorem ha_d {p b : Bool} {sz : Nat} {xs : Els} {cs : List AV} : hbA (.deep p b sz xs :: cs) = ((b || borIn 6 xs) || hbA cs) := (rfl)
theorem bor_nil {k : Nat} : borIn (k + 1) [] = false := (rfl)
def borE (k : Nat) (el : List AV) : Bool := el.any fun | .deep _ bo _ ys => bo || borIn k ys | _ => false
theorem bor_cons {k : Nat} {el : List AV} {xs : Els} : borIn (k + 1) (el :: xs) = (borE k el || borIn (k + 1) xs) := (rfl)
theorem be_nil {k : Nat} : borE k [] = false := (rfl)
theorem be_b {k : Nat} {x : Bool} {cs : List AV} : borE k (.b x :: cs) = borE k cs := (rfl)
theorem be_i {k : Nat} {q : IntKind} {x : Int} {cs : List AV} : borE k (.i q x :: cs) = borE k cs := (rfl)
theorem be_s {k : Nat} {x : ByteArray} {cs : List AV} : borE k (.s x :: cs) = borE k cs := (rfl)
theorem be_d {k : Nat} {p b : Bool} {sz : Nat} {xs : Els} {cs : List AV} : borE k (.deep p b sz xs :: cs) = ((b || borIn k xs) || borE k cs) := (rfl)
theorem bor_map {α : Type} {k : Nat} {e : α → List AV} (h : ∀ x, borE k (e x) = false) : ∀ l : List α, borIn (k + 1) (l.map e) = false
  | [] => rfl
  | x :: l => by rw [List.map_cons, bor_cons, h x, bor_map h l]; rfl
theorem bor_I {k : Nat} {l : List Int} : borIn (k + 1) (l.map eI) = false := bor_map (fun _ => rfl) l
theorem bor_8 {k : Nat} {l : List Int} : borIn (k + 1) (l.map e8) = false := bor_map (fun _ => rfl) l
theorem bor_B {k : Nat} {l : List Bool} : borIn (k + 1) (l.map eB) = false := bor_map (fun _ => rfl) l
theorem bor_S {k : Nat} {l : List ByteArray} : borIn (k + 1) (l.map eS) = false := bor_map (fun _ => rfl) l
/-! ### Rows -/
theorem dps_map {α : Type} {e : α → List AV} (h : ∀ x, anyDeep (e x) = false) : ∀ l : List α, anyDeeps (l.map e) = false
  | [] => rfl
  | x :: l => by have := dps_map h l; simp only [anyDeeps, List.map_cons, List.any_cons, h x, Bool.false_or] at this ⊢; exact this
theorem dps_I {l : List Int} : anyDeeps (l.map eI) = false := dps_map (fun _ => rfl) l
theorem dps_8 {l : List Int} : anyDeeps (l.map e8) = false := dps_map (fun _ => rfl) l
theorem dps_B {l : List Bool} : anyDeeps (l.map eB) = false := dps_map (fun _ => rfl) l
theorem dps_S {l : List ByteArray} : anyDeeps (l.map eS) = false := dps_map (fun _ => rfl) l
theorem dps_nil : anyDeeps [] = false := (rfl)
def gSrc (ro : Bool) (q : Path) (r : Nat) (w : Els) (d : Bool) : Option (Els × List Nat) := if d then (if ro then some (w.map (·.map toBor), []) else match q with
            | [] => some (w, [r])
            | _ :: _ => none) else some (w, [])
theorem gs_f {ro : Bool} {q : Path} {r : Nat} {w : Els} : gSrc ro q r w false = some (w, []) := (rfl)
theorem gs_r {q : Path} {r : Nat} {w : Els} : gSrc true q r w true = some (w.map (·.map toBor), []) := (rfl)
theorem gs_o {r : Nat} {w : Els} : gSrc false [] r w true = some (w, [r]) := (rfl)
def gSrcA (sz sz' r : Nat) (q : Path) (off len : Nat) (a : Option (Nat × Bool × Els)) : Option (Els × List Nat) := match a with
  | some a => if sz' = sz then gSrc a.2.1 q r (wnd a.2.2 off len) (anyDeeps (wnd a.2.2 off len)) else none
  | none => none
theorem src_r {sz r : Nat} {q : Path} {pv sz' off len : Nat} : srcOf rs sz (.slc r q pv sz' off len) = gSrcA sz sz' r q off len (lkA q pv (rs r)) := by
  simp only [srcOf, look_lkA, gSrcA]
  cases rs r with
  | none => rfl
  | some R => cases lkA q pv (some R) <;> rfl
theorem srcA_c {sz r s : Nat} {q : Path} {off len : Nat} {ro : Bool} {xs : Els} : gSrcA sz sz r q off len (some (s, ro, xs)) = gSrc ro q r (wnd xs off len) (anyDeeps (wnd xs off len)) := by simp [gSrcA]
theorem src_n {sz s : Nat} : srcOf rs sz (.nl s) = some ([], []) := (rfl)
def u8s (s : ByteArray) : List Int := s.toList.map fun u => ((u.toNat : Nat) : Int)
theorem src_s {x : ByteArray} : srcOf rs 1 (.s x) = some ((u8s x).map e8, []) := by simp [srcOf, u8s, e8, Function.comp_def]
def fBas (pre post : Els) (rs : Rs) (r0 : Option Nat) : Option (Els × Els × Rs × Option Nat) := some (pre, post, rs, r0)
theorem bas_n {sz s : Nat} : baseOf rs sz (.nl s) = fBas [] [] rs none := (rfl)
def basR (sz sz' r off len : Nat) (R : Option Root) (rs : Rs) : Option (Els × Els × Rs × Option Nat) := match R with
  | some R => if sz' = sz ∧ R.own = true then fBas (wnd R.xs off len) (R.xs.drop (off + len)) (up' rs r none) (some r) else none
  | none => none
theorem bas_r {sz r pv sz' off len : Nat} : baseOf rs sz (.slc r [] pv sz' off len) = basR sz sz' r off len (rs r) rs := by
  simp only [baseOf, look_lkA, basR]
  cases rs r with
  | none => rfl
  | some R =>
    obtain ⟨o, s, p, x⟩ := R
    cases o <;> simp [lkA, Root.arr, unsnoc, fBas]
theorem basR_c {sz r off len s pv : Nat} {xs : Els} {m : List (Nat × Option Root)} : basR sz sz r off len (some ⟨true, s, pv, xs⟩) (rsL m) = fBas (wnd xs off len) (xs.drop (off + len)) (rsL ((r, none) :: m)) (some r) := by simp [basR, rs_up]
/-- A row in a cell of a root. -/
def basP (sz sz' r off len i c : Nat) (R : Root) (v : Option (Nat × Bool × Els)) (rs : Rs) : Option (Els × Els × Rs × Option Nat) := match v with
  | some (_, false, ys) => if sz' = sz then fBas (wnd ys off len) (ys.drop (off + len)) (up' rs r (some { R with xs := setEl R.xs i c [.undef] })) (some r) else none
  | _ => none
def basQ (sz sz' r off len i c pv : Nat) (R : Option Root) (rs : Rs) : Option (Els × Els × Rs × Option Nat) := match R with
  | some R => basP sz sz' r off len i c R (lkA [(i, c)] pv (some R)) rs
  | none => none
theorem bas_p {sz r pv sz' off len i c : Nat} : baseOf rs sz (.slc r [(i, c)] pv sz' off len) = basQ sz sz' r off len i c pv (rs r) rs := by
  simp only [baseOf, look_lkA, basQ, basP]
  cases rs r with
  | none => rfl
  | some R =>
    simp only [Option.bind_some]
    cases lkA [(i, c)] pv (some R) with
    | none => rfl
    | some a => obtain ⟨s, ro, ys⟩ := a; cases ro <;> simp [unsnoc, fBas, dropAt, modArr]
theorem basQ_c {sz sz' r off len i c pv s p : Nat} {own : Bool} {xs : Els} : basQ sz sz' r off len i c pv (some ⟨own, s, p, xs⟩) rs = basP sz sz' r off len i c ⟨own, s, p, xs⟩ (lkA [(i, c)] pv (some ⟨own, s, p, xs⟩)) rs := (rfl)
theorem basP_c {sz r off len i c s s' p : Nat} {own : Bool} {xs ys : Els} {m : List (Nat × Option Root)} : basP sz sz r off len i c ⟨own, s, p, xs⟩ (some (s', false, ys)) (rsL m) = fBas (wnd ys off len) (ys.drop (off + len)) (rsL ((r, some ⟨own, s, p, setEl xs i c [.undef]⟩) :: m)) (some r) := by simp [basP, rs_up]
def fApp (n sz by' : Nat) (a : Option (Els × List Nat)) (b : Option (Els × Els × Rs × Option Nat)) : Option (AV × Rs) := a.bind fun (ys, asx) => b.bind fun (pre, post, rs', r0) =>
        if (pre.length + ys.length) * by' ≤ 140737488355328 ∧ (∀ r ∈ asx, some r ≠ r0) ∧ asx.Nodup then
          some (.slc n [] 0 sz 0 (pre.length + ys.length), up' (kill rs' asx) n (some ⟨true, sz, 0, pre ++ ys ++ post.drop ys.length⟩))
        else none
theorem i_app {sz by' : Nat} {x y : X} : evI call n tm rs (.app sz by' x y) = fApp n sz by' (srcOf rs sz (y.ev tm)) (baseOf rs sz (x.ev tm)) := (rfl)
/-- Content that is made out of literal cells; the printed text says of which type it is. -/
def litX (xs : Els) : Els := xs
theorem app_t {sz by' : Nat} {α : Type} {e : α → List AV} {a b : List α} {r0 : Option Nat} {m : List (Nat × Option Root)} (h : (a.length + b.length) * by' ≤ 140737488355328) :
    fApp n sz by' (some (b.map e, [])) (fBas (a.map e) [] (rsL m) r0) = some (.slc n [] 0 sz 0 (a ++ b).length, rsL ((n, some ⟨true, sz, 0, (a ++ b).map e⟩) :: m)) := by
  simp [fApp, fBas, h, kill_nil', rs_up]
theorem app_0 {sz by' : Nat} {α : Type} {e : α → List AV} {b : List α} {r0 : Option Nat} {m : List (Nat × Option Root)} (h : b.length * by' ≤ 140737488355328) :
    fApp n sz by' (some (b.map e, [])) (fBas [] [] (rsL m) r0) = some (.slc n [] 0 sz 0 b.length, rsL ((n, some ⟨true, sz, 0, b.map e⟩) :: m)) := by
  simp [fApp, fBas, h, kill_nil', rs_up]
theorem app_00 {sz by' : Nat} {r0 : Option Nat} {m : List (Nat × Option Root)} :
    fApp n sz by' (some ([], [])) (fBas [] [] (rsL m) r0) = some (.slc n [] 0 sz 0 0, rsL ((n, some ⟨true, sz, 0, []⟩) :: m)) := by
  simp [fApp, fBas, kill_nil', rs_up]
theorem app_n {sz by' : Nat} {α : Type} {e : α → List AV} {a : List α} {r0 : Option Nat} {m : List (Nat × Option Root)} (h : a.length * by' ≤ 140737488355328) :
    fApp n sz by' (some ([], [])) (fBas (a.map e) [] (rsL m) r0) = some (.slc n [] 0 sz 0 a.length, rsL ((n, some ⟨true, sz, 0, a.map e⟩) :: m)) := by
  simp [fApp, fBas, h, kill_nil', rs_up]
/-- With the roots that move along. -/
theorem app_m {sz by' : Nat} {α : Type} {e : α → List AV} {a b : List α} {r r0 : Nat} {m : List (Nat × Option Root)} (h : (a.length + b.length) * by' ≤ 140737488355328) (hr : decide (r ≠ r0) = true) :
    fApp n sz by' (some (b.map e, [r])) (fBas (a.map e) [] (rsL m) (some r0)) = some (.slc n [] 0 sz 0 (a ++ b).length, rsL ((n, some ⟨true, sz, 0, (a ++ b).map e⟩) :: (r, none) :: m)) := by
  have hr' : r ≠ r0 := by simpa using hr
  simp [fApp, fBas, h, kill_nil', rs_up, kill_cons', hr']
theorem app_m0 {sz by' : Nat} {α : Type} {e : α → List AV} {b : List α} {r r0 : Nat} {m : List (Nat × Option Root)} (h : b.length * by' ≤ 140737488355328) (hr : decide (r ≠ r0) = true) :
    fApp n sz by' (some (b.map e, [r])) (fBas [] [] (rsL m) (some r0)) = some (.slc n [] 0 sz 0 b.length, rsL ((n, some ⟨true, sz, 0, b.map e⟩) :: (r, none) :: m)) := by
  have hr' : r ≠ r0 := by simpa using hr
  simp [fApp, fBas, h, kill_nil', rs_up, kill_cons', hr']
theorem app_mn {sz by' : Nat} {α : Type} {e : α → List AV} {b : List α} {r : Nat} {m : List (Nat × Option Root)} (h : b.length * by' ≤ 140737488355328) :
    fApp n sz by' (some (b.map e, [r])) (fBas [] [] (rsL m) none) = some (.slc n [] 0 sz 0 b.length, rsL ((n, some ⟨true, sz, 0, b.map e⟩) :: (r, none) :: m)) := by
  simp [fApp, fBas, h, kill_nil', rs_up, kill_cons']
theorem drop_full {α : Type} {e : α → List AV} {l : List α} : (l.map e).drop (0 + l.length) = [] := by rw [Nat.zero_add]; exact List.drop_eq_nil_of_le (by simp)
theorem drop_nil' {k : Nat} : ([] : Els).drop k = [] := by simp
def fLit (n sz len : Nat) (a : Option (Els × List Nat)) (rs : Rs) : Option (AV × Rs) := a.bind fun (xs, asx) =>
      if asx.Nodup then some (.slc n [] 0 sz 0 len, up' (kill rs asx) n (some ⟨true, sz, 0, litX xs⟩)) else none
theorem i_lit {sz len : Nat} {z : List AV} {ps : List (Nat × X)} : evI call n tm rs (.lit sz len z ps) = fLit n sz len (evI.go tm rs ps (List.replicate len z) []) rs := (rfl)
def gl1 (tm : Tm) (rs : Rs) (j : Nat) (a : Option (List AV × List Nat)) (rest : List (Nat × X)) (xs : Els) (asx : List Nat) : Option (Els × List Nat) := a.bind fun (vs, as') =>
      if (xs[j]?).map (·.length) = some vs.length then evI.go tm rs rest (xs.set j vs) (asx ++ as') else none
theorem go_nil {xs : Els} {asx : List Nat} : evI.go tm rs [] xs asx = some (xs, asx) := (rfl)
theorem go_cons {j : Nat} {x : X} {rest : List (Nat × X)} {xs : Els} {asx : List Nat} : evI.go tm rs ((j, x) :: rest) xs asx = gl1 tm rs j (sinks rs (x.ev tm).cells) rest xs asx := (rfl)
theorem gl1_c {j : Nat} {vs : List AV} {as' : List Nat} {rest : List (Nat × X)} {xs : Els} {asx : List Nat} (h : ((xs.getD j []).length == vs.length && decide (j < xs.length)) = true) : gl1 tm rs j (some (vs, as')) rest xs asx = evI.go tm rs rest (xs.set j vs) (asx ++ as') := by
  simp only [Bool.and_eq_true, beq_iff_eq, decide_eq_true_eq] at h
  obtain ⟨h1, h2⟩ := h
  simp only [gl1, Option.bind_some]
  rw [if_pos]
  rw [List.getElem?_eq_getElem h2, Option.map_some, ← h1, List.getD_eq_getElem?_getD, List.getElem?_eq_getElem h2]; rfl
theorem lit_c {sz len : Nat} {xs : Els} {asx : List Nat} {m : List (Nat × Option Root)} (h : decide asx.Nodup = true) : fLit n sz len (some (xs, asx)) (rsL m) = some (.slc n [] 0 sz 0 len, up' (kill (rsL m) asx) n (some ⟨true, sz, 0, litX xs⟩)) := by
  have h' : asx.Nodup := by simpa using h
  simp [fLit, h']
theorem rep_0 {z : List AV} : List.replicate 0 z = [] := (rfl)
theorem rep_1 {z : List AV} : List.replicate 1 z = [z] := (rfl)
theorem rep_2 {z : List AV} : List.replicate 2 z = [z, z] := (rfl)
theorem rep_3 {z : List AV} : List.replicate 3 z = [z, z, z] := (rfl)
theorem rep_4 {z : List AV} : List.replicate 4 z = [z, z, z, z] := (rfl)
theorem litX_0 : litX [] = [] := (rfl)
theorem litX_I1 {a : Int} : litX [[.i .i64 a]] = List.map eI [a] := (rfl)
theorem litX_81 {a : Int} : litX [[.i .u8 a]] = List.map e8 [a] := (rfl)
theorem litX_82 {a b : Int} : litX [[.i .u8 a], [.i .u8 b]] = List.map e8 [a, b] := (rfl)
theorem litX_S1 {a : ByteArray} : litX [[.s a]] = List.map eS [a] := (rfl)
theorem litX_I2 {a b : Int} : litX [[.i .i64 a], [.i .i64 b]] = List.map eI [a, b] := (rfl)
theorem litX_I3 {a b c : Int} : litX [[.i .i64 a], [.i .i64 b], [.i .i64 c]] = List.map eI [a, b, c] := (rfl)
theorem mks_t {sz by' : Nat} {α : Type} {e : α → List AV} {z : α} {k : IntKind} {m : Int} {l : List (Nat × Option Root)} {zs : List AV} (hz : e z = zs) (h1 : 0 ≤ m) (h2 : m * by' ≤ 140737488355328) :
    fMks n sz by' zs (.i k m) (rsL l) = some (.slc n [] 0 sz 0 (List.replicate m.toNat z).length, rsL ((n, some ⟨true, sz, 0, (List.replicate m.toNat z).map e⟩) :: l)) := by
  subst hz; rw [mks_c h1 h2, List.length_replicate, List.map_replicate]
theorem mks_I {sz by' : Nat} {k : IntKind} {m : Int} {l : List (Nat × Option Root)} (h1 : 0 ≤ m) (h2 : m * by' ≤ 140737488355328) :
    fMks n sz by' [.i .i64 0] (.i k m) (rsL l) = some (.slc n [] 0 sz 0 (List.replicate m.toNat (0 : Int)).length, rsL ((n, some ⟨true, sz, 0, (List.replicate m.toNat (0 : Int)).map eI⟩) :: l)) := mks_t (e := eI) rfl h1 h2
theorem mks_B {sz by' : Nat} {k : IntKind} {m : Int} {l : List (Nat × Option Root)} (h1 : 0 ≤ m) (h2 : m * by' ≤ 140737488355328) :
    fMks n sz by' [.b false] (.i k m) (rsL l) = some (.slc n [] 0 sz 0 (List.replicate m.toNat false).length, rsL ((n, some ⟨true, sz, 0, (List.replicate m.toNat false).map eB⟩) :: l)) := mks_t (e := eB) rfl h1 h2
/-! ### Bytes and texts -/
def bytesOf (l : List Int) : ByteArray := ⟨(l.map fun n => UInt8.ofNat n.toNat).toArray⟩
theorem byteList_e {l : List Int} : byteList (l.map e8) = some (l.map fun n => UInt8.ofNat n.toNat) := by
  induction l with
  | nil => rfl
  | cons x l ih => simp only [List.map_cons, e8, byteList]; rw [show byteList (l.map e8) = _ from ih]; rfl
def fBts (x : AV) (a : Option (Nat × Bool × Els)) (rs : Rs) : Option (AV × Rs) := match x, a with
    | .nl _, _ => some (.s .empty, rs)
    | .slc r q pv sz off len, some a => if sz = 1 then bts2 (byteList (wnd a.2.2 off len)) rs else none
    | _, _ => none
where bts2 (l : Option (List UInt8)) (rs : Rs) : Option (AV × Rs) := l.map fun l => (.s ⟨l.toArray⟩, rs)
def rtOf : AV → Path × Nat × Nat
  | .slc r q pv _ _ _ => (q, pv, r)
  | _ => ([], 0, 0)
theorem i_bts {x : X} : evI call n tm rs (.bts x) = fBts (x.ev tm) (lkA (rtOf (x.ev tm)).1 (rtOf (x.ev tm)).2.1 (rs (rtOf (x.ev tm)).2.2)) rs := by
  simp only [evI, look_lkA, fBts]
  cases x.ev tm <;> try rfl
  rename_i r q pv sz off len
  simp only [rtOf]
  cases rs r with
  | none => rfl
  | some R => cases lkA q pv (some R) <;> rfl
theorem rt_c {r : Nat} {q : Path} {pv sz off len : Nat} : rtOf (.slc r q pv sz off len) = (q, pv, r) := (rfl)
theorem bts_c {r : Nat} {q : Path} {pv off len s : Nat} {ro : Bool} {xs : Els} : fBts (.slc r q pv 1 off len) (some (s, ro, xs)) rs = fBts.bts2 (byteList (wnd xs off len)) rs := (rfl)
theorem bts2_c {l : List Int} : fBts.bts2 (byteList (l.map e8)) rs = some (.s (bytesOf l), rs) := by simp only [byteList_e, fBts.bts2, bytesOf, Option.map_some]
theorem bts2_0 : fBts.bts2 (byteList []) rs = some (.s (bytesOf []), rs) := (rfl)
/-! ### Parts of rows -/
def fSlR (sz0 : Nat) (x : AV) (lo hi : Option AV) (rs : Rs) : Option (AV × Rs) := match x with
    | .slc r q pv sz off len => if sz = sz0 then (fSlS.bndv len hi len).bind fun h => (fSlS.bndv h lo 0).map fun l => (.slc r q pv sz (off + l) (h - l), rs) else none
    | .nl sz => (fSlS.bndv 0 hi 0).bind fun h => (fSlS.bndv h lo 0).map fun _ => (.nl sz, rs)
    | _ => none
theorem i_slR {sz0 : Nat} {x : X} {lo hi : Option X} : evI call n tm rs (.slR sz0 x lo hi) = fSlR sz0 (x.ev tm) (lo.map (·.ev tm)) (hi.map (·.ev tm)) rs := by
  simp only [evI, fSlR, bnd_v]
  cases x.ev tm <;> rfl
theorem slR_l {r : Nat} {q : Path} {pv sz off len : Nat} {k : IntKind} {l : Int} (h1 : 0 ≤ l) (h2 : l ≤ (len : Int)) : fSlR sz (.slc r q pv sz off len) (some (.i k l)) none rs = some (.slc r q pv sz (off + l.toNat) (len - l.toNat), rs) := by
  simp [fSlR, fSlS.bndv, h1, h2]
theorem slR_h {r : Nat} {q : Path} {pv sz off len : Nat} {k : IntKind} {h : Int} (h1 : 0 ≤ h) (h2 : h ≤ (len : Int)) : fSlR sz (.slc r q pv sz off len) none (some (.i k h)) rs = some (.slc r q pv sz off h.toNat, rs) := by
  simp [fSlR, fSlS.bndv, h1, h2]
theorem slR_lh {r : Nat} {q : Path} {pv sz off len : Nat} {k k' : IntKind} {l h : Int} (h0 : 0 ≤ l) (h1 : l ≤ h) (h2 : h ≤ (len : Int)) : fSlR sz (.slc r q pv sz off len) (some (.i k l)) (some (.i k' h)) rs = some (.slc r q pv sz (off + l.toNat) (h.toNat - l.toNat), rs) := by
  have e : 0 ≤ h := by omega
  have e2 : l ≤ ((h.toNat : Nat) : Int) := by omega
  simp only [fSlR, fSlS.bndv, ↓reduceIte, if_pos (show 0 ≤ h ∧ h ≤ (len : Int) from ⟨e, h2⟩), Option.bind_some, if_pos (show 0 ≤ l ∧ l ≤ ((h.toNat : Nat) : Int) from ⟨h0, e2⟩), Option.map_some]
theorem slR_n {r : Nat} {q : Path} {pv sz off len : Nat} : fSlR sz (.slc r q pv sz off len) none none rs = some (.slc r q pv sz off len, rs) := by
  simp [fSlR, fSlS.bndv]
/-! ### Function values -/
theorem i_mkfn {f : Nat} {caps : List X} (h : ((caps.map (·.ev tm)).all isCell) = true) : evI call n tm rs (.mkfn f caps) = some (.fn f (caps.map (·.ev tm)), rs) := by simp only [evI, h, ↓reduceIte]
end

/-! ### The end -/
def bks (rs : Rs) (us : List Nat) : Nat → List Bool → List (Option Els)
  | _, [] => []
  | n, o :: os => (if o then (if n ∈ us then none else (rs n).map Root.xs) else none) :: bks rs us (n + 1) os
theorem backs_bks {rs : Rs} {us : List Nat} : ∀ (l : List Root) (n : Nat), backs rs us n l = bks rs us n (l.map Root.own)
  | [], _ => rfl
  | R :: l, n => by simp only [backs, List.map_cons, bks, backs_bks l (n + 1)]
def lvO (ow : List Bool) (rs : Rs) (a : Option (List AV × List Nat)) : Option Out := match a with
  | some a => if a.2.Nodup then some (a.1, bks rs a.2 0 ow) else none
  | none => none
def eF2 (ow : List Bool) (p : Option (List AV × Rs)) : Option Out := match p with
  | some p => lvO ow p.2 (outVs p.2 p.1)
  | none => none
def eF1 (ow : List Bool) (nx : Nat) (rs : Rs) (vs : Option (List AV)) : Option Out := match vs with
  | some vs => eF2 ow (splitVs nx rs vs)
  | none => none
def Qf (res : List Res) (ow : List Bool) (out : Out) : Pst := fun e st => match e with
  | .exit _ => False
  | _ => eF1 ow st.nx st.rs (resVals st res) = some out
theorem Qf_r {res : List Res} {ow : List Bool} {out : Out} {tm : Tm} {rs : Rs} {nx : Nat} : Qf res ow out .ret ⟨tm, rs, nx⟩ = (eF1 ow nx rs (resVals ⟨tm, rs, nx⟩ res) = some out) := (rfl)
theorem Qf_n {res : List Res} {ow : List Bool} {out : Out} {tm : Tm} {rs : Rs} {nx : Nat} : Qf res ow out .normal ⟨tm, rs, nx⟩ = (eF1 ow nx rs (resVals ⟨tm, rs, nx⟩ res) = some out) := (rfl)
section
variable {rs : Rs} {n : Nat}
theorem eF1_c {ow : List Bool} {nx : Nat} {vs : List AV} : eF1 ow nx rs (some vs) = eF2 ow (splitVs nx rs vs) := (rfl)
theorem eF2_c {ow : List Bool} {vs : List AV} : eF2 ow (some (vs, rs)) = lvO ow rs (outVs rs vs) := (rfl)
theorem lvO_c {ow : List Bool} {vs : List AV} {us : List Nat} (h : decide us.Nodup = true) : lvO ow rs (some (vs, us)) = some (vs, bks rs us 0 ow) := by
  have h' : us.Nodup := by simpa using h
  simp [lvO, h']
theorem bks_nil {us : List Nat} : bks rs us n [] = [] := (rfl)
theorem bks_f {us : List Nat} {os : List Bool} : bks rs us n (false :: os) = none :: bks rs us (n + 1) os := (rfl)
def bkX (c : Bool) (R : Option Root) : Option Els := if c then none else R.map Root.xs
theorem bks_t {us : List Nat} {os : List Bool} : bks rs us n (true :: os) = bkX (us.contains n) (rs n) :: bks rs us (n + 1) os := by
  simp only [bks, bkX, ↓reduceIte, List.contains_iff_mem]
theorem bkX_t {R : Option Root} : bkX true R = none := (rfl)
theorem bkX_f {sz pv : Nat} {own : Bool} {xs : Els} : bkX false (some ⟨own, sz, pv, xs⟩) = some xs := (rfl)
def rv1 (v : AV) (a : Option (List AV)) : Option (List AV) := a.map (v :: ·)
theorem rv_nil {st : St} : resVals st [] = some [] := (rfl)
theorem rv_t {tm : Tm} {nx t : Nat} {l : List Res} : resVals ⟨tm, rs, nx⟩ (.t t :: l) = rv1 (tm t) (resVals ⟨tm, rs, nx⟩ l) := (rfl)
theorem rv1_c {v : AV} {vs : List AV} : rv1 v (some vs) = some (v :: vs) := (rfl)
def rv2 (v : Option (AV × Rs)) (a : Option (List AV)) : Option (List AV) := v.bind fun v => a.map (v.1 :: ·)
theorem rv_c {tm : Tm} {nx a : Nat} {k : Option Nat} {l : List Res} : resVals ⟨tm, rs, nx⟩ (.cell a k :: l) = rv2 (fLoad k (tm a) rs) (resVals ⟨tm, rs, nx⟩ l) := by
  simp only [resVals, resVal, rv2]
  have : evI (fun _ _ => none) 0 tm rs (.load k (.t a)) = fLoad k (tm a) rs := rfl
  rw [this]
  cases fLoad k (tm a) rs <;> rfl
theorem rv2_c {v : AV} {rs' : Rs} {vs : List AV} : rv2 (some (v, rs')) (some vs) = some (v :: vs) := (rfl)
def sv1 (v : AV) (p : Option (List AV × Rs)) : Option (List AV × Rs) := p.map fun p => (v :: p.1, p.2)
theorem sv_nil : splitVs n rs [] = some ([], rs) := (rfl)
theorem sv_b {x : Bool} {vs : List AV} : splitVs n rs (.b x :: vs) = sv1 (.b x) (splitVs (n + 16) rs vs) := (rfl)
theorem sv_i {k : IntKind} {x : Int} {vs : List AV} : splitVs n rs (.i k x :: vs) = sv1 (.i k x) (splitVs (n + 16) rs vs) := (rfl)
theorem sv_s {x : ByteArray} {vs : List AV} : splitVs n rs (.s x :: vs) = sv1 (.s x) (splitVs (n + 16) rs vs) := (rfl)
theorem sv_n {k : Nat} {vs : List AV} : splitVs n rs (.nl k :: vs) = sv1 (.nl k) (splitVs (n + 16) rs vs) := (rfl)
theorem sv_r {r pv sz off len : Nat} {vs : List AV} : splitVs n rs (.slc r [] pv sz off len :: vs) = sv1 (.slc r [] pv sz off len) (splitVs (n + 16) rs vs) := (rfl)
theorem sv1_c {v : AV} {vs : List AV} : sv1 v (some (vs, rs)) = some (v :: vs, rs) := (rfl)
/-- A row in a cell is taken out. -/
def spQ (n r i c sz off len : Nat) (pv : Nat) (a : Option (Nat × Bool × Els)) (R : Option Root) (rs : Rs) : AV × Rs := match R, a with
  | some R, some (s, false, ys) => (.slc n [] 0 sz off len, up' (up' rs r (some { R with xs := setEl R.xs i c [.undef] })) n (some ⟨true, s, 0, ys⟩))
  | _, _ => (.slc r [(i, c)] pv sz off len, rs)
theorem spC_p {r pv sz off len i c : Nat} : (splitC n rs (.slc r [(i, c)] pv sz off len)).1 = (spQ n r i c sz off len pv (lkA [(i, c)] pv (rs r)) (rs r) rs).1 ∧ (splitC n rs (.slc r [(i, c)] pv sz off len)).2.1 = (spQ n r i c sz off len pv (lkA [(i, c)] pv (rs r)) (rs r) rs).2 := by
  simp only [splitC, unsnoc, look_lkA, spQ]
  cases rs r with
  | none => exact ⟨rfl, rfl⟩
  | some R =>
    simp only [Option.bind_some]
    cases lkA [(i, c)] pv (some R) with
    | none => exact ⟨rfl, rfl⟩
    | some a => obtain ⟨s, ro, ys⟩ := a; cases ro <;> exact ⟨rfl, rfl⟩
def sv2 (a : AV × Rs) (n : Nat) (vs : List AV) : Option (List AV × Rs) := sv1 a.1 (splitVs (n + 16) a.2 vs)
theorem sv_p {r pv sz off len i c : Nat} {vs : List AV} : splitVs n rs (.slc r [(i, c)] pv sz off len :: vs) = sv2 (spQ n r i c sz off len pv (lkA [(i, c)] pv (rs r)) (rs r) rs) n vs := by
  have h := spC_p (n := n) (rs := rs) (r := r) (pv := pv) (sz := sz) (off := off) (len := len) (i := i) (c := c)
  simp only [splitVs, splitV, Option.bind_some, sv2, ← h.1, ← h.2]
  cases splitVs (n + 16) _ vs <;> rfl
theorem spQ_o {r pv sz off len i c s s' p : Nat} {own : Bool} {xs ys : Els} {m : List (Nat × Option Root)} : spQ n r i c sz off len pv (some (s, false, ys)) (some ⟨own, s', p, xs⟩) (rsL m) = (.slc n [] 0 sz off len, rsL ((n, some ⟨true, s, 0, ys⟩) :: (r, some ⟨own, s', p, setEl xs i c [.undef]⟩) :: m)) := (rfl)
theorem spQ_r {r pv sz off len i c s : Nat} {R : Option Root} {ys : Els} : spQ n r i c sz off len pv (some (s, true, ys)) R rs = (.slc r [(i, c)] pv sz off len, rs) := by cases R <;> rfl
theorem sv2_c {v : AV} {vs : List AV} : sv2 (v, rs) n vs = sv1 v (splitVs (n + 16) rs vs) := (rfl)
def svA (a : List AV × Rs) (n : Nat) (vs : List AV) : Option (List AV × Rs) := sv1 (.agg a.1) (splitVs (n + 16) a.2 vs)
def spL (n : Nat) (rs : Rs) : List AV → List AV × Rs
  | [] => ([], rs)
  | v :: vs => let a := splitC n rs v; let b := spL (n + 1) a.2.1 vs; (a.1 :: b.1, b.2)
theorem spL_eq : ∀ (cs : List AV) (n : Nat) (rs : Rs), (splitCs n rs cs).1 = (spL n rs cs).1 ∧ (splitCs n rs cs).2.1 = (spL n rs cs).2
  | [], _, _ => ⟨rfl, rfl⟩
  | v :: vs, n, rs => by
    have h := spL_eq vs (n + 1) (splitC n rs v).2.1
    simp only [splitCs, spL, h.1, h.2, and_self]
theorem sv_a {cs vs : List AV} (h : decide (cs.length ≤ 16) = true) : splitVs n rs (.agg cs :: vs) = svA (spL n rs cs) n vs := by
  have h' : cs.length ≤ 16 := by simpa using h
  have e := spL_eq cs n rs
  simp only [splitVs, splitV, if_pos h', Option.bind_some, svA, ← e.1, ← e.2]
  cases splitVs (n + 16) _ vs <;> rfl
theorem svA_c {cs vs : List AV} : svA (cs, rs) n vs = sv1 (.agg cs) (splitVs (n + 16) rs vs) := (rfl)
def pcons (v : AV) (p : List AV × Rs) : List AV × Rs := (v :: p.1, p.2)
theorem pcons_c {v : AV} {vs : List AV} : pcons v (vs, rs) = (v :: vs, rs) := (rfl)
theorem spl_nil : spL n rs [] = ([], rs) := (rfl)
theorem spl_b {x : Bool} {vs : List AV} : spL n rs (.b x :: vs) = pcons (.b x) (spL (n + 1) rs vs) := (rfl)
theorem spl_i {k : IntKind} {x : Int} {vs : List AV} : spL n rs (.i k x :: vs) = pcons (.i k x) (spL (n + 1) rs vs) := (rfl)
theorem spl_s {x : ByteArray} {vs : List AV} : spL n rs (.s x :: vs) = pcons (.s x) (spL (n + 1) rs vs) := (rfl)
theorem spl_n {k : Nat} {vs : List AV} : spL n rs (.nl k :: vs) = pcons (.nl k) (spL (n + 1) rs vs) := (rfl)
theorem spl_r {r pv sz off len : Nat} {vs : List AV} : spL n rs (.slc r [] pv sz off len :: vs) = pcons (.slc r [] pv sz off len) (spL (n + 1) rs vs) := (rfl)
def spl2 (a : AV × Rs) (n : Nat) (vs : List AV) : List AV × Rs := pcons a.1 (spL (n + 1) a.2 vs)
theorem spl_p {r pv sz off len i c : Nat} {vs : List AV} : spL n rs (.slc r [(i, c)] pv sz off len :: vs) = spl2 (spQ n r i c sz off len pv (lkA [(i, c)] pv (rs r)) (rs r) rs) n vs := by
  have h := spC_p (n := n) (rs := rs) (r := r) (pv := pv) (sz := sz) (off := off) (len := len) (i := i) (c := c)
  simp only [spL, spl2, ← h.1, ← h.2]; rfl
theorem spl2_c {v : AV} {vs : List AV} : spl2 (v, rs) n vs = pcons v (spL (n + 1) rs vs) := (rfl)
def ov1 (a : Option (AV × List Nat)) (b : Option (List AV × List Nat)) : Option (List AV × List Nat) := a.bind fun a => b.map fun b => (a.1 :: b.1, a.2 ++ b.2)
theorem ov_nil : outVs rs [] = some ([], []) := (rfl)
theorem ov_cons {v : AV} {vs : List AV} : outVs rs (v :: vs) = ov1 (outV rs v) (outVs rs vs) := (rfl)
theorem ov1_c {v : AV} {a b : List Nat} {vs : List AV} : ov1 (some (v, a)) (some (vs, b)) = some (v :: vs, a ++ b) := (rfl)
def ovA (a : Option (List AV × List Nat)) : Option (AV × List Nat) := a.map fun a => (.agg a.1, a.2)
theorem ov_a {cs : List AV} : outV rs (.agg cs) = ovA (outCs rs cs) := (rfl)
theorem ovA_c {cs : List AV} {a : List Nat} : ovA (some (cs, a)) = some (.agg cs, a) := (rfl)
theorem ov_b {x : Bool} : outV rs (.b x) = some (.b x, []) := (rfl)
theorem ov_i {k : IntKind} {x : Int} : outV rs (.i k x) = some (.i k x, []) := (rfl)
theorem ov_s {x : ByteArray} : outV rs (.s x) = some (.s x, []) := (rfl)
theorem ov_n {sz : Nat} : outV rs (.nl sz) = some (.deep false false sz [], []) := (rfl)
theorem ov_c {r : Nat} {q : Path} {pv sz off len : Nat} : outV rs (.slc r q pv sz off len) = outC rs (.slc r q pv sz off len) := (rfl)
theorem ov_p {r : Nat} {q : Path} {pv i c : Nat} : outV rs (.ptr r q pv i c) = outC rs (.ptr r q pv i c) := (rfl)
theorem oc_nil : outCs rs [] = some ([], []) := (rfl)
theorem oc_cons {v : AV} {vs : List AV} : outCs rs (v :: vs) = ov1 (outC rs v) (outCs rs vs) := (rfl)
theorem oc_b {x : Bool} : outC rs (.b x) = some (.b x, []) := (rfl)
theorem oc_i {k : IntKind} {x : Int} : outC rs (.i k x) = some (.i k x, []) := (rfl)
theorem oc_s {x : ByteArray} : outC rs (.s x) = some (.s x, []) := (rfl)
theorem oc_n {sz : Nat} : outC rs (.nl sz) = some (.deep false false sz [], []) := (rfl)
def ocR (r sz off len : Nat) (a : Option (Nat × Bool × Els)) : Option (AV × List Nat) := match a with
  | some (_, true, ys) => some (.deep false true sz (wnd ys off len), [])
  | some (_, false, ys) => some (.deep false false sz (wnd ys off len), [r])
  | none => none
theorem oc_r {r : Nat} {q : Path} {pv sz off len : Nat} : outC rs (.slc r q pv sz off len) = ocR r sz off len (lkA q pv (rs r)) := by
  simp only [outC, look_lkA, ocR]
  cases rs r with
  | none => rfl
  | some R =>
    simp only [Option.bind_some]
    cases lkA q pv (some R) with
    | none => rfl
    | some a => obtain ⟨s, ro, ys⟩ := a; cases ro <;> rfl
theorem ocR_r {r sz off len s : Nat} {ys : Els} : ocR r sz off len (some (s, true, ys)) = some (.deep false true sz (wnd ys off len), []) := (rfl)
theorem ocR_o {r sz off len s : Nat} {ys : Els} : ocR r sz off len (some (s, false, ys)) = some (.deep false false sz (wnd ys off len), [r]) := (rfl)
def ocP (r : Nat) (R : Option Root) : Option (AV × List Nat) := match R with
  | some R => if R.xs.length = 1 then (if R.own then some (.deep true false R.sz R.xs, [r]) else some (.deep true true R.sz R.xs, [])) else none
  | none => none
theorem oc_p {r pv : Nat} : outC rs (.ptr r [] pv 0 0) = ocP r (rs r) := by
  simp only [outC, look_lkA, ocP]
  cases rs r with
  | none => rfl
  | some R => obtain ⟨o, s, p, x⟩ := R; cases o <;> simp [lkA, Root.arr]
theorem ocP_o {r sz pv : Nat} {el : List AV} : ocP r (some ⟨true, sz, pv, [el]⟩) = some (.deep true false sz [el], [r]) := (rfl)
end
theorem callW_fn' {E : Env} {f : Nat} {F : Fn} {ds : List AV} {out : Out} {tm : Tm} {rs : Rs} {nx : Nat} {ow : List Bool} (h0 : E.ext f = none) (hF : E.fns f = some F) (hs : (⟨tmOf (tmA 0 (enterVs ds 0).1), rsL (rsA 0 ((enterVs ds 0).2.map some)), (enterVs ds 0).2.length⟩ : St) = ⟨tm, rs, nx⟩) (hw : (enterVs ds 0).2.map Root.own = ow) (hm : nx ≤ F.m) (h : W E F.body ⟨tm, rs, nx⟩ (Qf F.res ow out)) : callW E f ds = some out := by
  refine callW_fn h0 hF ?_ ?_
  · injection hs with _ _ h3; rw [h3]; exact hm
  · rw [start_eq, hs]
    refine W_pm (fun e st hq => ?_) h
    have key : eF1 ow st.nx st.rs (resVals st F.res) = some out → ((resVals st F.res).bind fun vs => (splitVs st.nx st.rs vs).bind fun p => leave (enterVs ds 0).2 p.2 p.1) = some out := fun h => by
      simp only [eF1] at h
      split at h
      · rename_i vs hv
        rw [hv, Option.bind_some]
        simp only [eF2] at h
        split at h
        · rename_i p hp
          rw [hp, Option.bind_some]
          simp only [lvO] at h
          split at h
          · rename_i a ha
            simp only [leave, ha, Option.bind_some]
            split at h
            · rename_i hn
              rw [if_pos hn, backs_bks, hw]; exact h
            · cases h
          · cases h
        · cases h
      · cases h
    cases e with
    | normal => exact key hq
    | ret => exact key hq
    | exit i => exact hq.elim
end Go.Proofs.Ytinlbiphjgpmmaa.V
end YtinlbiphjgpmmaaWJ
section YtinlbiphjgpmmaaWK
namespace Go.Proofs.Ytinlbiphjgpmmaa.V
open Go Go.RowKit
set_option linter.unusedVariables false
def kpL : List Nat → Tm → List (Nat × AV)
  | [], _ => []
  | t :: l, tm => (t, tm t) :: kpL l tm
theorem kpL_nil {tm : Tm} : kpL [] tm = [] := (rfl)
theorem kpL_cons {t : Nat} {l : List Nat} {tm : Tm} : kpL (t :: l) tm = (t, tm t) :: kpL l tm := (rfl)
theorem kpL_eq (tm : Tm) : ∀ live : List Nat, live.map (fun t => (t, tm t)) = kpL live tm
  | [] => rfl
  | t :: l => by rw [List.map_cons, kpL_cons, kpL_eq tm l]
theorem Qk_nn {live : List Nat} {Q : Pst} {tm : Tm} {rs : Rs} {nx : Nat} : Qk live Q .normal ⟨tm, rs, nx⟩ = Q .normal ⟨tmOf (kpL live tm), rs, nx⟩ := by rw [Qk_n, kpL_eq]
def xsv (tm : Tm) : List X → List AV
  | [] => []
  | x :: l => x.ev tm :: xsv tm l
theorem xs_nil {tm : Tm} : xsv tm [] = [] := (rfl)
theorem xs_cons {tm : Tm} {x : X} {l : List X} : xsv tm (x :: l) = x.ev tm :: xsv tm l := (rfl)
theorem xs_eq {tm : Tm} : ∀ {l : List X}, l.map (·.ev tm) = xsv tm l
  | [] => rfl
  | x :: l => by rw [List.map_cons, xs_cons, xs_eq (l := l)]
def oX (tm : Tm) : Option X → Option AV
  | some x => some (x.ev tm)
  | none => none
theorem oX_s {tm : Tm} {x : X} : oX tm (some x) = some (x.ev tm) := (rfl)
theorem oX_n {tm : Tm} : oX tm none = none := (rfl)
theorem oX_eq {tm : Tm} {x : Option X} : x.map (·.ev tm) = oX tm x := by cases x <;> rfl
section
variable {call : CallF} {n : Nat} {tm : Tm} {rs : Rs}
theorem i_mm' {m : Bool} {x : X} {xs : List X} : evI call n tm rs (.mm m (x :: xs)) = fMm m (x.ev tm) (xsv tm xs) rs := by rw [i_mm, xs_eq]
theorem i_slS' {x : X} {lo hi : Option X} : evI call n tm rs (.slS x lo hi) = fSlS (x.ev tm) (oX tm lo) (oX tm hi) rs := by rw [i_slS, oX_eq, oX_eq]
theorem i_slR' {sz0 : Nat} {x : X} {lo hi : Option X} : evI call n tm rs (.slR sz0 x lo hi) = fSlR sz0 (x.ev tm) (oX tm lo) (oX tm hi) rs := by rw [i_slR, oX_eq, oX_eq]
theorem i_call' {f : Nat} {ms : List Bool} {args : List X} : evI call n tm rs (.call f ms args) = ac1 call n rs f (deepVs rs ms (xsv tm args)) := by rw [i_call, xs_eq]; rfl
theorem i_mkfn' {f : Nat} {caps : List X} (h : (xsv tm caps).all isCell = true) : evI call n tm rs (.mkfn f caps) = some (.fn f (xsv tm caps), rs) := by rw [← xs_eq] at h ⊢; exact i_mkfn h
theorem evOp_nos' {d : Option Nat} {g : Option (Nat × Bool)} {i : I} (h : wants tm g = some true) : evOp call n ⟨d, g, [], i⟩ (tm, rs) = (evI call n tm rs i).map fun p => (putT tm d p.1, p.2) := by
  simp only [evOp, h, Option.bind_some, ↓reduceIte, splitTs, List.length_nil, Nat.zero_le, regrafts_nil, ite_self]
def B0 (d : Option Nat) (tm : Tm) (r : Option (AV × Rs)) (k : Tm × Rs → Option (Tm × Rs)) : Option (Tm × Rs) := r.bind fun p => k (putT tm d p.1, p.2)
theorem ops_z {d : Option Nat} {i : I} {os : List Op'} {l : List (Nat × AV)} : evOps call n (oz d none [] i :: os) (tmOf l, rs) = B0 d (tmOf l) (evI call n (tmOf l) rs i) (evOps call (n + 80) os) := by
  simp only [evOps, oz, evOp_nos' (g := none) rfl, B0]
  cases evI call n (tmOf l) rs i <;> rfl
theorem B0_n {l : List (Nat × AV)} {v : AV} {rs : Rs} {k : Tm × Rs → Option (Tm × Rs)} : B0 none (tmOf l) (some (v, rs)) k = k (tmOf l, rs) := (rfl)
theorem B0_s {l : List (Nat × AV)} {d : Nat} {v : AV} {rs : Rs} {k : Tm × Rs → Option (Tm × Rs)} : B0 (some d) (tmOf l) (some (v, rs)) k = k (tmOf ((d, v) :: l), rs) := (rfl)
theorem cast_lit {k : Nat} : (Nat.cast (no_index (OfNat.ofNat k : Nat)) : Int) = OfNat.ofNat k := (rfl)
theorem cast_0 : ((0 : Nat) : Int) = 0 := (rfl)
theorem cast_1 : ((1 : Nat) : Int) = 1 := (rfl)
end
theorem W_sq' {E : Env} {m : Nat} {l : List Op'} {tm : Tm} {rs : Rs} {nx : Nat} {Q : Pst} (h : (m == l.length) = true) : W E (.draw (sq m) l) ⟨tm, rs, nx⟩ Q = OQ (evOps (callW E) nx l (tm, rs)) (nx + m * 80) Q := W_sq (by simpa using h)
theorem isC1_b {x : Bool} : isC1 (.b x) = true := (rfl)
theorem isC1_i {k : IntKind} {x : Int} : isC1 (.i k x) = true := (rfl)
theorem isC1_s {x : ByteArray} : isC1 (.s x) = true := (rfl)
theorem isC1_n {k : Nat} : isC1 (.nl k) = true := (rfl)
theorem isC1_c {r : Nat} {q : Path} {pv sz off len : Nat} : isC1 (.slc r q pv sz off len) = true := (rfl)
set_option linter.defProp false
theorem wnd_1 {α : Type} {e : α → List AV} {a : α} : wnd (List.map e [a]) 0 1 = List.map e [a] := (rfl)
theorem wnd_2 {α : Type} {e : α → List AV} {a b : α} : wnd (List.map e [a, b]) 0 2 = List.map e [a, b] := (rfl)
theorem wnd_3 {α : Type} {e : α → List AV} {a b c : α} : wnd (List.map e [a, b, c]) 0 3 = List.map e [a, b, c] := (rfl)
theorem gd_0 {x : List AV} {l : Els} : (x :: l).getD 0 [] = x := (rfl)
theorem gd_1 {x : List AV} {l : Els} {n : Nat} : (x :: l).getD (n + 1) [] = l.getD n [] := (rfl)
/-! ### Orders -/
def sTk (call : CallF) (n : Nat) (o : Option Op') (s : Tm × Rs) (k : Tm × Rs → Option (Tm × Rs)) : Option (Tm × Rs) := o.bind fun o => (evOp call n o s).bind k
open Classical in
noncomputable def both (a b : Option (Tm × Rs)) : Option (Tm × Rs) := a.bind fun r => if b = some r then some r else none
section
variable {call : CallF} {n : Nat} {l : List Op'} {s : Tm × Rs}
theorem sch_done : evSch call n l .done s = some s := (rfl)
theorem sch_nil {sc : Sched} : evSch call n l (tk [] sc) s = evSch call n l sc s := (rfl)
theorem sch_cons {k : Nat} {ks : List Nat} {sc : Sched} : evSch call n l (tk (k :: ks) sc) s = sTk call (n + k * 80) l[k]? s (evSch call n l (tk ks sc)) := (rfl)
theorem sch_alt {a b : Sched} : evSch call n l (.alt a b) s = both (evSch call n l a s) (evSch call n l b s) := by
  simp only [evSch, both]
theorem sTk_ops {o : Op'} {k : Tm × Rs → Option (Tm × Rs)} : sTk call n (some o) s k = (evOps call n [o] s).bind k := by
  simp only [sTk, Option.bind_some, evOps]
  cases evOp call n o s <;> rfl
end
def tmEqv : List Nat → Tm → Tm → Prop
  | [], _, _ => True
  | k :: ks, f, g => f k = g k ∧ tmEqv ks f g
def rsEqv : List Nat → Rs → Rs → Prop
  | [], _, _ => True
  | k :: ks, f, g => f k = g k ∧ rsEqv ks f g
def tks : List (Nat × AV) → List Nat → List Nat
  | [], r => r
  | (k, _) :: l, r => k :: tks l r
def rks : List (Nat × Option Root) → List Nat → List Nat
  | [], r => r
  | (k, _) :: l, r => k :: rks l r
theorem te_nil {f g : Tm} : tmEqv [] f g = True := (rfl)
theorem te_cons {k : Nat} {ks : List Nat} {f g : Tm} : tmEqv (k :: ks) f g = (f k = g k ∧ tmEqv ks f g) := (rfl)
theorem re_nil {f g : Rs} : rsEqv [] f g = True := (rfl)
theorem re_cons {k : Nat} {ks : List Nat} {f g : Rs} : rsEqv (k :: ks) f g = (f k = g k ∧ rsEqv ks f g) := (rfl)
theorem tks_nil {r : List Nat} : tks [] r = r := (rfl)
theorem tks_cons {k : Nat} {v : AV} {l : List (Nat × AV)} {r : List Nat} : tks ((k, v) :: l) r = k :: tks l r := (rfl)
theorem rks_nil {r : List Nat} : rks [] r = r := (rfl)
theorem rks_cons {k : Nat} {v : Option Root} {l : List (Nat × Option Root)} {r : List Nat} : rks ((k, v) :: l) r = k :: rks l r := (rfl)
theorem tmEqv_mem {f g : Tm} : ∀ {ks : List Nat}, tmEqv ks f g → ∀ k ∈ ks, f k = g k
  | [], _, k, h => by cases h
  | a :: ks, h, k, hk => by
    rcases List.mem_cons.1 hk with rfl | hk
    · exact h.1
    · exact tmEqv_mem h.2 k hk
theorem rsEqv_mem {f g : Rs} : ∀ {ks : List Nat}, rsEqv ks f g → ∀ k ∈ ks, f k = g k
  | [], _, k, h => by cases h
  | a :: ks, h, k, hk => by
    rcases List.mem_cons.1 hk with rfl | hk
    · exact h.1
    · exact rsEqv_mem h.2 k hk
theorem tks_mem {r : List Nat} {k : Nat} : ∀ {l : List (Nat × AV)}, k ∉ tks l r → tmOf l k = .undef ∧ k ∉ r
  | [], h => ⟨rfl, h⟩
  | (a, v) :: l, h => by
    simp only [tks, List.mem_cons, not_or] at h
    have := tks_mem (l := l) h.2
    exact ⟨by rw [tm_get, if_neg h.1]; exact this.1, this.2⟩
theorem rks_mem {r : List Nat} {k : Nat} : ∀ {l : List (Nat × Option Root)}, k ∉ rks l r → rsL l k = none ∧ k ∉ r
  | [], h => ⟨rfl, h⟩
  | (a, v) :: l, h => by
    simp only [rks, List.mem_cons, not_or] at h
    have := rks_mem (l := l) h.2
    exact ⟨by rw [rs_get, if_neg h.1]; exact this.1, this.2⟩
theorem both_c {l l' : List (Nat × AV)} {m m' : List (Nat × Option Root)} (h1 : tmEqv (tks l (tks l' [])) (tmOf l) (tmOf l')) (h2 : rsEqv (rks m (rks m' [])) (rsL m) (rsL m')) : both (some (tmOf l, rsL m)) (some (tmOf l', rsL m')) = some (tmOf l, rsL m) := by
  have e1 : tmOf l = tmOf l' := by
    funext k
    by_cases h : k ∈ tks l (tks l' [])
    · exact tmEqv_mem h1 k h
    · rw [(tks_mem h).1, (tks_mem (tks_mem h).2).1]
  have e2 : rsL m = rsL m' := by
    funext k
    by_cases h : k ∈ rks m (rks m' [])
    · exact rsEqv_mem h2 k h
    · rw [(rks_mem h).1, (rks_mem (rks_mem h).2).1]
  rw [← e1, ← e2]; simp [both]
theorem W_tk {E : Env} {ks : List Nat} {sc : Sched} {l : List Op'} {tm : Tm} {rs : Rs} {nx : Nat} {Q : Pst} : W E (.draw (tk ks sc) l) ⟨tm, rs, nx⟩ Q = OQ (evSch (callW E) nx l (tk ks sc) (tm, rs)) (nx + l.length * 80) Q := W_draw
/-! ### Taken out of their places -/
def spV (n : Nat) (rs : Rs) (v : AV) : Option (AV × Rs) := match v with
  | .agg cs => if cs.length ≤ 16 then some (.agg (spL n rs cs).1, (spL n rs cs).2) else none
  | v => some ((splitC n rs v).1, (splitC n rs v).2.1)
theorem splitV_spV {n : Nat} {rs : Rs} {v : AV} : (splitV n rs v).map (fun a => (a.1, a.2.1)) = spV n rs v := by
  cases v <;> try rfl
  rename_i cs
  simp only [splitV, spV]
  split
  · have := spL_eq cs n rs
    simp only [Option.map_some, this.1, this.2]
  · rfl
def spA (a : List AV × Rs) : Option (AV × Rs) := some (.agg a.1, a.2)
theorem spV_a {n : Nat} {rs : Rs} {cs : List AV} (h : decide (cs.length ≤ 16) = true) : spV n rs (.agg cs) = spA (spL n rs cs) := by
  have h' : cs.length ≤ 16 := by simpa using h
  simp only [spV, if_pos h', spA]
theorem spA_c {cs : List AV} {rs : Rs} : spA (cs, rs) = some (.agg cs, rs) := (rfl)
theorem spV_r {n r pv sz off len : Nat} {rs : Rs} : spV n rs (.slc r [] pv sz off len) = some (.slc r [] pv sz off len, rs) := (rfl)
theorem spV_n {n k : Nat} {rs : Rs} : spV n rs (.nl k) = some (.nl k, rs) := (rfl)
def spS (a : AV × Rs) : Option (AV × Rs) := some a
theorem spS_c {a : AV} {rs : Rs} : spS (a, rs) = some (a, rs) := (rfl)
theorem spV_p {n r pv sz off len i c : Nat} {rs : Rs} : spV n rs (.slc r [(i, c)] pv sz off len) = spS (spQ n r i c sz off len pv (lkA [(i, c)] pv (rs r)) (rs r) rs) := by
  have h := spC_p (n := n) (rs := rs) (r := r) (pv := pv) (sz := sz) (off := off) (len := len) (i := i) (c := c)
  simp only [spV, spS, h.1, h.2]
def Zs (call : CallF) (n : Nat) (d : Option Nat) (t : Nat) (i : I) (a : Option (AV × Rs)) (tm : Tm) (k : Tm × Rs → Option (Tm × Rs)) : Option (Tm × Rs) := match a with
  | some a => B0 d (up' tm t a.1) (evI call n (up' tm t a.1) a.2 i) k
  | none => none
theorem ops_s {call : CallF} {n t : Nat} {d : Option Nat} {i : I} {os : List Op'} {l : List (Nat × AV)} {rs : Rs} (h : i.isCall = false) : evOps call n (oz d none [t] i :: os) (tmOf l, rs) = Zs call n d t i (spV (n + 16) rs (tmOf l t)) (tmOf l) (evOps call (n + 80) os) := by
  rw [← splitV_spV]
  simp only [evOps, oz, evOp, wants, Option.bind_some, ↓reduceIte, List.length_cons, List.length_nil, splitTs, h, Nat.zero_add, show (1 ≤ 4) = True from eq_true (by decide), Bool.false_eq_true]
  cases splitV (n + 16) rs (tmOf l t) with
  | none => rfl
  | some a =>
    simp only [Option.bind_some, Option.map_some, Zs, B0]
    cases evI call n (up' (tmOf l) t a.1) a.2.1 i <;> rfl
theorem Zs_c {call : CallF} {n t : Nat} {d : Option Nat} {i : I} {v : AV} {m : List (Nat × Option Root)} {l : List (Nat × AV)} {k : Tm × Rs → Option (Tm × Rs)} : Zs call n d t i (some (v, rsL m)) (tmOf l) k = B0 d (tmOf ((t, v) :: l)) (evI call n (tmOf ((t, v) :: l)) (rsL m) i) k := (rfl)
theorem ic_store {n : Nat} {a v : X} : I.isCall (.store n a v) = false := (rfl)
theorem ic_box {n : Nat} {v : X} : I.isCall (.box n v) = false := (rfl)
theorem ic_lit {sz len : Nat} {z : List AV} {ps : List (Nat × X)} : I.isCall (.lit sz len z ps) = false := (rfl)
theorem ic_app {sz b : Nat} {x y : X} : I.isCall (.app sz b x y) = false := (rfl)
theorem R10 : type_of% (And.intro @sch_done <| And.intro @sch_nil <| And.intro @sch_cons <| And.intro @sch_alt <| And.intro @sTk_ops <| And.intro @te_nil <| And.intro @te_cons <| And.intro @re_nil <| And.intro @re_cons <| And.intro @tks_nil <| And.intro @tks_cons <| And.intro @rks_nil <| And.intro @rks_cons <| And.intro @both_c <| And.intro @W_tk <| And.intro @spV_a <| And.intro @spA_c <| And.intro @spV_r <| And.intro @spV_n <| And.intro @spS_c <| And.intro @spV_p <| And.intro @ops_s <| And.intro @Zs_c <| And.intro @ic_store <| And.intro @ic_box <| And.intro @ic_lit <| @ic_app) := And.intro @sch_done <| And.intro @sch_nil <| And.intro @sch_cons <| And.intro @sch_alt <| And.intro @sTk_ops <| And.intro @te_nil <| And.intro @te_cons <| And.intro @re_nil <| And.intro @re_cons <| And.intro @tks_nil <| And.intro @tks_cons <| And.intro @rks_nil <| And.intro @rks_cons <| And.intro @both_c <| And.intro @W_tk <| And.intro @spV_a <| And.intro @spA_c <| And.intro @spV_r <| And.intro @spV_n <| And.intro @spS_c <| And.intro @spV_p <| And.intro @ops_s <| And.intro @Zs_c <| And.intro @ic_store <| And.intro @ic_box <| And.intro @ic_lit <| @ic_app
theorem WC_mb {E : Env} {x : X} {a b : C} {st : St} {Q : Pst} : WC E x .mb a b st Q = (W E a st Q ∧ W E b st Q) := (rfl)
theorem wnd_len {α : Type} {e : α → List AV} {l : List α} {k : Nat} (h : k = l.length) : wnd (l.map e) 0 k = l.map e := by subst h; exact wnd_full
theorem drop_len {α : Type} {e : α → List AV} {l : List α} {k : Nat} (h : k = l.length) : (l.map e).drop (0 + k) = [] := by subst h; exact drop_full
theorem dcO_len {α : Type} {r sz s pv k : Nat} {e : α → List AV} {l : List α} (h : k = l.length) : dcO r sz k (some ⟨true, s, pv, l.map e⟩) = some (.deep false false sz (l.map e), [⟨true, false, some (r, [])⟩]) := by subst h; exact dcO_c
def skP (sz off len : Nat) (a : Option (Nat × Bool × Els)) : Option (AV × List Nat) := match a with
  | some (_, true, ys) => some (.deep false true sz (wnd ys off len), [])
  | _ => none
theorem sink_p {rs : Rs} {r pv sz off len i c : Nat} : sink rs (.slc r [(i, c)] pv sz off len) = skP sz off len (lkA [(i, c)] pv (rs r)) := by
  simp only [sink, look_lkA, skP]
  cases rs r with
  | none => rfl
  | some R =>
    simp only [Option.bind_some]
    cases lkA [(i, c)] pv (some R) with
    | none => rfl
    | some a => obtain ⟨s, ro, ys⟩ := a; cases ro <;> rfl
theorem skP_c {sz off len s : Nat} {ys : Els} : skP sz off len (some (s, true, ys)) = some (.deep false true sz (wnd ys off len), []) := (rfl)
theorem R11 : type_of% (And.intro @WC_mb <| And.intro @wnd_len <| And.intro @drop_len <| And.intro @dcO_len <| And.intro @sink_p <| And.intro @skP_c @b_nil1) := And.intro @WC_mb <| And.intro @wnd_len <| And.intro @drop_len <| And.intro @dcO_len <| And.intro @sink_p <| And.intro @skP_c @b_nil1
theorem rep_5 {z : List AV} : List.replicate 5 z = [z, z, z, z, z] := (rfl)
theorem rep_6 {z : List AV} : List.replicate 6 z = [z, z, z, z, z, z] := (rfl)
theorem rep_7 {z : List AV} : List.replicate 7 z = [z, z, z, z, z, z, z] := (rfl)
theorem rep_8 {z : List AV} : List.replicate 8 z = [z, z, z, z, z, z, z, z] := (rfl)
theorem rep_9 {z : List AV} : List.replicate 9 z = [z, z, z, z, z, z, z, z, z] := (rfl)
theorem rep_10 {z : List AV} : List.replicate 10 z = [z, z, z, z, z, z, z, z, z, z] := (rfl)
theorem rep_11 {z : List AV} : List.replicate 11 z = [z, z, z, z, z, z, z, z, z, z, z] := (rfl)
theorem rep_12 {z : List AV} : List.replicate 12 z = [z, z, z, z, z, z, z, z, z, z, z, z] := (rfl)
theorem rep_13 {z : List AV} : List.replicate 13 z = [z, z, z, z, z, z, z, z, z, z, z, z, z] := (rfl)
theorem rep_14 {z : List AV} : List.replicate 14 z = [z, z, z, z, z, z, z, z, z, z, z, z, z, z] := (rfl)
theorem rep_15 {z : List AV} : List.replicate 15 z = [z, z, z, z, z, z, z, z, z, z, z, z, z, z, z] := (rfl)
theorem rep_16 {z : List AV} : List.replicate 16 z = [z, z, z, z, z, z, z, z, z, z, z, z, z, z, z, z] := (rfl)
theorem rep_17 {z : List AV} : List.replicate 17 z = [z, z, z, z, z, z, z, z, z, z, z, z, z, z, z, z, z] := (rfl)
theorem litX_I4 {a0 a1 a2 a3 : Int} : litX [[.i .i64 a0], [.i .i64 a1], [.i .i64 a2], [.i .i64 a3]] = List.map eI [a0, a1, a2, a3] := (rfl)
theorem litX_I5 {a0 a1 a2 a3 a4 : Int} : litX [[.i .i64 a0], [.i .i64 a1], [.i .i64 a2], [.i .i64 a3], [.i .i64 a4]] = List.map eI [a0, a1, a2, a3, a4] := (rfl)
theorem litX_I6 {a0 a1 a2 a3 a4 a5 : Int} : litX [[.i .i64 a0], [.i .i64 a1], [.i .i64 a2], [.i .i64 a3], [.i .i64 a4], [.i .i64 a5]] = List.map eI [a0, a1, a2, a3, a4, a5] := (rfl)
theorem litX_I7 {a0 a1 a2 a3 a4 a5 a6 : Int} : litX [[.i .i64 a0], [.i .i64 a1], [.i .i64 a2], [.i .i64 a3], [.i .i64 a4], [.i .i64 a5], [.i .i64 a6]] = List.map eI [a0, a1, a2, a3, a4, a5, a6] := (rfl)
theorem litX_I8 {a0 a1 a2 a3 a4 a5 a6 a7 : Int} : litX [[.i .i64 a0], [.i .i64 a1], [.i .i64 a2], [.i .i64 a3], [.i .i64 a4], [.i .i64 a5], [.i .i64 a6], [.i .i64 a7]] = List.map eI [a0, a1, a2, a3, a4, a5, a6, a7] := (rfl)
theorem litX_I9 {a0 a1 a2 a3 a4 a5 a6 a7 a8 : Int} : litX [[.i .i64 a0], [.i .i64 a1], [.i .i64 a2], [.i .i64 a3], [.i .i64 a4], [.i .i64 a5], [.i .i64 a6], [.i .i64 a7], [.i .i64 a8]] = List.map eI [a0, a1, a2, a3, a4, a5, a6, a7, a8] := (rfl)
theorem litX_I10 {a0 a1 a2 a3 a4 a5 a6 a7 a8 a9 : Int} : litX [[.i .i64 a0], [.i .i64 a1], [.i .i64 a2], [.i .i64 a3], [.i .i64 a4], [.i .i64 a5], [.i .i64 a6], [.i .i64 a7], [.i .i64 a8], [.i .i64 a9]] = List.map eI [a0, a1, a2, a3, a4, a5, a6, a7, a8, a9] := (rfl)
theorem litX_I11 {a0 a1 a2 a3 a4 a5 a6 a7 a8 a9 a10 : Int} : litX [[.i .i64 a0], [.i .i64 a1], [.i .i64 a2], [.i .i64 a3], [.i .i64 a4], [.i .i64 a5], [.i .i64 a6], [.i .i64 a7], [.i .i64 a8], [.i .i64 a9], [.i .i64 a10]] = List.map eI [a0, a1, a2, a3, a4, a5, a6, a7, a8, a9, a10] := (rfl)
theorem litX_I12 {a0 a1 a2 a3 a4 a5 a6 a7 a8 a9 a10 a11 : Int} : litX [[.i .i64 a0], [.i .i64 a1], [.i .i64 a2], [.i .i64 a3], [.i .i64 a4], [.i .i64 a5], [.i .i64 a6], [.i .i64 a7], [.i .i64 a8], [.i .i64 a9], [.i .i64 a10], [.i .i64 a11]] = List.map eI [a0, a1, a2, a3, a4, a5, a6, a7, a8, a9, a10, a11] := (rfl)
theorem litX_I13 {a0 a1 a2 a3 a4 a5 a6 a7 a8 a9 a10 a11 a12 : Int} : litX [[.i .i64 a0], [.i .i64 a1], [.i .i64 a2], [.i .i64 a3], [.i .i64 a4], [.i .i64 a5], [.i .i64 a6], [.i .i64 a7], [.i .i64 a8], [.i .i64 a9], [.i .i64 a10], [.i .i64 a11], [.i .i64 a12]] = List.map eI [a0, a1, a2, a3, a4, a5, a6, a7, a8, a9, a10, a11, a12] := (rfl)
theorem litX_I14 {a0 a1 a2 a3 a4 a5 a6 a7 a8 a9 a10 a11 a12 a13 : Int} : litX [[.i .i64 a0], [.i .i64 a1], [.i .i64 a2], [.i .i64 a3], [.i .i64 a4], [.i .i64 a5], [.i .i64 a6], [.i .i64 a7], [.i .i64 a8], [.i .i64 a9], [.i .i64 a10], [.i .i64 a11], [.i .i64 a12], [.i .i64 a13]] = List.map eI [a0, a1, a2, a3, a4, a5, a6, a7, a8, a9, a10, a11, a12, a13] := (rfl)
theorem litX_I15 {a0 a1 a2 a3 a4 a5 a6 a7 a8 a9 a10 a11 a12 a13 a14 : Int} : litX [[.i .i64 a0], [.i .i64 a1], [.i .i64 a2], [.i .i64 a3], [.i .i64 a4], [.i .i64 a5], [.i .i64 a6], [.i .i64 a7], [.i .i64 a8], [.i .i64 a9], [.i .i64 a10], [.i .i64 a11], [.i .i64 a12], [.i .i64 a13], [.i .i64 a14]] = List.map eI [a0, a1, a2, a3, a4, a5, a6, a7, a8, a9, a10, a11, a12, a13, a14] := (rfl)
theorem litX_I16 {a0 a1 a2 a3 a4 a5 a6 a7 a8 a9 a10 a11 a12 a13 a14 a15 : Int} : litX [[.i .i64 a0], [.i .i64 a1], [.i .i64 a2], [.i .i64 a3], [.i .i64 a4], [.i .i64 a5], [.i .i64 a6], [.i .i64 a7], [.i .i64 a8], [.i .i64 a9], [.i .i64 a10], [.i .i64 a11], [.i .i64 a12], [.i .i64 a13], [.i .i64 a14], [.i .i64 a15]] = List.map eI [a0, a1, a2, a3, a4, a5, a6, a7, a8, a9, a10, a11, a12, a13, a14, a15] := (rfl)
theorem litX_I17 {a0 a1 a2 a3 a4 a5 a6 a7 a8 a9 a10 a11 a12 a13 a14 a15 a16 : Int} : litX [[.i .i64 a0], [.i .i64 a1], [.i .i64 a2], [.i .i64 a3], [.i .i64 a4], [.i .i64 a5], [.i .i64 a6], [.i .i64 a7], [.i .i64 a8], [.i .i64 a9], [.i .i64 a10], [.i .i64 a11], [.i .i64 a12], [.i .i64 a13], [.i .i64 a14], [.i .i64 a15], [.i .i64 a16]] = List.map eI [a0, a1, a2, a3, a4, a5, a6, a7, a8, a9, a10, a11, a12, a13, a14, a15, a16] := (rfl)
theorem litX_S2 {a0 a1 : ByteArray} : litX [[.s a0], [.s a1]] = List.map eS [a0, a1] := (rfl)
theorem litX_S3 {a0 a1 a2 : ByteArray} : litX [[.s a0], [.s a1], [.s a2]] = List.map eS [a0, a1, a2] := (rfl)
theorem litX_S4 {a0 a1 a2 a3 : ByteArray} : litX [[.s a0], [.s a1], [.s a2], [.s a3]] = List.map eS [a0, a1, a2, a3] := (rfl)
theorem litX_S5 {a0 a1 a2 a3 a4 : ByteArray} : litX [[.s a0], [.s a1], [.s a2], [.s a3], [.s a4]] = List.map eS [a0, a1, a2, a3, a4] := (rfl)
theorem litX_S6 {a0 a1 a2 a3 a4 a5 : ByteArray} : litX [[.s a0], [.s a1], [.s a2], [.s a3], [.s a4], [.s a5]] = List.map eS [a0, a1, a2, a3, a4, a5] := (rfl)
theorem litX_S7 {a0 a1 a2 a3 a4 a5 a6 : ByteArray} : litX [[.s a0], [.s a1], [.s a2], [.s a3], [.s a4], [.s a5], [.s a6]] = List.map eS [a0, a1, a2, a3, a4, a5, a6] := (rfl)
theorem litX_S8 {a0 a1 a2 a3 a4 a5 a6 a7 : ByteArray} : litX [[.s a0], [.s a1], [.s a2], [.s a3], [.s a4], [.s a5], [.s a6], [.s a7]] = List.map eS [a0, a1, a2, a3, a4, a5, a6, a7] := (rfl)
theorem litX_S9 {a0 a1 a2 a3 a4 a5 a6 a7 a8 : ByteArray} : litX [[.s a0], [.s a1], [.s a2], [.s a3], [.s a4], [.s a5], [.s a6], [.s a7], [.s a8]] = List.map eS [a0, a1, a2, a3, a4, a5, a6, a7, a8] := (rfl)
theorem litX_S10 {a0 a1 a2 a3 a4 a5 a6 a7 a8 a9 : ByteArray} : litX [[.s a0], [.s a1], [.s a2], [.s a3], [.s a4], [.s a5], [.s a6], [.s a7], [.s a8], [.s a9]] = List.map eS [a0, a1, a2, a3, a4, a5, a6, a7, a8, a9] := (rfl)
theorem litX_S11 {a0 a1 a2 a3 a4 a5 a6 a7 a8 a9 a10 : ByteArray} : litX [[.s a0], [.s a1], [.s a2], [.s a3], [.s a4], [.s a5], [.s a6], [.s a7], [.s a8], [.s a9], [.s a10]] = List.map eS [a0, a1, a2, a3, a4, a5, a6, a7, a8, a9, a10] := (rfl)
theorem litX_S12 {a0 a1 a2 a3 a4 a5 a6 a7 a8 a9 a10 a11 : ByteArray} : litX [[.s a0], [.s a1], [.s a2], [.s a3], [.s a4], [.s a5], [.s a6], [.s a7], [.s a8], [.s a9], [.s a10], [.s a11]] = List.map eS [a0, a1, a2, a3, a4, a5, a6, a7, a8, a9, a10, a11] := (rfl)
theorem litX_S13 {a0 a1 a2 a3 a4 a5 a6 a7 a8 a9 a10 a11 a12 : ByteArray} : litX [[.s a0], [.s a1], [.s a2], [.s a3], [.s a4], [.s a5], [.s a6], [.s a7], [.s a8], [.s a9], [.s a10], [.s a11], [.s a12]] = List.map eS [a0, a1, a2, a3, a4, a5, a6, a7, a8, a9, a10, a11, a12] := (rfl)
theorem litX_S14 {a0 a1 a2 a3 a4 a5 a6 a7 a8 a9 a10 a11 a12 a13 : ByteArray} : litX [[.s a0], [.s a1], [.s a2], [.s a3], [.s a4], [.s a5], [.s a6], [.s a7], [.s a8], [.s a9], [.s a10], [.s a11], [.s a12], [.s a13]] = List.map eS [a0, a1, a2, a3, a4, a5, a6, a7, a8, a9, a10, a11, a12, a13] := (rfl)
theorem litX_S15 {a0 a1 a2 a3 a4 a5 a6 a7 a8 a9 a10 a11 a12 a13 a14 : ByteArray} : litX [[.s a0], [.s a1], [.s a2], [.s a3], [.s a4], [.s a5], [.s a6], [.s a7], [.s a8], [.s a9], [.s a10], [.s a11], [.s a12], [.s a13], [.s a14]] = List.map eS [a0, a1, a2, a3, a4, a5, a6, a7, a8, a9, a10, a11, a12, a13, a14] := (rfl)
theorem litX_S16 {a0 a1 a2 a3 a4 a5 a6 a7 a8 a9 a10 a11 a12 a13 a14 a15 : ByteArray} : litX [[.s a0], [.s a1], [.s a2], [.s a3], [.s a4], [.s a5], [.s a6], [.s a7], [.s a8], [.s a9], [.s a10], [.s a11], [.s a12], [.s a13], [.s a14], [.s a15]] = List.map eS [a0, a1, a2, a3, a4, a5, a6, a7, a8, a9, a10, a11, a12, a13, a14, a15] := (rfl)
theorem R12 : type_of% (And.intro @rep_5 <| And.intro @rep_6 <| And.intro @rep_7 <| And.intro @rep_8 <| And.intro @rep_9 <| And.intro @rep_10 <| And.intro @rep_11 <| And.intro @rep_12 <| And.intro @rep_13 <| And.intro @rep_14 <| And.intro @rep_15 <| And.intro @rep_16 <| And.intro @rep_17 <| And.intro @litX_I4 <| And.intro @litX_I5 <| And.intro @litX_I6 <| And.intro @litX_I7 <| And.intro @litX_I8 <| And.intro @litX_I9 <| And.intro @litX_I10 <| And.intro @litX_I11 <| And.intro @litX_I12 <| And.intro @litX_I13 <| And.intro @litX_I14 <| And.intro @litX_I15 <| And.intro @litX_I16 <| And.intro @litX_I17 <| And.intro @litX_S2 <| And.intro @litX_S3 <| And.intro @litX_S4 <| And.intro @litX_S5 <| And.intro @litX_S6 <| And.intro @litX_S7 <| And.intro @litX_S8 <| And.intro @litX_S9 <| And.intro @litX_S10 <| And.intro @litX_S11 <| And.intro @litX_S12 <| And.intro @litX_S13 <| And.intro @litX_S14 <| And.intro @litX_S15 <| @litX_S16) := And.intro @rep_5 <| And.intro @rep_6 <| And.intro @rep_7 <| And.intro @rep_8 <| And.intro @rep_9 <| And.intro @rep_10 <| And.intro @rep_11 <| And.intro @rep_12 <| And.intro @rep_13 <| And.intro @rep_14 <| And.intro @rep_15 <| And.intro @rep_16 <| And.intro @rep_17 <| And.intro @litX_I4 <| And.intro @litX_I5 <| And.intro @litX_I6 <| And.intro @litX_I7 <| And.intro @litX_I8 <| And.intro @litX_I9 <| And.intro @litX_I10 <| And.intro @litX_I11 <| And.intro @litX_I12 <| And.intro @litX_I13 <| And.intro @litX_I14 <| And.intro @litX_I15 <| And.intro @litX_I16 <| And.intro @litX_I17 <| And.intro @litX_S2 <| And.intro @litX_S3 <| And.intro @litX_S4 <| And.intro @litX_S5 <| And.intro @litX_S6 <| And.intro @litX_S7 <| And.intro @litX_S8 <| And.intro @litX_S9 <| And.intro @litX_S10 <| And.intro @litX_S11 <| And.intro @litX_S12 <| And.intro @litX_S13 <| And.intro @litX_S14 <| And.intro @litX_S15 <| @litX_S16
theorem nd_0 : decide ([] : List Nat).Nodup = true := (rfl)
theorem nd_1 {a : Nat} : decide [a].Nodup = true := by simp
theorem nd_2 {a b : Nat} (h : decide (a ≠ b) = true) : decide [a, b].Nodup = true := by simpa using h
theorem nd_3 {a b c : Nat} (h : decide (a ≠ b) = true) (h2 : decide (a ≠ c) = true) (h3 : decide (b ≠ c) = true) : decide [a, b, c].Nodup = true := by simp_all
theorem ct_0 {a : Nat} : ([] : List Nat).contains a = false := (rfl)
theorem ct_1 {a b : Nat} {l : List Nat} : (b :: l).contains a = (a == b || l.contains a) := (rfl)
theorem R9 : type_of% (And.intro @cast_lit <| And.intro @gd_0 <| And.intro @gd_1 <| And.intro @wnd_1 <| And.intro @wnd_2 <| And.intro @wnd_3 <| And.intro @nd_0 <| And.intro @nd_1 <| And.intro @nd_2 <| And.intro @nd_3 <| And.intro @ct_0 <| @ct_1) := And.intro @cast_lit <| And.intro @gd_0 <| And.intro @gd_1 <| And.intro @wnd_1 <| And.intro @wnd_2 <| And.intro @wnd_3 <| And.intro @nd_0 <| And.intro @nd_1 <| And.intro @nd_2 <| And.intro @nd_3 <| And.intro @ct_0 <| @ct_1
theorem R0 : type_of% (And.intro @W_kp <| And.intro @W_seq <| And.intro @W_blk <| And.intro @W_skip <| And.intro @W_exit <| And.intro @W_ret <| And.intro @W_jn <| And.intro @W_cond <| And.intro @WC_t <| And.intro @WC_f <| And.intro @W_ops' <| And.intro @ops_nil <| And.intro @ops_o <| And.intro @ops_g1 <| And.intro @ops_g0 <| And.intro @ops_gt <| And.intro @B1_some <| And.intro @Q_some <| And.intro @Qk_e <| And.intro @Qk_r <| And.intro @Qs_n <| And.intro @Qs_e <| And.intro @Qs_r <| And.intro @Qb_n <| And.intro @Qb_e <| And.intro @Qb_r <| And.intro @Ql_n <| And.intro @Ql_e <| And.intro @Ql_r <| And.intro @Qj_n <| And.intro @Qj_e <| And.intro @Qj_r <| And.intro @tm_get <| And.intro @tm_nil <| And.intro @rs_get <| And.intro @rs_nil <| And.intro @tm_up <| And.intro @rs_up <| And.intro @x_t <| And.intro @x_k <| And.intro @i_mv <| And.intro @i_pick <| And.intro @pick_t <| And.intro @pick_f <| And.intro @i_bin <| And.intro @b_add <| And.intro @b_sub <| And.intro @b_mul <| And.intro @b_lss <| @b_leq) := And.intro @W_kp <| And.intro @W_seq <| And.intro @W_blk <| And.intro @W_skip <| And.intro @W_exit <| And.intro @W_ret <| And.intro @W_jn <| And.intro @W_cond <| And.intro @WC_t <| And.intro @WC_f <| And.intro @W_ops' <| And.intro @ops_nil <| And.intro @ops_o <| And.intro @ops_g1 <| And.intro @ops_g0 <| And.intro @ops_gt <| And.intro @B1_some <| And.intro @Q_some <| And.intro @Qk_e <| And.intro @Qk_r <| And.intro @Qs_n <| And.intro @Qs_e <| And.intro @Qs_r <| And.intro @Qb_n <| And.intro @Qb_e <| And.intro @Qb_r <| And.intro @Ql_n <| And.intro @Ql_e <| And.intro @Ql_r <| And.intro @Qj_n <| And.intro @Qj_e <| And.intro @Qj_r <| And.intro @tm_get <| And.intro @tm_nil <| And.intro @rs_get <| And.intro @rs_nil <| And.intro @tm_up <| And.intro @rs_up <| And.intro @x_t <| And.intro @x_k <| And.intro @i_mv <| And.intro @i_pick <| And.intro @pick_t <| And.intro @pick_f <| And.intro @i_bin <| And.intro @b_add <| And.intro @b_sub <| And.intro @b_mul <| And.intro @b_lss <| @b_leq
theorem R1 : type_of% (And.intro @b_gtr <| And.intro @b_geq <| And.intro @b_eql <| And.intro @b_neq <| And.intro @b_and <| And.intro @b_or <| And.intro @b_xor <| And.intro @b_shl <| And.intro @b_shr <| And.intro @b_quo <| And.intro @b_rem <| And.intro @b_eqb <| And.intro @b_neb <| And.intro @b_eqs <| And.intro @b_nes <| And.intro @b_cat <| And.intro @b_nil0 <| And.intro @wrap_i64 <| And.intro @wrap_u8 <| And.intro @i_un <| And.intro @un_not <| And.intro @un_neg <| And.intro @i_conv <| And.intro @conv_c <| And.intro @i_nilc <| And.intro @nilc_p <| And.intro @nilc_f <| And.intro @mm_nil <| And.intro @mm_x <| And.intro @mm_n <| And.intro @i_idxS <| And.intro @idxS_c <| And.intro @slS_l <| And.intro @slS_h <| And.intro @slS_lh <| And.intro @i_eqA <| And.intro @eqA_c <| And.intro @eqA_t <| And.intro @eqA_f <| And.intro @ec_nil <| And.intro @ec_0 <| And.intro @ec_1 <| And.intro @ec_2 <| And.intro @i_build <| And.intro @bld_nil <| And.intro @bld_cons <| And.intro @bld_1 <| And.intro @bld_a <| And.intro @put_nil <| @put_cons) := And.intro @b_gtr <| And.intro @b_geq <| And.intro @b_eql <| And.intro @b_neq <| And.intro @b_and <| And.intro @b_or <| And.intro @b_xor <| And.intro @b_shl <| And.intro @b_shr <| And.intro @b_quo <| And.intro @b_rem <| And.intro @b_eqb <| And.intro @b_neb <| And.intro @b_eqs <| And.intro @b_nes <| And.intro @b_cat <| And.intro @b_nil0 <| And.intro @wrap_i64 <| And.intro @wrap_u8 <| And.intro @i_un <| And.intro @un_not <| And.intro @un_neg <| And.intro @i_conv <| And.intro @conv_c <| And.intro @i_nilc <| And.intro @nilc_p <| And.intro @nilc_f <| And.intro @mm_nil <| And.intro @mm_x <| And.intro @mm_n <| And.intro @i_idxS <| And.intro @idxS_c <| And.intro @slS_l <| And.intro @slS_h <| And.intro @slS_lh <| And.intro @i_eqA <| And.intro @eqA_c <| And.intro @eqA_t <| And.intro @eqA_f <| And.intro @ec_nil <| And.intro @ec_0 <| And.intro @ec_1 <| And.intro @ec_2 <| And.intro @i_build <| And.intro @bld_nil <| And.intro @bld_cons <| And.intro @bld_1 <| And.intro @bld_a <| And.intro @put_nil <| @put_cons
theorem R2 : type_of% (And.intro @i_field <| And.intro @field_1 <| And.intro @field_n <| And.intro @oSome_c <| And.intro @i_ext <| And.intro @ext_c <| And.intro @i_len <| And.intro @len_c <| And.intro @len_n <| And.intro @len_s <| And.intro @i_iaddr <| And.intro @iaddr_c <| And.intro @i_faddr <| And.intro @faddr_c <| And.intro @i_load <| And.intro @load_c <| And.intro @lkLoad_some <| And.intro @load_1 <| And.intro @liftO_c <| And.intro @load_n <| And.intro @lifts_nil <| And.intro @lifts_cons <| And.intro @lift_i <| And.intro @lift_b <| And.intro @lift_s <| And.intro @lift_d <| And.intro @lift_p <| And.intro @load_p <| And.intro @lkP_some <| And.intro @lkD_some <| And.intro @cell_0 <| And.intro @sinks_nil <| And.intro @sinks_cons <| And.intro @sk1_c <| And.intro @sk2_c <| And.intro @sink_b <| And.intro @sink_i <| And.intro @sink_s <| And.intro @sink_nl <| And.intro @sink_r <| And.intro @skR_o <| And.intro @skR_r <| And.intro @cells_a <| And.intro @cells_b <| And.intro @cells_i <| And.intro @cells_s <| And.intro @cells_n <| And.intro @cells_c <| And.intro @i_box <| @box_c) := And.intro @i_field <| And.intro @field_1 <| And.intro @field_n <| And.intro @oSome_c <| And.intro @i_ext <| And.intro @ext_c <| And.intro @i_len <| And.intro @len_c <| And.intro @len_n <| And.intro @len_s <| And.intro @i_iaddr <| And.intro @iaddr_c <| And.intro @i_faddr <| And.intro @faddr_c <| And.intro @i_load <| And.intro @load_c <| And.intro @lkLoad_some <| And.intro @load_1 <| And.intro @liftO_c <| And.intro @load_n <| And.intro @lifts_nil <| And.intro @lifts_cons <| And.intro @lift_i <| And.intro @lift_b <| And.intro @lift_s <| And.intro @lift_d <| And.intro @lift_p <| And.intro @load_p <| And.intro @lkP_some <| And.intro @lkD_some <| And.intro @cell_0 <| And.intro @sinks_nil <| And.intro @sinks_cons <| And.intro @sk1_c <| And.intro @sk2_c <| And.intro @sink_b <| And.intro @sink_i <| And.intro @sink_s <| And.intro @sink_nl <| And.intro @sink_r <| And.intro @skR_o <| And.intro @skR_r <| And.intro @cells_a <| And.intro @cells_b <| And.intro @cells_i <| And.intro @cells_s <| And.intro @cells_n <| And.intro @cells_c <| And.intro @i_box <| @box_c
theorem R3 : type_of% (And.intro @i_alloc <| And.intro @i_store <| And.intro @sto_r <| And.intro @stR_o <| And.intro @stE_n <| And.intro @stE_d <| And.intro @set_0 <| And.intro @d_b <| And.intro @d_i <| And.intro @d_s <| And.intro @d_d <| And.intro @d_nil <| And.intro @i_mks <| And.intro @mks_I <| And.intro @mks_B <| And.intro @lkA_0 <| And.intro @lkA_1 <| And.intro @lkC_d <| And.intro @dvs_nil <| And.intro @dvs_cons <| And.intro @dvs_cons' <| And.intro @dv1_c <| And.intro @dv_a <| And.intro @dv_f <| And.intro @dvA_a <| And.intro @dvA_f <| And.intro @dv_b <| And.intro @dv_i <| And.intro @dv_s <| And.intro @dv_n <| And.intro @dv_n1 <| And.intro @dv_c <| And.intro @dv_p <| And.intro @dcs_nil <| And.intro @dcs_cons <| And.intro @dc_b <| And.intro @dc_i <| And.intro @dc_s <| And.intro @dc_n <| And.intro @dc_n1 <| And.intro @dc_r <| And.intro @dcR_c <| And.intro @dc_o <| And.intro @dcO_c <| And.intro @dcO_0 <| And.intro @dc_p <| And.intro @dcP_o <| And.intro @dcP_r <| And.intro @ac1_c <| And.intro @ac2_c <| And.intro @ac3_c <| @tup_0) := And.intro @i_alloc <| And.intro @i_store <| And.intro @sto_r <| And.intro @stR_o <| And.intro @stE_n <| And.intro @stE_d <| And.intro @set_0 <| And.intro @d_b <| And.intro @d_i <| And.intro @d_s <| And.intro @d_d <| And.intro @d_nil <| And.intro @i_mks <| And.intro @mks_I <| And.intro @mks_B <| And.intro @lkA_0 <| And.intro @lkA_1 <| And.intro @lkC_d <| And.intro @dvs_nil <| And.intro @dvs_cons <| And.intro @dvs_cons' <| And.intro @dv1_c <| And.intro @dv_a <| And.intro @dv_f <| And.intro @dvA_a <| And.intro @dvA_f <| And.intro @dv_b <| And.intro @dv_i <| And.intro @dv_s <| And.intro @dv_n <| And.intro @dv_n1 <| And.intro @dv_c <| And.intro @dv_p <| And.intro @dcs_nil <| And.intro @dcs_cons <| And.intro @dc_b <| And.intro @dc_i <| And.intro @dc_s <| And.intro @dc_n <| And.intro @dc_n1 <| And.intro @dc_r <| And.intro @dcR_c <| And.intro @dc_o <| And.intro @dcO_c <| And.intro @dcO_0 <| And.intro @dc_p <| And.intro @dcP_o <| And.intro @dcP_r <| And.intro @ac1_c <| And.intro @ac2_c <| And.intro @ac3_c <| @tup_0
theorem R4 : type_of% (And.intro @tup_1 <| And.intro @tup_2 <| And.intro @add_nil <| And.intro @add_cons <| And.intro @pb_nil <| And.intro @pb_ro <| And.intro @pb_at <| And.intro @pb_gone <| And.intro @pb_own <| And.intro @pbR_c <| And.intro @evs_nil <| And.intro @evs_b <| And.intro @evs_i <| And.intro @evs_n <| And.intro @evs_s <| And.intro @evs_d <| And.intro @evs_p <| And.intro @evs_a <| And.intro @evs_f <| And.intro @ecs_nil <| And.intro @ecs_b <| And.intro @ecs_i <| And.intro @ecs_s <| And.intro @ecs_d <| And.intro @ou_nil <| And.intro @ou_cons <| And.intro @oa_nil <| And.intro @oa_cons <| And.intro @op_rr <| And.intro @op_n1 <| And.intro @op_n2 <| And.intro @op_oo <| And.intro @us_nil <| And.intro @us_cons <| And.intro @bk_c <| And.intro @br_nil <| And.intro @br_cons <| And.intro @bb_nil <| And.intro @bb_n <| And.intro @bb_s <| And.intro @hb_b <| And.intro @hb_i <| And.intro @hb_s <| And.intro @hb_d <| And.intro @hb_a <| And.intro @ha_nil <| And.intro @ha_b <| And.intro @ha_i <| And.intro @ha_s <| And.intro @ha_d <| @bor_nil) := And.intro @tup_1 <| And.intro @tup_2 <| And.intro @add_nil <| And.intro @add_cons <| And.intro @pb_nil <| And.intro @pb_ro <| And.intro @pb_at <| And.intro @pb_gone <| And.intro @pb_own <| And.intro @pbR_c <| And.intro @evs_nil <| And.intro @evs_b <| And.intro @evs_i <| And.intro @evs_n <| And.intro @evs_s <| And.intro @evs_d <| And.intro @evs_p <| And.intro @evs_a <| And.intro @evs_f <| And.intro @ecs_nil <| And.intro @ecs_b <| And.intro @ecs_i <| And.intro @ecs_s <| And.intro @ecs_d <| And.intro @ou_nil <| And.intro @ou_cons <| And.intro @oa_nil <| And.intro @oa_cons <| And.intro @op_rr <| And.intro @op_n1 <| And.intro @op_n2 <| And.intro @op_oo <| And.intro @us_nil <| And.intro @us_cons <| And.intro @bk_c <| And.intro @br_nil <| And.intro @br_cons <| And.intro @bb_nil <| And.intro @bb_n <| And.intro @bb_s <| And.intro @hb_b <| And.intro @hb_i <| And.intro @hb_s <| And.intro @hb_d <| And.intro @hb_a <| And.intro @ha_nil <| And.intro @ha_b <| And.intro @ha_i <| And.intro @ha_s <| And.intro @ha_d <| @bor_nil
theorem R5 : type_of% (And.intro @bor_cons <| And.intro @be_nil <| And.intro @be_b <| And.intro @be_i <| And.intro @be_s <| And.intro @be_d <| And.intro @bor_I <| And.intro @bor_8 <| And.intro @bor_B <| And.intro @bor_S <| And.intro @dps_I <| And.intro @dps_8 <| And.intro @dps_B <| And.intro @dps_S <| And.intro @dps_nil <| And.intro @gs_f <| And.intro @gs_r <| And.intro @gs_o <| And.intro @src_r <| And.intro @srcA_c <| And.intro @src_n <| And.intro @src_s <| And.intro @bas_n <| And.intro @bas_r <| And.intro @basR_c <| And.intro @bas_p <| And.intro @basQ_c <| And.intro @basP_c <| And.intro @i_app <| And.intro @app_t <| And.intro @app_0 <| And.intro @app_00 <| And.intro @app_n <| And.intro @app_m <| And.intro @app_m0 <| And.intro @app_mn <| And.intro @drop_full <| And.intro @drop_nil' <| And.intro @i_lit <| And.intro @go_nil <| And.intro @go_cons <| And.intro @gl1_c <| And.intro @lit_c <| And.intro @rep_0 <| And.intro @rep_1 <| And.intro @rep_2 <| And.intro @rep_3 <| And.intro @rep_4 <| And.intro @litX_0 <| @litX_I1) := And.intro @bor_cons <| And.intro @be_nil <| And.intro @be_b <| And.intro @be_i <| And.intro @be_s <| And.intro @be_d <| And.intro @bor_I <| And.intro @bor_8 <| And.intro @bor_B <| And.intro @bor_S <| And.intro @dps_I <| And.intro @dps_8 <| And.intro @dps_B <| And.intro @dps_S <| And.intro @dps_nil <| And.intro @gs_f <| And.intro @gs_r <| And.intro @gs_o <| And.intro @src_r <| And.intro @srcA_c <| And.intro @src_n <| And.intro @src_s <| And.intro @bas_n <| And.intro @bas_r <| And.intro @basR_c <| And.intro @bas_p <| And.intro @basQ_c <| And.intro @basP_c <| And.intro @i_app <| And.intro @app_t <| And.intro @app_0 <| And.intro @app_00 <| And.intro @app_n <| And.intro @app_m <| And.intro @app_m0 <| And.intro @app_mn <| And.intro @drop_full <| And.intro @drop_nil' <| And.intro @i_lit <| And.intro @go_nil <| And.intro @go_cons <| And.intro @gl1_c <| And.intro @lit_c <| And.intro @rep_0 <| And.intro @rep_1 <| And.intro @rep_2 <| And.intro @rep_3 <| And.intro @rep_4 <| And.intro @litX_0 <| @litX_I1
theorem R6 : type_of% (And.intro @litX_81 <| And.intro @litX_82 <| And.intro @litX_S1 <| And.intro @litX_I2 <| And.intro @litX_I3 <| And.intro @i_bts <| And.intro @rt_c <| And.intro @bts_c <| And.intro @bts2_c <| And.intro @bts2_0 <| And.intro @slR_l <| And.intro @slR_h <| And.intro @slR_lh <| And.intro @slR_n <| And.intro @wnd_full <| And.intro @wnd_nil <| And.intro @len_map <| And.intro @kill_nil' <| And.intro @kill_cons' <| And.intro @Qf_r <| And.intro @Qf_n <| And.intro @eF1_c <| And.intro @eF2_c <| And.intro @lvO_c <| And.intro @bks_nil <| And.intro @bks_f <| And.intro @bks_t <| And.intro @bkX_t <| And.intro @bkX_f <| And.intro @rv_nil <| And.intro @rv_t <| And.intro @rv1_c <| And.intro @rv_c <| And.intro @rv2_c <| And.intro @sv_nil <| And.intro @sv_b <| And.intro @sv_i <| And.intro @sv_s <| And.intro @sv_n <| And.intro @sv_r <| And.intro @sv1_c <| And.intro @sv_p <| And.intro @spQ_o <| And.intro @spQ_r <| And.intro @sv2_c <| And.intro @sv_a <| And.intro @svA_c <| And.intro @pcons_c <| And.intro @spl_nil <| @spl_b) := And.intro @litX_81 <| And.intro @litX_82 <| And.intro @litX_S1 <| And.intro @litX_I2 <| And.intro @litX_I3 <| And.intro @i_bts <| And.intro @rt_c <| And.intro @bts_c <| And.intro @bts2_c <| And.intro @bts2_0 <| And.intro @slR_l <| And.intro @slR_h <| And.intro @slR_lh <| And.intro @slR_n <| And.intro @wnd_full <| And.intro @wnd_nil <| And.intro @len_map <| And.intro @kill_nil' <| And.intro @kill_cons' <| And.intro @Qf_r <| And.intro @Qf_n <| And.intro @eF1_c <| And.intro @eF2_c <| And.intro @lvO_c <| And.intro @bks_nil <| And.intro @bks_f <| And.intro @bks_t <| And.intro @bkX_t <| And.intro @bkX_f <| And.intro @rv_nil <| And.intro @rv_t <| And.intro @rv1_c <| And.intro @rv_c <| And.intro @rv2_c <| And.intro @sv_nil <| And.intro @sv_b <| And.intro @sv_i <| And.intro @sv_s <| And.intro @sv_n <| And.intro @sv_r <| And.intro @sv1_c <| And.intro @sv_p <| And.intro @spQ_o <| And.intro @spQ_r <| And.intro @sv2_c <| And.intro @sv_a <| And.intro @svA_c <| And.intro @pcons_c <| And.intro @spl_nil <| @spl_b
theorem R7 : type_of% (And.intro @spl_i <| And.intro @spl_s <| And.intro @spl_n <| And.intro @spl_r <| And.intro @spl_p <| And.intro @spl2_c <| And.intro @ov_nil <| And.intro @ov_cons <| And.intro @ov1_c <| And.intro @ov_a <| And.intro @ovA_c <| And.intro @ov_b <| And.intro @ov_i <| And.intro @ov_s <| And.intro @ov_n <| And.intro @ov_c <| And.intro @ov_p <| And.intro @oc_nil <| And.intro @oc_cons <| And.intro @oc_b <| And.intro @oc_i <| And.intro @oc_s <| And.intro @oc_n <| And.intro @oc_r <| And.intro @ocR_r <| And.intro @ocR_o <| And.intro @oc_p <| And.intro @ocP_o <| And.intro @Qk_nn <| And.intro @kpL_nil <| And.intro @kpL_cons <| And.intro @xs_nil <| And.intro @xs_cons <| And.intro @oX_s <| And.intro @oX_n <| And.intro @i_mm' <| And.intro @i_slS' <| And.intro @i_slR' <| And.intro @i_call' <| And.intro @i_mkfn' <| And.intro @ops_z <| And.intro @B0_n <| And.intro @B0_s <| And.intro @W_sq' <| And.intro @isC1_b <| And.intro @isC1_i <| And.intro @isC1_s <| And.intro @isC1_n <| And.intro @isC1_c <| @cast_0) := And.intro @spl_i <| And.intro @spl_s <| And.intro @spl_n <| And.intro @spl_r <| And.intro @spl_p <| And.intro @spl2_c <| And.intro @ov_nil <| And.intro @ov_cons <| And.intro @ov1_c <| And.intro @ov_a <| And.intro @ovA_c <| And.intro @ov_b <| And.intro @ov_i <| And.intro @ov_s <| And.intro @ov_n <| And.intro @ov_c <| And.intro @ov_p <| And.intro @oc_nil <| And.intro @oc_cons <| And.intro @oc_b <| And.intro @oc_i <| And.intro @oc_s <| And.intro @oc_n <| And.intro @oc_r <| And.intro @ocR_r <| And.intro @ocR_o <| And.intro @oc_p <| And.intro @ocP_o <| And.intro @Qk_nn <| And.intro @kpL_nil <| And.intro @kpL_cons <| And.intro @xs_nil <| And.intro @xs_cons <| And.intro @oX_s <| And.intro @oX_n <| And.intro @i_mm' <| And.intro @i_slS' <| And.intro @i_slR' <| And.intro @i_call' <| And.intro @i_mkfn' <| And.intro @ops_z <| And.intro @B0_n <| And.intro @B0_s <| And.intro @W_sq' <| And.intro @isC1_b <| And.intro @isC1_i <| And.intro @isC1_s <| And.intro @isC1_n <| And.intro @isC1_c <| @cast_0
theorem R8 : type_of% (And.intro @cast_1 <| And.intro @List.getElem?_cons_zero.{0} <| And.intro @List.getElem?_cons_succ.{0} <| And.intro @List.getElem?_nil.{0} <| And.intro @List.length_cons.{0} <| And.intro @List.length_nil.{0} <| And.intro @List.length_set.{0} <| And.intro @List.set_cons_zero.{0} <| And.intro @List.set_cons_succ.{0} <| And.intro @List.take_succ_cons.{0} <| And.intro @List.take_zero.{0} <| And.intro @List.take_nil.{0} <| And.intro @List.drop_succ_cons.{0} <| And.intro @List.drop_zero.{0} <| And.intro @List.drop_nil.{0} <| And.intro @List.nil_append.{0} <| And.intro @List.cons_append.{0} <| And.intro @List.append_nil.{0} <| And.intro @Option.map_some.{0, 0} <| And.intro @Option.map_none.{0, 0} <| And.intro @Option.bind_some.{0, 0} <| And.intro @Option.some.injEq.{0} <| And.intro @Bool.not_true <| And.intro @Bool.not_false <| And.intro @Bool.and_true <| And.intro @Bool.true_and <| And.intro @Bool.or_true <| And.intro @Bool.true_or <| And.intro @Bool.or_false <| And.intro @Bool.false_or <| And.intro @Bool.false_and <| And.intro @Bool.and_false <| And.intro @Bool.not_not <| And.intro @decide_true <| @decide_false) := And.intro @cast_1 <| And.intro @List.getElem?_cons_zero.{0} <| And.intro @List.getElem?_cons_succ.{0} <| And.intro @List.getElem?_nil.{0} <| And.intro @List.length_cons.{0} <| And.intro @List.length_nil.{0} <| And.intro @List.length_set.{0} <| And.intro @List.set_cons_zero.{0} <| And.intro @List.set_cons_succ.{0} <| And.intro @List.take_succ_cons.{0} <| And.intro @List.take_zero.{0} <| And.intro @List.take_nil.{0} <| And.intro @List.drop_succ_cons.{0} <| And.intro @List.drop_zero.{0} <| And.intro @List.drop_nil.{0} <| And.intro @List.nil_append.{0} <| And.intro @List.cons_append.{0} <| And.intro @List.append_nil.{0} <| And.intro @Option.map_some.{0, 0} <| And.intro @Option.map_none.{0, 0} <| And.intro @Option.bind_some.{0, 0} <| And.intro @Option.some.injEq.{0} <| And.intro @Bool.not_true <| And.intro @Bool.not_false <| And.intro @Bool.and_true <| And.intro @Bool.true_and <| And.intro @Bool.or_true <| And.intro @Bool.true_or <| And.intro @Bool.or_false <| And.intro @Bool.false_or <| And.intro @Bool.false_and <| And.intro @Bool.and_false <| And.intro @Bool.not_not <| And.intro @decide_true <| @decide_false
theorem tmA_nil {n : Nat} : tmA n [] = [] := (rfl)
theorem tmA_cons {n : Nat} {v : AV} {l : List AV} : tmA n (v :: l) = (n, v) :: tmA (n + 1) l := (rfl)
theorem tmA_z {v : AV} {l : List AV} : tmA 0 (v :: l) = (0, v) :: tmA 1 l := (rfl)
theorem rsA_nil {n : Nat} : rsA n [] = [] := (rfl)
theorem rsA_cons {n : Nat} {v : Option Root} {l : List (Option Root)} : rsA n (v :: l) = (n, v) :: rsA (n + 1) l := (rfl)
theorem rsA_z {v : Option Root} {l : List (Option Root)} : rsA 0 (v :: l) = (0, v) :: rsA 1 l := (rfl)
theorem own_c {o : Bool} {s p : Nat} {x : Els} : Root.own ⟨o, s, p, x⟩ = o := (rfl)
theorem SN : type_of% (And.intro @evs_nil <| And.intro @evs_b <| And.intro @evs_i <| And.intro @evs_n <| And.intro @evs_s <| And.intro @evs_d <| And.intro @evs_p <| And.intro @evs_a <| And.intro @evs_f <| And.intro @ecs_nil <| And.intro @ecs_b <| And.intro @ecs_i <| And.intro @ecs_s <| And.intro @ecs_d <| And.intro @len_map <| And.intro @List.map_cons.{0, 0} <| And.intro @List.map_nil.{0, 0} <| And.intro @List.nil_append.{0} <| And.intro @List.cons_append.{0} <| And.intro @List.append_nil.{0} <| And.intro @List.length_cons.{0} <| And.intro @List.length_nil.{0} <| And.intro @Bool.not_true <| And.intro @Bool.not_false <| And.intro @Nat.zero_add <| And.intro @tmA_nil <| And.intro @tmA_cons <| And.intro @rsA_nil <| And.intro @rsA_cons <| @own_c) := And.intro @evs_nil <| And.intro @evs_b <| And.intro @evs_i <| And.intro @evs_n <| And.intro @evs_s <| And.intro @evs_d <| And.intro @evs_p <| And.intro @evs_a <| And.intro @evs_f <| And.intro @ecs_nil <| And.intro @ecs_b <| And.intro @ecs_i <| And.intro @ecs_s <| And.intro @ecs_d <| And.intro @len_map <| And.intro @List.map_cons.{0, 0} <| And.intro @List.map_nil.{0, 0} <| And.intro @List.nil_append.{0} <| And.intro @List.cons_append.{0} <| And.intro @List.append_nil.{0} <| And.intro @List.length_cons.{0} <| And.intro @List.length_nil.{0} <| And.intro @Bool.not_true <| And.intro @Bool.not_false <| And.intro @Nat.zero_add <| And.intro @tmA_nil <| And.intro @tmA_cons <| And.intro @rsA_nil <| And.intro @rsA_cons <| @own_c
theorem RX : type_of% (And.intro @faddr_x <| And.intro @load_x <| And.intro @load_xn <| And.intro @nilc_x <| And.intro @i_boxK <| And.intro @bxk_a <| And.intro @bxk_i <| And.intro @bxk_b <| And.intro @bxk_s @bxk_r) := And.intro @faddr_x <| And.intro @load_x <| And.intro @load_xn <| And.intro @nilc_x <| And.intro @i_boxK <| And.intro @bxk_a <| And.intro @bxk_i <| And.intro @bxk_b <| And.intro @bxk_s @bxk_r
theorem RN : type_of% (And.intro R0 <| And.intro R1 <| And.intro R2 <| And.intro R3 <| And.intro R4 <| And.intro R5 <| And.intro R6 <| And.intro R7 <| And.intro R8 <| And.intro R9 <| And.intro R10 <| And.intro R11 <| And.intro R12 RX) := And.intro R0 <| And.intro R1 <| And.intro R2 <| And.intro R3 <| And.intro R4 <| And.intro R5 <| And.intro R6 <| And.intro R7 <| And.intro R8 <| And.intro R9 <| And.intro R10 <| And.intro R11 <| And.intro R12 RX
end Go.Proofs.Ytinlbiphjgpmmaa.V
end YtinlbiphjgpmmaaWK
section YtinlbiphjgpmmaaWO
namespace Go.Proofs.Ytinlbiphjgpmmaa.V
open Go
set_option linter.unusedVariables false

/-- A cell that holds this. -/
def CellT (w : World) (av : AV) (v : Value) (G : Gh) : Prop := match av with
  | .deep p bo sz ys => HdR w (G []) p bo sz ys.length v ∧ TreeR w true sz G ys
  | .undef => False
  | av => CellR w (fun _ => none) av v
def CellsT (w : World) (avs : List AV) (cs : List Value) : Prop := avs.length = cs.length ∧ ∀ (c : Nat) av v, avs[c]? = some av → cs[c]? = some v → v.oneCell' = true ∧ ∃ G, CellT w av v G
theorem CellsT.append {w : World} {a b : List AV} {cs ds : List Value} (h : CellsT w a cs) (h' : CellsT w b ds) : CellsT w (a ++ b) (cs ++ ds) := by
  refine ⟨by simp [h.1, h'.1], fun c av v h1 h2 => ?_⟩
  by_cases hc : c < a.length
  · rw [List.getElem?_append_left hc] at h1
    rw [List.getElem?_append_left (by rw [← h.1]; exact hc)] at h2
    exact h.2 c av v h1 h2
  · rw [List.getElem?_append_right (by omega)] at h1
    rw [List.getElem?_append_right (by rw [← h.1]; omega), ← h.1] at h2
    exact h'.2 _ av v h1 h2
theorem CellT.cellR {w : World} {B : Gh} {av : AV} {v : Value} {G : Gh} (h : CellT w av v G) (hB : B [] = G []) : CellR w B av v := by
  cases av with
  | deep p bo sz ys => simp only [CellR, hB]; exact h.1
  | undef => exact h.elim
  | _ => first | exact h | exact (show False from h).elim

/-- A row of such elements. -/
theorem tree_of {w : World} {sz b o n : Nat} {xs : Els} {cs : Nat → List Value} (hn : xs.length = n) (hsz : ∀ (i : Nat) el, xs[i]? = some el → el.length = sz)
    (hc : ∀ (i : Nat) el, xs[i]? = some el → CellsT w el (cs i)) {cur : Array Value} (hb : Blk w b true cur) (hcur : ∀ i, i < n → ∀ (c : Nat) v, (cs i)[c]? = some v → cur[o + i * sz + c]? = some v) :
    ∃ G : Gh, G [] = some (b, o) ∧ TreeR w true sz G xs := by
  have hG : ∀ i c, ∃ G : Gh, ∀ av v, cellAt xs i c = some av → (cs i)[c]? = some v → v.oneCell' = true ∧ CellT w av v G := fun i c => by
    cases h1 : cellAt xs i c with
    | none => exact ⟨fun _ => none, fun av v h => by cases h⟩
    | some av =>
      cases h2 : (cs i)[c]? with
      | none => exact ⟨fun _ => none, fun av v _ h => by cases h⟩
      | some v =>
        obtain ⟨el, e1, e2⟩ := cellAt_some h1
        obtain ⟨h3, G, h4⟩ := (hc i el e1).2 c av v e2 h2
        refine ⟨G, fun av' v' e e' => ?_⟩
        injection e with e; injection e' with e'
        subst e; subst e'; exact ⟨h3, h4⟩
  let Gs : Nat → Nat → Gh := fun i c => Classical.choose (hG i c)
  have hGs : ∀ i c av v, cellAt xs i c = some av → (cs i)[c]? = some v → v.oneCell' = true ∧ CellT w av v (Gs i c) := fun i c => Classical.choose_spec (hG i c)
  have hval : ∀ i c av, cellAt xs i c = some av → ∃ v, (cs i)[c]? = some v ∧ i < n := fun i c av h => by
    obtain ⟨el, e1, e2⟩ := cellAt_some h
    have hl := (hc i el e1).1
    have hlt := (List.getElem?_eq_some_iff.1 e2).1
    exact ⟨_, List.getElem?_eq_getElem (by rw [← hl]; exact hlt), by have := (List.getElem?_eq_some_iff.1 e1).1; omega⟩
  let G : Gh := fun p => match p with | [] => some (b, o) | (i, c) :: q => Gs i c q
  refine ⟨G, rfl, TreeR.mk' ⟨hsz, ?_⟩ fun i c p bo sz' ys h => ?_⟩
  · show ∃ cur, Blk w b true cur ∧ _
    refine ⟨cur, hb, fun i c cell h => ?_⟩
    obtain ⟨v, h1, h2⟩ := hval i c cell h
    obtain ⟨h3, h4⟩ := hGs i c cell v h h1
    exact ⟨v, hcur i h2 c v h1, h3, h4.cellR rfl⟩
  · obtain ⟨v, h1, h2⟩ := hval i c _ h
    exact (hGs i c _ v h h1).2.2

def OpV (P : Program) (t : TypeId) {α : Type} (e : α → List AV) (Q : α → Prop) : Prop :=
  ∀ {H : Type} (enc : TypeId × Value → H) (W : World) (fuel : Nat) (cs : List Value) (x : DataW H × List MemPlace),
    DataW.trod enc P W 0 (fun _ => true) true fuel t cs = some x → ∃ a, CellsT W (e a) cs ∧ Q a

theorem cells_one {w : World} {av : AV} {v : Value} (h1 : v.oneCell' = true) {G : Gh} (h : CellT w av v G) : CellsT w [av] [v] :=
  ⟨rfl, fun c av' v' e1 e2 => by
    cases c with
    | zero => simp only [List.getElem?_cons_zero, Option.some.injEq] at e1 e2; subst e1; subst e2; exact ⟨h1, G, h⟩
    | succ c => simp at e1⟩

theorem opv_int {P : Program} {t : TypeId} {k : IntKind} (hu : P.underlying t = some (.int k)) : OpV P t (fun n : Int => [.i k n]) (fun n => (Lit.int k n).wf = true) := by
  intro H enc W fuel cs x h
  obtain ⟨n, rfl, _, hw⟩ := DataW.trod_int hu h
  exact ⟨n, cells_one rfl (G := fun _ => none) (by simp [CellT, CellR]), hw⟩
def I64 (n : Int) : Prop := -9223372036854775808 ≤ n ∧ n ≤ 9223372036854775807
theorem opv_i64 {P : Program} {t : TypeId} (hu : P.underlying t = some (.int .i64)) : OpV P t eI I64 := by
  intro H enc W fuel cs x h
  obtain ⟨n, hn, hw⟩ := opv_int hu enc W fuel cs x h
  refine ⟨n, hn, ?_⟩
  simp [Lit.wf, IntKind.min, IntKind.max, IntKind.bits, IntKind.signed] at hw
  unfold I64
  omega
theorem opv_u8 {P : Program} {t : TypeId} (hu : P.underlying t = some (.int .u8)) : OpV P t e8 (fun n => (Lit.int .u8 n).wf = true) := opv_int hu
theorem opv_bool {P : Program} {t : TypeId} (hu : P.underlying t = some .bool) : OpV P t eB (fun _ => True) := by
  intro H enc W fuel cs x h
  obtain ⟨n, rfl, _⟩ := DataW.trod_bool hu h
  exact ⟨n, cells_one rfl (G := fun _ => none) (by simp [CellT, CellR]), trivial⟩
theorem opv_string {P : Program} {t : TypeId} (hu : P.underlying t = some .string) : OpV P t eS (fun s => s.size ≤ maxLen) := by
  intro H enc W fuel cs x h
  obtain ⟨s, rfl, _, hs⟩ := DataW.trod_string hu h
  exact ⟨s, cells_one rfl (G := fun _ => none) (by simp [CellT, CellR]), hs⟩

theorem forall_list {α : Type} {n : Nat} {p : Nat → α → Prop} (h : ∀ i, i < n → ∃ x, p i x) : ∃ l : List α, l.length = n ∧ ∀ (i : Nat) x, l[i]? = some x → p i x := by
  induction n with
  | zero => exact ⟨[], rfl, fun i x hx => by simp at hx⟩
  | succ n ih =>
    obtain ⟨l, hl, hp⟩ := ih (fun i hi => h i (Nat.lt_succ_of_lt hi))
    obtain ⟨x, hx⟩ := h n (Nat.lt_succ_self n)
    refine ⟨l ++ [x], by simp [hl], fun i y hy => ?_⟩
    rcases Nat.lt_or_ge i n with hi | hi
    · rw [List.getElem?_append_left (by omega)] at hy
      exact hp i y hy
    · rw [List.getElem?_append_right (by omega)] at hy
      have hi' : i = n := by
        rcases Nat.lt_or_ge n i with h1 | h1
        · rw [List.getElem?_eq_none (by simp; omega)] at hy
          cases hy
        · omega
      subst hi'
      rw [hl, Nat.sub_self] at hy
      simp at hy
      subst hy
      exact hx

theorem opv_slice {P : Program} {t e : TypeId} {α : Type} {en : α → List AV} {Q : α → Prop} {sz : Nat} (hu : P.underlying t = some (.slice e)) (hc : P.cellsOf e = sz) (hz : 0 < sz) (hl : ∀ a, (en a).length = sz) (he : OpV P e en Q) :
    OpV P t (eL sz true en) (fun xs => xs.length ≤ maxLen ∧ ∀ x ∈ xs, Q x) := by
  intro H enc W fuel cs x h
  rcases Go.Deep.open_slice hu h with ⟨rfl, _⟩ | ⟨a, len, cap, m, n, D, Pl, rfl, _, hlc, hm, hmm, _, hx⟩
  · refine ⟨[], cells_one rfl (G := fun _ => none) ?_, Nat.zero_le _, fun x hx => by cases hx⟩
    exact ⟨⟨rfl, none, rfl⟩, TreeR.mk' ⟨fun i el he => by simp at he, rfl⟩ (fun i c p bo sz' zs hc => by simp [cellAt] at hc)⟩
  · have hmm' : m = cap := by simpa using hmm
    subst hmm'
    rw [hc] at hx
    have hx' : ∀ i, i < m → ∃ cs', W.cells? 0 (a.add (i * sz)) sz = some cs' ∧ ∃ y, CellsT W (en y) cs' ∧ Q y := fun i hi => by
      obtain ⟨cs', h1, h2⟩ := hx i hi
      obtain ⟨y, h3, h4⟩ := he enc W n cs' _ h2
      exact ⟨cs', h1, y, h3, h4⟩
    let cs : Nat → List Value := fun i => if h : i < m then Classical.choose (hx' i h) else []
    have hcs : ∀ i, i < m → W.cells? 0 (a.add (i * sz)) sz = some (cs i) ∧ ∃ y, CellsT W (en y) (cs i) ∧ Q y := fun i h => by
      have := Classical.choose_spec (hx' i h)
      simp only [cs, dif_pos h]; exact this
    obtain ⟨l, hll, hp⟩ := forall_list (n := len) (p := fun i (y : α) => CellsT W (en y) (cs i) ∧ Q y) (fun i hi => (hcs i (by omega)).2)
    have hml : len ≤ maxLen := Nat.le_trans hlc hm
    refine ⟨l, ?_, by omega, fun x hx => ?_⟩
    · rcases Nat.eq_zero_or_pos m with h0 | h0
      · subst h0
        have : l = [] := List.length_eq_zero_iff.1 (by omega)
        subst this
        have : len = 0 := by omega
        subst this
        refine cells_one rfl (G := fun _ => none) ?_
        exact ⟨⟨rfl, some a, rfl⟩, TreeR.mk' ⟨fun i el he => by simp at he, rfl⟩ (fun i c p bo sz' zs hc => by simp [cellAt] at hc)⟩
      · -- the block
        have at' : ∀ i, i < m → ∀ c, c < sz → W.cell? ((a.add (i * sz)).add c) = (cs i)[c]? ∧ c < (cs i).length := fun i hi c hcz => by
          obtain ⟨_, h2, h3⟩ := World.cells?_some (hcs i hi).1
          exact ⟨h3 c hcz, by omega⟩
        obtain ⟨v0, hv0⟩ : ∃ v, W.cell? a = some v := by
          have h := at' 0 h0 0 hz
          have e0 : (a.add (0 * sz)).add 0 = a := by simp [Addr.add]
          rw [e0, List.getElem?_eq_getElem h.2] at h
          exact ⟨_, h.1⟩
        obtain ⟨b, o, spot⟩ := a
        have hsp : spot = none ∧ ∃ cur e fr, W.heap[b]? = some (.cells cur e fr) := by
          unfold World.cell? at hv0
          split at hv0
          · rename_i c e fr hh
            split at hv0
            · cases hv0
            · rename_i hs
              refine ⟨by cases spot with | none => rfl | some _ => simp at hs, c, e, fr, hh⟩
          · cases hv0
        obtain ⟨rfl, cur, ty, fr, hW⟩ := hsp
        have cell : ∀ k v, W.cell? ⟨b, k, none⟩ = some v → cur[k]? = some v := fun k v h => by
          unfold World.cell? at h
          simp only [hW] at h
          simpa using h
        have hcur : ∀ i, i < m → ∀ (c : Nat) v, (cs i)[c]? = some v → cur[o + i * sz + c]? = some v := fun i hi c v h => by
          have hcl : c < sz := by
            obtain ⟨_, h2, _⟩ := World.cells?_some (hcs i hi).1
            have := (List.getElem?_eq_some_iff.1 h).1
            omega
          have h1 := (at' i hi c hcl).1
          rw [h, Go.Deep.add_add] at h1
          refine cell _ v ?_
          rw [← h1]
          congr 1
          unfold Addr.add
          split
          · rename_i h9; rw [show o + i * sz + c = o by omega]
          · simp only [Addr.mk.injEq, and_true, true_and]; omega
        have hbig : Big W b (o + m * sz, false) := by
          refine ⟨cur, ty, fr, hW, ?_, fun h => by cases h⟩
          obtain ⟨k, rfl⟩ : ∃ k, m = k + 1 := ⟨m - 1, by omega⟩
          have h1 := at' k (by omega) (sz - 1) (by omega)
          have h2 := hcur k (by omega) (sz - 1) _ (List.getElem?_eq_getElem h1.2)
          have h3 := (Array.getElem?_eq_some_iff.1 h2).1
          rw [Nat.succ_mul]; omega
        have hsz : ∀ (i : Nat) el, (l.map en)[i]? = some el → el.length = sz := fun i el h => by
          rw [List.getElem?_map] at h
          cases h2 : l[i]? with
          | none => rw [h2] at h; cases h
          | some y => rw [h2] at h; simp only [Option.map_some, Option.some.injEq] at h; rw [← h]; exact hl y
        obtain ⟨G, hG, hT⟩ := tree_of (w := W) (sz := sz) (b := b) (o := o) (n := len) (xs := l.map en) (cs := cs) (by simp [hll]) hsz (fun i el h => by
          rw [List.getElem?_map] at h
          cases h2 : l[i]? with
          | none => rw [h2] at h; cases h
          | some y => rw [h2] at h; simp only [Option.map_some, Option.some.injEq] at h; rw [← h]; exact (hp i y h2).1) (cur := cur) ⟨ty, fr, hW, fun h => by cases h⟩ (fun i hi => hcur i (by omega))
        refine cells_one rfl (G := G) ⟨?_, hT⟩
        rw [hG]
        exact ⟨m, by rw [List.length_map, hll], by rw [List.length_map, hll]; exact hlc, hbig⟩
    · obtain ⟨i, hi⟩ := List.getElem?_of_mem hx
      exact (hp i x hi).2

/-- The fields of a struct from cell o on. -/
def OpVs (P : Program) (fs : List Field) (o n : Nat) {α : Type} (e : α → List AV) (Q : α → Prop) : Prop :=
  ∀ {H : Type} (enc : TypeId × Value → H) (W : World) (fuel : Nat) (cs : List Value), cs.length = n →
    (∀ (i : Nat) (f : Field), fs[i]? = some f → ∃ y, DataW.trod enc P W 0 (fun _ => true) true fuel f.type ((cs.drop (f.offset - o)).take (P.cellsOf f.type)) = some y) → ∃ a, CellsT W (e a) cs ∧ Q a
theorem opvs_one {P : Program} {f : Field} {o n : Nat} {α : Type} {e : α → List AV} {Q : α → Prop} (ho : f.offset = o) (hc : P.cellsOf f.type = n) (h : OpV P f.type e Q) : OpVs P [f] o n e Q := by
  intro H enc W fuel cs hl hf
  obtain ⟨y, hy⟩ := hf 0 f rfl
  rw [ho, Nat.sub_self, List.drop_zero, hc, List.take_of_length_le (by omega)] at hy
  exact h enc W fuel cs y hy
theorem opvs_cons {P : Program} {f : Field} {fs : List Field} {o n k : Nat} {α β : Type} {e : α → List AV} {Q : α → Prop} {e' : β → List AV} {Q' : β → Prop} (ho : f.offset = o) (hc : P.cellsOf f.type = n) (h : OpV P f.type e Q)
    (hs : fs.all (fun g => decide (o + n ≤ g.offset)) = true) (h' : OpVs P fs (o + n) k e' Q') : OpVs P (f :: fs) o (n + k) (fun x : α × β => e x.1 ++ e' x.2) (fun x => Q x.1 ∧ Q' x.2) := by
  intro H enc W fuel cs hl hf
  obtain ⟨y, hy⟩ := hf 0 f rfl
  rw [ho, Nat.sub_self, List.drop_zero, hc] at hy
  obtain ⟨a, ha, hq⟩ := h enc W fuel _ y hy
  obtain ⟨b, hb, hq'⟩ := h' enc W fuel (cs.drop n) (by rw [List.length_drop]; omega) (fun i g hg => by
    obtain ⟨z, hz⟩ := hf (i + 1) g hg
    have hle : o + n ≤ g.offset := of_decide_eq_true (List.all_eq_true.1 hs g (List.mem_of_getElem? hg))
    refine ⟨z, ?_⟩
    rw [List.drop_drop, show n + (g.offset - (o + n)) = g.offset - o by omega]
    exact hz)
  refine ⟨(a, b), ?_, hq, hq'⟩
  have := ha.append hb
  rwa [List.take_append_drop] at this
theorem opv_struct {P : Program} {t : TypeId} {fs : Array Field} {n : Nat} {α β : Type} {e : α → List AV} {Q : α → Prop} (g : α → β) (f : β → α) {e' : β → List AV} (hg : ∀ x, f (g x) = x) (he : ∀ x, e' x = e (f x)) (hu : P.underlying t = some (.struct fs)) (hc : P.cellsOf t = n)
    (h : OpVs P fs.toList 0 n e Q) : OpV P t e' (fun x => Q (f x)) := by
  intro H enc W fuel cs x hx
  obtain ⟨xs, k, _, _, hlen, hsz, hfs⟩ := DataW.trod_struct hu hx
  obtain ⟨a, ha, hq⟩ := h enc W k cs (by rw [hlen, hc]) (fun i fd hi => by
    have hi' : fs[i]? = some fd := by simpa using hi
    have hlt : i < xs.length := by
      rw [hsz]
      rcases Nat.lt_or_ge i fs.size with h3 | h3
      · exact h3
      · rw [Array.getElem?_eq_none h3] at hi'
        cases hi'
    have := hfs i fd hi'
    rw [List.getElem?_eq_getElem hlt] at this
    exact ⟨_, by rw [Nat.sub_zero]; exact this⟩)
  refine ⟨g a, ?_, ?_⟩
  · rw [he, hg]; exact ha
  · show Q (f (g a)); rw [hg]; exact hq

/-! ### Arguments -/
/-- What is handed over, and that nothing of it may be written. -/
def ArgV (w : World) (av : AV) (v : Value) : Prop := (∃ gs, HV w av v gs) ∧ (rtsVs [av]).all (fun R => !R.own) = true
theorem hc_of {w : World} {av : AV} {v : Value} {G : Gh} (h : CellT w av v G) (hb : ∀ p bo sz ys, av = .deep p bo sz ys → bo = true) : ∃ gs, HC w av v gs := by
  unfold CellT at h
  split at h
  · rename_i p bo sz ys
    obtain rfl := hb _ _ _ _ rfl
    exact ⟨[G], G, rfl, h.1, h.2⟩
  · exact h.elim
  · rename_i h1 h2
    refine ⟨[], ?_⟩
    unfold HC
    split
    · exact absurd rfl (h1 _ _ _ _)
    · exact absurd rfl h2
    · simp only [CellR] at h
    · exact ⟨rfl, h⟩
theorem hcs_of {w : World} : ∀ {avs : List AV} {cs : List Value}, CellsT w avs cs → (∀ av ∈ avs, ∀ p bo sz ys, av = .deep p bo sz ys → bo = true) → ∃ gs, HCs w avs cs gs
  | [], cs, h, _ => by
    have : cs = [] := List.length_eq_zero_iff.1 h.1.symm
    subst this
    exact ⟨[], rfl, rfl⟩
  | av :: avs, cs, h, hb => by
    cases cs with
    | nil => simp [CellsT] at h
    | cons v cs =>
      obtain ⟨_, G, hG⟩ := h.2 0 av v rfl rfl
      obtain ⟨g1, h1⟩ := hc_of hG (hb av (List.mem_cons_self ..))
      obtain ⟨g2, h2⟩ := hcs_of (avs := avs) (cs := cs) ⟨by have := h.1; simpa using this, fun c a u e1 e2 => h.2 (c + 1) a u e1 e2⟩ (fun a ha => hb a (List.mem_cons_of_mem _ ha))
      exact ⟨g1 ++ g2, v, cs, g1, g2, rfl, rfl, h1, h2⟩

theorem argv_slice {P : Program} {t : TypeId} {α : Type} {en : α → List AV} {sz : Nat} {Q : List α → Prop} (h : OpV P t (eL sz true en) Q) {H : Type} {enc : TypeId × Value → H} {W : World} {v : Value} {x : DataW H} {ps : List MemPlace} {e : TypeId} (hu : P.underlying t = some (.slice e)) {r : Reach} {b0 : Nat}
    (hv : Value.okWide P W r b0 t v) (hf : DataW.Trod enc P W 0 (fun _ => true) true t v x ps) : ∃ l : List α, (∃ gs, HV W (.deep false true sz (l.map en)) v gs) ∧ Q l := by
  obtain ⟨a, len, cap, rfl⟩ := Go.WideShapes.okWide_slice hu hv
  obtain ⟨fuel, hf⟩ := hf
  obtain ⟨l, hC, hq⟩ := h enc W fuel _ _ hf
  obtain ⟨_, G, hG⟩ := hC.2 0 _ _ rfl rfl
  exact ⟨l, hc_of hG (fun _ _ _ _ e => by injection e with _ e; exact e.symm), hq⟩
theorem argv_int {P : Program} {t : TypeId} {H : Type} {enc : TypeId × Value → H} {W : World} {v : Value} {x : DataW H} {ps : List MemPlace} (hu : P.underlying t = some (.int .i64)) {r : Reach} {b0 : Nat}
    (hv : Value.okWide P W r b0 t v) (hf : DataW.Trod enc P W 0 (fun _ => true) true t v x ps) : ∃ n : Int, (∃ gs, HV W (.i .i64 n) v gs) ∧ I64 n := by
  obtain ⟨n, rfl⟩ := Go.WideShapes.okWide_int hu hv
  obtain ⟨fuel, hf⟩ := hf
  obtain ⟨n', hC, hq⟩ := opv_i64 hu enc W fuel _ _ hf
  obtain ⟨_, G, hG⟩ := hC.2 0 _ _ rfl rfl
  refine ⟨n', hc_of hG (fun _ _ _ _ e => by cases e), hq⟩
theorem argv_struct {P : Program} {t : TypeId} {fs : Array Field} {α : Type} {e : α → List AV} {Q : α → Prop} (hu : P.underlying t = some (.struct fs)) (h : OpV P t e Q) (hb : ∀ a, ∀ av ∈ e a, ∀ p bo sz ys, av = .deep p bo sz ys → bo = true) {H : Type} {enc : TypeId × Value → H} {W : World} {r : Reach} {b0 : Nat} {v : Value}
    {x : DataW H} {ps : List MemPlace} (hv : Value.okWide P W r b0 t v) (hf : DataW.Trod enc P W 0 (fun _ => true) true t v x ps) : ∃ a : α, (∃ gs, HV W (.agg (e a)) v gs) ∧ Q a := by
  obtain ⟨cs, rfl, _⟩ := Go.WideShapes.okWide_struct hu hv
  obtain ⟨fuel, hf⟩ := hf
  obtain ⟨a, hC, hq⟩ := h enc W fuel _ _ hf
  obtain ⟨gs, hg⟩ := hcs_of hC (hb a)
  exact ⟨a, ⟨gs, cs, rfl, by simpa [Value.cells] using hg⟩, hq⟩

theorem hvs_nil {w : World} : HVs w [] [] [] := ⟨rfl, rfl⟩
theorem hvs_cons {w : World} {av : AV} {v : Value} {g : List Gh} {avs : List AV} {vs : List Value} {gs : List Gh} (h : HV w av v g) (h' : HVs w avs vs gs) : HVs w (av :: avs) (v :: vs) (g ++ gs) := ⟨v, vs, g, gs, rfl, rfl, h, h'⟩

/-- A call of a law, as the evaluator tells it. -/
theorem law_calls {P : Program} {f : Nat} {ds : List AV} {r : Bool} {bs : List (Option Els)} (h : Ctr P f ds ([.b r], bs)) (hro : (rtsVs ds).all (fun R => !R.own) = true) {W : World} {args : List Value} {gs : List Gh} (hv : HVs W ds args gs) :
    Calls P f args.toArray W fun e w' => e = .returned (.bool r) ∧ Go.RowKit.Below W.heap.size W w' := by
  have hno : ∀ k ρ b, ¬ KOf (rtsVs ds) gs false k ρ b := fun k ρ b ⟨R, G, e1, e2, e3⟩ => by
    have := List.all_eq_true.1 hro R (List.mem_of_getElem? e1)
    obtain ⟨s, ys, o, h1, h2⟩ := e3
    have hr : R.own = false := by simpa using this
    rw [hr] at h1
    have := arrAt_ro ρ h1
    cases this
  have hrg := (enterVs_ok hv 0).1
  refine (h W (fun b => b < W.heap.size) args gs (fun b hb => hb) hv (fun k ρ b ⟨R, G, e1, e2, e3⟩ => ?_) (fun k ρ b hk => absurd hk (hno k ρ b)) (fun k ρ k' ρ' b hk => absurd hk (hno k ρ b))).mono ?_
  · obtain ⟨s, ys, o, h1, h2⟩ := e3
    rw [enterVs_rts ds 0] at hrg
    obtain ⟨G', e2', ht⟩ := hrg.2 k R e1
    rw [e2] at e2'; injection e2' with e2'; subst e2'
    have h3 := (ht ρ s _ ys h1).2
    have h4 : (G.from' ρ) [] = some (b, o) := by simpa [Gh.from'] using h2
    rw [h4] at h3
    obtain ⟨cur, ⟨ty, fr, h5, _⟩, _⟩ := h3
    rcases Nat.lt_or_ge b W.heap.size with h | h
    · exact h
    · rw [Array.getElem?_eq_none h] at h5; cases h5
  · rintro e w' ⟨v, vs, gs', gb, rfl, hp⟩
    have hres := hp.res
    obtain ⟨v1, vs1, g1, g2, e1, e2, h1, h2⟩ := hres
    obtain ⟨e3, e4⟩ := h2
    subst e3
    have hv1 : v1 = .bool r := by
      have : HC w' (.b r) v1 g1 := h1
      have := this.2
      simpa [CellR] using this
    refine ⟨by rw [hp.val, e1, hv1]; rfl, hp.os, hp.tape, hp.output, hp.size, fun k hk => hp.block k hk fun k' ρ hk' => hno _ _ _ hk'⟩
end Go.Proofs.Ytinlbiphjgpmmaa.V
end YtinlbiphjgpmmaaWO
section YtinlbiphjgpmmaaWM
namespace Go.Proofs.Ytinlbiphjgpmmaa.V
open Go
set_option linter.unusedVariables false
set_option linter.unusedSimpArgs false

/-! ### A store at a path -/
def stP (k r j d i c : Nat) (vs : List AV) (asx : List Nat) (a : Option (Nat × Bool × Els)) (R : Option Root) (rs : Rs) : Option (AV × Rs) := match R, a with
  | some R, some (_, false, ys) => stQ k r j d i c vs asx R ys[i]? rs
  | _, _ => none
where stQ (k r j d i c : Nat) (vs : List AV) (asx : List Nat) (R : Root) (el : Option (List AV)) (rs : Rs) : Option (AV × Rs) := match el with
  | some el => if (vs.length == k && decide (c + k ≤ el.length) && !asx.contains r && decide asx.Nodup) = true then some (.undef, up' (kill rs asx) r (some { R with pv := if anyDeep vs then R.pv + 1 else R.pv, xs := modArr R.xs [(j, d)] fun ys => setEl ys i c vs })) else none
  | none => none
theorem sto_p {rs : Rs} {k r j d pv i c : Nat} {vs : List AV} {asx : List Nat} : fSto k (.ptr r [(j, d)] pv i c) (some (vs, asx)) rs = stP k r j d i c vs asx (lkA [(j, d)] pv (rs r)) (rs r) rs := by
  simp only [fSto, look_lkA, stP]
  cases rs r with
  | none => rfl
  | some R =>
    simp only [Option.bind_some]
    cases lkA [(j, d)] pv (some R) with
    | none => rfl
    | some a =>
      obtain ⟨s, ro, ys⟩ := a
      cases ro
      · simp only [Option.map_some, Option.bind_some, stP.stQ]
        cases ys[i]? with
        | none => rfl
        | some el =>
          simp only [Option.bind_some]
          congr 1
          simp [and_assoc, List.contains_iff_mem]
      · simp only [Option.map_some, Option.bind_some, Bool.true_eq_false, false_and, ↓reduceIte]
        cases ys[i]? <;> rfl
theorem stP_o {rs : Rs} {k r j d i c sz : Nat} {vs : List AV} {asx : List Nat} {R : Root} {ys : Els} : stP k r j d i c vs asx (some (sz, false, ys)) (some R) rs = stP.stQ k r j d i c vs asx R ys[i]? rs := (rfl)
/-- The cell of a row within is set. -/
def mdC (xs : Els) (j d : Nat) (g : Els → Els) (cell : Option AV) : Els := match cell with
  | some (.deep p bo sz ys) => setEl xs j d [.deep p bo sz (g ys)]
  | _ => xs
theorem stQ_n {k r j d i c sz pv : Nat} {vs : List AV} {asx : List Nat} {xs : Els} {el : List AV} {l : List (Nat × Option Root)} (h : (vs.length == k && decide (c + k ≤ el.length) && !asx.contains r && decide asx.Nodup) = true) (hd : anyDeep vs = false) :
    stP.stQ k r j d i c vs asx ⟨true, sz, pv, xs⟩ (some el) (rsL l) = some (.undef, up' (kill (rsL l) asx) r (some ⟨true, sz, pv, mdC xs j d (fun ys => setEl ys i c vs) (cellAt xs j d)⟩)) := by
  simp only [stP.stQ, h, hd, ↓reduceIte, Bool.false_eq_true]; rfl
theorem stQ_d {k r j d i c sz pv : Nat} {vs : List AV} {asx : List Nat} {xs : Els} {el : List AV} {l : List (Nat × Option Root)} (h : (vs.length == k && decide (c + k ≤ el.length) && !asx.contains r && decide asx.Nodup) = true) (hd : anyDeep vs = true) :
    stP.stQ k r j d i c vs asx ⟨true, sz, pv, xs⟩ (some el) (rsL l) = some (.undef, up' (kill (rsL l) asx) r (some ⟨true, sz, pv + 1, mdC xs j d (fun ys => setEl ys i c vs) (cellAt xs j d)⟩)) := by
  simp only [stP.stQ, h, hd, ↓reduceIte]; rfl
theorem mdC_d {xs : Els} {j d : Nat} {g : Els → Els} {p bo : Bool} {sz : Nat} {ys : Els} : mdC xs j d g (some (.deep p bo sz ys)) = setEl xs j d [.deep p bo sz (g ys)] := (rfl)

/-! ### Calls: own arguments at their places -/
/-- An array without the row in a cell of it. -/
def hol (xs : Els) (i c : Nat) : Els := setEl xs i c [.undef]
def hcU (xs : Els) (i c : Nat) (cell : Option AV) : Option AV := match cell with
  | some _ => some .undef
  | none => cellAt (setEl xs i c [.undef]) i c
theorem hol_cell {xs : Els} {i c : Nat} : cellAt (hol xs i c) i c = hcU xs i c (cellAt xs i c) := by
  cases e : cellAt xs i c with
  | none => rfl
  | some v =>
    obtain ⟨el, h1, h2⟩ := cellAt_some e
    have hc : c < el.length := (List.getElem?_eq_some_iff.1 h2).1
    simp only [hol, hcU]
    rw [setEl_cell h1 (by simp; omega), if_pos ⟨rfl, Nat.le_refl _, by simp⟩]
    simp
theorem hcU_s {xs : Els} {i c : Nat} {v : AV} : hcU xs i c (some v) = some .undef := (rfl)
def hsE (xs : Els) (i c : Nat) (v : AV) (cell : Option AV) : Els := match cell with
  | some _ => setEl xs i c [v]
  | none => setEl (hol xs i c) i c [v]
theorem hol_set {xs : Els} {i c : Nat} {v : AV} : setEl (hol xs i c) i c [v] = hsE xs i c v (cellAt xs i c) := by
  cases e : cellAt xs i c with
  | none => rfl
  | some w =>
    obtain ⟨el, h1, h2⟩ := cellAt_some e
    have hc : c < el.length := (List.getElem?_eq_some_iff.1 h2).1
    have hi : i < xs.length := (List.getElem?_eq_some_iff.1 h1).1
    simp only [hsE, hol]
    have e1 : (setEl xs i c [.undef])[i]? = some (el.take c ++ [AV.undef] ++ el.drop (c + 1)) := by rw [setEl_at h1, if_pos rfl]; rfl
    have hl : (el.take c).length = c := by simp; omega
    have gen : ∀ a b : List AV, a.length = c → (a ++ [AV.undef] ++ b).take c ++ [v] ++ (a ++ [AV.undef] ++ b).drop (c + 1) = a ++ [v] ++ b := fun a b ha => by
      have h1 : (a ++ [AV.undef] ++ b).take c = a := by rw [List.append_assoc]; exact List.take_left' ha
      have h2 : (a ++ [AV.undef] ++ b).drop (c + 1) = b := List.drop_left' (by simp [ha])
      rw [h1, h2]
    simp only [setEl, h1, List.getElem?_set_self hi, List.set_set, List.length_cons, List.length_nil]
    congr 1
    exact gen _ _ hl
theorem hsE_s {xs : Els} {i c : Nat} {v w : AV} : hsE xs i c v (some w) = setEl xs i c [v] := (rfl)
theorem hol_0 {el : List AV} {l : Els} {c : Nat} : hol (el :: l) 0 c = (el.take c ++ [.undef] ++ el.drop (c + 1)) :: l := (rfl)

def gQ (n r i c sz off len pv : Nat) (cell : Option AV) (R : Option Root) (rs : Rs) : Option (AV × Rs × List Pl) := match R, cell with
  | some ⟨true, s', p, xs⟩, some (.deep q false s ys) => if pv = p then some (.slc n [] 0 sz off len, up' (up' rs r (some ⟨true, s', p, hol xs i c⟩)) n (some ⟨true, s, 0, ys⟩), if q then [] else [⟨r, i, c, n⟩]) else some (.slc r [(i, c)] pv sz off len, rs, [])
  | _, _ => some (.slc r [(i, c)] pv sz off len, rs, [])
theorem sV_p {rs : Rs} {n r i c pv sz off len : Nat} : splitV n rs (.slc r [(i, c)] pv sz off len) = gQ n r i c sz off len pv ((rs r).bind fun R => cellAt R.xs i c) (rs r) rs := by
  simp only [splitV, splitC, unsnoc, gQ, look]
  cases e : rs r with
  | none => rfl
  | some R =>
    obtain ⟨o, s', p, xs⟩ := R
    simp only [Option.bind_some, Root.arr]
    by_cases hp : pv = p
    · subst hp
      simp only [↓reduceIte, arrAt]
      cases e2 : cellAt xs i c with
      | none => cases o <;> rfl
      | some v => 
        cases v with
        | deep q bo s ys => cases o <;> cases bo <;> cases q <;> simp [isDF, hol, dropAt, modArr, e2]
        | _ => cases o <;> rfl
    · simp only [hp, ↓reduceIte]
      cases o <;> cases cellAt xs i c <;> try rfl
      rename_i v
      cases v <;> try rfl
      rename_i q bo s ys
      cases bo
      · simp only [Option.map_none, hp, ↓reduceIte]
      · rfl
theorem gQ_o {n r i c sz off len pv s s' : Nat} {xs ys : Els} {m : List (Nat × Option Root)} : gQ n r i c sz off len pv (some (.deep false false s ys)) (some ⟨true, s', pv, xs⟩) (rsL m) = some (.slc n [] 0 sz off len, rsL ((n, some ⟨true, s, 0, ys⟩) :: (r, some ⟨true, s', pv, hol xs i c⟩) :: m), [⟨r, i, c, n⟩]) := by
  simp only [gQ, ↓reduceIte, Bool.false_eq_true, rs_up]
theorem gQ_b {rs : Rs} {n r i c sz off len pv s : Nat} {p : Bool} {R : Option Root} {ys : Els} : gQ n r i c sz off len pv (some (.deep p true s ys)) R rs = some (.slc r [(i, c)] pv sz off len, rs, []) := by
  cases R with
  | none => rfl
  | some R => obtain ⟨o, s', q, xs⟩ := R; cases o <;> rfl
theorem gQ_f {rs : Rs} {n r i c sz off len pv s' q : Nat} {cell : Option AV} {xs : Els} : gQ n r i c sz off len pv cell (some ⟨false, s', q, xs⟩) rs = some (.slc r [(i, c)] pv sz off len, rs, []) := by
  cases cell with
  | none => rfl
  | some v => cases v <;> rfl
theorem sV_r {rs : Rs} {n r pv sz off len : Nat} : splitV n rs (.slc r [] pv sz off len) = some (.slc r [] pv sz off len, rs, []) := (rfl)
theorem sV_n {rs : Rs} {n k : Nat} : splitV n rs (.nl k) = some (.nl k, rs, []) := (rfl)
theorem sV_q {rs : Rs} {n r pv i c : Nat} {q : Path} : splitV n rs (.ptr r q pv i c) = some (.ptr r q pv i c, rs, []) := (rfl)
def sA (a : List AV × Rs × List Pl) : Option (AV × Rs × List Pl) := some (.agg a.1, a.2)
theorem sA_c {cs : List AV} {a : Rs × List Pl} : sA (cs, a) = some (.agg cs, a) := (rfl)
theorem sV_a {rs : Rs} {n : Nat} {cs : List AV} (h : decide (cs.length ≤ 16) = true) : splitV n rs (.agg cs) = sA (splitCs n rs cs) := by
  have h' : cs.length ≤ 16 := by simpa using h
  simp only [splitV, if_pos h', sA]
def gcons (v : AV) (a : List AV × Rs × List Pl) : List AV × Rs × List Pl := (v :: a.1, a.2)
theorem gcons_c {v : AV} {cs : List AV} {a : Rs × List Pl} : gcons v (cs, a) = (v :: cs, a) := (rfl)
theorem sC_nil {rs : Rs} {n : Nat} : splitCs n rs [] = ([], rs, []) := (rfl)
theorem sC_b {rs : Rs} {n : Nat} {x : Bool} {cs : List AV} : splitCs n rs (.b x :: cs) = gcons (.b x) (splitCs (n + 1) rs cs) := (rfl)
theorem sC_i {rs : Rs} {n : Nat} {k : IntKind} {x : Int} {cs : List AV} : splitCs n rs (.i k x :: cs) = gcons (.i k x) (splitCs (n + 1) rs cs) := (rfl)
theorem sC_s {rs : Rs} {n : Nat} {x : ByteArray} {cs : List AV} : splitCs n rs (.s x :: cs) = gcons (.s x) (splitCs (n + 1) rs cs) := (rfl)
theorem sC_n {rs : Rs} {n k : Nat} {cs : List AV} : splitCs n rs (.nl k :: cs) = gcons (.nl k) (splitCs (n + 1) rs cs) := (rfl)
theorem sC_r {rs : Rs} {n r pv sz off len : Nat} {cs : List AV} : splitCs n rs (.slc r [] pv sz off len :: cs) = gcons (.slc r [] pv sz off len) (splitCs (n + 1) rs cs) := (rfl)

def BG (d : Option Nat) (tm : Tm) (rs0 : Rs) (pl : List Pl) (r : Option (AV × Rs)) (k : Tm × Rs → Option (Tm × Rs)) : Option (Tm × Rs) := r.bind fun p => B0 d tm (some (p.1, regrafts rs0 p.2 pl)) k
theorem BG_c {d : Option Nat} {tm : Tm} {rs0 rs : Rs} {pl : List Pl} {v : AV} {k : Tm × Rs → Option (Tm × Rs)} : BG d tm rs0 pl (some (v, rs)) k = B0 d tm (some (v, regrafts rs0 rs pl)) k := (rfl)
def Zg (call : CallF) (n : Nat) (d : Option Nat) (t : Nat) (i : I) (a : Option (AV × Rs × List Pl)) (tm : Tm) (k : Tm × Rs → Option (Tm × Rs)) : Option (Tm × Rs) := match a with
  | some a => BG d (up' tm t a.1) a.2.1 a.2.2 (evI call n (up' tm t a.1) a.2.1 i) k
  | none => none
theorem ops_sc {call : CallF} {n t : Nat} {d : Option Nat} {i : I} {os : List Op'} {l : List (Nat × AV)} {rs : Rs} (h : i.isCall = true) : evOps call n (oz d none [t] i :: os) (tmOf l, rs) = Zg call n d t i (splitV (n + 16) rs (tmOf l t)) (tmOf l) (evOps call (n + 80) os) := by
  simp only [evOps, oz, evOp, wants, Option.bind_some, ↓reduceIte, List.length_cons, List.length_nil, splitTs, h, Nat.zero_add, show (1 ≤ 4) = True from eq_true (by decide), Bool.false_eq_true]
  cases splitV (n + 16) rs (tmOf l t) with
  | none => rfl
  | some a =>
    simp only [Option.bind_some, Option.map_some, Zg, BG, B0, List.append_nil]
    cases evI call n (up' (tmOf l) t a.1) a.2.1 i <;> rfl
theorem Zg_c {call : CallF} {n t : Nat} {d : Option Nat} {i : I} {v : AV} {pl : List Pl} {m : List (Nat × Option Root)} {l : List (Nat × AV)} {k : Tm × Rs → Option (Tm × Rs)} : Zg call n d t i (some (v, rsL m, pl)) (tmOf l) k = BG d (tmOf ((t, v) :: l)) (rsL m) pl (evI call n (tmOf ((t, v) :: l)) (rsL m) i) k := (rfl)
theorem ic_call {f : Nat} {ms : List Bool} {xs : List X} : I.isCall (.call f ms xs) = true := (rfl)
theorem ic_callv {g : X} {ms : List Bool} {xs : List X} : I.isCall (.callv g ms xs) = true := (rfl)
/-- One row goes back. -/
def rgS (r i c n : Nat) (R0 R Ri : Option Root) (rs : Rs) : Rs := match R0, R, Ri with
  | some R0, some R, some Ri => if (R0.pv == R.pv) = true then rgC r i c n R Ri (cellAt R.xs i c) rs else rs
  | _, _, _ => rs
where rgC (r i c n : Nat) (R Ri : Root) (cell : Option AV) (rs : Rs) : Rs := match cell with
  | some .undef => if R.own = true ∧ Ri.own = true ∧ r ≠ n then up' (kill rs [n]) r (some { R with pv := R.pv + 1, xs := setEl R.xs i c [.deep false false Ri.sz Ri.xs] }) else rs
  | _ => rs
theorem rg_1 {rs0 rs : Rs} {r i c n : Nat} : regrafts rs0 rs [⟨r, i, c, n⟩] = rgS r i c n (rs0 r) (rs r) (rs n) rs := by
  have h : regrafts rs0 rs [⟨r, i, c, n⟩] = if same rs0 rs ⟨r, i, c, n⟩ = true then regraft rs ⟨r, i, c, n⟩ else rs := by
    cases h : same rs0 rs ⟨r, i, c, n⟩ <;> simp [regrafts, h]
  rw [h]
  cases e0 : rs0 r with
  | none => simp [same, rgS, e0]
  | some R0 =>
    cases e : rs r with
    | none => simp [same, rgS, e0, e]
    | some R =>
      cases e2 : rs n with
      | none => simp [same, rgS, regraft, e0, e, e2]
      | some Ri => simp only [same, rgS, regraft, e0, e, e2]; rfl
theorem rgS_c {r i c n s s' s'' p p' : Nat} {o0 : Bool} {x0 xs ys : Els} {m : List (Nat × Option Root)} (h : decide (r ≠ n) = true) : rgS r i c n (some ⟨o0, s'', p, x0⟩) (some ⟨true, s', p, xs⟩) (some ⟨true, s, p', ys⟩) (rsL m) = rgS.rgC r i c n ⟨true, s', p, xs⟩ ⟨true, s, p', ys⟩ (cellAt xs i c) (rsL m) := by
  simp only [rgS, beq_self_eq_true, ↓reduceIte]
theorem rgC_c {r i c n s s' p p' : Nat} {xs ys : Els} {m : List (Nat × Option Root)} (h : decide (r ≠ n) = true) : rgS.rgC r i c n ⟨true, s', p, xs⟩ ⟨true, s, p', ys⟩ (some .undef) (rsL m) = rsL ((r, some ⟨true, s', p + 1, setEl xs i c [.deep false false s ys]⟩) :: (n, none) :: m) := by
  have h' : r ≠ n := by simpa using h
  simp only [rgS.rgC, h', ne_eq, not_false_eq_true, and_self, ↓reduceIte, kill_cons', kill_nil', rs_up]
theorem rgS_n {r i c n : Nat} {R0 R : Option Root} {rs : Rs} : rgS r i c n R0 R none rs = rs := by cases R0 <;> cases R <;> rfl
/-- The cells of a struct. -/
def gapp (v : AV) (pl : List Pl) (a : List AV × Rs × List Pl) : List AV × Rs × List Pl := (v :: a.1, a.2.1, pl ++ a.2.2)
theorem gapp_c {v : AV} {pl pl' : List Pl} {cs : List AV} {rs : Rs} : gapp v pl (cs, rs, pl') = (v :: cs, rs, pl ++ pl') := (rfl)
def gC (n : Nat) (a : Option (AV × Rs × List Pl)) (cs : List AV) : List AV × Rs × List Pl := match a with
  | some (v, rs, pl) => gapp v pl (splitCs (n + 1) rs cs)
  | none => ([], fun _ => none, [])
theorem gC_c {n : Nat} {v : AV} {rs : Rs} {pl : List Pl} {cs : List AV} : gC n (some (v, rs, pl)) cs = gapp v pl (splitCs (n + 1) rs cs) := (rfl)
theorem sC_p {rs : Rs} {n r i c pv sz off len : Nat} {cs : List AV} : splitCs n rs (.slc r [(i, c)] pv sz off len :: cs) = gC n (gQ n r i c sz off len pv ((rs r).bind fun R => cellAt R.xs i c) (rs r) rs) cs := by
  rw [← sV_p]; rfl
def smR (R0 R : Option Root) : Bool := match R0, R with
  | some R0, some R => R0.pv == R.pv
  | _, _ => false
theorem smR_c {o0 o : Bool} {s0 s p : Nat} {x0 xs : Els} : smR (some ⟨o0, s0, p, x0⟩) (some ⟨o, s, p, xs⟩) = true := by simp only [smR, beq_self_eq_true]
def rgT (a b : Bool) (p q : Pl) (rs : Rs) : Rs := if a = true then (if b = true then regraft (regraft rs p) q else regraft rs p) else (if b = true then regraft rs q else rs)
theorem rgT_c {p q : Pl} {rs : Rs} : rgT true true p q rs = regraft (regraft rs p) q := (rfl)
theorem rg_2 {rs0 rs : Rs} {r i c n r2 i2 c2 n2 : Nat} : regrafts rs0 rs [⟨r, i, c, n⟩, ⟨r2, i2, c2, n2⟩] = rgT (smR (rs0 r) (rs r)) (smR (rs0 r2) (rs r2)) ⟨r, i, c, n⟩ ⟨r2, i2, c2, n2⟩ rs := by
  have h1 : smR (rs0 r) (rs r) = same rs0 rs ⟨r, i, c, n⟩ := by simp only [smR, same]; cases rs0 r <;> cases rs r <;> rfl
  have h2 : smR (rs0 r2) (rs r2) = same rs0 rs ⟨r2, i2, c2, n2⟩ := by simp only [smR, same]; cases rs0 r2 <;> cases rs r2 <;> rfl
  rw [h1, h2]
  cases h : same rs0 rs ⟨r, i, c, n⟩ <;> cases h' : same rs0 rs ⟨r2, i2, c2, n2⟩ <;> simp [regrafts, rgT, h, h']
def rgR (r i c n : Nat) (R Ri : Option Root) (rs : Rs) : Rs := match R, Ri with
  | some R, some Ri => rgS.rgC r i c n R Ri (cellAt R.xs i c) rs
  | _, _ => rs
theorem rg_r {rs : Rs} {r i c n : Nat} : regraft rs ⟨r, i, c, n⟩ = rgR r i c n (rs r) (rs n) rs := by
  simp only [regraft, rgR]
  cases rs r with
  | none => rfl
  | some R => cases rs n <;> rfl
theorem rgR_c {r i c n : Nat} {R Ri : Root} {rs : Rs} : rgR r i c n (some R) (some Ri) rs = rgS.rgC r i c n R Ri (cellAt R.xs i c) rs := (rfl)
/-! ### Capacities of nil, zeros appended to nil -/
section
variable {call : CallF} {n : Nat} {tm : Tm} {rs : Rs}
def fCap (x : AV) (rs : Rs) : Option (AV × Rs) := match x with
    | .nl _ => some (.i .i64 0, rs)
    | .slc r q pv sz off len => if q = [] ∧ 0 < len then some (.cv 0 r off sz 0, rs) else none
    | _ => none
theorem i_cap {x : X} : evI call n tm rs (.cap x) = fCap (x.ev tm) rs := (rfl)
theorem cap_n {sz : Nat} : fCap (.nl sz) rs = some (.i .i64 0, rs) := (rfl)
theorem cap_c {r pv sz off len : Nat} (h : 0 < len) : fCap (.slc r [] pv sz off len) rs = some (.cv 0 r off sz 0, rs) := by simp [fCap, h]
def fAppZ (fresh by' : Nat) (zero : List AV) (k x y : AV) (rs : Rs) : Option (AV × Rs) := match y with
    | .i .i64 m => if 0 < m then match x with
      | .nl _ => if m.toNat * by' ≤ 140737488355328 then some (.slc fresh [] 0 zero.length 0 m.toNat, up' rs fresh (some ⟨true, zero.length, 0, List.replicate m.toNat zero⟩)) else none
      | .slc r1 q pv sz2 off1 len => match k with
        | .cv 3 r off sz1 n => if r = r1 ∧ q = [] ∧ sz1 = zero.length ∧ sz2 = zero.length ∧ off = off1 then (rs r).bind fun R =>
            if R.own = true ∧ anyDeeps (wnd R.xs off len) = false ∧ n ≤ len + m.toNat ∧ off < R.xs.length ∧ (len + m.toNat) * by' ≤ 140737488355328 then
              some (.slc fresh [] 0 zero.length 0 (len + m.toNat), up' rs fresh (some ⟨true, zero.length, 0, wnd R.xs off len ++ List.replicate m.toNat zero⟩)) else none
          else none
        | _ => none
      | _ => none
      else none
    | _ => none
theorem i_appZ {by' : Nat} {zero : List AV} {k x y : X} : evI call n tm rs (.appZ by' zero k x y) = fAppZ n by' zero (k.ev tm) (x.ev tm) (y.ev tm) rs := (rfl)
theorem appZ_n {fresh by' sz : Nat} {zero : List AV} {k : AV} {m : Int} {l : List (Nat × Option Root)} (h0 : 0 < m) (h1 : m.toNat * by' ≤ 140737488355328) :
    fAppZ fresh by' zero k (.nl sz) (.i .i64 m) (rsL l) = some (.slc fresh [] 0 zero.length 0 m.toNat, rsL ((fresh, some ⟨true, zero.length, 0, List.replicate m.toNat zero⟩) :: l)) := by
  simp only [fAppZ]; rw [if_pos h0, if_pos h1, rs_up]
theorem az_t {fresh by' sz : Nat} {α : Type} {e : α → List AV} {z : α} {zs : List AV} {k : AV} {m : Int} {l : List (Nat × Option Root)} (hz : e z = zs) (h0 : 0 < m) (h1 : m.toNat * by' ≤ 140737488355328) :
    fAppZ fresh by' zs k (.nl sz) (.i .i64 m) (rsL l) = some (.slc fresh [] 0 zs.length 0 (List.replicate m.toNat z).length, rsL ((fresh, some ⟨true, zs.length, 0, (List.replicate m.toNat z).map e⟩) :: l)) := by
  subst hz; rw [appZ_n h0 h1, List.length_replicate, List.map_replicate]
theorem slR_0 {sz : Nat} {h : Int} {k : IntKind} (h0 : h = 0) : fSlR sz (.nl sz) none (some (.i k h)) rs = some (.nl sz, rs) := by
  subst h0; simp [fSlR, fSlS.bndv]
theorem wnd_z {xs : Els} {off : Nat} : wnd xs off 0 = [] := by simp [wnd]
/-! ### Function values without what they capture -/
def fCv (call : CallF) (n : Nat) (rs : Rs) (g : AV) (ms : List Bool) (vs : List AV) : Option (AV × Rs) := match g with
  | .fn f caps => ac1 call n rs f (deepVs rs ms (vs ++ caps))
  | _ => none
theorem i_callv' {g : X} {ms : List Bool} {args : List X} : evI call n tm rs (.callv g ms args) = fCv call n rs (g.ev tm) ms (xsv tm args) := by
  rw [← xs_eq]
  simp only [evI, fCv]
  cases g.ev tm <;> rfl
theorem fCv_c {ms : List Bool} {vs : List AV} {f : Nat} : fCv call n rs (.fn f []) ms vs = ac1 call n rs f (deepVs rs ms vs) := by simp only [fCv, List.append_nil]
end
theorem RM : type_of% (And.intro @sto_p <| And.intro @stP_o <| And.intro @stQ_n <| And.intro @stQ_d <| And.intro @mdC_d <| And.intro @hol_cell <| And.intro @hcU_s <| And.intro @hol_set <| And.intro @hsE_s <| And.intro @hol_0 <| And.intro @sV_p <| And.intro @gQ_o <| And.intro @gQ_b <| And.intro @gQ_f <| And.intro @sV_r <| And.intro @sV_n <| And.intro @sV_q <| And.intro @sA_c <| And.intro @sV_a <| And.intro @gcons_c <| And.intro @sC_nil <| And.intro @sC_b <| And.intro @sC_i <| And.intro @sC_s <| And.intro @sC_n <| And.intro @sC_r <| And.intro @sC_p <| And.intro @gC_c <| And.intro @gapp_c <| And.intro @BG_c <| And.intro @ops_sc <| And.intro @Zg_c <| And.intro @ic_call <| And.intro @ic_callv <| And.intro @rg_1 <| And.intro @rgS_c <| And.intro @rgC_c <| And.intro @rgS_n <| And.intro @smR_c <| And.intro @rgT_c <| And.intro @rg_2 <| And.intro @rg_r <| And.intro @rgR_c <| And.intro @regrafts_nil <| And.intro @i_cap <| And.intro @cap_n <| And.intro @i_appZ <| And.intro @slR_0 <| And.intro @wnd_z <| And.intro @i_callv' @fCv_c) := And.intro @sto_p <| And.intro @stP_o <| And.intro @stQ_n <| And.intro @stQ_d <| And.intro @mdC_d <| And.intro @hol_cell <| And.intro @hcU_s <| And.intro @hol_set <| And.intro @hsE_s <| And.intro @hol_0 <| And.intro @sV_p <| And.intro @gQ_o <| And.intro @gQ_b <| And.intro @gQ_f <| And.intro @sV_r <| And.intro @sV_n <| And.intro @sV_q <| And.intro @sA_c <| And.intro @sV_a <| And.intro @gcons_c <| And.intro @sC_nil <| And.intro @sC_b <| And.intro @sC_i <| And.intro @sC_s <| And.intro @sC_n <| And.intro @sC_r <| And.intro @sC_p <| And.intro @gC_c <| And.intro @gapp_c <| And.intro @BG_c <| And.intro @ops_sc <| And.intro @Zg_c <| And.intro @ic_call <| And.intro @ic_callv <| And.intro @rg_1 <| And.intro @rgS_c <| And.intro @rgC_c <| And.intro @rgS_n <| And.intro @smR_c <| And.intro @rgT_c <| And.intro @rg_2 <| And.intro @rg_r <| And.intro @rgR_c <| And.intro @regrafts_nil <| And.intro @i_cap <| And.intro @cap_n <| And.intro @i_appZ <| And.intro @slR_0 <| And.intro @wnd_z <| And.intro @i_callv' @fCv_c
end Go.Proofs.Ytinlbiphjgpmmaa.V
end YtinlbiphjgpmmaaWM
section YtinlbiphjgpmmaaL0
namespace Go.Proofs.Ytinlbiphjgpmmaa.P
open Go Go.RowKit Go.Proofs.Ytinlbiphjgpmmaa.V
set_option linter.unusedVariables false
set_option linter.unusedSimpArgs false
theorem ite_b {α : Type} {c : Bool} {a b : Option α} {r : α} (h : (if c = true then a else b) = some r) : c = true ∧ a = some r ∨ c = false ∧ b = some r := by cases c <;> simp_all
theorem ite_nn {α : Type} {c : Prop} [Decidable c] {a : Option α} {r : α} (h : (if c then none else a) = some r) : ¬c ∧ a = some r := by
  by_cases hc : c
  · rw [if_pos hc] at h; cases h
  · rw [if_neg hc] at h; exact ⟨hc, h⟩
def rd (xs : List Int) (i : Int) : Int := xs.getD i.toNat 0
def rdB (xs : List Bool) (i : Int) : Bool := xs.getD i.toNat false
def rdS (xs : List ByteArray) (i : Int) : ByteArray := xs.getD i.toNat ⟨#[]⟩
def rdL {α : Type} (xs : List (List α)) (i : Int) : List α := xs.getD i.toNat []
theorem W_loopc {E : Env} {L : C} {m : Nat} {live : List Nat} {c : C} {st : St} {Q : Pst} (h : L = .loop m live c) : W E L st Q = W E c (canon m live st) (Ql E L Q) := by subst h; exact W_loop
theorem gI  {l : List Int} {j : Int} (h1 : 0 ≤ j) (h2 : j < (l.length : Int)) : (l.map eI)[0 + j.toNat]? = some (eI (rd l j)) := get_e h1 h2
theorem gI_0 {l : List Int} (h2 : (0 : Int) < (l.length : Int)) : (l.map eI)[0]? = some (eI (rd l 0)) := by have := get_e (e := eI) (z := 0) (j := 0) (l := l) (by omega) h2; exact this
theorem gI_1 {l : List Int} (h2 : (1 : Int) < (l.length : Int)) : (l.map eI)[1]? = some (eI (rd l 1)) := by have := get_e (e := eI) (z := 0) (j := 1) (l := l) (by omega) h2; exact this
theorem gI_2 {l : List Int} (h2 : (2 : Int) < (l.length : Int)) : (l.map eI)[2]? = some (eI (rd l 2)) := by have := get_e (e := eI) (z := 0) (j := 2) (l := l) (by omega) h2; exact this
theorem g8  {l : List Int} {j : Int} (h1 : 0 ≤ j) (h2 : j < (l.length : Int)) : (l.map e8)[0 + j.toNat]? = some (e8 (rd l j)) := get_e h1 h2
theorem g8_0 {l : List Int} (h2 : (0 : Int) < (l.length : Int)) : (l.map e8)[0]? = some (e8 (rd l 0)) := by have := get_e (e := e8) (z := 0) (j := 0) (l := l) (by omega) h2; exact this
theorem g8_1 {l : List Int} (h2 : (1 : Int) < (l.length : Int)) : (l.map e8)[1]? = some (e8 (rd l 1)) := by have := get_e (e := e8) (z := 0) (j := 1) (l := l) (by omega) h2; exact this
theorem g8_2 {l : List Int} (h2 : (2 : Int) < (l.length : Int)) : (l.map e8)[2]? = some (e8 (rd l 2)) := by have := get_e (e := e8) (z := 0) (j := 2) (l := l) (by omega) h2; exact this
theorem gB  {l : List Bool} {j : Int} (h1 : 0 ≤ j) (h2 : j < (l.length : Int)) : (l.map eB)[0 + j.toNat]? = some (eB (rdB l j)) := get_e h1 h2
theorem gB_0 {l : List Bool} (h2 : (0 : Int) < (l.length : Int)) : (l.map eB)[0]? = some (eB (rdB l 0)) := by have := get_e (e := eB) (z := false) (j := 0) (l := l) (by omega) h2; exact this
theorem gB_1 {l : List Bool} (h2 : (1 : Int) < (l.length : Int)) : (l.map eB)[1]? = some (eB (rdB l 1)) := by have := get_e (e := eB) (z := false) (j := 1) (l := l) (by omega) h2; exact this
theorem gB_2 {l : List Bool} (h2 : (2 : Int) < (l.length : Int)) : (l.map eB)[2]? = some (eB (rdB l 2)) := by have := get_e (e := eB) (z := false) (j := 2) (l := l) (by omega) h2; exact this
theorem gS  {l : List ByteArray} {j : Int} (h1 : 0 ≤ j) (h2 : j < (l.length : Int)) : (l.map eS)[0 + j.toNat]? = some (eS (rdS l j)) := get_e h1 h2
theorem gS_0 {l : List ByteArray} (h2 : (0 : Int) < (l.length : Int)) : (l.map eS)[0]? = some (eS (rdS l 0)) := by have := get_e (e := eS) (z := ⟨#[]⟩) (j := 0) (l := l) (by omega) h2; exact this
theorem gS_1 {l : List ByteArray} (h2 : (1 : Int) < (l.length : Int)) : (l.map eS)[1]? = some (eS (rdS l 1)) := by have := get_e (e := eS) (z := ⟨#[]⟩) (j := 1) (l := l) (by omega) h2; exact this
theorem gS_2 {l : List ByteArray} (h2 : (2 : Int) < (l.length : Int)) : (l.map eS)[2]? = some (eS (rdS l 2)) := by have := get_e (e := eS) (z := ⟨#[]⟩) (j := 2) (l := l) (by omega) h2; exact this
theorem gL  {α : Type} {s : Nat} {b : Bool} {e : α → List AV} {l : List (List α)} {j : Int} (h1 : 0 ≤ j) (h2 : j < (l.length : Int)) : (l.map (eL s b e))[0 + j.toNat]? = some ((eL s b e) (rdL l j)) := get_e h1 h2
theorem gL_0 {α : Type} {s : Nat} {b : Bool} {e : α → List AV} {l : List (List α)} (h2 : (0 : Int) < (l.length : Int)) : (l.map (eL s b e))[0]? = some ((eL s b e) (rdL l 0)) := by have := get_e (e := (eL s b e)) (z := []) (j := 0) (l := l) (by omega) h2; exact this
theorem gL_1 {α : Type} {s : Nat} {b : Bool} {e : α → List AV} {l : List (List α)} (h2 : (1 : Int) < (l.length : Int)) : (l.map (eL s b e))[1]? = some ((eL s b e) (rdL l 1)) := by have := get_e (e := (eL s b e)) (z := []) (j := 1) (l := l) (by omega) h2; exact this
theorem gL_2 {α : Type} {s : Nat} {b : Bool} {e : α → List AV} {l : List (List α)} (h2 : (2 : Int) < (l.length : Int)) : (l.map (eL s b e))[2]? = some ((eL s b e) (rdL l 2)) := by have := get_e (e := (eL s b e)) (z := []) (j := 2) (l := l) (by omega) h2; exact this
theorem cI_0 {x : Int} : (eI x)[0]? = some (.i .i64 x) := (rfl)
theorem lI {x : Int} : (eI x).length = 1 := (rfl)
theorem c8_0 {x : Int} : (e8 x)[0]? = some (.i .u8 x) := (rfl)
theorem l8 {x : Int} : (e8 x).length = 1 := (rfl)
theorem cB_0 {x : Bool} : (eB x)[0]? = some (.b x) := (rfl)
theorem lB {x : Bool} : (eB x).length = 1 := (rfl)
theorem cS_0 {x : ByteArray} : (eS x)[0]? = some (.s x) := (rfl)
theorem lS {x : ByteArray} : (eS x).length = 1 := (rfl)
theorem cL_0 {α : Type} {s : Nat} {b : Bool} {e : α → List AV} {x : List α} : ((eL s b e) x)[0]? = some (.deep false b s (x.map e)) := (rfl)
theorem lL {α : Type} {s : Nat} {b : Bool} {e : α → List AV} {x : List α} : ((eL s b e) x).length = 1 := (rfl)
theorem sI {l : List Int} {j : Int} {v : Int} (h1 : 0 ≤ j) (h2 : j < (l.length : Int)) : setEl (l.map eI) (0 + j.toNat) 0 [.i .i64 v] = (l.set j.toNat v).map eI := set_e h1 h2 (getD_at (z := 0) h1 h2) rfl
theorem sI_0 {l : List Int} {v : Int} (h2 : (0 : Int) < (l.length : Int)) : setEl (l.map eI) 0 0 [.i .i64 v] = (l.set (0 : Int).toNat v).map eI := by have := set_e (e := eI) (c := 0) (vs := [.i .i64 v]) (Int.le_refl 0) h2 (getD_at (z := 0) (Int.le_refl 0) h2) (y := v) rfl; exact this
theorem s8 {l : List Int} {j : Int} {v : Int} (h1 : 0 ≤ j) (h2 : j < (l.length : Int)) : setEl (l.map e8) (0 + j.toNat) 0 [.i .u8 v] = (l.set j.toNat v).map e8 := set_e h1 h2 (getD_at (z := 0) h1 h2) rfl
theorem s8_0 {l : List Int} {v : Int} (h2 : (0 : Int) < (l.length : Int)) : setEl (l.map e8) 0 0 [.i .u8 v] = (l.set (0 : Int).toNat v).map e8 := by have := set_e (e := e8) (c := 0) (vs := [.i .u8 v]) (Int.le_refl 0) h2 (getD_at (z := 0) (Int.le_refl 0) h2) (y := v) rfl; exact this
theorem sB {l : List Bool} {j : Int} {v : Bool} (h1 : 0 ≤ j) (h2 : j < (l.length : Int)) : setEl (l.map eB) (0 + j.toNat) 0 [.b v] = (l.set j.toNat v).map eB := set_e h1 h2 (getD_at (z := false) h1 h2) rfl
theorem sB_0 {l : List Bool} {v : Bool} (h2 : (0 : Int) < (l.length : Int)) : setEl (l.map eB) 0 0 [.b v] = (l.set (0 : Int).toNat v).map eB := by have := set_e (e := eB) (c := 0) (vs := [.b v]) (Int.le_refl 0) h2 (getD_at (z := false) (Int.le_refl 0) h2) (y := v) rfl; exact this
theorem sS {l : List ByteArray} {j : Int} {v : ByteArray} (h1 : 0 ≤ j) (h2 : j < (l.length : Int)) : setEl (l.map eS) (0 + j.toNat) 0 [.s v] = (l.set j.toNat v).map eS := set_e h1 h2 (getD_at (z := ⟨#[]⟩) h1 h2) rfl
theorem sS_0 {l : List ByteArray} {v : ByteArray} (h2 : (0 : Int) < (l.length : Int)) : setEl (l.map eS) 0 0 [.s v] = (l.set (0 : Int).toNat v).map eS := by have := set_e (e := eS) (c := 0) (vs := [.s v]) (Int.le_refl 0) h2 (getD_at (z := ⟨#[]⟩) (Int.le_refl 0) h2) (y := v) rfl; exact this
theorem pL {α : Type} {s : Nat} {b : Bool} {e : α → List AV} {l : List (List α)} {j : Int} (h1 : 0 ≤ j) (h2 : j < (l.length : Int)) : cellAt (l.map (eL s b e)) (0 + j.toNat) 0 = some (.deep false b s ((rdL l j).map e)) := cell_e (gL h1 h2)
theorem pL_0 {α : Type} {s : Nat} {b : Bool} {e : α → List AV} {l : List (List α)} (h2 : (0 : Int) < (l.length : Int)) : cellAt (l.map (eL s b e)) 0 0 = some (.deep false b s ((rdL l 0).map e)) := cell_e (gL_0 h2)
theorem sL {α : Type} {s : Nat} {b : Bool} {e : α → List AV} {l : List (List α)} {v : List α} {j : Int} (h1 : 0 ≤ j) (h2 : j < (l.length : Int)) : setEl (l.map (eL s b e)) (0 + j.toNat) 0 [.deep false b s (v.map e)] = (l.set j.toNat v).map (eL s b e) := set_e h1 h2 (getD_at (z := []) h1 h2) rfl
theorem litX_L1 {α : Type} {s : Nat} {b : Bool} {e : α → List AV} {x : List α} : litX [[.deep false b s (x.map e)]] = List.map (eL s b e) [x] := (rfl)
theorem litX_L2 {α : Type} {s : Nat} {b : Bool} {e : α → List AV} {x y : List α} : litX [[.deep false b s (x.map e)], [.deep false b s (y.map e)]] = List.map (eL s b e) [x, y] := (rfl)
theorem dpsL {α : Type} {s : Nat} {b : Bool} {e : α → List AV} {x : List α} {l : List (List α)} : anyDeeps ((x :: l).map (eL s b e)) = true := (rfl)
theorem tbL {α : Type} {s : Nat} {b : Bool} {e : α → List AV} {l : List (List α)} : (l.map (eL s b e)).map (·.map toBor) = l.map (eL s true e) := by rw [List.map_map]; rfl
theorem groL {α : Type} {s : Nat} {b : Bool} {e : α → List AV} {q : Path} {r : Nat} {l : List (List α)} : gSrc true q r (l.map (eL s b e)) (anyDeeps (l.map (eL s b e))) = some (l.map (eL s true e), []) := by
  cases l with
  | nil => rfl
  | cons x l => rw [dpsL, ← tbL (b := b)]; rfl
theorem borL {α : Type} {k s : Nat} {e : α → List AV} {l : List (List α)} (h : ∀ x : List α, borIn k (x.map e) = false) : borIn (k + 1) (l.map (eL s false e)) = false := bor_map (fun x => by simp only [eL, be_nil, be_d, h, Bool.or_false, Bool.false_or]) l
theorem sL_0 {α : Type} {s : Nat} {b : Bool} {e : α → List AV} {l : List (List α)} {v : List α} (h2 : (0 : Int) < (l.length : Int)) : setEl (l.map (eL s b e)) 0 0 [.deep false b s (v.map e)] = (l.set (0 : Int).toNat v).map (eL s b e) := by have := set_e (e := eL s b e) (c := 0) (vs := [.deep false b s (v.map e)]) (Int.le_refl 0) h2 (getD_at (z := []) (Int.le_refl 0) h2) (y := v) rfl; exact this
/-! #### struct type 122 -/
structure S122 where
  f0 : Int
  f1 : Int
def z122 : S122 := ⟨(0 : Int), (0 : Int)⟩
def e122 (x : S122) : List AV := [.i .i64 x.f0, .i .i64 x.f1]
def rd_T122 (xs : List S122) (i : Int) : S122 := xs.getD i.toNat z122
theorem g122  {l : List S122} {j : Int} (h1 : 0 ≤ j) (h2 : j < (l.length : Int)) : (l.map e122)[0 + j.toNat]? = some (e122 (rd_T122 l j)) := get_e h1 h2
theorem g122_0 {l : List S122} (h2 : (0 : Int) < (l.length : Int)) : (l.map e122)[0]? = some (e122 (rd_T122 l 0)) := by have := get_e (e := e122) (z := z122) (j := 0) (l := l) (by omega) h2; exact this
theorem g122_1 {l : List S122} (h2 : (1 : Int) < (l.length : Int)) : (l.map e122)[1]? = some (e122 (rd_T122 l 1)) := by have := get_e (e := e122) (z := z122) (j := 1) (l := l) (by omega) h2; exact this
theorem g122_2 {l : List S122} (h2 : (2 : Int) < (l.length : Int)) : (l.map e122)[2]? = some (e122 (rd_T122 l 2)) := by have := get_e (e := e122) (z := z122) (j := 2) (l := l) (by omega) h2; exact this
theorem c122_0 {x : S122} : (e122 x)[0]? = some (.i .i64 x.f0) := (rfl)
theorem c122_1 {x : S122} : (e122 x)[1]? = some (.i .i64 x.f1) := (rfl)
theorem l122 {x : S122} : (e122 x).length = 2 := (rfl)
theorem w122 {x : S122} {r i pv : Nat} {q : Path} {rs : Rs} : lLoad (some 2) r q pv i 0 (some (e122 x)) rs = some (.agg [.i .i64 x.f0, .i .i64 x.f1], rs) := (rfl)
theorem s122_0 {l : List S122} {j : Int} {v0 : Int} (h1 : 0 ≤ j) (h2 : j < (l.length : Int)) : setEl (l.map e122) (0 + j.toNat) 0 [.i .i64 v0] = (l.set j.toNat (⟨v0, (rd_T122 l j).f1⟩ : S122)).map e122 := set_e h1 h2 (getD_at (z := z122) h1 h2) rfl
theorem s122_1 {l : List S122} {j : Int} {v1 : Int} (h1 : 0 ≤ j) (h2 : j < (l.length : Int)) : setEl (l.map e122) (0 + j.toNat) 1 [.i .i64 v1] = (l.set j.toNat (⟨(rd_T122 l j).f0, v1⟩ : S122)).map e122 := set_e h1 h2 (getD_at (z := z122) h1 h2) rfl
theorem s122 {l : List S122} {j : Int} {v0 : Int} {v1 : Int} (h1 : 0 ≤ j) (h2 : j < (l.length : Int)) : setEl (l.map e122) (0 + j.toNat) 0 [.i .i64 v0, .i .i64 v1] = (l.set j.toNat (⟨v0, v1⟩ : S122)).map e122 := set_e h1 h2 (getD_at (z := z122) h1 h2) rfl
theorem litX_122_1 {v0_0 : Int} {v0_1 : Int} : litX [[.i .i64 v0_0, .i .i64 v0_1]] = List.map e122 [(⟨v0_0, v0_1⟩ : S122)] := (rfl)
theorem litX_122_2 {v0_0 : Int} {v0_1 : Int} {v1_0 : Int} {v1_1 : Int} : litX [[.i .i64 v0_0, .i .i64 v0_1], [.i .i64 v1_0, .i .i64 v1_1]] = List.map e122 [(⟨v0_0, v0_1⟩ : S122), (⟨v1_0, v1_1⟩ : S122)] := (rfl)
theorem litX_122_3 {v0_0 : Int} {v0_1 : Int} {v1_0 : Int} {v1_1 : Int} {v2_0 : Int} {v2_1 : Int} : litX [[.i .i64 v0_0, .i .i64 v0_1], [.i .i64 v1_0, .i .i64 v1_1], [.i .i64 v2_0, .i .i64 v2_1]] = List.map e122 [(⟨v0_0, v0_1⟩ : S122), (⟨v1_0, v1_1⟩ : S122), (⟨v2_0, v2_1⟩ : S122)] := (rfl)
theorem m122 {n sz by' : Nat} {k : IntKind} {m : Int} {l : List (Nat × Option Root)} (h1 : 0 ≤ m) (h2 : m * by' ≤ 140737488355328) : fMks n sz by' [.i .i64 0, .i .i64 0] (.i k m) (rsL l) = some (.slc n [] 0 sz 0 (List.replicate m.toNat z122).length, rsL ((n, some ⟨true, sz, 0, (List.replicate m.toNat z122).map e122⟩) :: l)) := mks_t (e := e122) rfl h1 h2
theorem az122 {n by' s : Nat} {k : AV} {m : Int} {l : List (Nat × Option Root)} (h1 : 0 < m) (h2 : m.toNat * by' ≤ 140737488355328) : fAppZ n by' [.i .i64 0, .i .i64 0] k (.nl s) (.i .i64 m) (rsL l) = some (.slc n [] 0 2 0 (List.replicate m.toNat z122).length, rsL ((n, some ⟨true, 2, 0, (List.replicate m.toNat z122).map e122⟩) :: l)) := az_t (e := e122) rfl h1 h2
theorem bor122 {k : Nat} {l : List S122} : borIn (k + 1) (l.map e122) = false := bor_map (fun _ => rfl) l
theorem dps122 {l : List S122} : anyDeeps (l.map e122) = false := dps_map (fun _ => rfl) l
/-! #### struct type 81 -/
structure S81 where
  f0 : Int
  f1 : List Int
  f2 : Int
  f3 : Int
  f4 : Int
def z81 : S81 := ⟨(0 : Int), ([] : List Int), (0 : Int), (0 : Int), (0 : Int)⟩
def e81 (b : Bool) (x : S81) : List AV := [.i .i64 x.f0, .deep false b 1 (x.f1.map eI), .i .i64 x.f2, .i .i64 x.f3, .i .i64 x.f4]
def rd_T81 (xs : List S81) (i : Int) : S81 := xs.getD i.toNat z81
theorem g81  {b : Bool} {l : List S81} {j : Int} (h1 : 0 ≤ j) (h2 : j < (l.length : Int)) : (l.map (e81 b))[0 + j.toNat]? = some ((e81 b) (rd_T81 l j)) := get_e h1 h2
theorem g81_0 {b : Bool} {l : List S81} (h2 : (0 : Int) < (l.length : Int)) : (l.map (e81 b))[0]? = some ((e81 b) (rd_T81 l 0)) := by have := get_e (e := (e81 b)) (z := z81) (j := 0) (l := l) (by omega) h2; exact this
theorem g81_1 {b : Bool} {l : List S81} (h2 : (1 : Int) < (l.length : Int)) : (l.map (e81 b))[1]? = some ((e81 b) (rd_T81 l 1)) := by have := get_e (e := (e81 b)) (z := z81) (j := 1) (l := l) (by omega) h2; exact this
theorem g81_2 {b : Bool} {l : List S81} (h2 : (2 : Int) < (l.length : Int)) : (l.map (e81 b))[2]? = some ((e81 b) (rd_T81 l 2)) := by have := get_e (e := (e81 b)) (z := z81) (j := 2) (l := l) (by omega) h2; exact this
theorem c81_0 {b : Bool} {x : S81} : ((e81 b) x)[0]? = some (.i .i64 x.f0) := (rfl)
theorem c81_1 {b : Bool} {x : S81} : ((e81 b) x)[1]? = some (.deep false b 1 (x.f1.map eI)) := (rfl)
theorem c81_2 {b : Bool} {x : S81} : ((e81 b) x)[2]? = some (.i .i64 x.f2) := (rfl)
theorem c81_3 {b : Bool} {x : S81} : ((e81 b) x)[3]? = some (.i .i64 x.f3) := (rfl)
theorem c81_4 {b : Bool} {x : S81} : ((e81 b) x)[4]? = some (.i .i64 x.f4) := (rfl)
theorem l81 {b : Bool} {x : S81} : ((e81 b) x).length = 5 := (rfl)
theorem w81 {x : S81} {b : Bool} {r i pv : Nat} {q : Path} {rs : Rs} : lLoad (some 5) r q pv i 0 (some ((e81 b) x)) rs = some (.agg [.i .i64 x.f0, .slc r (q ++ [(i, 1)]) pv 1 0 (x.f1.map eI).length, .i .i64 x.f2, .i .i64 x.f3, .i .i64 x.f4], rs) := (rfl)
theorem s81_0 {l : List S81} {j : Int} {v0 : Int} {b : Bool} (h1 : 0 ≤ j) (h2 : j < (l.length : Int)) : setEl (l.map (e81 b)) (0 + j.toNat) 0 [.i .i64 v0] = (l.set j.toNat (⟨v0, (rd_T81 l j).f1, (rd_T81 l j).f2, (rd_T81 l j).f3, (rd_T81 l j).f4⟩ : S81)).map (e81 b) := set_e h1 h2 (getD_at (z := z81) h1 h2) rfl
theorem s81_1 {l : List S81} {j : Int} {v1 : List Int} {b : Bool} (h1 : 0 ≤ j) (h2 : j < (l.length : Int)) : setEl (l.map (e81 b)) (0 + j.toNat) 1 [.deep false b 1 (v1.map eI)] = (l.set j.toNat (⟨(rd_T81 l j).f0, v1, (rd_T81 l j).f2, (rd_T81 l j).f3, (rd_T81 l j).f4⟩ : S81)).map (e81 b) := set_e h1 h2 (getD_at (z := z81) h1 h2) rfl
theorem s81_2 {l : List S81} {j : Int} {v2 : Int} {b : Bool} (h1 : 0 ≤ j) (h2 : j < (l.length : Int)) : setEl (l.map (e81 b)) (0 + j.toNat) 2 [.i .i64 v2] = (l.set j.toNat (⟨(rd_T81 l j).f0, (rd_T81 l j).f1, v2, (rd_T81 l j).f3, (rd_T81 l j).f4⟩ : S81)).map (e81 b) := set_e h1 h2 (getD_at (z := z81) h1 h2) rfl
theorem s81_3 {l : List S81} {j : Int} {v3 : Int} {b : Bool} (h1 : 0 ≤ j) (h2 : j < (l.length : Int)) : setEl (l.map (e81 b)) (0 + j.toNat) 3 [.i .i64 v3] = (l.set j.toNat (⟨(rd_T81 l j).f0, (rd_T81 l j).f1, (rd_T81 l j).f2, v3, (rd_T81 l j).f4⟩ : S81)).map (e81 b) := set_e h1 h2 (getD_at (z := z81) h1 h2) rfl
theorem s81_4 {l : List S81} {j : Int} {v4 : Int} {b : Bool} (h1 : 0 ≤ j) (h2 : j < (l.length : Int)) : setEl (l.map (e81 b)) (0 + j.toNat) 4 [.i .i64 v4] = (l.set j.toNat (⟨(rd_T81 l j).f0, (rd_T81 l j).f1, (rd_T81 l j).f2, (rd_T81 l j).f3, v4⟩ : S81)).map (e81 b) := set_e h1 h2 (getD_at (z := z81) h1 h2) rfl
theorem s81 {l : List S81} {j : Int} {v0 : Int} {v1 : List Int} {v2 : Int} {v3 : Int} {v4 : Int} {b : Bool} (h1 : 0 ≤ j) (h2 : j < (l.length : Int)) : setEl (l.map (e81 b)) (0 + j.toNat) 0 [.i .i64 v0, .deep false b 1 (v1.map eI), .i .i64 v2, .i .i64 v3, .i .i64 v4] = (l.set j.toNat (⟨v0, v1, v2, v3, v4⟩ : S81)).map (e81 b) := set_e h1 h2 (getD_at (z := z81) h1 h2) rfl
theorem p81_1 {l : List S81} {j : Int} {b : Bool} (h1 : 0 ≤ j) (h2 : j < (l.length : Int)) : cellAt (l.map (e81 b)) (0 + j.toNat) 1 = some (.deep false b 1 ((rd_T81 l j).f1.map eI)) := cell_e (g81 h1 h2)
theorem p81_1_0 {l : List S81} {b : Bool} (h2 : (0 : Int) < (l.length : Int)) : cellAt (l.map (e81 b)) 0 1 = some (.deep false b 1 ((rd_T81 l 0).f1.map eI)) := cell_e (g81_0 h2)
theorem litX_81_1 {v0_0 : Int} {v0_1 : List Int} {v0_2 : Int} {v0_3 : Int} {v0_4 : Int} {b : Bool} : litX [[.i .i64 v0_0, .deep false b 1 (v0_1.map eI), .i .i64 v0_2, .i .i64 v0_3, .i .i64 v0_4]] = List.map (e81 b) [(⟨v0_0, v0_1, v0_2, v0_3, v0_4⟩ : S81)] := (rfl)
theorem litX_81_2 {v0_0 : Int} {v0_1 : List Int} {v0_2 : Int} {v0_3 : Int} {v0_4 : Int} {v1_0 : Int} {v1_1 : List Int} {v1_2 : Int} {v1_3 : Int} {v1_4 : Int} {b : Bool} : litX [[.i .i64 v0_0, .deep false b 1 (v0_1.map eI), .i .i64 v0_2, .i .i64 v0_3, .i .i64 v0_4], [.i .i64 v1_0, .deep false b 1 (v1_1.map eI), .i .i64 v1_2, .i .i64 v1_3, .i .i64 v1_4]] = List.map (e81 b) [(⟨v0_0, v0_1, v0_2, v0_3, v0_4⟩ : S81), (⟨v1_0, v1_1, v1_2, v1_3, v1_4⟩ : S81)] := (rfl)
theorem litX_81_3 {v0_0 : Int} {v0_1 : List Int} {v0_2 : Int} {v0_3 : Int} {v0_4 : Int} {v1_0 : Int} {v1_1 : List Int} {v1_2 : Int} {v1_3 : Int} {v1_4 : Int} {v2_0 : Int} {v2_1 : List Int} {v2_2 : Int} {v2_3 : Int} {v2_4 : Int} {b : Bool} : litX [[.i .i64 v0_0, .deep false b 1 (v0_1.map eI), .i .i64 v0_2, .i .i64 v0_3, .i .i64 v0_4], [.i .i64 v1_0, .deep false b 1 (v1_1.map eI), .i .i64 v1_2, .i .i64 v1_3, .i .i64 v1_4], [.i .i64 v2_0, .deep false b 1 (v2_1.map eI), .i .i64 v2_2, .i .i64 v2_3, .i .i64 v2_4]] = List.map (e81 b) [(⟨v0_0, v0_1, v0_2, v0_3, v0_4⟩ : S81), (⟨v1_0, v1_1, v1_2, v1_3, v1_4⟩ : S81), (⟨v2_0, v2_1, v2_2, v2_3, v2_4⟩ : S81)] := (rfl)
theorem m81 {n sz by' : Nat} {k : IntKind} {m : Int} {l : List (Nat × Option Root)} (h1 : 0 ≤ m) (h2 : m * by' ≤ 140737488355328) : fMks n sz by' [.i .i64 0, .deep false false 1 [], .i .i64 0, .i .i64 0, .i .i64 0] (.i k m) (rsL l) = some (.slc n [] 0 sz 0 (List.replicate m.toNat z81).length, rsL ((n, some ⟨true, sz, 0, (List.replicate m.toNat z81).map (e81 false)⟩) :: l)) := mks_t (e := (e81 false)) rfl h1 h2
theorem az81 {n by' s : Nat} {k : AV} {m : Int} {l : List (Nat × Option Root)} (h1 : 0 < m) (h2 : m.toNat * by' ≤ 140737488355328) : fAppZ n by' [.i .i64 0, .deep false false 1 [], .i .i64 0, .i .i64 0, .i .i64 0] k (.nl s) (.i .i64 m) (rsL l) = some (.slc n [] 0 5 0 (List.replicate m.toNat z81).length, rsL ((n, some ⟨true, 5, 0, (List.replicate m.toNat z81).map (e81 false)⟩) :: l)) := az_t (e := (e81 false)) rfl h1 h2
theorem dps81 {x : S81} {l : List S81} {b : Bool} : anyDeeps ((x :: l).map (e81 b)) = true := (rfl)
theorem tb81 {l : List S81} {b : Bool} : (l.map (e81 b)).map (·.map toBor) = l.map (e81 true) := by rw [List.map_map]; rfl
theorem gro81 {q : Path} {r : Nat} {l : List S81} : gSrc true q r (l.map (e81 false)) (anyDeeps (l.map (e81 false))) = some (l.map (e81 true), []) := by
  cases l with
  | nil => rfl
  | cons x l => rw [dps81, ← tb81]; rfl
theorem bor81 {k : Nat} {l : List S81} : borIn (k + 2) (l.map (e81 false)) = false := bor_map (fun x => by simp only [e81, be_nil, be_b, be_i, be_s, be_d, bor_I, bor_8, bor_B, bor_S, bor122, Bool.or_false, Bool.false_or]) l
/-! #### struct type 105 -/
structure S105 where
  f0 : Int
  f1 : Int
def z105 : S105 := ⟨(0 : Int), (0 : Int)⟩
def e105 (x : S105) : List AV := [.i .i64 x.f0, .i .i64 x.f1]
def rd_T105 (xs : List S105) (i : Int) : S105 := xs.getD i.toNat z105
theorem g105  {l : List S105} {j : Int} (h1 : 0 ≤ j) (h2 : j < (l.length : Int)) : (l.map e105)[0 + j.toNat]? = some (e105 (rd_T105 l j)) := get_e h1 h2
theorem g105_0 {l : List S105} (h2 : (0 : Int) < (l.length : Int)) : (l.map e105)[0]? = some (e105 (rd_T105 l 0)) := by have := get_e (e := e105) (z := z105) (j := 0) (l := l) (by omega) h2; exact this
theorem g105_1 {l : List S105} (h2 : (1 : Int) < (l.length : Int)) : (l.map e105)[1]? = some (e105 (rd_T105 l 1)) := by have := get_e (e := e105) (z := z105) (j := 1) (l := l) (by omega) h2; exact this
theorem g105_2 {l : List S105} (h2 : (2 : Int) < (l.length : Int)) : (l.map e105)[2]? = some (e105 (rd_T105 l 2)) := by have := get_e (e := e105) (z := z105) (j := 2) (l := l) (by omega) h2; exact this
theorem c105_0 {x : S105} : (e105 x)[0]? = some (.i .i64 x.f0) := (rfl)
theorem c105_1 {x : S105} : (e105 x)[1]? = some (.i .i64 x.f1) := (rfl)
theorem l105 {x : S105} : (e105 x).length = 2 := (rfl)
theorem w105 {x : S105} {r i pv : Nat} {q : Path} {rs : Rs} : lLoad (some 2) r q pv i 0 (some (e105 x)) rs = some (.agg [.i .i64 x.f0, .i .i64 x.f1], rs) := (rfl)
theorem s105_0 {l : List S105} {j : Int} {v0 : Int} (h1 : 0 ≤ j) (h2 : j < (l.length : Int)) : setEl (l.map e105) (0 + j.toNat) 0 [.i .i64 v0] = (l.set j.toNat (⟨v0, (rd_T105 l j).f1⟩ : S105)).map e105 := set_e h1 h2 (getD_at (z := z105) h1 h2) rfl
theorem s105_1 {l : List S105} {j : Int} {v1 : Int} (h1 : 0 ≤ j) (h2 : j < (l.length : Int)) : setEl (l.map e105) (0 + j.toNat) 1 [.i .i64 v1] = (l.set j.toNat (⟨(rd_T105 l j).f0, v1⟩ : S105)).map e105 := set_e h1 h2 (getD_at (z := z105) h1 h2) rfl
theorem s105 {l : List S105} {j : Int} {v0 : Int} {v1 : Int} (h1 : 0 ≤ j) (h2 : j < (l.length : Int)) : setEl (l.map e105) (0 + j.toNat) 0 [.i .i64 v0, .i .i64 v1] = (l.set j.toNat (⟨v0, v1⟩ : S105)).map e105 := set_e h1 h2 (getD_at (z := z105) h1 h2) rfl
theorem litX_105_1 {v0_0 : Int} {v0_1 : Int} : litX [[.i .i64 v0_0, .i .i64 v0_1]] = List.map e105 [(⟨v0_0, v0_1⟩ : S105)] := (rfl)
theorem litX_105_2 {v0_0 : Int} {v0_1 : Int} {v1_0 : Int} {v1_1 : Int} : litX [[.i .i64 v0_0, .i .i64 v0_1], [.i .i64 v1_0, .i .i64 v1_1]] = List.map e105 [(⟨v0_0, v0_1⟩ : S105), (⟨v1_0, v1_1⟩ : S105)] := (rfl)
theorem litX_105_3 {v0_0 : Int} {v0_1 : Int} {v1_0 : Int} {v1_1 : Int} {v2_0 : Int} {v2_1 : Int} : litX [[.i .i64 v0_0, .i .i64 v0_1], [.i .i64 v1_0, .i .i64 v1_1], [.i .i64 v2_0, .i .i64 v2_1]] = List.map e105 [(⟨v0_0, v0_1⟩ : S105), (⟨v1_0, v1_1⟩ : S105), (⟨v2_0, v2_1⟩ : S105)] := (rfl)
theorem m105 {n sz by' : Nat} {k : IntKind} {m : Int} {l : List (Nat × Option Root)} (h1 : 0 ≤ m) (h2 : m * by' ≤ 140737488355328) : fMks n sz by' [.i .i64 0, .i .i64 0] (.i k m) (rsL l) = some (.slc n [] 0 sz 0 (List.replicate m.toNat z105).length, rsL ((n, some ⟨true, sz, 0, (List.replicate m.toNat z105).map e105⟩) :: l)) := mks_t (e := e105) rfl h1 h2
theorem az105 {n by' s : Nat} {k : AV} {m : Int} {l : List (Nat × Option Root)} (h1 : 0 < m) (h2 : m.toNat * by' ≤ 140737488355328) : fAppZ n by' [.i .i64 0, .i .i64 0] k (.nl s) (.i .i64 m) (rsL l) = some (.slc n [] 0 2 0 (List.replicate m.toNat z105).length, rsL ((n, some ⟨true, 2, 0, (List.replicate m.toNat z105).map e105⟩) :: l)) := az_t (e := e105) rfl h1 h2
theorem bor105 {k : Nat} {l : List S105} : borIn (k + 1) (l.map e105) = false := bor_map (fun _ => rfl) l
theorem dps105 {l : List S105} : anyDeeps (l.map e105) = false := dps_map (fun _ => rfl) l
/-! #### struct type 87 -/
structure S87 where
  f0 : Int
  f1 : List Int
  f2 : Int
  f3 : Int
  f4 : Int
def z87 : S87 := ⟨(0 : Int), ([] : List Int), (0 : Int), (0 : Int), (0 : Int)⟩
def e87 (b : Bool) (x : S87) : List AV := [.i .i64 x.f0, .deep false b 1 (x.f1.map eI), .i .i64 x.f2, .i .i64 x.f3, .i .i64 x.f4]
def rd_T87 (xs : List S87) (i : Int) : S87 := xs.getD i.toNat z87
theorem g87  {b : Bool} {l : List S87} {j : Int} (h1 : 0 ≤ j) (h2 : j < (l.length : Int)) : (l.map (e87 b))[0 + j.toNat]? = some ((e87 b) (rd_T87 l j)) := get_e h1 h2
theorem g87_0 {b : Bool} {l : List S87} (h2 : (0 : Int) < (l.length : Int)) : (l.map (e87 b))[0]? = some ((e87 b) (rd_T87 l 0)) := by have := get_e (e := (e87 b)) (z := z87) (j := 0) (l := l) (by omega) h2; exact this
theorem g87_1 {b : Bool} {l : List S87} (h2 : (1 : Int) < (l.length : Int)) : (l.map (e87 b))[1]? = some ((e87 b) (rd_T87 l 1)) := by have := get_e (e := (e87 b)) (z := z87) (j := 1) (l := l) (by omega) h2; exact this
theorem g87_2 {b : Bool} {l : List S87} (h2 : (2 : Int) < (l.length : Int)) : (l.map (e87 b))[2]? = some ((e87 b) (rd_T87 l 2)) := by have := get_e (e := (e87 b)) (z := z87) (j := 2) (l := l) (by omega) h2; exact this
theorem c87_0 {b : Bool} {x : S87} : ((e87 b) x)[0]? = some (.i .i64 x.f0) := (rfl)
theorem c87_1 {b : Bool} {x : S87} : ((e87 b) x)[1]? = some (.deep false b 1 (x.f1.map eI)) := (rfl)
theorem c87_2 {b : Bool} {x : S87} : ((e87 b) x)[2]? = some (.i .i64 x.f2) := (rfl)
theorem c87_3 {b : Bool} {x : S87} : ((e87 b) x)[3]? = some (.i .i64 x.f3) := (rfl)
theorem c87_4 {b : Bool} {x : S87} : ((e87 b) x)[4]? = some (.i .i64 x.f4) := (rfl)
theorem l87 {b : Bool} {x : S87} : ((e87 b) x).length = 5 := (rfl)
theorem w87 {x : S87} {b : Bool} {r i pv : Nat} {q : Path} {rs : Rs} : lLoad (some 5) r q pv i 0 (some ((e87 b) x)) rs = some (.agg [.i .i64 x.f0, .slc r (q ++ [(i, 1)]) pv 1 0 (x.f1.map eI).length, .i .i64 x.f2, .i .i64 x.f3, .i .i64 x.f4], rs) := (rfl)
theorem s87_0 {l : List S87} {j : Int} {v0 : Int} {b : Bool} (h1 : 0 ≤ j) (h2 : j < (l.length : Int)) : setEl (l.map (e87 b)) (0 + j.toNat) 0 [.i .i64 v0] = (l.set j.toNat (⟨v0, (rd_T87 l j).f1, (rd_T87 l j).f2, (rd_T87 l j).f3, (rd_T87 l j).f4⟩ : S87)).map (e87 b) := set_e h1 h2 (getD_at (z := z87) h1 h2) rfl
theorem s87_1 {l : List S87} {j : Int} {v1 : List Int} {b : Bool} (h1 : 0 ≤ j) (h2 : j < (l.length : Int)) : setEl (l.map (e87 b)) (0 + j.toNat) 1 [.deep false b 1 (v1.map eI)] = (l.set j.toNat (⟨(rd_T87 l j).f0, v1, (rd_T87 l j).f2, (rd_T87 l j).f3, (rd_T87 l j).f4⟩ : S87)).map (e87 b) := set_e h1 h2 (getD_at (z := z87) h1 h2) rfl
theorem s87_2 {l : List S87} {j : Int} {v2 : Int} {b : Bool} (h1 : 0 ≤ j) (h2 : j < (l.length : Int)) : setEl (l.map (e87 b)) (0 + j.toNat) 2 [.i .i64 v2] = (l.set j.toNat (⟨(rd_T87 l j).f0, (rd_T87 l j).f1, v2, (rd_T87 l j).f3, (rd_T87 l j).f4⟩ : S87)).map (e87 b) := set_e h1 h2 (getD_at (z := z87) h1 h2) rfl
theorem s87_3 {l : List S87} {j : Int} {v3 : Int} {b : Bool} (h1 : 0 ≤ j) (h2 : j < (l.length : Int)) : setEl (l.map (e87 b)) (0 + j.toNat) 3 [.i .i64 v3] = (l.set j.toNat (⟨(rd_T87 l j).f0, (rd_T87 l j).f1, (rd_T87 l j).f2, v3, (rd_T87 l j).f4⟩ : S87)).map (e87 b) := set_e h1 h2 (getD_at (z := z87) h1 h2) rfl
theorem s87_4 {l : List S87} {j : Int} {v4 : Int} {b : Bool} (h1 : 0 ≤ j) (h2 : j < (l.length : Int)) : setEl (l.map (e87 b)) (0 + j.toNat) 4 [.i .i64 v4] = (l.set j.toNat (⟨(rd_T87 l j).f0, (rd_T87 l j).f1, (rd_T87 l j).f2, (rd_T87 l j).f3, v4⟩ : S87)).map (e87 b) := set_e h1 h2 (getD_at (z := z87) h1 h2) rfl
theorem s87 {l : List S87} {j : Int} {v0 : Int} {v1 : List Int} {v2 : Int} {v3 : Int} {v4 : Int} {b : Bool} (h1 : 0 ≤ j) (h2 : j < (l.length : Int)) : setEl (l.map (e87 b)) (0 + j.toNat) 0 [.i .i64 v0, .deep false b 1 (v1.map eI), .i .i64 v2, .i .i64 v3, .i .i64 v4] = (l.set j.toNat (⟨v0, v1, v2, v3, v4⟩ : S87)).map (e87 b) := set_e h1 h2 (getD_at (z := z87) h1 h2) rfl
theorem p87_1 {l : List S87} {j : Int} {b : Bool} (h1 : 0 ≤ j) (h2 : j < (l.length : Int)) : cellAt (l.map (e87 b)) (0 + j.toNat) 1 = some (.deep false b 1 ((rd_T87 l j).f1.map eI)) := cell_e (g87 h1 h2)
theorem p87_1_0 {l : List S87} {b : Bool} (h2 : (0 : Int) < (l.length : Int)) : cellAt (l.map (e87 b)) 0 1 = some (.deep false b 1 ((rd_T87 l 0).f1.map eI)) := cell_e (g87_0 h2)
theorem litX_87_1 {v0_0 : Int} {v0_1 : List Int} {v0_2 : Int} {v0_3 : Int} {v0_4 : Int} {b : Bool} : litX [[.i .i64 v0_0, .deep false b 1 (v0_1.map eI), .i .i64 v0_2, .i .i64 v0_3, .i .i64 v0_4]] = List.map (e87 b) [(⟨v0_0, v0_1, v0_2, v0_3, v0_4⟩ : S87)] := (rfl)
theorem litX_87_2 {v0_0 : Int} {v0_1 : List Int} {v0_2 : Int} {v0_3 : Int} {v0_4 : Int} {v1_0 : Int} {v1_1 : List Int} {v1_2 : Int} {v1_3 : Int} {v1_4 : Int} {b : Bool} : litX [[.i .i64 v0_0, .deep false b 1 (v0_1.map eI), .i .i64 v0_2, .i .i64 v0_3, .i .i64 v0_4], [.i .i64 v1_0, .deep false b 1 (v1_1.map eI), .i .i64 v1_2, .i .i64 v1_3, .i .i64 v1_4]] = List.map (e87 b) [(⟨v0_0, v0_1, v0_2, v0_3, v0_4⟩ : S87), (⟨v1_0, v1_1, v1_2, v1_3, v1_4⟩ : S87)] := (rfl)
theorem litX_87_3 {v0_0 : Int} {v0_1 : List Int} {v0_2 : Int} {v0_3 : Int} {v0_4 : Int} {v1_0 : Int} {v1_1 : List Int} {v1_2 : Int} {v1_3 : Int} {v1_4 : Int} {v2_0 : Int} {v2_1 : List Int} {v2_2 : Int} {v2_3 : Int} {v2_4 : Int} {b : Bool} : litX [[.i .i64 v0_0, .deep false b 1 (v0_1.map eI), .i .i64 v0_2, .i .i64 v0_3, .i .i64 v0_4], [.i .i64 v1_0, .deep false b 1 (v1_1.map eI), .i .i64 v1_2, .i .i64 v1_3, .i .i64 v1_4], [.i .i64 v2_0, .deep false b 1 (v2_1.map eI), .i .i64 v2_2, .i .i64 v2_3, .i .i64 v2_4]] = List.map (e87 b) [(⟨v0_0, v0_1, v0_2, v0_3, v0_4⟩ : S87), (⟨v1_0, v1_1, v1_2, v1_3, v1_4⟩ : S87), (⟨v2_0, v2_1, v2_2, v2_3, v2_4⟩ : S87)] := (rfl)
theorem m87 {n sz by' : Nat} {k : IntKind} {m : Int} {l : List (Nat × Option Root)} (h1 : 0 ≤ m) (h2 : m * by' ≤ 140737488355328) : fMks n sz by' [.i .i64 0, .deep false false 1 [], .i .i64 0, .i .i64 0, .i .i64 0] (.i k m) (rsL l) = some (.slc n [] 0 sz 0 (List.replicate m.toNat z87).length, rsL ((n, some ⟨true, sz, 0, (List.replicate m.toNat z87).map (e87 false)⟩) :: l)) := mks_t (e := (e87 false)) rfl h1 h2
theorem az87 {n by' s : Nat} {k : AV} {m : Int} {l : List (Nat × Option Root)} (h1 : 0 < m) (h2 : m.toNat * by' ≤ 140737488355328) : fAppZ n by' [.i .i64 0, .deep false false 1 [], .i .i64 0, .i .i64 0, .i .i64 0] k (.nl s) (.i .i64 m) (rsL l) = some (.slc n [] 0 5 0 (List.replicate m.toNat z87).length, rsL ((n, some ⟨true, 5, 0, (List.replicate m.toNat z87).map (e87 false)⟩) :: l)) := az_t (e := (e87 false)) rfl h1 h2
theorem dps87 {x : S87} {l : List S87} {b : Bool} : anyDeeps ((x :: l).map (e87 b)) = true := (rfl)
theorem tb87 {l : List S87} {b : Bool} : (l.map (e87 b)).map (·.map toBor) = l.map (e87 true) := by rw [List.map_map]; rfl
theorem gro87 {q : Path} {r : Nat} {l : List S87} : gSrc true q r (l.map (e87 false)) (anyDeeps (l.map (e87 false))) = some (l.map (e87 true), []) := by
  cases l with
  | nil => rfl
  | cons x l => rw [dps87, ← tb87]; rfl
theorem bor87 {k : Nat} {l : List S87} : borIn (k + 2) (l.map (e87 false)) = false := bor_map (fun x => by simp only [e87, be_nil, be_b, be_i, be_s, be_d, bor_I, bor_8, bor_B, bor_S, bor122, bor81, bor105, Bool.or_false, Bool.false_or]) l
set_option linter.defProp false
theorem TN0 : type_of% (And.intro @gI <| And.intro @gI_0 <| And.intro @gI_1 <| And.intro @gI_2 <| And.intro @g8 <| And.intro @g8_0 <| And.intro @g8_1 <| And.intro @g8_2 <| And.intro @gB <| And.intro @gB_0 <| And.intro @gB_1 <| And.intro @gB_2 <| And.intro @gS <| And.intro @gS_0 <| And.intro @gS_1 <| And.intro @gS_2 <| And.intro @gL <| And.intro @gL_0 <| And.intro @gL_1 <| And.intro @gL_2 <| And.intro @cI_0 <| And.intro @lI <| And.intro @c8_0 <| And.intro @l8 <| And.intro @cB_0 <| And.intro @lB <| And.intro @cS_0 <| And.intro @lS <| And.intro @cL_0 <| And.intro @lL <| And.intro @sI <| And.intro @sI_0 <| And.intro @s8 <| And.intro @s8_0 <| And.intro @sB <| And.intro @sB_0 <| And.intro @sS <| And.intro @sS_0 <| And.intro @pL <| And.intro @pL_0 <| And.intro @sL <| And.intro @litX_L1 <| And.intro @litX_L2 <| And.intro @dpsL <| And.intro @tbL <| And.intro @groL <| And.intro @List.map_nil.{0, 0} <| And.intro @implies_true.{1} <| And.intro @borL <| And.intro @sL_0 <| And.intro @g122 <| And.intro @g122_0 <| And.intro @g122_1 <| And.intro @g122_2 <| And.intro @c122_0 <| And.intro @c122_1 <| And.intro @l122 <| And.intro @w122 <| And.intro @s122_0 <| And.intro @s122_1 <| And.intro @s122 <| And.intro @bor122 <| And.intro @dps122 <| And.intro @g81 <| And.intro @g81_0 <| And.intro @g81_1 <| And.intro @g81_2 <| And.intro @c81_0 <| And.intro @c81_1 <| And.intro @c81_2 <| And.intro @c81_3 <| And.intro @c81_4 <| And.intro @l81 <| And.intro @w81 <| And.intro @s81_0 <| And.intro @s81_1 <| And.intro @s81_2 <| And.intro @s81_3 <| And.intro @s81_4 <| And.intro @s81 <| And.intro @p81_1 <| And.intro @p81_1_0 <| And.intro @dps81 <| And.intro @tb81 <| And.intro @gro81 <| And.intro @bor81 <| And.intro @g105 <| And.intro @g105_0 <| And.intro @g105_1 <| And.intro @g105_2 <| And.intro @c105_0 <| And.intro @c105_1 <| And.intro @l105 <| And.intro @w105 <| And.intro @s105_0 <| And.intro @s105_1 <| And.intro @s105 <| And.intro @bor105 <| And.intro @dps105 <| And.intro @g87 <| And.intro @g87_0 <| And.intro @g87_1 <| And.intro @g87_2 <| And.intro @c87_0 <| And.intro @c87_1 <| And.intro @c87_2 <| And.intro @c87_3 <| And.intro @c87_4 <| And.intro @l87 <| And.intro @w87 <| And.intro @s87_0 <| And.intro @s87_1 <| And.intro @s87_2 <| And.intro @s87_3 <| And.intro @s87_4 <| And.intro @s87 <| And.intro @p87_1 <| And.intro @p87_1_0 <| And.intro @dps87 <| And.intro @tb87 <| And.intro @gro87 <| @bor87) := And.intro @gI <| And.intro @gI_0 <| And.intro @gI_1 <| And.intro @gI_2 <| And.intro @g8 <| And.intro @g8_0 <| And.intro @g8_1 <| And.intro @g8_2 <| And.intro @gB <| And.intro @gB_0 <| And.intro @gB_1 <| And.intro @gB_2 <| And.intro @gS <| And.intro @gS_0 <| And.intro @gS_1 <| And.intro @gS_2 <| And.intro @gL <| And.intro @gL_0 <| And.intro @gL_1 <| And.intro @gL_2 <| And.intro @cI_0 <| And.intro @lI <| And.intro @c8_0 <| And.intro @l8 <| And.intro @cB_0 <| And.intro @lB <| And.intro @cS_0 <| And.intro @lS <| And.intro @cL_0 <| And.intro @lL <| And.intro @sI <| And.intro @sI_0 <| And.intro @s8 <| And.intro @s8_0 <| And.intro @sB <| And.intro @sB_0 <| And.intro @sS <| And.intro @sS_0 <| And.intro @pL <| And.intro @pL_0 <| And.intro @sL <| And.intro @litX_L1 <| And.intro @litX_L2 <| And.intro @dpsL <| And.intro @tbL <| And.intro @groL <| And.intro @List.map_nil.{0, 0} <| And.intro @implies_true.{1} <| And.intro @borL <| And.intro @sL_0 <| And.intro @g122 <| And.intro @g122_0 <| And.intro @g122_1 <| And.intro @g122_2 <| And.intro @c122_0 <| And.intro @c122_1 <| And.intro @l122 <| And.intro @w122 <| And.intro @s122_0 <| And.intro @s122_1 <| And.intro @s122 <| And.intro @bor122 <| And.intro @dps122 <| And.intro @g81 <| And.intro @g81_0 <| And.intro @g81_1 <| And.intro @g81_2 <| And.intro @c81_0 <| And.intro @c81_1 <| And.intro @c81_2 <| And.intro @c81_3 <| And.intro @c81_4 <| And.intro @l81 <| And.intro @w81 <| And.intro @s81_0 <| And.intro @s81_1 <| And.intro @s81_2 <| And.intro @s81_3 <| And.intro @s81_4 <| And.intro @s81 <| And.intro @p81_1 <| And.intro @p81_1_0 <| And.intro @dps81 <| And.intro @tb81 <| And.intro @gro81 <| And.intro @bor81 <| And.intro @g105 <| And.intro @g105_0 <| And.intro @g105_1 <| And.intro @g105_2 <| And.intro @c105_0 <| And.intro @c105_1 <| And.intro @l105 <| And.intro @w105 <| And.intro @s105_0 <| And.intro @s105_1 <| And.intro @s105 <| And.intro @bor105 <| And.intro @dps105 <| And.intro @g87 <| And.intro @g87_0 <| And.intro @g87_1 <| And.intro @g87_2 <| And.intro @c87_0 <| And.intro @c87_1 <| And.intro @c87_2 <| And.intro @c87_3 <| And.intro @c87_4 <| And.intro @l87 <| And.intro @w87 <| And.intro @s87_0 <| And.intro @s87_1 <| And.intro @s87_2 <| And.intro @s87_3 <| And.intro @s87_4 <| And.intro @s87 <| And.intro @p87_1 <| And.intro @p87_1_0 <| And.intro @dps87 <| And.intro @tb87 <| And.intro @gro87 <| @bor87
theorem TN1 : type_of% (And.intro @ne_eq.{1} <| And.intro @eq_self.{1} <| And.intro @not_false_eq_true <| And.intro @not_true_eq_false @and_self) := And.intro @ne_eq.{1} <| And.intro @eq_self.{1} <| And.intro @not_false_eq_true <| And.intro @not_true_eq_false @and_self
theorem TN : type_of% (And.intro TN1 (And.intro RN <| And.intro RM TN0)) := And.intro TN1 (And.intro RN <| And.intro RM TN0)
end Go.Proofs.Ytinlbiphjgpmmaa.P
end YtinlbiphjgpmmaaL0
