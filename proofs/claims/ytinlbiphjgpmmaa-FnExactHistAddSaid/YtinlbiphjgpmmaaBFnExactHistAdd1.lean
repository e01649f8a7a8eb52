/- FnExactHistAdd: VS VT VU VV VW VX VY VYA VYB VZ WA WAF WB WC WD WE. -/
import Derived.Test.YtinlbiphjgpmmaaBFnExactHistAdd0
import Derived.Lib.Overlaps
section YtinlbiphjgpmmaaVS
namespace Go.Proofs.Ytinlbiphjgpmmaa.V
open Go
set_option linter.unusedVariables false
set_option linter.unusedSimpArgs false

section
variable {P : Program} {D D' : Nat → Prop} {A : Nat → Gh} {rs : Rs} {w : World} {cx : Cx} {w0 : World} {tm : Tm} {a : Act} {o : Oper}

theorem HR.sub (hh : HR cx w A rs) {rs' : Rs} (h : ∀ r R, rs' r = some R → rs r = some R) : HR cx w A rs' :=
  ⟨fun r R e => hh.tree r R (h r R e), fun r R ρ b e => hh.own r R ρ b (h r R e), fun r R ρ b e => hh.sta r R ρ b (h r R e), fun r R ρ r' R' ρ' b e k e' k' => hh.inj r R ρ r' R' ρ' b (h r R e) k (h r' R' e') k'⟩

theorem HR.world (hh : HR cx w A rs) {w' : World} (hbig : ∀ b n, Big w b n → Big w' b n) (hb : ∀ r R f ρ b, rs r = some R → R.Key (A r) f ρ b → w'.heap[b]? = w.heap[b]?) : HR cx w' A rs :=
  ⟨fun r R e => (hh.tree r R e).mono hbig fun ρ f b k => hb r R f ρ b e k, hh.own, hh.sta, hh.inj⟩

theorem HR.add (hh : HR cx w A rs) {id : Nat} {R0 : Root} {B : Gh} (ht : TreeR w (!R0.own) R0.sz B R0.xs) (hown : ∀ ρ b, R0.Key B false ρ b → cx.base ≤ b ∨ cx.O b) (hs : ∀ ρ b, R0.Key B true ρ b → cx.S b)
    (hinj : ∀ ρ ρ' b, R0.Key B false ρ b → R0.Key B false ρ' b → ρ = ρ') (hdis : ∀ ρ b, R0.Key B false ρ b → ∀ r R ρ', r ≠ id → rs r = some R → ¬ R.Key (A r) false ρ' b) :
    HR cx w (up' A id B) (up' rs id (some R0)) := by
  have at_id : ∀ {r R}, r = id → up' rs id (some R0) r = some R → R = R0 ∧ up' A id B r = B := fun e h => by
    subst e; rw [up'_same] at h; injection h with h; exact ⟨h.symm, up'_same _ _ _⟩
  refine ⟨fun r R h => ?_, fun r R ρ b h k => ?_, fun r R ρ b h k => ?_, fun r R ρ r' R' ρ' b h k h' k' => ?_⟩
  · by_cases e : r = id
    · obtain ⟨rfl, e2⟩ := at_id e h; rw [e2]; exact ht
    · rw [up'_ne _ _ e] at h; rw [up'_ne _ _ e]; exact hh.tree r R h
  · by_cases e : r = id
    · obtain ⟨rfl, e2⟩ := at_id e h; rw [e2] at k; exact hown ρ b k
    · rw [up'_ne _ _ e] at h k; exact hh.own r R ρ b h k
  · by_cases e : r = id
    · obtain ⟨rfl, e2⟩ := at_id e h; rw [e2] at k; exact hs ρ b k
    · rw [up'_ne _ _ e] at h k; exact hh.sta r R ρ b h k
  · by_cases e : r = id
    · obtain ⟨rfl, e2⟩ := at_id e h; rw [e2] at k
      by_cases e' : r' = id
      · obtain ⟨rfl, e3⟩ := at_id e' h'; rw [e3] at k'
        exact ⟨e.trans e'.symm, hinj _ _ b k k'⟩
      · rw [up'_ne _ _ e'] at h' k'
        exact (hdis ρ b k r' R' ρ' e' h' k').elim
    · rw [up'_ne _ _ e] at h k
      by_cases e' : r' = id
      · obtain ⟨rfl, e3⟩ := at_id e' h'; rw [e3] at k'
        exact (hdis ρ' b k' r R ρ e h k).elim
      · rw [up'_ne _ _ e'] at h' k'
        exact hh.inj _ _ _ _ _ _ b h k h' k'
end

/-! ### Values handed over -/
/-- A cell handed over, its ghosts in a row. -/
def HC (w : World) (av : AV) (v : Value) (gs : List Gh) : Prop :=
  match av with
  | .deep p bo sz xs => ∃ G, gs = [G] ∧ HdR w (G []) p bo sz xs.length v ∧ TreeR w bo sz G xs
  | .undef => False
  | .nl _ => gs = [] ∧ v = .slice none 0 0
  | av => gs = [] ∧ CellR w (fun _ => none) av v
def HCs (w : World) : List AV → List Value → List Gh → Prop
  | [], vs, gs => vs = [] ∧ gs = []
  | c :: cs, vs, gs => ∃ v vs' g1 g2, vs = v :: vs' ∧ gs = g1 ++ g2 ∧ HC w c v g1 ∧ HCs w cs vs' g2
def HV (w : World) (av : AV) (v : Value) (gs : List Gh) : Prop :=
  match av with
  | .agg cs => ∃ a, v = .agg a ∧ HCs w cs a.toList gs
  | .fn f cs => ∃ a, v = .func (.func f) #[] a ∧ HCs w cs a.toList gs
  | av => HC w av v gs
def HVs (w : World) : List AV → List Value → List Gh → Prop
  | [], vs, gs => vs = [] ∧ gs = []
  | c :: cs, vs, gs => ∃ v vs' g1 g2, vs = v :: vs' ∧ gs = g1 ++ g2 ∧ HV w c v g1 ∧ HVs w cs vs' g2

/-- Roots and their ghosts, in a row. -/
def RG (w : World) (rts : List Root) (gs : List Gh) : Prop := rts.length = gs.length ∧ ∀ (k : Nat) R, rts[k]? = some R → ∃ G, gs[k]? = some G ∧ TreeR w (!R.own) R.sz G R.xs
theorem RG.nil {w : World} : RG w [] [] := ⟨rfl, fun k R h => by simp at h⟩
theorem RG.app {w : World} {r1 r2 : List Root} {g1 g2 : List Gh} (h1 : RG w r1 g1) (h2 : RG w r2 g2) : RG w (r1 ++ r2) (g1 ++ g2) :=
  ⟨by simp [h1.1, h2.1], fun k R h => by
    by_cases hk : k < r1.length
    · rw [List.getElem?_append_left hk] at h
      obtain ⟨G, e1, e2⟩ := h1.2 k R h
      exact ⟨G, by rw [List.getElem?_append_left (h1.1 ▸ hk)]; exact e1, e2⟩
    · rw [List.getElem?_append_right (by omega)] at h
      obtain ⟨G, e1, e2⟩ := h2.2 _ R h
      exact ⟨G, by rw [List.getElem?_append_right (by have := h1.1; omega), ← h1.1]; exact e1, e2⟩⟩

/-- These roots and ghosts lie in the state from id n on. -/
def Laid (D : Nat → Prop) (A : Nat → Gh) (rs : Rs) (n : Nat) (rts : List Root) (gs : List Gh) : Prop := ∀ (k : Nat) R G, rts[k]? = some R → gs[k]? = some G → rs (n + k) = some R ∧ A (n + k) = G ∧ D (n + k)
theorem Laid.left {D : Nat → Prop} {A : Nat → Gh} {rs : Rs} {n : Nat} {r1 r2 : List Root} {g1 g2 : List Gh} (h : Laid D A rs n (r1 ++ r2) (g1 ++ g2)) : Laid D A rs n r1 g1 := fun k R G h1 h2 =>
  h k R G (by rw [List.getElem?_append_left (List.getElem?_eq_some_iff.1 h1).1]; exact h1) (by rw [List.getElem?_append_left (List.getElem?_eq_some_iff.1 h2).1]; exact h2)
theorem Laid.right {D : Nat → Prop} {A : Nat → Gh} {rs : Rs} {n : Nat} {r1 r2 : List Root} {g1 g2 : List Gh} (h : Laid D A rs n (r1 ++ r2) (g1 ++ g2)) (hl : r1.length = g1.length) : Laid D A rs (n + r1.length) r2 g2 := fun k R G h1 h2 => by
  have := h (r1.length + k) R G (by rw [List.getElem?_append_right (by omega)]; simpa using h1) (by rw [List.getElem?_append_right (by omega), hl]; simpa using h2)
  rwa [← Nat.add_assoc] at this

section
variable {w : World}
theorem enterC_ok {av : AV} {v : Value} {gs : List Gh} (h : HC w av v gs) (n : Nat) : RG w (enterC av n).2 gs ∧ ∀ {D A rs}, Laid D A rs n (enterC av n).2 gs → PR D A rs w (enterC av n).1 v := by
  cases av with
  | deep p bo sz xs =>
    obtain ⟨G, rfl, h1, h2⟩ := h
    refine ⟨⟨rfl, fun k R hk => ?_⟩, fun {D A rs} hl => ?_⟩
    · cases k with
      | zero => simp only [enterC, List.getElem?_cons_zero, Option.some.injEq] at hk; subst hk; exact ⟨G, rfl, by simpa using h2⟩
      | succ k => simp [enterC] at hk
    · obtain ⟨e1, e2, e3⟩ := hl 0 ⟨!bo, sz, 0, xs⟩ G rfl rfl
      simp only [Nat.add_zero] at e1 e2 e3
      have arr : ∀ R', rs n = some R' → ∀ s ro ys, R'.arr [] 0 = some (s, ro, ys) → s = sz ∧ ys = xs ∧ ro = bo := fun R' h s ro ys ha => by
        rw [e1] at h; injection h with h; subst h
        simp only [Root.arr, Option.some.injEq, Prod.mk.injEq] at ha
        exact ⟨ha.1.symm, ha.2.2.symm, by rw [← ha.2.1, Bool.not_not]⟩
      cases p with
      | false =>
        simp only [enterC, Bool.false_eq_true, if_false, PR]
        cases eG : G [] with
        | none =>
          rw [eG] at h1
          obtain ⟨h3, x, h4⟩ := h1
          refine ⟨e3, x, 0, by rw [h3]; exact h4, by omega, (fun _ => rfl), fun R' hR' => ⟨fun h => absurd rfl h, fun s ro ys ha => ?_⟩⟩
          obtain ⟨rfl, rfl, rfl⟩ := arr R' hR' s ro ys ha
          exact ⟨rfl, by omega, .inl ⟨rfl, by omega⟩⟩
        | some y =>
          obtain ⟨b, oo⟩ := y
          rw [eG] at h1
          obtain ⟨cap, h3, h4, h5⟩ := h1
          refine ⟨e3, _, cap, h3, h4, (fun h => by cases h), fun R' hR' => ⟨fun h => absurd rfl h, fun s ro ys ha => ?_⟩⟩
          obtain ⟨rfl, rfl, rfl⟩ := arr R' hR' s ro ys ha
          exact ⟨rfl, by omega, .inr ⟨b, oo, by rw [e2]; exact eG, by simp, by rw [Nat.zero_add]; exact h5, by omega⟩⟩
      | true =>
        simp only [enterC, if_true, PR]
        cases eG : G [] with
        | none => rw [eG] at h1; exact h1.elim
        | some y =>
          obtain ⟨b, oo⟩ := y
          rw [eG] at h1
          exact ⟨e3, _, h1.1, fun R' hR' => ⟨fun h => absurd rfl h, fun s ro ys ha el hel => ⟨b, oo, by rw [e2]; exact eG, by simp⟩⟩⟩
  | undef => exact h.elim
  | b x => obtain ⟨rfl, h1⟩ := h; exact ⟨RG.nil, fun _ => by simpa only [enterC, PR, CellR] using h1⟩
  | i k m => obtain ⟨rfl, h1⟩ := h; exact ⟨RG.nil, fun _ => by simpa only [enterC, PR, CellR] using h1⟩
  | s x => obtain ⟨rfl, h1⟩ := h; exact ⟨RG.nil, fun _ => by simpa only [enterC, PR, CellR] using h1⟩
  | mb => obtain ⟨rfl, h1⟩ := h; simp only [CellR] at h1
  | nl sz => obtain ⟨rfl, rfl⟩ := h; exact ⟨RG.nil, fun _ => by simp only [enterC, PR]⟩
  | fn f cs => obtain ⟨rfl, h1⟩ := h; simp only [CellR] at h1
  | agg cs => obtain ⟨rfl, h1⟩ := h; simp only [CellR] at h1
  | tup vs => obtain ⟨rfl, h1⟩ := h; simp only [CellR] at h1
  | slc => obtain ⟨rfl, h1⟩ := h; simp only [CellR] at h1
  | ptr => obtain ⟨rfl, h1⟩ := h; simp only [CellR] at h1
  | vp => obtain ⟨rfl, h1⟩ := h; simp only [CellR] at h1
  | bx => obtain ⟨rfl, h1⟩ := h; simp only [CellR] at h1
  | cv => obtain ⟨rfl, h1⟩ := h; simp only [CellR] at h1

theorem enterCs_ok : ∀ {cs : List AV} {vs : List Value} {gs : List Gh}, HCs w cs vs gs → ∀ n : Nat, RG w (enterCs cs n).2 gs ∧ ∀ {D A rs}, Laid D A rs n (enterCs cs n).2 gs → Pw (PR D A rs w) (enterCs cs n).1 vs
  | [], vs, gs, h, n => by obtain ⟨rfl, rfl⟩ := h; exact ⟨RG.nil, fun _ => Pw.nil⟩
  | c :: cs, vs, gs, h, n => by
    obtain ⟨v, vs', g1, g2, rfl, rfl, h1, h2⟩ := h
    obtain ⟨a1, a2⟩ := enterC_ok h1 n
    obtain ⟨b1, b2⟩ := enterCs_ok h2 (n + (enterC c n).2.length)
    refine ⟨RG.app a1 b1, fun hl => Pw.cons (a2 hl.left) (b2 (hl.right a1.1))⟩

theorem enterV_ok {av : AV} {v : Value} {gs : List Gh} (h : HV w av v gs) (n : Nat) : RG w (enterV av n).2 gs ∧ ∀ {D A rs}, Laid D A rs n (enterV av n).2 gs → V1 D A rs w (enterV av n).1 v := by
  unfold HV at h
  split at h
  · obtain ⟨c, rfl, h1⟩ := h
    obtain ⟨a1, a2⟩ := enterCs_ok h1 n
    exact ⟨a1, fun hl => by simp only [enterV, V1]; exact ⟨_, rfl, a2 hl⟩⟩
  · obtain ⟨c, rfl, h1⟩ := h
    obtain ⟨a1, a2⟩ := enterCs_ok h1 n
    exact ⟨a1, fun hl => by simp only [enterV, V1]; exact ⟨_, rfl, a2 hl⟩⟩
  · rename_i n1 n2
    have e : enterV av n = enterC av n := by cases av <;> first | rfl | exact absurd rfl (n1 _) | exact absurd rfl (n2 _ _)
    rw [e]
    obtain ⟨a1, a2⟩ := enterC_ok h n
    exact ⟨a1, fun hl => (a2 hl).v1⟩

theorem enterVs_ok : ∀ {cs : List AV} {vs : List Value} {gs : List Gh}, HVs w cs vs gs → ∀ n : Nat, RG w (enterVs cs n).2 gs ∧ ∀ {D A rs}, Laid D A rs n (enterVs cs n).2 gs → Pw (V1 D A rs w) (enterVs cs n).1 vs
  | [], vs, gs, h, n => by obtain ⟨rfl, rfl⟩ := h; exact ⟨RG.nil, fun _ => Pw.nil⟩
  | c :: cs, vs, gs, h, n => by
    obtain ⟨v, vs', g1, g2, rfl, rfl, h1, h2⟩ := h
    obtain ⟨a1, a2⟩ := enterV_ok h1 n
    obtain ⟨b1, b2⟩ := enterVs_ok h2 (n + (enterV c n).2.length)
    refine ⟨RG.app a1 b1, fun hl => Pw.cons (a2 hl.left) (b2 (hl.right a1.1))⟩
end
end Go.Proofs.Ytinlbiphjgpmmaa.V
end YtinlbiphjgpmmaaVS
section YtinlbiphjgpmmaaVT
namespace Go.Proofs.Ytinlbiphjgpmmaa.V
open Go
set_option linter.unusedVariables false
set_option linter.unusedSimpArgs false

/-- The roots that values bring along. -/
def rtsC : AV → List Root
  | .deep p bo sz xs => [⟨!bo, sz, 0, xs⟩]
  | _ => []
def rtsV : AV → List Root
  | .agg cs => cs.flatMap rtsC
  | .fn f cs => cs.flatMap rtsC
  | v => rtsC v
def rtsVs (vs : List AV) : List Root := vs.flatMap rtsV

theorem enterC_rts (v : AV) (n : Nat) : (enterC v n).2 = rtsC v := by cases v <;> rfl
theorem enterCs_rts : ∀ (vs : List AV) (n : Nat), (enterCs vs n).2 = vs.flatMap rtsC
  | [], n => rfl
  | v :: vs, n => by simp only [enterCs, enterC_rts, enterCs_rts vs, List.flatMap_cons]
theorem enterV_rts (v : AV) (n : Nat) : (enterV v n).2 = rtsV v := by
  cases v <;> first | exact enterC_rts _ n | exact enterCs_rts _ n
theorem enterVs_rts : ∀ (vs : List AV) (n : Nat), (enterVs vs n).2 = rtsVs vs
  | [], n => rfl
  | v :: vs, n => by simp only [enterVs, enterV_rts, enterVs_rts vs, rtsVs, List.flatMap_cons]

/-- Handed values, and whence their blocks are. -/
structure OutL (cx : Cx) (A : Nat → Gh) (rs : Rs) (rts : List Root) (gs : List Gh) (al : List (List Nat)) : Prop where
  len1 : rts.length = gs.length
  len2 : rts.length = al.length
  own : ∀ (k : Nat) R G l ρ b, rts[k]? = some R → gs[k]? = some G → al[k]? = some l → R.Key G false ρ b → ∃ r Rr ρ', r ∈ l ∧ rs r = some Rr ∧ Rr.Key (A r) false ρ' b
  inj : ∀ (k : Nat) R G ρ ρ' b, rts[k]? = some R → gs[k]? = some G → R.Key G false ρ b → R.Key G false ρ' b → ρ = ρ'
  sta : ∀ (k : Nat) R G ρ b, rts[k]? = some R → gs[k]? = some G → R.Key G true ρ b → cx.S b

section
variable {P : Program} {D D' : Nat → Prop} {A : Nat → Gh} {rs : Rs} {w : World} {cx : Cx} {w0 : World}

theorem OutL.nil : OutL cx A rs [] [] [] := ⟨rfl, rfl, fun k R G l ρ b h => by simp at h, fun k R G ρ ρ' b h => by simp at h, fun k R G ρ b h => by simp at h⟩
theorem OutL.app {r1 r2 : List Root} {g1 g2 : List Gh} {a1 a2 : List (List Nat)} (h1 : OutL cx A rs r1 g1 a1) (h2 : OutL cx A rs r2 g2 a2) : OutL cx A rs (r1 ++ r2) (g1 ++ g2) (a1 ++ a2) := by
  have left : ∀ {α : Type} {x y : List α} {k : Nat} {z : α}, k < x.length → (x ++ y)[k]? = some z → x[k]? = some z := fun hk h => by rwa [List.getElem?_append_left hk] at h
  have right : ∀ {α : Type} {x y : List α} {k : Nat} {z : α}, ¬ k < x.length → (x ++ y)[k]? = some z → y[k - x.length]? = some z := fun hk h => by rwa [List.getElem?_append_right (by omega)] at h
  have l1 := h1.len1
  have l2 := h1.len2
  refine ⟨by simp [l1, h2.len1], by simp [l2, h2.len2], fun k R G l ρ b e1 e2 e3 => ?_, fun k R G ρ ρ' b e1 e2 => ?_, fun k R G ρ b e1 e2 => ?_⟩ <;> by_cases hk : k < r1.length
  · exact h1.own k R G l ρ b (left hk e1) (left (l1 ▸ hk) e2) (left (l2 ▸ hk) e3)
  · exact h2.own _ R G l ρ b (right hk e1) (by rw [l1]; exact right (l1 ▸ hk) e2) (by rw [l2]; exact right (l2 ▸ hk) e3)
  · exact h1.inj k R G ρ ρ' b (left hk e1) (left (l1 ▸ hk) e2)
  · exact h2.inj _ R G ρ ρ' b (right hk e1) (by rw [l1]; exact right (l1 ▸ hk) e2)
  · exact h1.sta k R G ρ b (left hk e1) (left (l1 ▸ hk) e2)
  · exact h2.sta _ R G ρ b (right hk e1) (by rw [l1]; exact right (l1 ▸ hk) e2)

/-- One array. -/
theorem OutL.one {R : Root} {G : Gh} {l : List Nat} (h1 : ∀ ρ b, R.Key G false ρ b → ∃ r Rr ρ', r ∈ l ∧ rs r = some Rr ∧ Rr.Key (A r) false ρ' b) (h2 : ∀ ρ ρ' b, R.Key G false ρ b → R.Key G false ρ' b → ρ = ρ') (h3 : ∀ ρ b, R.Key G true ρ b → cx.S b) :
    OutL cx A rs [R] [G] [l] := by
  have hz : ∀ {α : Type} {x y : α} {k : Nat}, [x][k]? = some y → x = y := fun {α x y k} h => by cases k <;> simp at h; exact h
  refine ⟨rfl, rfl, fun k R' G' l' ρ b e1 e2 e3 => ?_, fun k R' G' ρ ρ' b e1 e2 => ?_, fun k R' G' ρ b e1 e2 => ?_⟩
  · rw [← hz e1, ← hz e2, ← hz e3]; exact h1 ρ b
  · rw [← hz e1, ← hz e2]; exact h2 ρ ρ' b
  · rw [← hz e1, ← hz e2]; exact h3 ρ b

theorem outC_ok (hh : HR cx w A rs) {av : AV} {v : Value} (h : PR D A rs w av v) {c : AV} {asx : List Nat} (ho : outC rs av = some (c, asx)) :
    ∃ gs al, HC w c v gs ∧ OutL cx A rs (rtsC c) gs al ∧ asx = al.flatten := by
  have plain : ∀ {c}, (∀ p bo sz xs, c ≠ .deep p bo sz xs) → c ≠ .undef → CellR w (fun _ => none) c v → asx = [] → ∃ gs al, HC w c v gs ∧ OutL cx A rs (rtsC c) gs al ∧ asx = al.flatten := fun {c} h1 h2 h3 h4 => by
    refine ⟨[], [], ?_, ?_, h4⟩
    · cases c <;> first | exact absurd rfl (h1 _ _ _ _) | exact absurd rfl h2 | exact ⟨rfl, h3⟩ | (simp only [CellR] at h3)
    · have : rtsC c = [] := by cases c <;> first | rfl | exact absurd rfl (h1 _ _ _ _)
      rw [this]; exact OutL.nil
  unfold outC at ho
  split at ho
  · injection ho with ho; injection ho with e1 e2; subst e1; subst e2
    exact plain (by intros; simp) (by simp) (by simpa only [PR, CellR] using h) rfl
  · injection ho with ho; injection ho with e1 e2; subst e1; subst e2
    exact plain (by intros; simp) (by simp) (by simpa only [PR, CellR] using h) rfl
  · injection ho with ho; injection ho with e1 e2; subst e1; subst e2
    exact plain (by intros; simp) (by simp) (by simpa only [PR, CellR] using h) rfl
  · rename_i sz
    injection ho with ho; injection ho with e1 e2; subst e1; subst e2
    simp only [PR] at h; subst h
    have hk : ∀ {f ρ b}, ¬ Root.Key ⟨true, sz, 0, []⟩ (fun _ => none) f ρ b := fun ⟨s, ys, o, _, h⟩ => by cases h
    exact ⟨[fun _ => none], [[]], ⟨_, rfl, ⟨rfl, none, rfl⟩, TreeR.mk' ⟨fun i el he => by simp at he, rfl⟩ (fun i c p bo sz' zs hc => by simp [cellAt] at hc)⟩,
      OutL.one (fun ρ b k => absurd k hk) (fun ρ ρ' b k => absurd k hk) (fun ρ b k => absurd k hk), rfl⟩
  · rename_i r q pv sz off len
    simp only [Option.bind_eq_some_iff] at ho
    obtain ⟨⟨R, s, ro, ys⟩, hl, ho⟩ := ho
    obtain ⟨G, h1, h2, h3, h4, rfl, h6⟩ := slc_det hh h hl
    obtain ⟨hr, ha⟩ := look_some hl
    cases ro with
    | true =>
      simp only [if_true, Option.some.injEq, Prod.mk.injEq] at ho
      obtain ⟨rfl, rfl⟩ := ho
      have no : ∀ {ρ b}, ¬ Root.Key ⟨!true, s, 0, wnd ys off len⟩ G false ρ b := fun ⟨s', zs, o, h9, h10⟩ => by
        have := arrAt_ro _ h9; cases this
      refine ⟨[G], [[]], ⟨G, rfl, h1, h3⟩, OutL.one (fun ρ b k => absurd k no) (fun ρ ρ' b k => absurd k no) (fun ρ b k => hh.sta r R _ b hr (h6 _ _ _ k)), rfl⟩
    | false =>
      simp only [Bool.false_eq_true, if_false, Option.some.injEq, Prod.mk.injEq] at ho
      obtain ⟨rfl, rfl⟩ := ho
      refine ⟨[G], [[r]], ⟨G, rfl, h1, h3⟩, OutL.one (fun ρ b k => ⟨r, R, _, by simp, hr, h6 _ _ _ k⟩) (fun ρ ρ' b k k' => ?_) (fun ρ b k => hh.sta r R _ b hr (h6 _ _ _ k)), rfl⟩
      have := (hh.inj r R _ r R _ b hr (h6 _ _ _ k) hr (h6 _ _ _ k')).2
      exact winP_inj (List.append_cancel_left this)
  · rename_i r q pv
    simp only [Option.bind_eq_some_iff] at ho
    obtain ⟨⟨R, s, ro, ys⟩, hl, ho⟩ := ho
    obtain ⟨hr, ha⟩ := look_some hl
    split at ho
    · rename_i hlen
      have hpath := Root.arr_of ha
      have ht := hh.arr hr hpath
      have hl0 : 0 < ys.length := by rw [hlen]; exact Nat.one_pos
      obtain ⟨el, hel⟩ : ∃ el, ys[0]? = some el := ⟨ys[0]'hl0, List.getElem?_eq_getElem hl0⟩
      obtain ⟨hD, ad, rfl, h3⟩ := h
      obtain ⟨b, oo, h4, h5⟩ := (h3 R hr).2 s ro ys ha el hel
      have hG : (A r).from' q [] = some (b, oo) := by simpa [Gh.from'] using h4
      have hH : ∀ bo, HdR w ((A r).from' q []) true bo s ys.length (.pointer (some ad)) := fun bo => by
        rw [hG]; exact ⟨by rw [h5]; simp, hlen⟩
      have hkey : ∀ {f ρ b}, V.Key s ro ((A r).from' q) ys f ρ b → R.Key (A r) f (q ++ ρ) b := fun k => V.Key.sub hpath k
      cases ro with
      | true =>
        simp only [if_true, Option.some.injEq, Prod.mk.injEq] at ho
        obtain ⟨rfl, rfl⟩ := ho
        have no : ∀ {ρ b}, ¬ Root.Key ⟨!true, s, 0, ys⟩ ((A r).from' q) false ρ b := fun ⟨s', zs, o, h9, h10⟩ => by
          have := arrAt_ro _ h9; cases this
        exact ⟨[(A r).from' q], [[]], ⟨_, rfl, hH _, ht⟩, OutL.one (fun ρ b k => absurd k no) (fun ρ ρ' b k => absurd k no) (fun ρ b k => hh.sta r R _ b hr (hkey k)), rfl⟩
      | false =>
        simp only [Bool.false_eq_true, if_false, Option.some.injEq, Prod.mk.injEq] at ho
        obtain ⟨rfl, rfl⟩ := ho
        refine ⟨[(A r).from' q], [[r]], ⟨_, rfl, hH _, ht⟩, OutL.one (fun ρ b k => ⟨r, R, _, by simp, hr, hkey k⟩) (fun ρ ρ' b k k' => ?_) (fun ρ b k => hh.sta r R _ b hr (hkey k)), rfl⟩
        exact List.append_cancel_left (hh.inj r R _ r R _ b hr (hkey k) hr (hkey k')).2
    · cases ho
  · cases ho

theorem outC_form {av c : AV} {asx : List Nat} (ho : outC rs av = some (c, asx)) : (∀ cs, c ≠ .agg cs) ∧ ∀ f cs, c ≠ .fn f cs := by
  unfold outC at ho
  refine ⟨fun cs e => ?_, fun f cs e => ?_⟩ <;> subst e <;> split at ho <;> first
    | (cases ho; done)
    | (simp at ho; done)
    | (simp only [Option.bind_eq_some_iff] at ho; obtain ⟨⟨R, s, ro, ys⟩, _, ho⟩ := ho; (repeat' split at ho) <;> first | (cases ho; done) | (simp at ho; done))

theorem outCs_ok (hh : HR cx w A rs) : ∀ {cs : List AV} {vs : List Value}, Pw (PR D A rs w) cs vs → ∀ {cs' : List AV} {asx : List Nat}, outCs rs cs = some (cs', asx) →
    ∃ gs al, HCs w cs' vs gs ∧ OutL cx A rs (cs'.flatMap rtsC) gs al ∧ asx = al.flatten
  | [], vs, h, cs', asx, ho => by
    simp only [outCs, Option.some.injEq, Prod.mk.injEq] at ho
    obtain ⟨rfl, rfl⟩ := ho
    rw [h.nil_inv]
    exact ⟨[], [], ⟨rfl, rfl⟩, OutL.nil, rfl⟩
  | c :: cs, vs, h, cs', asx, ho => by
    obtain ⟨v, vs', rfl, h1, h2⟩ := h.head
    simp only [outCs, Option.bind_eq_some_iff, Option.map_eq_some_iff] at ho
    obtain ⟨⟨c', a1⟩, h3, ⟨cs2, a2⟩, h4, h5⟩ := ho
    injection h5 with h5 h6; subst h5; subst h6
    obtain ⟨g1, l1, b1, b2, rfl⟩ := outC_ok hh h1 h3
    obtain ⟨g2, l2, c1, c2, rfl⟩ := outCs_ok hh h2 h4
    exact ⟨g1 ++ g2, l1 ++ l2, ⟨v, vs', g1, g2, rfl, rfl, b1, c1⟩, by rw [List.flatMap_cons]; exact b2.app c2, by simp⟩

theorem outV_ok (hh : HR cx w A rs) {av : AV} {v : Value} (h : V1 D A rs w av v) {c : AV} {asx : List Nat} (ho : outV rs av = some (c, asx)) :
    ∃ gs al, HV w c v gs ∧ OutL cx A rs (rtsV c) gs al ∧ asx = al.flatten := by
  unfold outV at ho
  split at ho
  · simp only [V1] at h
    obtain ⟨a, rfl, h1⟩ := h
    simp only [Option.map_eq_some_iff] at ho
    obtain ⟨⟨cs, u⟩, h2, h3⟩ := ho
    injection h3 with h3 h4; subst h3; subst h4
    obtain ⟨gs, al, b1, b2, b3⟩ := outCs_ok hh h1 h2
    exact ⟨gs, al, ⟨a, rfl, b1⟩, b2, b3⟩
  · simp only [V1] at h
    obtain ⟨a, rfl, h1⟩ := h
    simp only [Option.map_eq_some_iff] at ho
    obtain ⟨⟨cs, u⟩, h2, h3⟩ := ho
    injection h3 with h3 h4; subst h3; subst h4
    obtain ⟨gs, al, b1, b2, b3⟩ := outCs_ok hh h1 h2
    exact ⟨gs, al, ⟨a, rfl, b1⟩, b2, b3⟩
  · rename_i n1 n2
    have h' : PR D A rs w av v := by cases av <;> first | exact absurd rfl (n1 _) | exact absurd rfl (n2 _ _) | exact h
    obtain ⟨gs, al, b1, b2, b3⟩ := outC_ok hh h' ho
    have hc := outC_form ho
    refine ⟨gs, al, ?_, ?_, b3⟩
    · cases c <;> first | exact absurd rfl (hc.1 _) | exact absurd rfl (hc.2 _ _) | exact b1
    · cases c <;> first | exact absurd rfl (hc.1 _) | exact absurd rfl (hc.2 _ _) | exact b2

theorem outVs_ok (hh : HR cx w A rs) : ∀ {cs : List AV} {vs : List Value}, Pw (V1 D A rs w) cs vs → ∀ {cs' : List AV} {asx : List Nat}, outVs rs cs = some (cs', asx) →
    ∃ gs al, HVs w cs' vs gs ∧ OutL cx A rs (rtsVs cs') gs al ∧ asx = al.flatten
  | [], vs, h, cs', asx, ho => by
    simp only [outVs, Option.some.injEq, Prod.mk.injEq] at ho
    obtain ⟨rfl, rfl⟩ := ho
    rw [h.nil_inv]
    exact ⟨[], [], ⟨rfl, rfl⟩, OutL.nil, rfl⟩
  | c :: cs, vs, h, cs', asx, ho => by
    obtain ⟨v, vs', rfl, h1, h2⟩ := h.head
    simp only [outVs, Option.bind_eq_some_iff, Option.map_eq_some_iff] at ho
    obtain ⟨⟨c', a1⟩, h3, ⟨cs2, a2⟩, h4, h5⟩ := ho
    injection h5 with h5 h6; subst h5; subst h6
    obtain ⟨g1, l1, b1, b2, rfl⟩ := outV_ok hh h1 h3
    obtain ⟨g2, l2, c1, c2, rfl⟩ := outVs_ok hh h2 h4
    exact ⟨g1 ++ g2, l1 ++ l2, ⟨v, vs', g1, g2, rfl, rfl, b1, c1⟩, by simp only [rtsVs, List.flatMap_cons]; exact b2.app c2, by simp⟩
end
end Go.Proofs.Ytinlbiphjgpmmaa.V
end YtinlbiphjgpmmaaVT
section YtinlbiphjgpmmaaVU
namespace Go.Proofs.Ytinlbiphjgpmmaa.V
open Go
set_option linter.unusedVariables false
set_option linter.unusedSimpArgs false

def fieldsSized (P : Program) (fs : Array Field) : Bool := fs.toList.all fun f => (P.info? f.type).isSome
def buildOk (P : Program) (fs : Array Field) : List (Nat × Operand) → List (Nat × Nat × X) → Bool
  | [], [] => true
  | (j, x) :: ps, (o, n, y) :: qs => xOk x y && (match fs[j]? with | some f => f.offset == o && szIs P f.type n | none => false) && buildOk P fs ps qs
  | _, _ => false

theorem szIs_val {P : Program} {t n : Nat} (h : szIs P t n = true) : (P.info? t).map (·.size) = some n := by
  unfold szIs at h
  cases e : P.info? t with
  | none => simp [e] at h
  | some i => simp [e] at h; simp [h]

section
variable {P : Program} {D : Nat → Prop} {A : Nat → Gh} {rs : Rs} {w : World} {tm : Tm} {a : Act} {o : Oper}

theorem run_places : ∀ (fs : List Field), (fs.all fun f => (P.info? f.type).isSome) = true → ∀ w : World,
    (fs.mapM fun f => do pure (f.offset, ← sizeOf f.type) : Sem (List (Nat × Nat))).run P w = .ok (fs.map fun f => (f.offset, ((P.info? f.type).map (·.size)).getD 0)) w
  | [], _, w => by simp
  | f :: fs, h, w => by
    simp only [List.all_cons, Bool.and_eq_true] at h
    obtain ⟨i, hi⟩ := Option.isSome_iff_exists.1 h.1
    have ih := run_places fs h.2
    have hs : (sizeOf f.type).run P w = .ok i.size w := by simp only [sizeOf, Sem.run_bind, run_typeInfo' hi, Result.andThen_ok, Sem.run_pure]
    simp only [List.mapM_cons, Sem.run_bind, hs, Result.andThen_ok, Sem.run_pure, ih, List.map_cons, hi, Option.map_some, Option.getD_some]

theorem putCells_pw {cs : List AV} {c : Array Value} (h : Pw (PR D A rs w) cs c.toList) : ∀ {vs : List AV} {us : List Value} (off : Nat), Pw (PR D A rs w) vs us → off + vs.length ≤ cs.length →
    Pw (PR D A rs w) (putCells cs off vs) ((us.zipIdx 0).foldl (fun cs (x : Value × Nat) => cs.setIfInBounds (off + x.2) x.1) c).toList := by
  intro vs us off hv hl
  have key : ∀ {vs : List AV} {us : List Value} (s : Nat) {cs : List AV} {c : Array Value}, Pw (PR D A rs w) cs c.toList → Pw (PR D A rs w) vs us →
      Pw (PR D A rs w) (putCells cs (off + s) vs) ((us.zipIdx s).foldl (fun cs (x : Value × Nat) => cs.setIfInBounds (off + x.2) x.1) c).toList := by
    intro vs
    induction vs with
    | nil => intro us s cs c h hv; rw [hv.nil_inv]; exact h
    | cons v vs ih =>
      intro us s cs c h hv
      obtain ⟨u, us', rfl, h1, h2⟩ := hv.head
      simp only [putCells, List.zipIdx_cons, List.foldl_cons]
      have := ih (s + 1) (cs := cs.set (off + s) v) (c := c.setIfInBounds (off + s) u) (by rw [Array.toList_setIfInBounds]; exact h.set h1 _) h2
      rw [← Nat.add_assoc] at this
      exact this
  simpa using key 0 h hv

theorem build_fill (h : TR D A rs w tm a) {fs : Array Field} {pl : Array (Nat × Nat)} (hpl : ∀ (j : Nat) f, fs[j]? = some f → pl[j]? = some (f.offset, ((P.info? f.type).map (·.size)).getD 0)) :
    ∀ {ps : List (Nat × Operand)} {qs : List (Nat × Nat × X)}, buildOk P fs ps qs = true → ∀ {cs : List AV} {c : Array Value}, Pw (PR D A rs w) cs c.toList → ∀ {r : List AV}, aBuild tm cs qs = some r →
    ∃ c', Instr.fill (pl[·]?) c (ps.map fun (i, x) => (i, a.eval x)) = some c' ∧ Pw (PR D A rs w) r c'.toList
  | [], [], _, cs, c, hc, r, hb => by
    simp only [aBuild, Option.some.injEq] at hb; subst hb
    exact ⟨c, rfl, hc⟩
  | (j, x) :: ps, (of, n, y) :: qs, hk, cs, c, hc, r, hb => by
    simp only [buildOk, Bool.and_eq_true] at hk
    obtain ⟨⟨hx, hf⟩, hk⟩ := hk
    split at hf
    · rename_i f hfj
      simp only [Bool.and_eq_true, beq_iff_eq] at hf
      obtain ⟨rfl, hsz⟩ := hf
      simp only [aBuild] at hb
      split at hb
      · rename_i hl
        have hv := h.ev hx
        have hcells : Pw (PR D A rs w) (y.ev tm).cells (a.eval x).cells.toList := by
          refine hv.cells (fun f cs e => ?_) (fun vs e => ?_) (fun e => ?_) (fun cs c e => ?_) <;> (have := hl.1; rw [e] at this; simp [isVal] at this)
        have hsize : (a.eval x).cells.size = n := by rw [← Array.length_toList, ← hcells.1]; exact hl.2.1
        have hcl : c.size = cs.length := by rw [← Array.length_toList]; exact hc.1.symm
        have hput := putCells_pw hc f.offset hcells (by omega)
        obtain ⟨c', h1, h2⟩ := build_fill h hpl hk (c := (a.eval x).cells.zipIdx.foldl (fun cs (c, k) => cs.setIfInBounds (f.offset + k) c) c) (by
          rw [← Array.foldl_toList, Array.toList_zipIdx]; exact hput) hb
        refine ⟨c', ?_, h2⟩
        simp only [List.map_cons, Instr.fill, hpl j f hfj, szIs_val hsz, Option.getD_some]
        rw [if_neg]
        · exact h1
        · simp [hsize]; omega
      · cases hb
    · cases hf
  | [], _ :: _, hk, _, _, _, _, _ => by simp [buildOk] at hk
  | _ :: _, [], hk, _, _, _, _, _ => by simp [buildOk] at hk

theorem litCs_pw {xs : List AV} {vs : List Value} (h : litCs xs vs = true) : Pw (PR D A rs w) xs vs := litCs_ok h

theorem mapM_arr {α β : Type} (f : α → Sem β) (xs : Array α) (w : World) : (xs.mapM f).run P w = ((xs.toList.mapM f).run P w).andThen fun l w' => .ok l.toArray w' := by
  rw [Array.mapM_eq_mapM_toList]
  simp only [Sem.run_map]

theorem sim_build (h : TR D A rs w tm a) {t : Nat} {fs : Array Field} {ps : Array (Nat × Operand)} {qs : List (Nat × Nat × X)} (ho : o.op = .build t ps) (ht : P.underlying t = some (.struct fs)) (hsz : fieldsSized P fs = true)
    {zero : List AV} {z : Value} (hz : (P.info? t).bind (·.zero) = some z) (hzl : litCs zero z.cells.toList = true) (hk : buildOk P fs ps.toList qs = true) {r : List AV} (hb : aBuild tm zero qs = some r) :
    ∃ v, Yields P a o w v ∧ VR D A rs w (.agg r) v := by
  have hpl : ∀ (j : Nat) f, fs[j]? = some f → (fs.toList.map fun f => (f.offset, ((P.info? f.type).map (·.size)).getD 0)).toArray[j]? = some (f.offset, ((P.info? f.type).map (·.size)).getD 0) := fun j f hj => by
    rw [List.getElem?_toArray, List.getElem?_map, Array.getElem?_toList, hj]; rfl
  obtain ⟨c', h1, h2⟩ := build_fill (D := D) (A := A) (rs := rs) (w := w) h hpl hk (c := z.cells) (litCs_pw hzl) hb
  refine ⟨.agg c', ?_, by simp only [VR, V1]; exact ⟨c', rfl, h2⟩⟩
  simp only [Option.bind_eq_some_iff] at hz
  obtain ⟨i, hi, hz⟩ := hz
  have hzv : (zeroValue t).run P w = .ok z w := by simp only [zeroValue, Sem.run_bind, run_typeInfo' hi, Result.andThen_ok, hz, Sem.run_pure]
  have hmap : (ps.map fun (i, x) => (i, a.eval x)).toList = ps.toList.map fun (i, x) => (i, a.eval x) := by simp
  simp only [Yields, execOp, ho, Instr.build, Sem.run_bind, hzv, Result.andThen_ok, run_underlying' ht, mapM_arr, run_places fs.toList hsz, hmap, h1, Sem.run_pure]

/-! ### min, max -/
theorem run_mnMx (mx : Bool) : ∀ {x : AV} {u : Value} {xs : List AV} {us : List Value}, VR D A rs w x u → Pw (VR D A rs w) xs us → ∀ {r : AV}, mnMx mx x xs = some r →
    ∃ v, (us.foldlM (if mx then Builtin.max2 else Builtin.min2) u : Sem Value).run P w = .ok v w ∧ VR D A rs w r v
  | x, u, [], us, hx, hp, r, hr => by
    simp only [mnMx, Option.some.injEq] at hr; subst hr
    rw [hp.nil_inv]
    exact ⟨u, rfl, hx⟩
  | x, u, y :: xs, us, hx, hp, r, hr => by
    obtain ⟨u', us', rfl, h1, h2⟩ := hp.head
    unfold mnMx at hr
    split at hr
    · rename_i e; cases e
    · rename_i k n k' m rest e
      injection e with e1 e2; subst e1; subst e2
      split at hr
      · rename_i hk; subst hk
        cases hx.int; cases h1.int
        have := run_mnMx mx (x := .i k (if mx then (if m > n then m else n) else (if m < n then m else n))) (u := .int k (if mx then (if m > n then m else n) else (if m < n then m else n))) vr_i h2 hr
        obtain ⟨v, h3, h4⟩ := this
        refine ⟨v, ?_, h4⟩
        cases mx
        · simpa [List.foldlM_cons, Builtin.min2] using h3
        · simpa [List.foldlM_cons, Builtin.max2] using h3
      · cases hr
    · cases hr

theorem sim_mm (h : TR D A rs w tm a) {cl : Call} {mx : Bool} {xs : List Operand} {x' : X} {xs' : List X} (ho : o.op = .call cl) (hcl : cl.callee = .builtin (if mx then .max else .min)) (hca : cl.args.toList = xs)
    (hx : xsOk xs (x' :: xs') = true) {r : AV} (hr : mnMx mx (x'.ev tm) (xs'.map (·.ev tm)) = some r) : ∃ v, Yields P a o w v ∧ VR D A rs w r v := by
  have h1 := h.evs hx
  simp only [List.map_cons] at h1
  obtain ⟨u, us, e, h2, h3⟩ := h1.head
  obtain ⟨v, h4, h5⟩ := run_mnMx (P := P) mx h2 h3 hr
  refine ⟨v, ?_, h5⟩
  have hargs : (cl.args.map a.eval).toList = u :: us := by rw [Array.toList_map, hca, e]
  cases mx
  · simp only [Yields, execOp, ho, resolve, hcl, Bool.false_eq_true, if_false, invoke, builtin, Sem.run_bind, Sem.run_pure, Result.andThen_ok, Builtin.min_, hargs]
    simp only [Bool.false_eq_true, if_false] at h4
    rw [h4]; rfl
  · simp only [Yields, execOp, ho, resolve, hcl, if_true, invoke, builtin, Sem.run_bind, Sem.run_pure, Result.andThen_ok, Builtin.max_, hargs]
    simp only [if_true] at h4
    rw [h4]; rfl

/-! ### Structs compared -/
theorem eq_fields {d : Nat} : ∀ {fs : List Field} {k : Nat} {ks : List Nat} {x y : Array Value} {xs ys : List AV}, kindsOk P fs k ks = true →
    (∀ (j : Nat) c, xs[j]? = some c → ∃ v, x[k + j]? = some v ∧ PR D A rs w c v) → (∀ (j : Nat) c, ys[j]? = some c → ∃ v, y[k + j]? = some v ∧ PR D A rs w c v) → ∀ {r : Bool}, eqCells ks xs ys = some r →
    (Op.eqFields (d + 1) x y fs).run P w = .ok r w
  | [], k, ks, x, y, xs, ys, hf, hx, hy, r, he => by
    cases ks with
    | cons => simp [kindsOk] at hf
    | nil =>
      cases xs with
      | cons => simp [eqCells] at he
      | nil =>
        cases ys with
        | cons => simp [eqCells] at he
        | nil => simp only [eqCells, Option.some.injEq] at he; subst he; simp [Op.eqFields]
  | f :: fs, k, ks, x, y, xs, ys, hf, hx, hy, r, he => by
    cases ks with
    | nil => simp [kindsOk] at hf
    | cons kd ks =>
      simp only [kindsOk, Bool.and_eq_true, beq_iff_eq, bne_iff_ne, ne_eq] at hf
      obtain ⟨⟨⟨⟨hoff, hname⟩, hkd⟩, hagg⟩, hrest⟩ := hf
      have ih : ∀ {xs ys r'}, (∀ (j : Nat) c, xs[j]? = some c → ∃ v, x[k + 1 + j]? = some v ∧ PR D A rs w c v) → (∀ (j : Nat) c, ys[j]? = some c → ∃ v, y[k + 1 + j]? = some v ∧ PR D A rs w c v) → eqCells ks xs ys = some r' →
          (Op.eqFields (d + 1) x y fs).run P w = .ok r' w := fun hx hy he => eq_fields hrest hx hy he
      have step : ∀ {u v : Value} {b r' : Bool}, x[k]? = some u → y[k]? = some v → (Op.equalIn (d + 1) f.type u v).run P w = .ok b w → (Op.eqFields (d + 1) x y fs).run P w = .ok r' w →
          (Op.eqFields (d + 1) x y (f :: fs)).run P w = .ok (b && r') w := fun {u v b r'} h1 h2 h3 h4 => by
        have p1 : (part f.type x f.offset).run P w = .ok u w := by simp only [part, Sem.run_bind, run_isAgg' hagg, Result.andThen_ok, Bool.false_eq_true, if_false, hoff, h1, Sem.run_pure]
        have p2 : (part f.type y f.offset).run P w = .ok v w := by simp only [part, Sem.run_bind, run_isAgg' hagg, Result.andThen_ok, Bool.false_eq_true, if_false, hoff, h2, Sem.run_pure]
        simp only [Op.eqFields, ne_eq, hname, not_false_eq_true, if_true, Sem.run_bind, p1, p2, h3, Result.andThen_ok, Sem.run_ite]
        cases b
        · simp
        · simp [h4]
      have shift : ∀ {zs : List AV} {z : AV} {a : Array Value}, (∀ (j : Nat) c, (z :: zs)[j]? = some c → ∃ v, a[k + j]? = some v ∧ PR D A rs w c v) → (∃ v, a[k]? = some v ∧ PR D A rs w z v) ∧ ∀ (j : Nat) c, zs[j]? = some c → ∃ v, a[k + 1 + j]? = some v ∧ PR D A rs w c v := fun h =>
        ⟨by simpa using h 0 _ rfl, fun j c hj => by have := h (j + 1) c (by simpa using hj); rwa [show k + (j + 1) = k + 1 + j by omega] at this⟩
      unfold eqCells at he
      split at he <;> try (cases he; done)
      · contradiction
      · rename_i ks' p xs' q ys' e1
        injection e1 with e1 e2; subst e1; subst e2
        simp only [Option.map_eq_some_iff] at he
        obtain ⟨r', he, rfl⟩ := he
        obtain ⟨⟨u, h1, h2⟩, h3⟩ := shift hx
        obtain ⟨⟨v, h4, h5⟩, h6⟩ := shift hy
        simp only [PR] at h2 h5; subst h2; subst h5
        have ht : P.underlying f.type = some .bool := by unfold kindOk at hkd; split at hkd <;> first | (cases hkd; done) | assumption | (rename_i e; cases e)
        have := step h1 h4 (equalIn_bool2 d p q ht) (ih h3 h6 he)
        refine this.trans ?_
        by_cases e : p = q <;> simp [e]
      · rename_i ks' ki p xs' kj q ys' e1
        injection e1 with e1 e2; subst e1; subst e2
        split at he
        · rename_i hk; subst hk
          simp only [Option.map_eq_some_iff] at he
          obtain ⟨r', he, rfl⟩ := he
          obtain ⟨⟨u, h1, h2⟩, h3⟩ := shift hx
          obtain ⟨⟨v, h4, h5⟩, h6⟩ := shift hy
          simp only [PR] at h2 h5; subst h2; subst h5
          have ht : ∃ kk, P.underlying f.type = some (.int kk) := by unfold kindOk at hkd; split at hkd <;> first | (cases hkd; done) | exact ⟨_, by assumption⟩ | (rename_i e; cases e)
          obtain ⟨kk, ht⟩ := ht
          have := step h1 h4 (run_equalIn_int w d f.type ki kk p q ht) (ih h3 h6 he)
          refine this.trans ?_
          by_cases e : p = q <;> simp [e]
        · cases he
      · rename_i ks' p xs' q ys' e1
        injection e1 with e1 e2; subst e1; subst e2
        simp only [Option.map_eq_some_iff] at he
        obtain ⟨r', he, rfl⟩ := he
        obtain ⟨⟨u, h1, h2⟩, h3⟩ := shift hx
        obtain ⟨⟨v, h4, h5⟩, h6⟩ := shift hy
        simp only [PR] at h2 h5; subst h2; subst h5
        have ht : P.underlying f.type = some .string := by unfold kindOk at hkd; split at hkd <;> first | (cases hkd; done) | assumption | (rename_i e; cases e)
        have := step h1 h4 (run_equalIn_string w d f.type p q ht) (ih h3 h6 he)
        rw [this, bytes_eq]

theorem sim_eqA (h : TR D A rs w tm a) {t t' : Nat} {neg : Bool} {ks : List Nat} {x y : Operand} {x' y' : X} (ho : o.op = .binOp (if neg then .neq else .eql) t x y t') (hx : xOk x x' = true) (hy : xOk y y' = true)
    (hok : structEqOk P t ks = true) {xs ys : List AV} (e1 : x'.ev tm = .agg xs) (e2 : y'.ev tm = .agg ys) {r : Bool} (he : eqCells ks xs ys = some r) : ∃ v, Yields P a o w v ∧ VR D A rs w (.b (if neg then !r else r)) v := by
  have h1 := h.ev hx
  have h2 := h.ev hy
  rw [e1] at h1; rw [e2] at h2
  obtain ⟨u, h3, h4⟩ := h1.agg
  obtain ⟨v, h5, h6⟩ := h2.agg
  unfold structEqOk at hok
  split at hok
  · rename_i fs ht
    simp only [Bool.and_eq_true, beq_iff_eq] at hok
    obtain ⟨⟨hk, hst⟩, hgd⟩ := hok
    have hfo : P.fieldsOf t = fs := by simp [Program.fieldsOf, ht]
    have hf := eq_fields (P := P) (d := 9998) (x := u) (y := v) hk (fun j c hj => by obtain ⟨z, g1, g2⟩ := h4.get hj; exact ⟨z, by rw [Array.getElem?_toList] at g1; simpa using g1, g2⟩)
      (fun j c hj => by obtain ⟨z, g1, g2⟩ := h6.get hj; exact ⟨z, by rw [Array.getElem?_toList] at g1; simpa using g1, g2⟩) he
    have heq : (Op.equalIn 10000 t (.agg u) (.agg v)).run P w = .ok r w := by
      have := run_equalIn_struct (P := P) w 9999 t u v (by rw [hfo]; exact ht) hst
      rw [hfo] at this
      exact this.trans hf
    refine ⟨.bool (if neg then !r else r), ?_, vr_b⟩
    have hg : ∀ op, (eqGuard op t x y (.agg u) (.agg v)).run P w = .ok () w := fun op => run_eqGuard_agg w op t x y u v hgd
    cases neg
    · simp only [Yields, execOp, ho, h3, h5, Bool.false_eq_true, if_false, Sem.run_bind, hg, Result.andThen_ok, run_eql_struct, heq, Sem.run_pure]
    · simp only [Yields, execOp, ho, h3, h5, if_true, Sem.run_bind, hg, Result.andThen_ok, run_neq_struct, heq, Sem.run_pure]
  · cases hok
end
end Go.Proofs.Ytinlbiphjgpmmaa.V
end YtinlbiphjgpmmaaVU
section YtinlbiphjgpmmaaVV
namespace Go.Proofs.Ytinlbiphjgpmmaa.V
open Go
set_option linter.unusedVariables false
set_option linter.unusedSimpArgs false

def KOf (rts : List Root) (gs : List Gh) (f : Bool) (k : Nat) (ρ : Path) (b : Nat) : Prop := ∃ R G, rts[k]? = some R ∧ gs[k]? = some G ∧ R.Key G f ρ b
def KBk (rts : List Root) (gb : Nat → Gh) (back : List (Option Els)) (f : Bool) (k : Nat) (ρ : Path) (b : Nat) : Prop := ∃ R ys, rts[k]? = some R ∧ back[k]? = some (some ys) ∧ Root.Key ⟨true, R.sz, 0, ys⟩ (gb k) f ρ b

def retVal : List Value → Value
  | [v] => v
  | vs => .tuple vs.toArray

/-- What is known behind a call. -/
structure Post (S : Nat → Prop) (rts : List Root) (gs : List Gh) (w : World) (out : Out) (v : Value) (w' : World) (vs : List Value) (gs' : List Gh) (gb : Nat → Gh) : Prop where
  val : v = retVal vs
  res : HVs w' out.1 vs gs'
  blen : out.2.length = rts.length
  back : ∀ (k : Nat) R G ys, rts[k]? = some R → gs[k]? = some G → out.2[k]? = some (some ys) → R.own = true ∧ gb k [] = G [] ∧ ys.length = R.xs.length ∧ TreeR w' false R.sz (gb k) ys
  size : w.heap.size ≤ w'.heap.size
  block : ∀ b, b < w.heap.size → (∀ k ρ, ¬ KOf rts gs false k ρ b) → w'.heap[b]? = w.heap[b]?
  big : ∀ b n, Big w b n → Big w' b n
  os : w'.os = w.os
  tape : w'.tape = w.tape
  output : w'.output = w.output
  rown : ∀ k ρ b, KOf (rtsVs out.1) gs' false k ρ b → w.heap.size ≤ b ∨ ∃ k ρ, KOf rts gs false k ρ b
  rsta : ∀ k ρ b, KOf (rtsVs out.1) gs' true k ρ b → S b
  bown : ∀ k ρ b, KBk rts gb out.2 false k ρ b → w.heap.size ≤ b ∨ ∃ k ρ, KOf rts gs false k ρ b
  bsta : ∀ k ρ b, KBk rts gb out.2 true k ρ b → S b
  rinj : ∀ k ρ k' ρ' b, KOf (rtsVs out.1) gs' false k ρ b → KOf (rtsVs out.1) gs' false k' ρ' b → k = k' ∧ ρ = ρ'
  binj : ∀ k ρ k' ρ' b, KBk rts gb out.2 false k ρ b → KBk rts gb out.2 false k' ρ' b → k = k' ∧ ρ = ρ'
  xinj : ∀ k ρ k' ρ' b, KOf (rtsVs out.1) gs' false k ρ b → ¬ KBk rts gb out.2 false k' ρ' b

/-- Called with these it comes back with those, wherever it all lies. -/
def Ctr (P : Program) (f : Nat) (ds : List AV) (out : Out) : Prop :=
  ∀ (w : World) (S : Nat → Prop) (args : List Value) (gs : List Gh), (∀ b, S b → b < w.heap.size) → HVs w ds args gs → (∀ k ρ b, KOf (rtsVs ds) gs true k ρ b → S b) → (∀ k ρ b, KOf (rtsVs ds) gs false k ρ b → ¬ S b) →
    (∀ k ρ k' ρ' b, KOf (rtsVs ds) gs false k ρ b → KOf (rtsVs ds) gs false k' ρ' b → k = k' ∧ ρ = ρ') →
    Calls P f args.toArray w fun e w' => ∃ v vs gs' gb, e = .returned v ∧ Post S (rtsVs ds) gs w out v w' vs gs' gb

/-- Whence one array handed over is. -/
def ArgK (cx : Cx) (A : Nat → Gh) (rs : Rs) (R : Root) (G : Gh) (u : Use) : Prop :=
  u.own = R.own ∧ match u.at' with
  | none => R.xs = [] ∧ G = fun _ => none
  | some (r, q) => ∃ Rr, rs r = some Rr ∧
      (u.own = true → q = [] ∧ Rr.own = true ∧ R.sz = Rr.sz ∧ R.xs = Rr.xs ∧ (G = A r ∨ (G = (fun _ => none) ∧ Rr.xs = []))) ∧
      (u.own = false → (∀ ρ b, R.Key G true ρ b → ∃ f ρ', Rr.Key (A r) f ρ' b) ∧ (u.ro = true → ∀ ρ b, R.Key G true ρ b → cx.S b))
structure ArgL (cx : Cx) (A : Nat → Gh) (rs : Rs) (rts : List Root) (gs : List Gh) (us : List Use) : Prop where
  len1 : rts.length = gs.length
  len2 : rts.length = us.length
  at' : ∀ (k : Nat) R G u, rts[k]? = some R → gs[k]? = some G → us[k]? = some u → ArgK cx A rs R G u

section
variable {P : Program} {D D' : Nat → Prop} {A : Nat → Gh} {rs : Rs} {w : World} {cx : Cx} {w0 : World}

theorem ArgL.nil : ArgL cx A rs [] [] [] := ⟨rfl, rfl, fun k R G u h => by simp at h⟩
theorem ArgL.one {R : Root} {G : Gh} {u : Use} (h : ArgK cx A rs R G u) : ArgL cx A rs [R] [G] [u] :=
  ⟨rfl, rfl, fun k R' G' u' e1 e2 e3 => by
    cases k with
    | zero => simp only [List.getElem?_cons_zero, Option.some.injEq] at e1 e2 e3; subst e1; subst e2; subst e3; exact h
    | succ k => simp at e1⟩
theorem ArgL.app {r1 r2 : List Root} {g1 g2 : List Gh} {a1 a2 : List Use} (h1 : ArgL cx A rs r1 g1 a1) (h2 : ArgL cx A rs r2 g2 a2) : ArgL cx A rs (r1 ++ r2) (g1 ++ g2) (a1 ++ a2) := by
  have left : ∀ {α : Type} {x y : List α} {k : Nat} {z : α}, k < x.length → (x ++ y)[k]? = some z → x[k]? = some z := fun hk h => by rwa [List.getElem?_append_left hk] at h
  have right : ∀ {α : Type} {x y : List α} {k : Nat} {z : α}, ¬ k < x.length → (x ++ y)[k]? = some z → y[k - x.length]? = some z := fun hk h => by rwa [List.getElem?_append_right (by omega)] at h
  have l1 := h1.len1
  have l2 := h1.len2
  refine ⟨by simp [l1, h2.len1], by simp [l2, h2.len2], fun k R G u e1 e2 e3 => ?_⟩
  by_cases hk : k < r1.length
  · exact h1.at' k R G u (left hk e1) (left (l1 ▸ hk) e2) (left (l2 ▸ hk) e3)
  · exact h2.at' _ R G u (right hk e1) (by rw [l1]; exact right (l1 ▸ hk) e2) (by rw [l2]; exact right (l2 ▸ hk) e3)

theorem noFalse {sz : Nat} {xs : Els} {G : Gh} {ρ : Path} {b pv : Nat} : ¬ Root.Key ⟨false, sz, pv, xs⟩ G false ρ b := fun ⟨s', zs, o, h9, h10⟩ => by
  have := arrAt_ro _ h9; cases this

theorem arrAt_flag : ∀ (q : Path) {s : Nat} {ro : Bool} {xs : Els} {s' : Nat} {ro' : Bool} {ys : Els}, arrAt s ro xs q = some (s', ro', ys) → ∀ ro2, ∃ ro2', arrAt s ro2 xs q = some (s', ro2', ys)
  | [], s, ro, xs, s', ro', ys, h, ro2 => by
    simp only [arrAt, Option.some.injEq, Prod.mk.injEq] at h ⊢
    exact ⟨ro2, h.1, rfl, h.2.2⟩
  | (i, c) :: q, s, ro, xs, s', ro', ys, h, ro2 => by
    obtain ⟨p, bo, sz, zs, hc, h'⟩ := arrAt_cons h
    obtain ⟨r, h2⟩ := arrAt_flag q h' (ro2 || bo)
    exact ⟨r, by simp only [arrAt, hc]; exact h2⟩
theorem Blk.weaken {b : Nat} {ro : Bool} {cur : Array Value} (h : Blk w b ro cur) : Blk w b true cur := by
  obtain ⟨e, fr, h1, _⟩ := h
  exact ⟨e, fr, h1, fun h => by cases h⟩
theorem TreeR.weaken {ro : Bool} {sz : Nat} {B : Gh} {xs : Els} (h : TreeR w ro sz B xs) : TreeR w true sz B xs := fun q s ro' ys hq => by
  obtain ⟨r, h1⟩ := arrAt_flag q hq ro
  have h2 := h q s r ys h1
  have h3 := arrAt_ro q hq
  simp only at h3; subst h3
  refine ⟨h2.1, ?_⟩
  have h4 := h2.2
  cases e : B.from' q [] with
  | none => rw [e] at h4; exact h4
  | some x =>
    obtain ⟨b, o⟩ := x
    rw [e] at h4
    obtain ⟨cur, h5, h6⟩ := h4
    exact ⟨cur, h5.weaken, h6⟩
theorem Key.weaken {sz : Nat} {B : Gh} {xs : Els} {f : Bool} {ρ : Path} {b : Nat} (h : V.Key sz true B xs f ρ b) (ro2 : Bool) : ∃ f', V.Key sz ro2 B xs f' ρ b := by
  obtain ⟨s, ys, o, h1, h2⟩ := h
  obtain ⟨r, h3⟩ := arrAt_flag ρ h1 ro2
  exact ⟨r, s, ys, o, h3, h2⟩

theorem deepC_ok (hh : HR cx w A rs) {own : Bool} {av : AV} {v : Value} (h : PR D A rs w av v) {c : AV} {us : List Use} (hd : deepC rs own av = some (c, us)) : ∃ gs, HC w c v gs ∧ ArgL cx A rs (rtsC c) gs us := by
  unfold deepC at hd
  split at hd
  · injection hd with hd; injection hd with e1 e2; subst e1; subst e2
    exact ⟨[], ⟨rfl, by simpa only [PR, CellR] using h⟩, ArgL.nil⟩
  · injection hd with hd; injection hd with e1 e2; subst e1; subst e2
    exact ⟨[], ⟨rfl, by simpa only [PR, CellR] using h⟩, ArgL.nil⟩
  · injection hd with hd; injection hd with e1 e2; subst e1; subst e2
    exact ⟨[], ⟨rfl, by simpa only [PR, CellR] using h⟩, ArgL.nil⟩
  · rename_i sz
    simp only [PR] at h; subst h
    split at hd <;> (injection hd with hd; injection hd with e1 e2; subst e1; subst e2)
    · exact ⟨[], ⟨rfl, rfl⟩, ArgL.nil⟩
    exact ⟨[fun _ => none], ⟨_, rfl, ⟨rfl, none, rfl⟩, TreeR.mk' ⟨fun i el he => by simp at he, rfl⟩ (fun i c p bo sz' zs hc => by simp [cellAt] at hc)⟩, ArgL.one ⟨by simp, rfl, rfl⟩⟩
  · rename_i r q pv sz off len
    simp only [Option.bind_eq_some_iff] at hd
    obtain ⟨⟨R, s, ro, ys⟩, hl, hd⟩ := hd
    obtain ⟨hr, ha⟩ := look_some hl
    have hp := Root.arr_of ha
    have ht := hh.arr hr hp
    cases own with
    | true =>
      simp only [if_true] at hd
      split at hd
      · rename_i hc
        obtain ⟨rfl, rfl, rfl, rfl⟩ := hc
        injection hd with hd; injection hd with e1 e2; subst e1; subst e2
        simp only [Root.arr, Option.some.injEq, Prod.mk.injEq, Bool.not_eq_false'] at ha
        obtain ⟨rfl, ho, rfl⟩ := ha
        obtain ⟨hD, ad, cap, rfl, h3, h4, h5⟩ := h
        obtain ⟨rfl, h6, h7⟩ := (h5 R hr).2 R.sz false R.xs (by simp [Root.arr, ho])
        rcases h7 with ⟨rfl, h8⟩ | ⟨b, oo, h8, h9, h10, h11⟩
        · have h0 : R.xs = [] := List.eq_nil_of_length_eq_zero (by omega)
          refine ⟨[fun _ => none], ⟨_, rfl, ⟨by omega, ad, ?_⟩, ?_⟩, ArgL.one ⟨by simp, R, hr, fun _ => ⟨rfl, ho, rfl, rfl, .inr ⟨rfl, h0⟩⟩, fun h => by cases h⟩⟩
          · rw [h0]; rfl
          · rw [h0]; exact TreeR.mk' ⟨fun i el he => by simp at he, rfl⟩ (fun i c p bo sz' zs hc => by simp [cellAt] at hc)
        · refine ⟨[A r], ⟨_, rfl, ?_, ?_⟩, ArgL.one ⟨by simp, R, hr, fun _ => ⟨rfl, ho, rfl, rfl, .inl rfl⟩, fun h => by cases h⟩⟩
          · rw [h8]
            exact ⟨cap, by rw [h9]; simp, h3, by rw [Nat.zero_add] at h10; exact h10⟩
          · have := hh.tree r R hr
            rw [ho] at this; exact this
      · cases hd
    | false =>
      simp only [Bool.false_eq_true, if_false] at hd
      injection hd with hd; injection hd with e1 e2; subst e1; subst e2
      obtain ⟨G, h1, h2, h3, h4, rfl, h6⟩ := slc_det hh h hl
      refine ⟨[G], ⟨G, rfl, HdR.lax h1, h3.weaken⟩, ArgL.one ⟨by simp, R, hr, (fun h => by cases h), fun _ => ⟨fun ρ b k => ?_, fun hro ρ b k => ?_⟩⟩⟩
      · obtain ⟨f', k'⟩ := Key.weaken k ro
        exact ⟨f', _, h6 _ _ _ k'⟩
      · simp only at hro; subst hro
        exact hh.sta r R _ b hr (h6 _ _ _ k)
  · rename_i r q pv
    simp only [Option.bind_eq_some_iff] at hd
    obtain ⟨⟨R, s, ro, ys⟩, hl, hd⟩ := hd
    obtain ⟨hr, ha⟩ := look_some hl
    have hp := Root.arr_of ha
    have ht := hh.arr hr hp
    split at hd
    · rename_i hlen
      have hl0 : 0 < ys.length := by rw [hlen]; exact Nat.one_pos
      obtain ⟨el, hel⟩ : ∃ el, ys[0]? = some el := ⟨ys[0]'hl0, List.getElem?_eq_getElem hl0⟩
      obtain ⟨hD, ad, rfl, h3⟩ := h
      obtain ⟨b, oo, h4, h5⟩ := (h3 R hr).2 s ro ys ha el hel
      have hG : (A r).from' q [] = some (b, oo) := by simpa [Gh.from'] using h4
      have hH : ∀ bo, HdR w ((A r).from' q []) true bo s ys.length (.pointer (some ad)) := fun bo => by
        rw [hG]; exact ⟨by rw [h5]; simp, hlen⟩
      cases own with
      | true =>
        simp only [if_true] at hd
        split at hd
        · rename_i hc
          obtain ⟨rfl, rfl⟩ := hc
          injection hd with hd; injection hd with e1 e2; subst e1; subst e2
          simp only [Root.arr, Option.some.injEq, Prod.mk.injEq, Bool.not_eq_false'] at ha
          obtain ⟨rfl, ho, rfl⟩ := ha
          exact ⟨[A r], ⟨_, rfl, hH _, ht⟩, ArgL.one ⟨by simp, R, hr, fun _ => ⟨rfl, ho, rfl, rfl, .inl rfl⟩, fun h => by cases h⟩⟩
        · cases hd
      | false =>
        simp only [Bool.false_eq_true, if_false] at hd
        injection hd with hd; injection hd with e1 e2; subst e1; subst e2
        refine ⟨[(A r).from' q], ⟨_, rfl, hH _, ht.weaken⟩, ArgL.one ⟨by simp, R, hr, (fun h => by cases h), fun _ => ⟨fun ρ b k => ?_, fun hro ρ b k => ?_⟩⟩⟩
        · obtain ⟨f', k'⟩ := Key.weaken k ro
          exact ⟨f', _, V.Key.sub hp k'⟩
        · simp only at hro; subst hro
          exact hh.sta r R _ b hr (V.Key.sub hp k)
    · cases hd
  · cases hd

theorem deepCs_ok (hh : HR cx w A rs) {own : Bool} : ∀ {cs : List AV} {vs : List Value}, Pw (PR D A rs w) cs vs → ∀ {cs' : List AV} {us : List Use}, deepCs rs own cs = some (cs', us) →
    ∃ gs, HCs w cs' vs gs ∧ ArgL cx A rs (cs'.flatMap rtsC) gs us
  | [], vs, h, cs', us, ho => by
    simp only [deepCs, Option.some.injEq, Prod.mk.injEq] at ho
    obtain ⟨rfl, rfl⟩ := ho
    rw [h.nil_inv]
    exact ⟨[], ⟨rfl, rfl⟩, ArgL.nil⟩
  | c :: cs, vs, h, cs', us, ho => by
    obtain ⟨v, vs', rfl, h1, h2⟩ := h.head
    simp only [deepCs, Option.bind_eq_some_iff, Option.map_eq_some_iff] at ho
    obtain ⟨⟨c', a1⟩, h3, ⟨cs2, a2⟩, h4, h5⟩ := ho
    injection h5 with h5 h6; subst h5; subst h6
    obtain ⟨g1, b1, b2⟩ := deepC_ok hh h1 h3
    obtain ⟨g2, c1, c2⟩ := deepCs_ok hh h2 h4
    exact ⟨g1 ++ g2, ⟨v, vs', g1, g2, rfl, rfl, b1, c1⟩, by rw [List.flatMap_cons]; exact b2.app c2⟩

theorem deepC_form {own : Bool} {av c : AV} {us : List Use} (ho : deepC rs own av = some (c, us)) : (∀ cs, c ≠ .agg cs) ∧ ∀ f cs, c ≠ .fn f cs := by
  unfold deepC at ho
  refine ⟨fun cs e => ?_, fun f cs e => ?_⟩ <;> subst e <;> split at ho <;> first
    | (cases ho; done)
    | (simp at ho; done)
    | (split at ho <;> simp at ho; done)
    | (simp only [Option.bind_eq_some_iff] at ho; obtain ⟨⟨R, s, ro, ys⟩, _, ho⟩ := ho; (repeat' split at ho) <;> first | (cases ho; done) | (simp at ho; done))

theorem deepV_ok (hh : HR cx w A rs) {own : Bool} {av : AV} {v : Value} (h : VR D A rs w av v) {c : AV} {us : List Use} (ho : deepV rs own av = some (c, us)) :
    ∃ gs, HV w c v gs ∧ ArgL cx A rs (rtsV c) gs us := by
  unfold deepV at ho
  split at ho
  · obtain ⟨a, rfl, h1⟩ := h.agg
    simp only [Option.map_eq_some_iff] at ho
    obtain ⟨⟨cs, u⟩, h2, h3⟩ := ho
    injection h3 with h3 h4; subst h3; subst h4
    obtain ⟨gs, b1, b2⟩ := deepCs_ok hh h1 h2
    exact ⟨gs, ⟨a, rfl, b1⟩, b2⟩
  · obtain ⟨a, rfl, h1⟩ := h.fn
    simp only [Option.map_eq_some_iff] at ho
    obtain ⟨⟨cs, u⟩, h2, h3⟩ := ho
    injection h3 with h3 h4; subst h3; subst h4
    obtain ⟨gs, b1, b2⟩ := deepCs_ok hh h1 h2
    exact ⟨gs, ⟨a, rfl, b1⟩, b2⟩
  · rename_i n1 n2
    have h' : PR D A rs w av v := by
      cases av <;> first
        | exact absurd rfl (n1 _)
        | exact absurd rfl (n2 _ _)
        | (simp only [deepC] at ho; cases ho; done)
        | simpa only [VR, V1] using h
    obtain ⟨gs, b1, b2⟩ := deepC_ok hh h' ho
    have hc := deepC_form ho
    refine ⟨gs, ?_, ?_⟩
    · cases c <;> first | exact absurd rfl (hc.1 _) | exact absurd rfl (hc.2 _ _) | exact b1
    · cases c <;> first | exact absurd rfl (hc.1 _) | exact absurd rfl (hc.2 _ _) | exact b2

theorem deepVs_ok (hh : HR cx w A rs) : ∀ {ms : List Bool} {cs : List AV} {vs : List Value}, Pw (VR D A rs w) cs vs → ∀ {cs' : List AV} {us : List Use}, deepVs rs ms cs = some (cs', us) →
    ∃ gs, HVs w cs' vs gs ∧ ArgL cx A rs (rtsVs cs') gs us
  | ms, [], vs, h, cs', us, ho => by
    simp only [deepVs, Option.some.injEq, Prod.mk.injEq] at ho
    obtain ⟨rfl, rfl⟩ := ho
    rw [h.nil_inv]
    exact ⟨[], ⟨rfl, rfl⟩, ArgL.nil⟩
  | ms, c :: cs, vs, h, cs', us, ho => by
    obtain ⟨v, vs', rfl, h1, h2⟩ := h.head
    simp only [deepVs, Option.bind_eq_some_iff, Option.map_eq_some_iff] at ho
    obtain ⟨⟨c', a1⟩, h3, ⟨cs2, a2⟩, h4, h5⟩ := ho
    injection h5 with h5 h6; subst h5; subst h6
    obtain ⟨g1, b1, b2⟩ := deepV_ok hh h1 h3
    obtain ⟨g2, c1, c2⟩ := deepVs_ok hh h2 h4
    exact ⟨g1 ++ g2, ⟨v, vs', g1, g2, rfl, rfl, b1, c1⟩, by simp only [rtsVs, List.flatMap_cons]; exact b2.app c2⟩
end
end Go.Proofs.Ytinlbiphjgpmmaa.V
end YtinlbiphjgpmmaaVV
section YtinlbiphjgpmmaaVW
namespace Go.Proofs.Ytinlbiphjgpmmaa.V
open Go
set_option linter.unusedVariables false
set_option linter.unusedSimpArgs false

theorem addRoots_at : ∀ (l : List Root) (rs : Rs) (n r : Nat), addRoots rs n l r = if n ≤ r ∧ r < n + l.length then l[r - n]? else rs r
  | [], rs, n, r => by simp only [addRoots, List.length_nil]; rw [if_neg (by omega)]
  | R :: l, rs, n, r => by
    simp only [addRoots]
    rw [addRoots_at l _ (n + 1) r]
    by_cases h : n + 1 ≤ r ∧ r < n + 1 + l.length
    · rw [if_pos h, if_pos (by simp; omega), show r - n = (r - (n + 1)) + 1 by omega, List.getElem?_cons_succ]
    · rw [if_neg h]
      by_cases e : r = n
      · subst e; rw [up'_same, if_pos (by simp)]; simp
      · rw [up'_ne _ _ e, if_neg (by simp; omega)]

theorem okUses_at : ∀ {us : List Use}, okUses us = true → ∀ {k k' : Nat} {u u' : Use} {r q q'}, us[k]? = some u → us[k']? = some u' → k ≠ k' → u.own = true → u.at' = some (r, q) → u'.at' = some (r, q') → False
  | [], _, k, k', u, u', r, q, q', h, _, _, _, _, _ => by simp at h
  | v :: us, ok, k, k', u, u', r, q, q', h, h', hne, ho, ha, ha' => by
    simp only [okUses, Bool.and_eq_true, List.all_eq_true] at ok
    have use : ∀ x ∈ us, ∀ {r q q'}, (v.own || x.own) = true → v.at' = some (r, q) → x.at' = some (r, q') → False := fun x hx {r q q'} h1 h2 h3 => by
      have := ok.1 x hx
      simp [h1, h2, h3, Use.root] at this
    cases k with
    | zero =>
      simp only [List.getElem?_cons_zero, Option.some.injEq] at h; subst h
      cases k' with
      | zero => exact hne rfl
      | succ k' => exact use u' (List.mem_of_getElem? (by simpa using h')) (by simp [ho]) ha ha'
    | succ k =>
      cases k' with
      | zero =>
        simp only [List.getElem?_cons_zero, Option.some.injEq] at h'; subst h'
        exact use u (List.mem_of_getElem? (by simpa using h)) (by simp [ho]) ha' ha
      | succ k' => exact okUses_at ok.2 (k := k) (k' := k') (by simpa using h) (by simpa using h') (by omega) ho ha ha'

/-- What putting back does. -/
theorem putBack_at : ∀ {us : List Use} {bs : List (Option Els)} {rs rs' : Rs}, putBack rs us bs = some rs' → okUses us = true →
    (∀ r, (∀ (k : Nat) u q, us[k]? = some u → u.own = true → u.at' ≠ some (r, q)) → rs' r = rs r) ∧
    (∀ (k : Nat) u r q b, us[k]? = some u → u.own = true → u.at' = some (r, q) → bs[k]? = some b → match b with
      | none => rs' r = none
      | some ys => ∃ R, rs r = some R ∧ rs' r = some { R with pv := R.pv + 1, xs := ys })
  | [], [], rs, rs', h, _ => by
    simp only [putBack, Option.some.injEq] at h; subst h
    exact ⟨fun r _ => rfl, fun k u r q b h => by simp at h⟩
  | u :: us, b :: bs, rs, rs', h, ok => by
    have ok2 : okUses us = true := by simp only [okUses, Bool.and_eq_true] at ok; exact ok.2
    have away : ∀ {r q}, u.own = true → u.at' = some (r, q) → ∀ (k : Nat) v q', us[k]? = some v → v.own = true → v.at' ≠ some (r, q') := fun ho ha k v q' hk _ e =>
      okUses_at ok (k := 0) (k' := k + 1) rfl (by simpa using hk) (by omega) ho ha e
    have lift : ∀ {rs1 : Rs}, putBack rs1 us bs = some rs' → (∀ r, (∀ q, u.own = true → u.at' ≠ some (r, q)) → rs1 r = rs r) →
        (∀ r q, u.own = true → u.at' = some (r, q) → match b with | none => rs1 r = none | some ys => ∃ R, rs r = some R ∧ rs1 r = some { R with pv := R.pv + 1, xs := ys }) →
        (∀ r, (∀ (k : Nat) v q, (u :: us)[k]? = some v → v.own = true → v.at' ≠ some (r, q)) → rs' r = rs r) ∧
        (∀ (k : Nat) v r q b', (u :: us)[k]? = some v → v.own = true → v.at' = some (r, q) → (b :: bs)[k]? = some b' → match b' with
          | none => rs' r = none
          | some ys => ∃ R, rs r = some R ∧ rs' r = some { R with pv := R.pv + 1, xs := ys }) := fun {rs1} hb h1 h2 => by
      obtain ⟨g1, g2⟩ := putBack_at hb ok2
      refine ⟨fun r hr => ?_, fun k v r q b' hk ho ha hb' => ?_⟩
      · rw [g1 r fun k v q hk => hr (k + 1) v q (by simpa using hk)]
        exact h1 r fun q => hr 0 u q rfl
      · cases k with
        | zero =>
          simp only [List.getElem?_cons_zero, Option.some.injEq] at hk hb'
          subst hk; subst hb'
          have h3 := h2 r q ho ha
          rw [g1 r (away ho ha)]
          cases b <;> exact h3
        | succ k =>
          have hk' : us[k]? = some v := by simpa using hk
          have := g2 k v r q b' hk' ho ha (by simpa using hb')
          have hne : rs1 r = rs r := h1 r fun q' ho' e => okUses_at ok (k := 0) (k' := k + 1) rfl (by simpa using hk) (by omega) ho' e ha
          rw [hne] at this
          cases b' <;> exact this
    simp only [putBack] at h
    split at h
    · rename_i ho
      cases ha : u.at' with
      | none =>
        simp only [ha] at h
        exact lift h (fun r _ => rfl) (fun r q _ e => by rw [ha] at e; cases e)
      | some x =>
        obtain ⟨r, q⟩ := x
        cases b with
        | none =>
          simp only [ha] at h
          refine lift h (fun r' hr' => up'_ne _ _ fun e => hr' q ho (by rw [ha, e])) (fun r' q' _ e => ?_)
          rw [ha] at e; injection e with e; injection e with e1 e2
          subst e1; exact up'_same _ _ _
        | some ys =>
          simp only [ha, Option.bind_eq_some_iff] at h
          obtain ⟨R, hR, h⟩ := h
          refine lift h (fun r' hr' => up'_ne _ _ fun e => hr' q ho (by rw [ha, e])) (fun r' q' _ e => ?_)
          rw [ha] at e; injection e with e; injection e with e1 e2
          subst e1; exact ⟨R, hR, up'_same _ _ _⟩
    · rename_i ho
      exact lift h (fun r _ => rfl) (fun r q h _ => absurd h (by simpa using ho))
  | [], _ :: _, rs, rs', h, _ => by simp [putBack] at h
  | _ :: _, [], rs, rs', h, _ => by simp [putBack] at h

/-! ### Nothing borrowed -/
theorem borIn_key : ∀ (n : Nat) {sz : Nat} {xs : Els} {ρ : Path} {s : Nat} {ro : Bool} {ys : Els}, borIn n xs = false → arrAt sz false xs ρ = some (s, ro, ys) → ro = false
  | n, sz, xs, [], s, ro, ys, hb, h => by simp only [arrAt, Option.some.injEq, Prod.mk.injEq] at h; exact h.2.1.symm
  | 0, sz, xs, (i, c) :: ρ, s, ro, ys, hb, h => by simp [borIn] at hb
  | n + 1, sz, xs, (i, c) :: ρ, s, ro, ys, hb, h => by
    obtain ⟨p, bo, sz', zs, hc, h'⟩ := arrAt_cons h
    obtain ⟨el, h1, h2⟩ := cellAt_some hc
    simp only [borIn, List.any_eq_false] at hb
    have h3 := hb el (List.mem_of_getElem? h1)
    simp only [Bool.not_eq_true, List.any_eq_false] at h3
    have h4 := h3 _ (List.mem_of_getElem? h2)
    simp only [Bool.not_eq_true, Bool.or_eq_false_iff] at h4
    obtain ⟨rfl, h5⟩ := h4
    exact borIn_key n h5 (by simpa using h')
theorem hasBorC_rts {v : AV} (h : hasBorC v = false) {R : Root} (hR : R ∈ rtsC v) {G : Gh} {ρ : Path} {b : Nat} : ¬ R.Key G true ρ b := fun ⟨s, ys, o, h1, h2⟩ => by
  cases v <;> simp only [rtsC, List.mem_singleton, List.not_mem_nil] at hR
  subst hR
  simp only [hasBorC, Bool.or_eq_false_iff] at h
  obtain ⟨rfl, h⟩ := h
  have := borIn_key 6 h (by simpa using h1)
  cases this
theorem hasBor_rts {v : AV} (h : hasBor v = false) {R : Root} (hR : R ∈ rtsV v) {G : Gh} {ρ : Path} {b : Nat} : ¬ R.Key G true ρ b := by
  have list : ∀ {cs : List AV}, cs.any hasBorC = false → R ∈ cs.flatMap rtsC → ¬ R.Key G true ρ b := fun {cs} h hR => by
    obtain ⟨c, h1, h2⟩ := List.mem_flatMap.1 hR
    simp only [List.any_eq_false] at h
    exact hasBorC_rts (by simpa using h c h1) h2
  cases v <;> first | exact list h hR | (simp only [hasBor] at h; simp only [rtsV] at hR; exact hasBorC_rts h hR)
theorem hasBors_rts {vs : List AV} (h : vs.any hasBor = false) {gs : List Gh} {k : Nat} {ρ : Path} {b : Nat} : ¬ KOf (rtsVs vs) gs true k ρ b := fun ⟨R, G, h1, h2, h3⟩ => by
  obtain ⟨c, g1, g2⟩ := List.mem_flatMap.1 (List.mem_of_getElem? h1)
  simp only [List.any_eq_false] at h
  exact hasBor_rts (by simpa using h c g1) g2 h3
end Go.Proofs.Ytinlbiphjgpmmaa.V
end YtinlbiphjgpmmaaVW
section YtinlbiphjgpmmaaVX
namespace Go.Proofs.Ytinlbiphjgpmmaa.V
open Go
set_option linter.unusedVariables false
set_option linter.unusedSimpArgs false

section
variable {P : Program} {D D' : Nat → Prop} {A : Nat → Gh} {rs : Rs} {w : World} {cx : Cx} {w0 : World}

theorem VR_ret {D : Nat → Prop} {A : Nat → Gh} {rs : Rs} {w : World} : ∀ {l : List AV} {vs : List Value}, Pw (V1 D A rs w) l vs → VR D A rs w (tupOf l) (retVal vs)
  | [], [], h => by simp only [retVal, tupOf, VR]; exact ⟨_, rfl, h⟩
  | [x], [v], h => by
    obtain ⟨y, ys, e, h1, _⟩ := h.head
    injection e with e1 e2; subst e1
    exact h1.vr
  | x :: y :: l, u :: v :: vs, h => by simp only [retVal, tupOf, VR]; exact ⟨_, rfl, h⟩
  | [], _ :: _, h => by have := h.1; simp at this
  | [x], [], h => by have := h.1; simp at this
  | [x], _ :: _ :: _, h => by have := h.1; simp at this
  | _ :: _ :: _, [], h => by have := h.1; simp at this
  | _ :: _ :: _, [_], h => by have := h.1; simp at this

/-- A call leaves alone the roots whose number of versions stays. -/
def Keep (A : Nat → Gh) (rs : Rs) (w : World) (A' : Nat → Gh) (rs' : Rs) (w' : World) : Prop := ∀ r R R', rs r = some R → rs' r = some R' → R'.pv = R.pv → R'.xs = R.xs ∧ A' r = A r ∧ ∀ f σ b, R.Key (A r) f σ b → w'.heap[b]? = w.heap[b]?

theorem call_sim {call : CallF} (hctr : ∀ f ds out, call f ds = some out → Ctr P f ds out) (hh : HR cx w A rs) (hf : Fr cx w0 w) (hi : ∀ r R, rs r = some R → D r) {vs : List AV} {vals : List Value} (hv : Pw (VR D A rs w) vs vals)
    {f fresh : Nat} {ms : List Bool} {av : AV} {rs' : Rs} (hc : aCall call fresh rs f ms vs = some (av, rs')) (hfree : ∀ j, j < 16 → ¬ D (fresh + j)) (hD : ∀ r, D r → D' r) (hD' : ∀ j, j < 16 → D' (fresh + j)) :
    Calls P f vals.toArray w fun e w' => ∃ v A', e = .returned v ∧ Step cx w0 D D' A rs w A' rs' w' ∧ VR D' A' rs' w' av v ∧ Keep A rs w A' rs' w' := by
  simp only [aCall, Option.bind_eq_some_iff] at hc
  obtain ⟨⟨ds, us⟩, hds, hc⟩ := hc
  split at hc
  · rename_i hok
    simp only [Option.bind_eq_some_iff] at hc
    obtain ⟨⟨res, back⟩, hcall, hc⟩ := hc
    split at hc
    · rename_i hcond
      obtain ⟨hbor, hfew, hblen⟩ := hcond
      simp only [Option.map_eq_some_iff] at hc
      obtain ⟨rsB, hpb, hc⟩ := hc
      injection hc with hav hrs
      obtain ⟨gs, hHV, hAL⟩ := deepVs_ok hh hv hds
      obtain ⟨pb1, pb2⟩ := putBack_at hpb hok
      -- keys of what is handed over
      have kown : ∀ {k ρ b}, KOf (rtsVs ds) gs false k ρ b → ∃ u r R, us[k]? = some u ∧ u.own = true ∧ u.at' = some (r, []) ∧ rs r = some R ∧ R.Key (A r) false ρ b ∧ gs[k]? = some (A r) := fun {k ρ b} ⟨R, G, h1, h2, h3⟩ => by
        have hk : k < us.length := by rw [← hAL.len2]; exact (List.getElem?_eq_some_iff.1 h1).1
        obtain ⟨e1, e2⟩ := hAL.at' k R G us[k] h1 h2 (List.getElem?_eq_getElem hk)
        have hRo : R.own = true := by
          cases e : R.own with
          | true => rfl
          | false => obtain ⟨o, s, p, x⟩ := R; simp only at e; subst e; exact absurd h3 noFalse
        rw [hRo] at e1
        cases ha : us[k].at' with
        | none =>
          rw [ha] at e2
          obtain ⟨_, rfl⟩ := e2
          obtain ⟨s, ys, o, _, h⟩ := h3; cases h
        | some x =>
          obtain ⟨r, q⟩ := x
          rw [ha] at e2
          obtain ⟨Rr, g1, g2, _⟩ := e2
          obtain ⟨rfl, g3, g4, g5, g6⟩ := g2 e1
          rcases g6 with rfl | ⟨rfl, _⟩
          · exact ⟨us[k], r, Rr, List.getElem?_eq_getElem hk, e1, ha, g1, by unfold Root.Key at h3 ⊢; rw [← g4, ← g5, g3]; rw [hRo] at h3; exact h3, h2⟩
          · obtain ⟨s, ys, o, _, h⟩ := h3; cases h
      have kown_lt : ∀ {k ρ b}, KOf (rtsVs ds) gs false k ρ b → b < w.heap.size ∧ (cx.base ≤ b ∨ cx.O b) := fun h => by
        obtain ⟨u, r, R, _, _, _, h1, h2, _⟩ := kown h
        exact ⟨Key.lt (hh.tree r R h1) h2, hh.own r R _ _ h1 h2⟩
      have ksta : ∀ {k ρ b}, KOf (rtsVs ds) gs true k ρ b → ∃ u r q R f ρ', us[k]? = some u ∧ u.at' = some (r, q) ∧ rs r = some R ∧ R.Key (A r) f ρ' b ∧ (u.own = true → f = true) ∧ (u.ro = true → u.own = false → cx.S b) := fun {k ρ b} ⟨R, G, h1, h2, h3⟩ => by
        have hk : k < us.length := by rw [← hAL.len2]; exact (List.getElem?_eq_some_iff.1 h1).1
        obtain ⟨e1, e2⟩ := hAL.at' k R G us[k] h1 h2 (List.getElem?_eq_getElem hk)
        cases ha : us[k].at' with
        | none =>
          rw [ha] at e2
          obtain ⟨_, rfl⟩ := e2
          obtain ⟨s, ys, o, _, h⟩ := h3; cases h
        | some x =>
          obtain ⟨r, q⟩ := x
          rw [ha] at e2
          obtain ⟨Rr, g1, g2, g3⟩ := e2
          cases ho : us[k].own with
          | true =>
            obtain ⟨rfl, g4, g5, g6, g7⟩ := g2 ho
            rcases g7 with rfl | ⟨rfl, _⟩
            · rw [ho] at e1
              exact ⟨us[k], r, [], Rr, true, ρ, List.getElem?_eq_getElem hk, ha, g1, by unfold Root.Key at h3 ⊢; rw [← g5, ← g6, g4]; rw [← e1] at h3; exact h3, fun _ => rfl, fun _ h => by rw [ho] at h; cases h⟩
            · obtain ⟨s, ys, o, _, h⟩ := h3; cases h
          | false =>
            obtain ⟨g4, g5⟩ := g3 ho
            obtain ⟨f', ρ', g6⟩ := g4 ρ b h3
            exact ⟨us[k], r, q, Rr, f', ρ', List.getElem?_eq_getElem hk, ha, g1, g6, (fun h => by rw [ho] at h; cases h), fun h _ => g5 h ρ b h3⟩
      have ownS : ∀ {b}, cx.S b → (cx.base ≤ b ∨ cx.O b) → False := fun hs ho => by
        have := cx.ok _ hs
        rcases ho with h | h
        · omega
        · exact this.2 h
      have kinj : ∀ k ρ k' ρ' b, KOf (rtsVs ds) gs false k ρ b → KOf (rtsVs ds) gs false k' ρ' b → k = k' ∧ ρ = ρ' := fun k ρ k' ρ' b h h' => by
        obtain ⟨u, r, R, a1, a2, a3, a4, a5, _⟩ := kown h
        obtain ⟨u', r', R', b1, b2, b3, b4, b5, _⟩ := kown h'
        obtain ⟨rfl, rfl⟩ := hh.inj _ _ _ _ _ _ b a4 a5 b4 b5
        refine ⟨?_, rfl⟩
        exact Classical.byContradiction fun hne => okUses_at hok a1 b1 hne a2 a3 b3
      have kdis : ∀ {k ρ k' ρ' b}, KOf (rtsVs ds) gs true k ρ b → KOf (rtsVs ds) gs false k' ρ' b → False := fun {k ρ k' ρ' b} h h' => by
        obtain ⟨u, r, q, R, f', σ, a1, a2, a3, a4, a5, a6⟩ := ksta h
        obtain ⟨u', r', R', b1, b2, b3, b4, b5, _⟩ := kown h'
        cases f' with
        | true => exact ownS (hh.sta r R σ b a3 a4) (hh.own r' R' ρ' b b4 b5)
        | false =>
          obtain ⟨rfl, _⟩ := hh.inj _ _ _ _ _ _ b a3 a4 b4 b5
          by_cases hne : k = k'
          · subst hne
            rw [a1] at b1; injection b1 with b1; subst b1
            cases a5 b2
          · exact okUses_at hok b1 a1 (Ne.symm hne) b2 b3 a2
      -- the callee's standing blocks
      obtain ⟨S', hS1, hS2, hS3, hS4⟩ : ∃ S' : Nat → Prop, (∀ b, S' b → b < w.heap.size) ∧ (∀ k ρ b, KOf (rtsVs ds) gs true k ρ b → S' b) ∧ (∀ k ρ b, KOf (rtsVs ds) gs false k ρ b → ¬ S' b) ∧
          ((∀ b, S' b → cx.S b) ∨ (res.any hasBor = false ∧ back.any borBack = false)) := by
        by_cases hall : (us.all fun u => u.own || u.ro) = true
        · refine ⟨cx.S, fun b h => Nat.lt_of_lt_of_le (cx.ok b h).1 hf.base, fun k ρ b h => ?_, fun k ρ b h hs => ownS hs (kown_lt h).2, .inl fun b h => h⟩
          obtain ⟨u, r, q, R, f', σ, a1, a2, a3, a4, a5, a6⟩ := ksta h
          have hu := List.all_eq_true.1 hall u (List.mem_of_getElem? a1)
          cases ho : u.own with
          | true => have := a5 ho; subst this; exact hh.sta r R σ b a3 a4
          | false => rw [ho] at hu; exact a6 (by simpa using hu) ho
        · refine ⟨fun b => ∃ k ρ, KOf (rtsVs ds) gs true k ρ b, fun b ⟨k, ρ, h⟩ => ?_, fun k ρ b h => ⟨k, ρ, h⟩, fun k ρ b h ⟨k', ρ', h'⟩ => kdis h' h, .inr ?_⟩
          · obtain ⟨u, r, q, R, f', σ, a1, a2, a3, a4, a5, a6⟩ := ksta h
            exact Key.lt (hh.tree r R a3) a4
          · rcases Bool.or_eq_true _ _ ▸ hbor with h | h
            · exact absurd h hall
            · simpa using h
      have hcontract := hctr f ds (res, back) hcall w S' vals gs hS1 hHV hS2 hS3 kinj
      refine hcontract.mono fun e w' hpost => ?_
      obtain ⟨v, vs', gs', gb, rfl, hp⟩ := hpost
      have hrts : (enterVs res fresh).2 = rtsVs res := enterVs_rts res fresh
      have hRG : RG w' (rtsVs res) gs' := by
        have := (enterVs_ok hp.res fresh).1
        rwa [hrts] at this
      rw [hrts] at hfew hrs
      have hlenR : (rtsVs res).length = gs'.length := hRG.1
      have hrs' : ∀ r, rs' r = if fresh ≤ r ∧ r < fresh + (rtsVs res).length then (rtsVs res)[r - fresh]? else rsB r := fun r => by
        rw [← hrs]; exact addRoots_at _ _ _ _
      have hnf : ∀ {r R}, rs r = some R → ¬ (fresh ≤ r ∧ r < fresh + (rtsVs res).length) := fun {r R} h1 h2 => by
        have := hfree (r - fresh) (by omega)
        rw [show fresh + (r - fresh) = r by omega] at this
        exact this (hi r R h1)
      have ownq : ∀ {k : Nat} {u : Use} {r : Nat} {q : Path}, us[k]? = some u → u.own = true → u.at' = some (r, q) → q = [] ∧ ∃ R : Root, rs r = some R ∧ R.own = true ∧ ∃ (Rk : Root) (G : Gh), (rtsVs ds)[k]? = some Rk ∧ gs[k]? = some G ∧ Rk.sz = R.sz ∧ Rk.xs = R.xs ∧ (G = A r ∨ (G = (fun _ => none) ∧ R.xs = [])) := fun {k u r q} h1 h2 h3 => by
        have hk : k < us.length := (List.getElem?_eq_some_iff.1 h1).1
        have hk1 : k < (rtsVs ds).length := by rw [hAL.len2]; exact hk
        have hk2 : k < gs.length := by rw [← hAL.len1]; exact hk1
        obtain ⟨e1, e2⟩ := hAL.at' k _ _ u (List.getElem?_eq_getElem hk1) (List.getElem?_eq_getElem hk2) h1
        rw [h3] at e2
        obtain ⟨Rr, g1, g2, _⟩ := e2
        obtain ⟨rfl, g3, g4, g5, g6⟩ := g2 h2
        exact ⟨rfl, Rr, g1, g3, _, _, List.getElem?_eq_getElem hk1, List.getElem?_eq_getElem hk2, g4, g5, g6⟩
      let cond : Nat → Nat → Prop := fun r k => ∃ u ys, us[k]? = some u ∧ u.own = true ∧ u.at' = some (r, []) ∧ gs[k]? = some (A r) ∧ back[k]? = some (some ys)
      let A' : Nat → Gh := fun r => if fresh ≤ r ∧ r < fresh + (rtsVs res).length then gs'.getD (r - fresh) (fun _ => none) else (open Classical in if h : ∃ k, cond r k then gb h.choose else A r)
      have cond_uniq : ∀ {r k k'}, cond r k → cond r k' → k = k' := fun {r k k'} ⟨u, ys, a1, a2, a3, _⟩ ⟨u', ys', b1, b2, b3, _⟩ =>
        Classical.byContradiction fun hne => okUses_at hok a1 b1 hne a2 a3 b3
      have hA'c : ∀ {r k}, ¬ (fresh ≤ r ∧ r < fresh + (rtsVs res).length) → cond r k → A' r = gb k := fun {r k} h1 h2 => by
        have hex : ∃ k, cond r k := ⟨k, h2⟩
        simp only [A', if_neg h1, dif_pos hex]
        rw [cond_uniq hex.choose_spec h2]
      have hA'n : ∀ {r}, ¬ (fresh ≤ r ∧ r < fresh + (rtsVs res).length) → (∀ k, ¬ cond r k) → A' r = A r := fun {r} h1 h2 => by
        have hex : ¬ ∃ k, cond r k := fun ⟨k, h⟩ => h2 k h
        simp only [A', if_neg h1, dif_neg hex]
      have cls : ∀ {r R'}, rs' r = some R' →
          (∃ j, r = fresh + j ∧ (rtsVs res)[j]? = some R' ∧ gs'[j]? = some (A' r)) ∨
          (∃ k R Rk ys u, us[k]? = some u ∧ u.at' = some (r, []) ∧ rs r = some R ∧ R.own = true ∧ (rtsVs ds)[k]? = some Rk ∧ Rk.sz = R.sz ∧ back[k]? = some (some ys) ∧ R' = { R with pv := R.pv + 1, xs := ys } ∧ ys.length = R.xs.length ∧ A' r = gb k ∧ gb k [] = A r [] ∧ TreeR w' false R.sz (gb k) ys) ∨
          (∃ R, rs r = some R ∧ R.sz = R'.sz ∧ R.own = R'.own ∧ R.xs = R'.xs ∧ R.pv ≤ R'.pv ∧ A' r = A r ∧ ∀ k ρ b f σ, KOf (rtsVs ds) gs false k ρ b → R.Key (A r) f σ b → False) := fun {r R'} h => by
        rw [hrs'] at h
        split at h
        · rename_i hin
          refine .inl ⟨r - fresh, by omega, h, ?_⟩
          obtain ⟨G, g1, _⟩ := hRG.2 _ R' h
          have : A' r = G := by
            simp only [A', if_pos hin, List.getD_eq_getElem?_getD, g1, Option.getD_some]
          rw [this]; exact g1
        · rename_i hin
          by_cases hown : ∃ (k : Nat) (u : Use) (q : Path), us[k]? = some u ∧ u.own = true ∧ u.at' = some (r, q)
          · obtain ⟨k, u, q, h1, h2, h3⟩ := hown
            obtain ⟨rfl, R, g1, g2, Rk, G, g3, g4, g5, g6, g7⟩ := ownq h1 h2 h3
            have hk : k < back.length := by rw [hblen]; exact (List.getElem?_eq_some_iff.1 h1).1
            have hb := pb2 k u r [] back[k] h1 h2 h3 (List.getElem?_eq_getElem hk)
            cases e : back[k] with
            | none => rw [e] at hb; rw [hb] at h; cases h
            | some ys =>
              rw [e] at hb
              obtain ⟨R2, e1, e2⟩ := hb
              rw [g1] at e1; injection e1 with e1; subst e1
              rw [e2] at h; injection h with h; subst h
              have hbk : back[k]? = some (some ys) := by rw [List.getElem?_eq_getElem hk, e]
              obtain ⟨p1, p2, p3, p4⟩ := hp.back k Rk G ys g3 g4 hbk
              by_cases hz : G = A r
              · subst hz
                right; left
                exact ⟨k, R, Rk, ys, u, h1, h3, g1, g2, g3, g5, hbk, rfl, by rw [p3, g6], hA'c hin ⟨u, ys, h1, h2, h3, g4, hbk⟩, p2, by rw [← g5]; exact p4⟩
              · have g8 : R.xs = [] := by
                  rcases g7 with g7 | g7
                  · exact absurd g7 hz
                  · exact g7.2
                right; right
                have hys : ys = [] := List.eq_nil_of_length_eq_zero (by rw [p3, g6, g8]; rfl)
                refine ⟨R, g1, rfl, rfl, by rw [g8, hys], by simp, hA'n hin fun k2 ⟨u2, ys2, c1, c2, c3, c4, c5⟩ => ?_, fun k2 ρ b f σ hk2 hk3 => ?_⟩
                · by_cases hne : k = k2
                  · subst hne; rw [g4] at c4; injection c4 with c4; exact hz c4
                  · exact okUses_at hok h1 c1 hne h2 h3 c3
                · obtain ⟨u2, r2, R2, a1, a2, a3, a4, a5, a6⟩ := kown hk2
                  cases f with
                  | true => exact ownS (hh.sta r R σ b g1 hk3) (hh.own r2 R2 ρ b a4 a5)
                  | false =>
                    obtain ⟨rfl, _⟩ := hh.inj _ _ _ _ _ _ b g1 hk3 a4 a5
                    by_cases hne : k = k2
                    · subst hne; rw [g4] at a6; injection a6 with a6; exact hz a6
                    · exact okUses_at hok h1 a1 hne h2 h3 a3
          · right; right
            have hno : ∀ (k : Nat) u q, us[k]? = some u → u.own = true → u.at' ≠ some (r, q) := fun k u q h1 h2 h3 => hown ⟨k, u, q, h1, h2, h3⟩
            rw [pb1 r hno] at h
            refine ⟨R', h, rfl, rfl, rfl, Nat.le_refl _, hA'n hin fun k ⟨u, ys, c1, c2, c3, _⟩ => hno k u [] c1 c2 c3, fun k ρ b f σ hk2 hk3 => ?_⟩
            obtain ⟨u2, r2, R2, a1, a2, a3, a4, a5, a6⟩ := kown hk2
            cases f with
            | true => exact ownS (hh.sta r R' σ b h hk3) (hh.own r2 R2 ρ b a4 a5)
            | false =>
              obtain ⟨rfl, _⟩ := hh.inj _ _ _ _ _ _ b h hk3 a4 a5
              exact hno _ _ _ a1 a2 a3
      have hKey : ∀ {r R' f ρ b}, rs' r = some R' → R'.Key (A' r) f ρ b → (∃ j, r = fresh + j ∧ KOf (rtsVs res) gs' f j ρ b) ∨ (∃ (k : Nat) (u : Use), us[k]? = some u ∧ u.at' = some (r, []) ∧ KBk (rtsVs ds) gb back f k ρ b) ∨
          (∃ R, rs r = some R ∧ R.Key (A r) f ρ b ∧ ∀ k ρ', ¬ KOf (rtsVs ds) gs false k ρ' b) := fun {r R' f ρ b} h hk => by
        rcases cls h with ⟨j, e1, e2, e3⟩ | ⟨k, R, Rk, ys, u, a1, a2, a3, a4, a5, a6, a7, a8, a9, a10, a11, a12⟩ | ⟨R, a1, a2, a3, a4, a5, a6, a7⟩
        · exact .inl ⟨j, e1, R', A' r, e2, e3, hk⟩
        · refine .inr (.inl ⟨k, u, a1, a2, Rk, ys, a5, a7, ?_⟩)
          subst a8
          rw [a10] at hk
          unfold Root.Key at hk ⊢
          simp only [a4] at hk
          rw [a6]; exact hk
        · rw [a6] at hk
          have hk' : R.Key (A r) f ρ b := by unfold Root.Key at hk ⊢; rw [a2, a3, a4]; exact hk
          exact .inr (.inr ⟨R, a1, hk', fun k ρ' hk2 => a7 k ρ' b f ρ hk2 hk'⟩)
      have noB : ∀ {k ρ b}, back.any borBack = false → ¬ KBk (rtsVs ds) gb back true k ρ b := fun {k ρ b} hb ⟨R, ys, h1, h2, s, zs, o, h3, _⟩ => by
        simp only [List.any_eq_false] at hb
        have := hb _ (List.mem_of_getElem? h2)
        have := borIn_key 6 (by simpa [borBack] using this) (by simpa using h3)
        cases this
      have fromO : ∀ {b}, (w.heap.size ≤ b ∨ ∃ k ρ, KOf (rtsVs ds) gs false k ρ b) → cx.base ≤ b ∨ cx.O b := fun h => by
        rcases h with h | ⟨k, ρ, h⟩
        · exact .inl (Nat.le_trans hf.base h)
        · exact (kown_lt h).2
      have old_ne : ∀ {b r R f ρ}, rs r = some R → R.Key (A r) f ρ b → (∀ k ρ', ¬ KOf (rtsVs ds) gs false k ρ' b) → ¬ (w.heap.size ≤ b ∨ ∃ k ρ, KOf (rtsVs ds) gs false k ρ b) := fun {b r R f ρ} h1 h2 h3 h4 => by
        rcases h4 with h4 | ⟨k, ρ', h4⟩
        · have := Key.lt (hh.tree r R h1) h2; omega
        · exact h3 k ρ' h4
      have hHR : HR cx w' A' rs' := by
        refine ⟨fun r R' h => ?_, fun r R' ρ b h k => ?_, fun r R' ρ b h k => ?_, fun r R' ρ r2 R2 ρ2 b h k h' k' => ?_⟩
        · rcases cls h with ⟨j, e1, e2, e3⟩ | ⟨k, R, Rk, ys, u, a1, a2, a3, a4, a5, a6, a7, a8, a9, a10, a11, a12⟩ | ⟨R, a1, a2, a3, a4, a5, a6, a7⟩
          · obtain ⟨G, g1, g2⟩ := hRG.2 j R' e2
            rw [e3] at g1; injection g1 with g1; rw [g1]; exact g2
          · subst a8; rw [a10]; simp only [a4]; exact a12
          · rw [a6, ← a2, ← a3, ← a4]
            refine (hh.tree r R a1).mono hp.big fun ρ f b k => hp.block b (Key.lt (hh.tree r R a1) k) fun k2 ρ2 hk2 => a7 k2 ρ2 b f ρ hk2 k
        · rcases hKey h k with ⟨j, _, e⟩ | ⟨j, u, _, _, e⟩ | ⟨R, e1, e2, _⟩
          · exact fromO (hp.rown j ρ b e)
          · exact fromO (hp.bown j ρ b e)
          · exact hh.own r R ρ b e1 e2
        · rcases hKey h k with ⟨j, _, e⟩ | ⟨j, u, _, _, e⟩ | ⟨R, e1, e2, _⟩
          · rcases hS4 with hs | ⟨hs, _⟩
            · exact hs b (hp.rsta j ρ b e)
            · exact absurd e (hasBors_rts hs)
          · rcases hS4 with hs | ⟨_, hs⟩
            · exact hs b (hp.bsta j ρ b e)
            · exact absurd e (noB hs)
          · exact hh.sta r R ρ b e1 e2
        · rcases hKey h k with ⟨j, e1, e⟩ | ⟨j, u, e1, e2, e⟩ | ⟨R, e1, e2, e3⟩ <;> rcases hKey h' k' with ⟨j', e1', e'⟩ | ⟨j', u', e1', e2', e'⟩ | ⟨R', e1', e2', e3'⟩
          · obtain ⟨rfl, rfl⟩ := hp.rinj _ _ _ _ b e e'
            exact ⟨e1.trans e1'.symm, rfl⟩
          · exact absurd e' (hp.xinj _ _ _ _ b e)
          · exact absurd (hp.rown _ _ b e) (old_ne e1' e2' e3')
          · exact absurd e (hp.xinj _ _ _ _ b e')
          · obtain ⟨rfl, rfl⟩ := hp.binj _ _ _ _ b e e'
            rw [e1] at e1'; injection e1' with e1'; subst e1'
            rw [e2] at e2'; injection e2' with e2'; injection e2' with e2' _
            exact ⟨e2', rfl⟩
          · exact absurd (hp.bown _ _ b e) (old_ne e1' e2' e3')
          · exact absurd (hp.rown _ _ b e') (old_ne e1 e2 e3)
          · exact absurd (hp.bown _ _ b e') (old_ne e1 e2 e3)
          · exact hh.inj _ _ _ _ _ _ b e1 e2 e1' e2'
      have hst : Step cx w0 D D' A rs w A' rs' w' := by
        refine ⟨hHR, ⟨fun x hx hn => hA'n (fun hin => ?_) fun k ⟨u, ys, c1, c2, c3, _⟩ => ?_, fun r R' hDr h => ?_⟩, hp.big, ⟨Nat.le_trans hf.base hp.size, fun b hb ho => ?_, hp.os.trans hf.os, hp.tape.trans hf.tape, hp.output.trans hf.output⟩, fun r R' h => ?_, hp.size, fun b hb hno => hp.block b hb fun k ρ hk => ?_, fun r R' ρ b h k => ?_⟩
        · have := hfree (x - fresh) (by omega)
          rw [show fresh + (x - fresh) = x by omega] at this
          exact this hx
        · obtain ⟨_, R, g, _⟩ := ownq c1 c2 c3
          rw [hn] at g; cases g
        rotate_left 3
        · obtain ⟨u, r, R, _, _, _, h1, h2, _⟩ := kown hk
          exact hno r R ρ h1 h2
        · have ofO : (w.heap.size ≤ b ∨ ∃ k ρ, KOf (rtsVs ds) gs false k ρ b) → w.heap.size ≤ b ∨ ∃ r0 R0 ρ0, rs r0 = some R0 ∧ R0.Key (A r0) false ρ0 b := fun h => by
            rcases h with h | ⟨k, ρ, h⟩
            · exact .inl h
            · obtain ⟨u, r, R, _, _, _, h1, h2, _⟩ := kown h
              exact .inr ⟨r, R, ρ, h1, h2⟩
          rcases hKey h k with ⟨j, _, e⟩ | ⟨j, u, _, _, e⟩ | ⟨R, e1, e2, _⟩
          · exact ofO (hp.rown j ρ b e)
          · exact ofO (hp.bown j ρ b e)
          · exact .inr ⟨r, R, ρ, e1, e2⟩
        · rcases cls h with ⟨j, e1, e2, e3⟩ | ⟨k, R, Rk, ys, u, a1, a2, a3, a4, a5, a6, a7, a8, a9, a10, a11, a12⟩ | ⟨R, a1, a2, a3, a4, a5, a6, a7⟩
          · have hj : j < 16 := Nat.lt_of_lt_of_le (List.getElem?_eq_some_iff.1 e2).1 hfew
            exact absurd (e1 ▸ hDr) (hfree j hj)
          · subst a8
            exact ⟨R, a3, by simp, rfl, rfl, a9.symm, by rw [a10, a11], fun hpv => by simp at hpv⟩
          · refine ⟨R, a1, a5, a2, a3, by rw [a4], by rw [a6], fun _ q s ro ys' h' => ⟨ys', by rw [a2, a3, a4]; exact h', rfl, by rw [a6]⟩⟩
        · refine (hp.block b (Nat.lt_of_lt_of_le hb hf.base) fun k ρ hk => ?_).trans (hf.block b hb ho)
          rcases (kown_lt hk).2 with h | h
          · omega
          · exact ho h
        · rcases cls h with ⟨j, e1, e2, e3⟩ | ⟨k, R, Rk, ys, u, a1, a2, a3, a4, a5, a6, a7, a8, a9, a10, a11, a12⟩ | ⟨R, a1, a2, a3, a4, a5, a6, a7⟩
          · have hj : j < 16 := Nat.lt_of_lt_of_le (List.getElem?_eq_some_iff.1 e2).1 hfew
            rw [e1]; exact hD' j hj
          · exact hD r (hi r R a3)
          · exact hD r (hi r R a1)
      have hkeep : Keep A rs w A' rs' w' := fun r R R' h1 h2 hpv => by
        rcases cls h2 with ⟨j, e1, e2, e3⟩ | ⟨k, R1, Rk, ys, u, a1, a2, a3, a4, a5, a6, a7, a8, a9, a10, a11, a12⟩ | ⟨R1, a1, a2, a3, a4, a5, a6, a7⟩
        · have hj : j < (rtsVs res).length := (List.getElem?_eq_some_iff.1 e2).1
          exact absurd ⟨by omega, by omega⟩ (hnf h1)
        · rw [h1] at a3; injection a3 with a3; subst a3
          subst a8
          simp at hpv
        · rw [h1] at a1; injection a1 with a1; subst a1
          exact ⟨a4.symm, a6, fun f σ b k => hp.block b (Key.lt (hh.tree r R h1) k) fun k2 ρ2 hk2 => a7 k2 ρ2 b f σ hk2 k⟩
      refine ⟨v, A', rfl, hst, ?_, hkeep⟩
      have hpw := (enterVs_ok hp.res fresh).2 (D := D') (A := A') (rs := rs') (by
        rw [hrts]
        intro k R G h1 h2
        have hk : k < (rtsVs res).length := (List.getElem?_eq_some_iff.1 h1).1
        have hin : fresh ≤ fresh + k ∧ fresh + k < fresh + (rtsVs res).length := ⟨by omega, by omega⟩
        refine ⟨by rw [hrs', if_pos hin]; simpa using h1, ?_, hD' k (by omega)⟩
        simp only [A', if_pos hin, List.getD_eq_getElem?_getD]
        rw [show fresh + k - fresh = k by omega, h2]; rfl)
      rw [← hav, hp.val]
      exact VR_ret hpw
    · cases hc
  · cases hc
end
end Go.Proofs.Ytinlbiphjgpmmaa.V
end YtinlbiphjgpmmaaVX
section YtinlbiphjgpmmaaVY
namespace Go.Proofs.Ytinlbiphjgpmmaa.V
open Go
set_option linter.unusedVariables false
set_option linter.unusedSimpArgs false

def funcOk (P : Program) (f : Nat) : Bool := match P.funcs[f]? with | some fn => fn.body.isSome && fn.name != "runtime.NumGoroutine" | none => false
def notInt : TypeDesc → Bool
  | .int _ => false
  | _ => true

/-- What no operation reads: an instruction on it never goes on. -/
def isU : X → Bool
  | .k .undef => true
  | _ => false
theorem isU_eq {x : X} (h : isU x = true) : x = .k .undef := by
  unfold isU at h
  split at h
  · rfl
  · cases h
def isT' : X → Bool
  | .t _ => true
  | .k .undef => true
  | _ => false
def isT : X → Bool
  | .t _ => true
  | .k _ => false

/-- The function is the library's slices.overlaps, which has no body. -/
def noRow (n : String) : Bool := (Extern.allGenericRows.lookup n).isNone && (Extern.allTypedRows.lookup n).isNone && (Extern.allRows.lookup n).isNone
def ovlFn (P : Program) (fn : Func) (sz : Nat) : Bool := fn.body.isNone && !(fn.name == "runtime.NumGoroutine") && (Extern.findNext fn).isNone && noRow fn.name && fn.origin == "slices.overlaps" && decide (0 < sz) &&
  (fn.params[0]?).any fun t => match P.underlying t with
    | some (.slice e) => szIs P e sz
    | _ => false

/-- The instruction is the operation's. -/
def opOk (P : Program) (o : Oper) : I → Bool
  | .mv x => match o.op with | .move y => xOk y x | .assign y => xOk y x | _ => false
  | .pick c a b => match o.op with | .pick c' a' b' => xOk c' c && xOk a' a && xOk b' b | _ => false
  | .nilc x => match o.op with | .nilCheck y => xOk y x | _ => false
  | .bin op kd x y => match o.op with | .binOp op' t x' y' _ => decide (op' = op) && xOk x' x && xOk y' y && binOk P t kd | _ => false
  | .eqA neg ks x y => match o.op with | .binOp op' t x' y' _ => decide (op' = if neg then .neq else .eql) && xOk x' x && xOk y' y && structEqOk P t ks | _ => false
  | .un op x => match o.op with | .unOp op' _ x' => decide (op' = op) && xOk x' x | _ => false
  | .build zero parts => match o.op with
    | .build t ps => match P.underlying t, (P.info? t).bind (·.zero) with
      | some (.struct fs), some z => fieldsSized P fs && litCs zero z.cells.toList && buildOk P fs ps.toList parts
      | _, _ => false
    | _ => false
  | .field off n x => match o.op with
    | .field t x' f => match P.underlying t with
      | some (.struct fs) => match fs[f]? with
        | some fd => xOk x' x && fd.offset == off && partOk P fd.type n
        | none => false
      | _ => false
    | _ => false
  | .ext j x => isU x || match o.op with | .extract x' j' => xOk x' x && j' == j | _ => false
  | .idxS x j => match o.op with | .index t x' j' => xOk x' x && xOk j' j && (match P.underlying t with | some .string => true | _ => false) | _ => false
  | .idxA len sz n x j => match o.op with
    | .index t x' j' => match P.underlying t with
      | some (.array len' el) => xOk x' x && xOk j' j && len' == len && szIs P el sz && partOk P el n
      | _ => false
    | _ => false
  | .slS x lo hi => match o.op with | .slice t x' lo' hi' none => xOk x' x && xoOk lo' lo && xoOk hi' hi && (match P.underlying t with | some .string => true | _ => false) | _ => false
  | .slR sz x lo hi => match o.op with
    | .slice t x' lo' hi' none => match P.underlying t with
      | some (.slice el) => xOk x' x && xoOk lo' lo && xoOk hi' hi && szIs P el sz
      | _ => false
    | _ => false
  | .slC sz x lo hi => match o.op with
    | .slice t x' lo' hi' none => match P.underlying t with
      | some (.slice el) => xOk x' x && xoOk lo' lo && xoOk hi' hi && szIs P el sz
      | _ => false
    | _ => false
  | .slX sz k x hi => match o.op with
    | .slice t x' none (some hi') none => match P.underlying t with
      | some (.slice el) => isT k && xOk x' x && xOk hi' hi && szIs P el sz && decide (0 < sz)
      | _ => false
    | _ => false
  | .slM sz x lo hi mx => match o.op with
    | .slice t x' lo' (some hi') (some mx') => match P.underlying t with
      | some (.slice el) => xOk x' x && xoOk lo' lo && xoOk (some hi') hi && xoOk (some mx') mx && szIs P el sz
      | _ => false
    | _ => false
  | .len isS x => match o.op with
    | .call c => match c.callee, c.args.toList, c.argTypes.toList with
      | .builtin .len, [x'], [t] => xOk x' x && (match P.underlying t with | some .string => isS | some (.slice _) => !isS | _ => false)
      | _, _, _ => false
    | _ => false
  | .cap x => match o.op with
    | .call c => match c.callee, c.args.toList, c.argTypes.toList with
      | .builtin .cap, [x'], [t] => xOk x' x && (match P.underlying t with | some (.slice _) => true | _ => false)
      | _, _, _ => false
    | _ => false
  | .conv k x => match o.op with | .convert s d x' => xOk x' x && (P.underlying s).isSome && (match P.underlying d with | some (.int k') => decide (k' = k) | _ => false) | _ => false
  | .faddr off x => match o.op with
    | .fieldAddr t x' f => match P.underlying t with
      | some (.struct fs) => match fs[f]? with
        | some fd => xOk x' x && fd.offset == off && (P.info? fd.type).any (fun i => i.size != 0)
        | none => false
      | _ => false
    | _ => false
  | .iaddr sz x j => match o.op with
    | .indexAddr t x' j' => match P.underlying t with
      | some (.slice el) => xOk x' x && xOk j' j && szIs P el sz
      | _ => false
    | _ => false
  | .mkfn f caps => match o.op with | .makeFunc (.func f') first caps' => f' == f && first.isEmpty && xsOk caps'.toList caps | _ => false
  | .mm mx xs => match o.op with
    | .call c => match c.callee with
      | .builtin b => decide (b = if mx then .max else .min) && xsOk c.args.toList xs
      | _ => false
    | _ => false
  | .bts x => match o.op with
    | .convert s d x' => match P.underlying s, P.underlying d with
      | some (.slice e), some .string => xOk x' x && (match P.underlying e with | some (.int .u8) => true | _ => false)
      | _, _ => false
    | _ => false
  | .ovl sz x y => match o.op with
    | .call c => match c.callee, c.args.toList with
      | .value (.func f), [x', y'] => xOk x' x && xOk y' y && (P.funcs[f]?).any fun fn => ovlFn P fn sz
      | _, _ => false
    | _ => false
  | .load n a => match o.op with | .load t a' => xOk a' a && partOk P t n | _ => false
  | .store n a v => match o.op with | .store t a' v' => xOk a' a && xOk v' v && szIs P t n && decide (0 < n) | _ => false
  | .box n x => match o.op with | .box _ x' => xOk x' x | _ => false
  | .boxK x => match o.op with | .box _ x' => xOk x' x | _ => false
  | .alloc zero => match o.op with | .alloc e => zeroOk P e zero | _ => false
  | .lit sz len zero parts => match o.op with
    | .buildSlice t len' ps => match P.underlying t with
      | some (.slice e) => zeroOk P e zero && zero.length == sz && decide (0 < sz) && len' == len && decide (len * sz ≤ 16777216) && litsOk ps.toList parts
      | _ => false
    | _ => false
  | .mks sz by' zero n => match o.op with
    | .makeSlice t x y => match P.underlying t with
      | some (.slice e) => xOk x n && xOk y n && zeroOk P e zero && zero.length == sz && decide (0 < sz) && (P.info? e).map (·.bytes) == some by' && decide (0 < by')
      | _ => false
    | _ => false
  | .app sz by' x y => match o.op with
    | .call c => match c.callee, c.args.toList, c.argTypes.toList with
      | .builtin .append, [x', y'], [t, t2] => match P.underlying t, P.underlying t2 with
        | some (.slice e), some d => xOk x' x && xOk y' y && notInt d && (P.info? e).any fun i => i.size == sz && i.bytes == by' && (i.zero.any fun z => z.cells.size == sz && z.cells.toList.all (·.oneCell')) && decide (0 < sz) && decide (0 < by')
        | _, _ => false
      | _, _, _ => false
    | _ => false
  | .appZ by' zero k x y => match o.op with
    | .call c => match c.callee, c.args.toList, c.argTypes.toList with
      | .builtin .append, [x', y'], [t, t2] => match P.underlying t, P.underlying t2 with
        | some (.slice e), some (.int _) => isT' k && xOk x' x && xOk y' y && zeroOk P e zero && decide (0 < zero.length) && (P.info? e).any fun i => i.bytes == by' && decide (0 < by')
        | _, _ => false
      | _, _, _ => false
    | _ => false
  | .copy sz x y => match o.op with
    | .call c => match c.callee, c.args.toList, c.argTypes.toList with
      | .builtin .copy, [x', y'], [t, t2] => match P.underlying t with
        | some (.slice e) => xOk x' x && xOk y' y && szIs P e sz
        | _ => false
      | _, _, _ => false
    | _ => false
  | .copyK sz x y => match o.op with
    | .call c => match c.callee, c.args.toList, c.argTypes.toList with
      | .builtin .copy, [x', y'], [t, t2] => match P.underlying t with
        | some (.slice e) => xOk x' x && xOk y' y && szIs P e sz
        | _ => false
      | _, _, _ => false
    | _ => false
  | .clr zero x => match o.op with
    | .call c => match c.callee, c.args.toList, c.argTypes.toList with
      | .builtin .clear, [x'], [t] => match P.underlying t with
        | some (.slice e) => xOk x' x && zeroOk P e zero && decide (0 < zero.length)
        | _ => false
      | _, _, _ => false
    | _ => false
  | .call f ms args => match o.op with
    | .call c => match c.callee with
      | .value (.func f') => f' == f && xsOk c.args.toList args
      | _ => false
    | _ => false
  | .callv g ms args => match o.op with
    | .call c => match c.callee with
      | .value g' => xOk g' g && xsOk c.args.toList args
      | _ => false
    | _ => false

section
variable {P : Program} {D D' : Nat → Prop} {A : Nat → Gh} {rs : Rs} {w : World} {cx : Cx} {w0 : World} {N : Nat} {tm : Tm} {a : Act} {o : Oper}

theorem SR.step (h : SR cx w0 N D A tm rs a w) {A' : Nat → Gh} {rs' : Rs} {w' : World} (st : Step cx w0 D D' A rs w A' rs' w') (hD : ∀ r, D r → D' r) {d : Option Tmp} (hd : ∀ x, d = some x → x < N) {av : AV} {v : Value} (hv : VR D' A' rs' w' av v) :
    SR cx w0 N D' A' (putT tm d av) rs' (a.put d v) w' := by
  refine ⟨st.heap, fun t => ?_, st.ids, ?_, ?_, st.fr, fun b n hb => st.big b n (h.big b n hb), fun k hk => hD k (h.low k hk), fun k hk R' e => ?_⟩
  · have old := (h.tmps t).mono hD st.le st.big st.still
    cases d with
    | none => exact old
    | some x =>
      by_cases e : t = x
      · subst e
        have hx := hd t rfl
        have : (a.put (some t) v).tmps.getD t undef = v := by
          simp only [Act.put, Array.getD_eq_getD_getElem?]
          rw [Array.getElem?_setIfInBounds_self_of_lt (Nat.lt_of_lt_of_le hx h.size)]; rfl
        rw [this, putT, up'_same]; exact hv
      · have : (a.put (some x) v).tmps.getD t undef = a.tmps.getD t undef := by
          simp only [Act.put, Array.getD_eq_getD_getElem?]
          rw [Array.getElem?_setIfInBounds_ne (Ne.symm e)]
        rw [this, putT, up'_ne _ _ e]; exact old
  · cases d <;> simp only [Act.put, Array.size_setIfInBounds] <;> exact h.size
  · cases d <;> simp [Act.put, h.defers]
  · obtain ⟨R, e1, _, e3, e4, e5, e6, _⟩ := st.le.2 k R' (h.low k hk) e
    obtain ⟨R0, g1, g2, g3, g4, g5⟩ := h.kept k hk R e1
    exact ⟨R0, g1, g2.trans e3, g3.trans e4, g4.trans e5, e6.trans g5⟩

theorem Step.refl (hh : HR cx w A rs) (hf : Fr cx w0 w) (hi : ∀ r R, rs r = some R → D r) (hD : ∀ r, D r → D' r) : Step cx w0 D D' A rs w A rs w :=
  ⟨hh, RsLe.refl _ _ _, fun _ _ h => h, hf, fun r R h => hD r (hi r R h), Nat.le_refl _, fun _ _ _ => rfl, fun r R ρ b h k => .inr ⟨r, R, ρ, h, k⟩⟩

theorem SR.tr (h : SR cx w0 N D A tm rs a w) : TR D A rs w tm a := h.tmps

theorem wp_yields (h : SR cx w0 N D A tm rs a w) (hD : ∀ r, D r → D' r) (hd : ∀ x, o.dst = some x → x < N) {av : AV} (hs : ∃ v, Yields P a o w v ∧ VR D A rs w av v) {next : Act → World → Prop} {Q : Exit → Act → World → Prop}
    (hn : ∀ A' v w', SR cx w0 N D' A' (putT tm o.dst av) rs (a.put o.dst v) w' → Step cx w0 D D' A rs w A' rs w' → next (a.put o.dst v) w') : o.wp P a w next Q := by
  obtain ⟨v, h1, h2⟩ := hs
  unfold Oper.wp
  rw [h1]
  have st := Step.refl (D' := D') h.heap h.fr h.ids hD
  exact hn A v w (h.step st hD hd (h2.mono hD st.le st.big st.still)) st

theorem wp_yieldsTo (h : SR cx w0 N D A tm rs a w) (hD : ∀ r, D r → D' r) (hd : ∀ x, o.dst = some x → x < N) {av : AV} {rs' : Rs} (hs : ∃ v w' A', YieldsTo P a o w v w' ∧ Step cx w0 D D' A rs w A' rs' w' ∧ VR D' A' rs' w' av v)
    {next : Act → World → Prop} {Q : Exit → Act → World → Prop} (hn : ∀ A' v w', SR cx w0 N D' A' (putT tm o.dst av) rs' (a.put o.dst v) w' → Step cx w0 D D' A rs w A' rs' w' → next (a.put o.dst v) w') : o.wp P a w next Q := by
  obtain ⟨v, w', A', h1, h2, h3⟩ := hs
  unfold Oper.wp
  rw [h1]
  exact hn A' v w' (h.step h2 hD hd h3) h2

theorem arr_of_toList {α : Type} {a : Array α} {l : List α} (h : a.toList = l) : a = l.toArray := by rw [← h]

theorem AppTy.of {t t2 e sz by' : Nat} {d : TypeDesc} (ht : P.underlying t = some (.slice e)) (ht2 : P.underlying t2 = some d) (hd : notInt d = true)
    (hi : ((P.info? e).any fun i => i.size == sz && i.bytes == by' && (i.zero.any fun z => z.cells.size == sz && z.cells.toList.all (·.oneCell')) && decide (0 < sz) && decide (0 < by')) = true) : ∃ z, AppTy P t t2 e sz by' z := by
  cases hinfo : P.info? e with
  | none => simp [hinfo] at hi
  | some i =>
    simp only [hinfo, Option.any_some, Bool.and_eq_true, beq_iff_eq, decide_eq_true_eq] at hi
    obtain ⟨⟨⟨⟨h1, h2⟩, h3⟩, h4⟩, h5⟩ := hi
    cases hz : i.zero with
    | none => simp [hz] at h3
    | some z =>
      simp only [hz, Option.any_some, Bool.and_eq_true, beq_iff_eq, List.all_eq_true] at h3
      exact ⟨z, ht, ⟨d, ht2, fun k e => by subst e; cases hd⟩, ⟨i, hinfo, hz, h1, h2⟩, h3.1, h4, h5, h3.2⟩

theorem wp_call (h : SR cx w0 N D A tm rs a w) {call : CallF} (hctr : ∀ f ds out, call f ds = some out → funcOk P f = true ∧ Ctr P f ds out) (hD : ∀ r, D r → D' r) (hd : ∀ x, o.dst = some x → x < N) {f fresh : Nat} {ms : List Bool} {vs : List AV} {vals : List Value}
    (hv : Pw (VR D A rs w) vs vals) {av : AV} {rs' : Rs} (hc : aCall call fresh rs f ms vs = some (av, rs')) (hfree : ∀ j, j < 16 → ¬ D (fresh + j)) (hD' : ∀ j, j < 16 → D' (fresh + j))
    (hrun : funcOk P f = true → (execOp a.eval o).run P w = .ok (.enter f vals.toArray) w) {next : Act → World → Prop} {Q : Exit → Act → World → Prop}
    (hn : ∀ A' v w', SR cx w0 N D' A' (putT tm o.dst av) rs' (a.put o.dst v) w' → Step cx w0 D D' A rs w A' rs' w' → Keep A rs w A' rs' w' → next (a.put o.dst v) w') : o.wp P a w next Q := by
  have hfo : funcOk P f = true := by
    simp only [aCall, Option.bind_eq_some_iff] at hc
    obtain ⟨⟨ds, us⟩, _, hc⟩ := hc
    split at hc
    · simp only [Option.bind_eq_some_iff] at hc
      obtain ⟨⟨res, back⟩, hcall, _⟩ := hc
      exact (hctr f ds _ hcall).1
    · cases hc
  unfold Oper.wp
  rw [hrun hfo]
  simp only [Oper.upon]
  refine (call_sim (fun f ds out hc => (hctr f ds out hc).2) h.heap h.fr h.ids hv hc hfree hD hD').mono fun e w' ⟨v, A', he, st, hvr, hkeep⟩ => ?_
  subst he
  exact hn A' v w' (h.step st hD hd hvr) st hkeep

theorem run_callFunc {f : Nat} (h : funcOk P f = true) (args : Array Value) (w : World) : (callFunc f args).run P w = .ok (.enter f args) w := by
  unfold funcOk at h
  split at h
  · rename_i fn e
    simp only [Bool.and_eq_true, bne_iff_ne, ne_eq] at h
    obtain ⟨h1, h2⟩ := h
    have h1' : fn.body.isNone = false := by cases e2 : fn.body <;> simp_all
    simp only [callFunc, Sem.run_bind, run_program, Result.andThen_ok, e, h1', beq_iff_eq, h2, Bool.false_eq_true, if_false, Sem.run_pure]
  · cases h
end
end Go.Proofs.Ytinlbiphjgpmmaa.V
end YtinlbiphjgpmmaaVY
section YtinlbiphjgpmmaaVYA
namespace Go.Proofs.Ytinlbiphjgpmmaa.V
open Go
set_option linter.unusedVariables false
set_option linter.unusedSimpArgs false

section
variable {P : Program} {D : Nat → Prop} {cx : Cx} {w0 : World}

theorem modify_self {α : Type} {xs : Array α} {b : Nat} {f : α → α} (h : ∀ x, xs[b]? = some x → f x = x) : xs.modify b f = xs := by
  apply Array.ext (by simp)
  intro i h3 h4
  rw [Array.getElem_modify]
  split
  · rename_i e; subst e; exact h _ (Array.getElem?_eq_getElem h4)
  · rfl
theorem setRow_self {w : World} {b : Nat} {ro : Bool} {cur : Array Value} (h : Blk w b ro cur) : w.setRow b cur = w := by
  obtain ⟨e, fr, h1, _⟩ := h
  unfold World.setRow
  rw [modify_self fun x hx => by rw [h1] at hx; injection hx with hx; subst hx; rfl]

theorem splice_two {l v1 v2 : List Value} {a : Nat} (h : a + v1.length + v2.length ≤ l.length) :
    (l.take a ++ v1 ++ l.drop (a + v1.length)).take (a + v1.length) ++ v2 ++ (l.take a ++ v1 ++ l.drop (a + v1.length)).drop (a + v1.length + v2.length) = l.take a ++ (v1 ++ v2) ++ l.drop (a + (v1 ++ v2).length) := by
  have h1 : (l.take a ++ v1).length = a + v1.length := by rw [List.length_append, List.length_take]; omega
  rw [List.take_append_of_le_length (by omega), List.take_of_length_le (by omega), List.drop_append, List.drop_of_length_le (by omega), h1, List.nil_append, List.drop_drop, List.length_append]
  simp only [List.append_assoc]
  rw [show a + v1.length + (a + v1.length + v2.length - (a + v1.length)) = a + (v1.length + v2.length) by omega]

theorem repl_cons {off : Nat} {el : List AV} {news xs : Els} (h : off < xs.length) : repl (off + 1) news (xs.set off el) = repl off (el :: news) xs := by
  unfold repl
  have e1 : (xs.set off el).take (off + 1) = xs.take off ++ [el] := by
    rw [List.take_succ_eq_append_getElem (by simpa using h), List.take_set_of_le (Nat.le_refl _), List.getElem_set_self]
  have e2 : (xs.set off el).drop (off + 1 + news.length) = xs.drop (off + 1 + news.length) := by
    rw [List.drop_set_of_lt (by omega)]
  rw [e1, e2, List.length_cons, show off + (news.length + 1) = off + 1 + news.length by omega]
  simp

theorem win_set {r s b oo : Nat} : ∀ (news : Els) (off : Nat) (vals : List Value) {A : Nat → Gh} {rs : Rs} {w : World} {R : Root} {cur : Array Value}, HR cx w A rs → Fr cx w0 w → (∀ r R, rs r = some R → D r) →
    rs r = some R → R.own = true → R.sz = s → A r [] = some (b, oo) → Blk w b false cur → off + news.length ≤ R.xs.length → (∀ (i : Nat) el, news[i]? = some el → el.length = s) → anyDeeps news = false → vals.length = news.length * s →
    (∀ i c cell, cellAt news i c = some cell → ∃ v, vals[i * s + c]? = some v ∧ CellR w (fun _ => none) cell v) → (∀ v ∈ vals, v.oneCell' = true) → oo + (off + news.length) * s ≤ cur.size →
    ∃ A', Step cx w0 D D A rs w A' (up' rs r (some { R with xs := repl off news R.xs })) (w.setRow b (cur.toList.take (oo + off * s) ++ vals ++ cur.toList.drop (oo + off * s + vals.length)).toArray) := by
  intro news
  induction news with
  | nil =>
    intro off vals A rs w R cur hh hf hi hr ho hs hA hb hle hlen hnd hv hcell hone hfit
    have : vals = [] := List.eq_nil_of_length_eq_zero (by simpa using hv)
    subst this
    have e1 : (cur.toList.take (oo + off * s) ++ [] ++ cur.toList.drop (oo + off * s + ([] : List Value).length)).toArray = cur := by simp
    have e2 : repl off [] R.xs = R.xs := by simp [repl]
    have e3 : up' rs r (some { R with xs := R.xs }) = rs := by
      funext x
      by_cases e : x = r
      · subst e; rw [up'_same, hr]
      · rw [up'_ne _ _ e]
    have e4 : w.setRow b cur = w := setRow_self hb
    rw [e1, e2, e3, e4]
    exact ⟨A, Step.refl hh hf hi (fun _ h => h)⟩
  | cons el news ih =>
    intro off vals A rs w R cur hh hf hi hr ho hs hA hb hle hlen hnd hv hcell hone hfit
    rw [List.length_cons] at hle hv hfit
    have hel : el.length = s := hlen 0 el rfl
    have hoff : off < R.xs.length := by omega
    have hnd1 : anyDeep el = false ∧ anyDeeps news = false := by simpa [anyDeeps] using hnd
    have hvs : s + news.length * s = vals.length := by rw [hv, Nat.add_mul, Nat.one_mul, Nat.add_comm]
    have hl1 : (vals.take s).length = s := by rw [List.length_take]; omega
    have hl2 : (vals.drop s).length = news.length * s := by rw [List.length_drop]; omega
    have har : arrAt R.sz (!R.own) R.xs [] = some (s, false, R.xs) := by simp [arrAt, ho, hs]
    have htop := (hh.tree r R hr).top
    have hxs : (R.xs[off]).length = s := by rw [← hs]; exact htop.1 off _ (List.getElem?_eq_getElem hoff)
    have hdet : Dets cx w A rs (fun _ _ => none) el (vals.take s) (List.replicate s []) := by
      refine ⟨by rw [hl1, hel], fun j av hj => ?_⟩
      have hjs : j < s := by rw [← hel]; exact (List.getElem?_eq_some_iff.1 hj).1
      obtain ⟨v, g1, g2⟩ := hcell 0 j av (by simp [cellAt, hj])
      rw [Nat.zero_mul, Nat.zero_add] at g1
      refine ⟨v, [], by rw [List.getElem?_take_of_lt hjs]; exact g1, by simp [hjs], Det.plain g2 (hone v (List.mem_of_getElem? g1)) fun p bo sz ys e => ?_⟩
      subst e
      exact absurd hj (anyDeep_no hnd1.1)
    have hfl : (List.replicate s ([] : List Nat)).flatten = [] := by simp
    obtain ⟨A1, st1⟩ := set_step (D := D) (D' := D) (i := off) (c := 0) hh hf hi hr har hA hb (List.getElem?_eq_getElem hoff) hdet (by rw [hel, hxs]; omega) (by rw [hfl]; simp) (by rw [hfl]; simp) (by
      have : (off + 1) * s ≤ (off + (news.length + 1)) * s := Nat.mul_le_mul_right _ (by omega)
      rw [Nat.add_mul] at this
      omega) (fun _ h => h)
    have q1 : kill rs (List.replicate s ([] : List Nat)).flatten = rs := by rw [hfl]; funext x; simp [kill]
    have q2 : (modArr R.xs [] fun ys => setEl ys off 0 el) = R.xs.set off el := by
      simp only [modArr, setEl, List.getElem?_eq_getElem hoff, List.take_zero, List.nil_append, Nat.zero_add]
      rw [List.drop_of_length_le (by omega), List.append_nil]
    rw [q1, q2, hnd1.1, Nat.add_zero] at st1
    simp only [Bool.false_eq_true, if_false] at st1
    generalize hc1 : (cur.toList.take (oo + off * s) ++ vals.take s ++ cur.toList.drop (oo + off * s + (vals.take s).length)).toArray = cur1 at st1
    have ct : cur.toList.length = cur.size := Array.length_toList
    have hb0 : oo + off * s + (vals.take s).length + (vals.drop s).length ≤ cur.toList.length := by
      rw [hl1, hl2, ct]
      rw [Nat.add_mul, Nat.add_mul, Nat.one_mul] at hfit
      omega
    have hsz1 : cur1.size = cur.size := by
      rw [← hc1]; simp only [List.size_toArray]
      rw [el_set_length (by omega), ct]
    obtain ⟨_, hb1⟩ := setRow_chg (w := w) (cur' := cur1) hb hsz1 (fun h => by rw [← hc1]; exact h.splice fun v hv => hone v (List.mem_of_mem_take hv))
    have hA1 : A1 r [] = some (b, oo) := by
      obtain ⟨R0, g1, _, _, _, _, g2, _⟩ := st1.le.2 r _ (hi r R hr) (up'_same _ _ _)
      rw [g2, hA]
    obtain ⟨A2, st2⟩ := ih (off + 1) (vals.drop s) st1.heap st1.fr st1.ids (up'_same _ _ _) ho hs hA1 hb1 (by simp; omega) (fun i e he => hlen (i + 1) e (by simpa using he)) hnd1.2 hl2
      (fun i c cell hcl => by
        obtain ⟨v, g1, g2⟩ := hcell (i + 1) c cell (by simpa [cellAt] using hcl)
        refine ⟨v, ?_, ?_⟩
        · rw [List.getElem?_drop, ← g1]; congr 1; rw [Nat.add_mul, Nat.one_mul]; omega
        · exact g2.mono st1.big)
      (fun v hv => hone v (List.mem_of_mem_drop hv)) (by rw [hsz1]; rw [show off + 1 + news.length = off + (news.length + 1) by omega]; exact hfit)
    refine ⟨A2, ?_⟩
    have st := st1.trans st2 (fun _ h => h)
    rw [setRow_setRow] at st
    have r1 : up' (up' rs r (some { R with xs := R.xs.set off el })) r (some { R with xs := repl (off + 1) news (R.xs.set off el) }) = up' rs r (some { R with xs := repl off (el :: news) R.xs }) := by
      rw [repl_cons hoff]
      funext x
      by_cases e : x = r
      · subst e; rw [up'_same, up'_same]
      · rw [up'_ne _ _ e, up'_ne _ _ e, up'_ne _ _ e]
    have r2 : (cur1.toList.take (oo + (off + 1) * s) ++ vals.drop s ++ cur1.toList.drop (oo + (off + 1) * s + (vals.drop s).length)) = cur.toList.take (oo + off * s) ++ vals ++ cur.toList.drop (oo + off * s + vals.length) := by
      have h2 := splice_two (l := cur.toList) (v1 := vals.take s) (v2 := vals.drop s) (a := oo + off * s) hb0
      rw [List.take_append_drop] at h2
      rw [← h2, ← hc1, show oo + (off + 1) * s = oo + off * s + (vals.take s).length by rw [hl1, Nat.add_mul, Nat.one_mul]; omega]
    rw [r2] at st
    rw [← r1]
    exact st

theorem same_rs {rs : Rs} {r : Nat} {R : Root} (hr : rs r = some R) : up' rs r (some R) = rs := by
  funext x
  by_cases e : x = r
  · subst e; rw [up'_same, hr]
  · rw [up'_ne _ _ e]

variable {A : Nat → Gh} {rs : Rs} {w : World} {tm : Tm} {a : Act} {o : Oper}
theorem sim_clr (h : TR D A rs w tm a) (hh : HR cx w A rs) (hf : Fr cx w0 w) (hi : ∀ r R, rs r = some R → D r) {t e : Nat} {cl : Call} {x : Operand} {x' : X} (ho : o.op = .call cl) (hcl : cl.callee = .builtin .clear) (hca : cl.args = #[x]) (hct : cl.argTypes = #[t])
    (hx : xOk x x' = true) (ht : P.underlying t = some (.slice e)) {zero : List AV} (hz : zeroOk P e zero = true) (hpos : 0 < zero.length) {r pv off len : Nat} (ex : x'.ev tm = .slc r [] pv zero.length off len) {R : Root} (hr : rs r = some R) (hown : R.own = true) (hnd : anyDeeps (List.replicate len zero) = false) :
    ∃ v w' A', YieldsTo P a o w v w' ∧ Step cx w0 D D A rs w A' (up' rs r (some { R with xs := repl off (List.replicate len zero) R.xs })) w' ∧ VR D A' (up' rs r (some { R with xs := repl off (List.replicate len zero) R.xs })) w' .undef v := by
  have run : ∀ {v w'}, (Builtin.clear_ #[t] o.type #[a.eval x]).run P w = .ok v w' → YieldsTo P a o w v w' := fun hr => by
    simp only [YieldsTo, execOp, ho, resolve, hcl, hca, hct, invoke, builtin, Sem.run_bind, Sem.run_pure, Result.andThen_ok, List.map_toArray, List.map_cons, List.map_nil, hr]
  have hv := h.ev hx
  rw [ex] at hv
  obtain ⟨hD, ad, cap, h3, h4, h5, h6⟩ := hv.slc
  obtain ⟨e0, h8, h9⟩ := (h6 R hr).2 R.sz (!R.own) R.xs rfl
  rcases Nat.eq_zero_or_pos len with h0 | h0
  · subst h0
    have e2 : repl off (List.replicate 0 zero) R.xs = R.xs := by simp [repl]
    rw [e2, same_rs hr]
    refine ⟨.tuple #[], w, A, run ?_, Step.refl hh hf hi (fun _ h => h), by simp only [VR, V1, PR]⟩
    rw [h3]
    cases ad <;> simp [Builtin.clear_, run_underlying' ht]
  · rcases h9 with ⟨h9, _⟩ | ⟨b, oo, hA, had, hbig, hle⟩
    · omega
    subst had
    have htop := (hh.tree r R hr).top.2
    rw [hA] at htop
    obtain ⟨cur, hb, hcells⟩ := htop
    rw [hown] at hb
    obtain ⟨i, z, g1, g2, g3, g4, g5⟩ := zeroOk_run hz
    have hF := zero_flat (cx := cx) (w := w) (A := A) (rs := rs) g4 len hpos
    have hzs : z.cells.size = zero.length := by have := (zeroCs_at g4).1; simpa using this.symm
    have hcz : Builtin.zeroCells z.cells len = (Array.range (len * zero.length)).map (z.cells[· % z.cells.size]!) := by unfold Builtin.zeroCells; rw [hzs]
    rw [← hcz] at hF
    have hF1 := hF.size
    have hlr : (List.replicate len zero).length = len := List.length_replicate
    have hvl : (Builtin.zeroCells z.cells len).toList.length = (List.replicate len zero).length * zero.length := by rw [Array.length_toList]; exact hF1
    have hone : ∀ v ∈ (Builtin.zeroCells z.cells len).toList, v.oneCell' = true := one_of hF.size hF.len fun i c cell hc => let ⟨v, k1, k2⟩ := hF.cell i c cell hc; ⟨v, k1, k2.one⟩
    have hcur : oo + (off + cap) * zero.length ≤ cur.size := by
      obtain ⟨c2, ty2, fr2, k1, k2, _⟩ := hbig
      obtain ⟨ty, fr, k3, _⟩ := hb
      rw [k3] at k1; injection k1 with k1; injection k1 with k1; subst k1
      exact k2
    have hfit : oo + (off + (List.replicate len zero).length) * zero.length ≤ cur.size := by
      rw [hlr]
      have : (off + len) * zero.length ≤ (off + cap) * zero.length := Nat.mul_le_mul_right _ (by omega)
      omega
    obtain ⟨A', st⟩ := win_set (D := D) (List.replicate len zero) off (Builtin.zeroCells z.cells len).toList hh hf hi hr hown e0 hA (by simpa using hb) (by rw [hlr]; exact h8) hF.len hnd hvl
      (fun i c cell hc => by
        obtain ⟨v, k1, k2⟩ := hF.cell i c cell hc
        exact ⟨v, by rw [Array.getElem?_toList]; exact k1, k2.cell⟩) hone hfit
    refine ⟨.tuple #[], _, A', run ?_, st, by simp only [VR, V1, PR]⟩
    obtain ⟨ty, fr, k3, k4⟩ := hb
    have k5 := (k4 rfl).1
    subst k5
    have hst := run_storeCells_at P b (oo + off * zero.length) ty (Builtin.zeroCells z.cells len).toList 0 cur w k3 (by
      rw [hvl, hlr]; rw [hlr, Nat.add_mul] at hfit; omega) hone
    simp only [Nat.add_zero] at hst
    rw [h3]
    obtain ⟨n, rfl⟩ : ∃ n, len = n + 1 := ⟨len - 1, by omega⟩
    simp [Builtin.clear_, run_underlying' ht, (g5 _).1, hst]

theorem pr_short {r : Nat} {q : Path} {pv sz off len n : Nat} {ad : Option Addr} {cap : Nat} (h : PR D A rs w (.slc r q pv sz off len) (.slice ad len cap)) (hn : n ≤ len) : PR D A rs w (.slc r q pv sz off n) (.slice ad n cap) := by
  obtain ⟨hD, a', c', e, h1, h2, h3⟩ := h
  injection e with e1 e2 e3; subst e1; subst e3
  exact ⟨hD, _, _, rfl, by omega, h2, fun R hR => ⟨(h3 R hR).1, fun s ro ys ha => by
    obtain ⟨k1, k2, k3⟩ := (h3 R hR).2 s ro ys ha
    exact ⟨k1, by omega, k3⟩⟩⟩
theorem no_deep {xs : Els} (h : anyDeeps xs = false) {i c : Nat} {p bo : Bool} {s : Nat} {ys : Els} : cellAt xs i c ≠ some (.deep p bo s ys) := fun e => by
  obtain ⟨el, h1, h2⟩ := cellAt_some e
  have h3 : anyDeep el = false := by
    simp only [anyDeeps, List.any_eq_false] at h
    simpa using h el (List.mem_of_getElem? h1)
  exact anyDeep_no h3 h2
theorem sim_copy (h : TR D A rs w tm a) (hh : HR cx w A rs) (hf : Fr cx w0 w) (hi : ∀ r R, rs r = some R → D r) {t t2 e sz : Nat} {cl : Call} {x y : Operand} {x' y' : X} (ho : o.op = .call cl) (hcl : cl.callee = .builtin .copy) (hca : cl.args = #[x, y]) (hct : cl.argTypes = #[t, t2])
    (hx : xOk x x' = true) (hy : xOk y y' = true) (ht : P.underlying t = some (.slice e)) (hsz : szIs P e sz = true) {r pv off len r2 pv2 off2 len2 : Nat} {q2 : Path} (ex : x'.ev tm = .slc r [] pv sz off len) (ey : y'.ev tm = .slc r2 q2 pv2 sz off2 len2)
    {R R2 : Root} (hr : rs r = some R) (hown : R.own = true) {s2 : Nat} {ro2 : Bool} {ys : Els} (hl : look rs r2 q2 pv2 = some (R2, s2, ro2, ys)) (hnd : anyDeeps (wnd ys off2 (min len2 len)) = false) :
    ∃ v w' A', YieldsTo P a o w v w' ∧ Step cx w0 D D A rs w A' (up' rs r (some { R with xs := repl off (wnd ys off2 (min len2 len)) R.xs })) w' ∧ VR D A' (up' rs r (some { R with xs := repl off (wnd ys off2 (min len2 len)) R.xs })) w' (.i .i64 (min len2 len : Nat)) v := by
  have run : ∀ {v w'}, (Builtin.copy_ #[t, t2] o.type #[a.eval x, a.eval y]).run P w = .ok v w' → YieldsTo P a o w v w' := fun hr => by
    simp only [YieldsTo, execOp, ho, resolve, hcl, hca, hct, invoke, builtin, Sem.run_bind, Sem.run_pure, Result.andThen_ok, List.map_toArray, List.map_cons, List.map_nil, hr]
  have hv := h.ev hx
  rw [ex] at hv
  obtain ⟨hD, ad, cap, h3, h4, h5, h6⟩ := hv.slc
  obtain ⟨e0, h8, h9⟩ := (h6 R hr).2 R.sz (!R.own) R.xs rfl
  have hv2 := h.ev hy
  rw [ey] at hv2
  have hp2 : PR D A rs w (.slc r2 q2 pv2 sz off2 len2) (a.eval y) := by simpa only [VR, V1] using hv2
  obtain ⟨ad2, cap2, k3⟩ : ∃ ad2 cap2, a.eval y = .slice ad2 len2 cap2 := by obtain ⟨_, ad2, cap2, k3, _⟩ := hp2; exact ⟨ad2, cap2, k3⟩
  rw [k3] at hp2
  generalize hn : min len2 len = n at *
  obtain ⟨rfl, k4, hr2, ha2, vals, ad3, cap3, k5, k6, k7, k8, k9, k10, _⟩ := win_info (P := P) hh (pr_short hp2 (n := n) (by omega)) hl
  injection k5 with k5 _ k5'; subst k5; subst k5'
  have hfc : (Builtin.firstCells s2 n (.slice ad2 len2 cap2)).run P w = .ok vals.toArray w := by
    have := k10 w rfl
    cases ad2 <;> exact this
  have hwl : (wnd ys off2 n).length = n := wnd_length k4
  have hcellw : ∀ i c cell, cellAt (wnd ys off2 n) i c = some cell → ∃ v, vals[i * s2 + c]? = some v ∧ CellR w (fun _ => none) cell v := fun i c cell hc => by
    have hlt : i < n := by
      obtain ⟨el, g1, _⟩ := cellAt_some hc
      have := (List.getElem?_eq_some_iff.1 g1).1
      omega
    have hc2 : cellAt ys (off2 + i) c = some cell := (wnd_cell k4 hc).2
    obtain ⟨v, g1, g2⟩ := k9 i c cell hlt hc2
    refine ⟨v, g1, ?_⟩
    cases cell with
    | deep p bo s zs => exact absurd hc (no_deep hnd)
    | _ => exact g2
  have hmin : Nat.min len2 len = n := hn
  rcases Nat.eq_zero_or_pos n with h0 | h0
  · subst h0
    have e2 : repl off (wnd ys off2 0) R.xs = R.xs := by simp [repl, wnd]
    have e3 : vals = [] := List.eq_nil_of_length_eq_zero (by simpa using k7)
    subst e3
    rw [e2, same_rs hr]
    refine ⟨.int .i64 0, w, A, run ?_, Step.refl hh hf hi (fun _ h => h), by simp only [VR, V1, PR]; rfl⟩
    rw [h3, k3]
    cases ad <;> simp [Builtin.copy_, run_underlying' ht, Builtin.lenOf, hmin, run_sizeOf' hsz, hfc, goInt, storeCells]
  · rcases h9 with ⟨h9, _⟩ | ⟨b, oo, hA, had, hbig, hle⟩
    · omega
    subst had
    have htop := (hh.tree r R hr).top.2
    rw [hA] at htop
    obtain ⟨cur, hb, hcells⟩ := htop
    rw [hown] at hb
    have hcur : oo + (off + cap) * s2 ≤ cur.size := by
      obtain ⟨c2, ty2, fr2, k1, k2, _⟩ := hbig
      obtain ⟨ty, fr, k3, _⟩ := hb
      rw [k3] at k1; injection k1 with k1; injection k1 with k1; subst k1
      exact k2
    have hfit : oo + (off + (wnd ys off2 n).length) * s2 ≤ cur.size := by
      rw [hwl]
      have : (off + n) * s2 ≤ (off + cap) * s2 := Nat.mul_le_mul_right _ (by omega)
      omega
    have hlens : ∀ (i : Nat) el, (wnd ys off2 n)[i]? = some el → el.length = s2 := fun i el he => by
      rw [wnd_at k4] at he
      split at he
      · exact (hh.arr hr2 ha2).top.1 _ _ he
      · cases he
    obtain ⟨A', st⟩ := win_set (D := D) (wnd ys off2 n) off vals hh hf hi hr hown e0 hA (by simpa using hb) (by rw [hwl]; omega) hlens hnd (by rw [hwl]; exact k7) hcellw k8 hfit
    refine ⟨.int .i64 (n : Nat), _, A', run ?_, st, by simp only [VR, V1, PR]⟩
    obtain ⟨ty, fr, g3, g4⟩ := hb
    have g5 := (g4 rfl).1
    subst g5
    have hst := run_storeCells_at P b (oo + off * s2) ty vals 0 cur w g3 (by
      rw [k7]; rw [hwl, Nat.add_mul] at hfit; omega) k8
    simp only [Nat.add_zero] at hst
    rw [h3, k3]
    simp [Builtin.copy_, run_underlying' ht, Builtin.lenOf, hmin, run_sizeOf' hsz, hfc, goInt, hst]
end
end Go.Proofs.Ytinlbiphjgpmmaa.V
end YtinlbiphjgpmmaaVYA
section YtinlbiphjgpmmaaVYB
namespace Go.Proofs.Ytinlbiphjgpmmaa.V
open Go
set_option linter.unusedVariables false
set_option linter.unusedSimpArgs false

section
variable {P : Program} {D D' : Nat → Prop} {cx : Cx} {w0 : World} {A : Nat → Gh} {rs : Rs} {w : World} {tm : Tm} {a : Act} {o : Oper}

theorem TR.tok (h : TR D A rs w tm a) {k : X} (hk : isT k = true) : ∃ v, VR D A rs w (k.ev tm) v := by
  cases k with
  | t c => exact ⟨_, h c⟩
  | k v => cases hk

theorem anyDeeps_append {xs ys : Els} (h1 : anyDeeps xs = false) (h2 : anyDeeps ys = false) : anyDeeps (xs ++ ys) = false := by
  simp only [anyDeeps, List.any_append, Bool.or_eq_false_iff]; exact ⟨h1, h2⟩

/-- Elements without arrays. -/
theorem ESrc.flat {sz : Nat} {zs : Els} {vals : List Value} (hs : vals.length = zs.length * sz) (hl : ∀ (i : Nat) el, zs[i]? = some el → el.length = sz) (hd : anyDeeps zs = false)
    (hc : ∀ i c cell, cellAt zs i c = some cell → ∃ B v, vals[i * sz + c]? = some v ∧ CellR w B cell v) (ho : ∀ v ∈ vals, v.oneCell' = true) : ESrc cx w A rs sz zs vals [] (fun _ _ _ => none) (fun _ => none) :=
  ⟨hs, hl, fun i c cell h => by
    obtain ⟨B, v, h1, h2⟩ := hc i c cell h
    refine ⟨v, h1, ?_⟩
    cases cell with
    | deep p bo s ys => exact absurd h (no_deep hd)
    | _ => exact h2, ho, fun i c p bo s ys h => absurd h (no_deep hd), fun i c p bo s ys ρ b h => absurd h (no_deep hd), fun i c p bo s ys ρ b h => absurd h (no_deep hd), fun i i' r q k q' k' h => by cases h⟩

/-- The same capacity. -/
theorem cap_same {r off sz pv len cap capT : Nat} {ad : Option Addr} (h2 : ∀ R, rs r = some R → R.sz = sz ∧ ∃ b o, A r [] = some (b, o) ∧ Big w b (o + (off + capT) * sz, R.own)) (h : PR D A rs w (.slc r [] pv sz off len) (.slice ad len cap)) {R : Root} (hr : rs r = some R) (hown : R.own = true) (hsz : 0 < sz) (hoff : off < R.xs.length) : capT = cap := by
  obtain ⟨hs, b, oo, h3, h4⟩ := h2 R hr
  obtain ⟨_, ad', cap', e, _, _, h5⟩ := h
  injection e with e1 e2 e3; subst e3
  obtain ⟨_, _, h7⟩ := (h5 R hr).2 R.sz (!R.own) R.xs rfl
  rcases h7 with ⟨_, h7⟩ | ⟨b', oo', h8, _, h10, _⟩
  · omega
  · rw [h3] at h8; injection h8 with h8; injection h8 with h8 h9; subst h8; subst h9
    rw [hown] at h4 h10
    have h11 := Big.same h4 h10
    have h12 : (off + capT) * sz = (off + cap) * sz := by omega
    have h13 := Nat.eq_of_mul_eq_mul_right hsz h12
    omega

theorem ESrc.of_flat {sz : Nat} {xs : Els} {cur : Array Value} {G al} (hF : Flat cx w A rs sz xs cur [] G al) : ESrc cx w A rs sz xs cur.toList [] G (fun _ => none) := by
  have no : ∀ {i c r}, ¬ r ∈ al i c := fun h => by have := hF.mem _ _ _ h; cases this
  refine ⟨by rw [Array.length_toList]; exact hF.size, hF.len, fun i c cell hc => ?_, fun v hv => ?_, fun i c p bo s ys hc => ?_, fun i c p bo s ys ρ b hc hk => ?_, fun i c p bo s ys ρ b hc hk => ?_, fun i i' r q k q' k' h => by cases h⟩
  · obtain ⟨v, h1, h2⟩ := hF.cell i c cell hc
    exact ⟨v, by rw [Array.getElem?_toList]; exact h1, h2.cell⟩
  · exact one_of hF.size hF.len (fun i c cell h => let ⟨v, h1, h2⟩ := hF.cell i c cell h; ⟨v, h1, h2.one⟩) v hv
  · obtain ⟨v, _, h2⟩ := hF.cell i c _ hc
    exact h2.tree p bo s ys rfl
  · obtain ⟨v, _, h2⟩ := hF.cell i c _ hc
    obtain ⟨r, R, h3, _⟩ := h2.own p bo s ys rfl ρ b hk
    exact absurd (by rw [h3]; simp) (no (i := i) (c := c) (r := r))
  · obtain ⟨v, _, h2⟩ := hF.cell i c _ hc
    exact h2.sta p bo s ys rfl ρ b hk

structure ZTy (P : Program) (t t2 e by' : Nat) (z : Value) (zero : List AV) : Prop where
  ht : P.underlying t = some (.slice e)
  ht2 : ∃ k, P.underlying t2 = some (.int k)
  hz : ∃ i, P.info? e = some i ∧ i.zero = some z ∧ i.size = zero.length ∧ i.bytes = by'
  zc : zeroCs zero z.cells.toList = true
  pos : 0 < zero.length
  by0 : 0 < by'
theorem ZTy.of {t t2 e by' : Nat} {zero : List AV} {k : IntKind} (ht : P.underlying t = some (.slice e)) (ht2 : P.underlying t2 = some (.int k)) (hz : zeroOk P e zero = true) (hp : 0 < zero.length) (hb : ((P.info? e).any fun i => i.bytes == by' && decide (0 < by')) = true) : ∃ z, ZTy P t t2 e by' z zero := by
  obtain ⟨i, z, h1, h2, h3, h4, _⟩ := zeroOk_run hz
  rw [h1] at hb
  simp only [Option.any_some, Bool.and_eq_true, beq_iff_eq, decide_eq_true_eq] at hb
  exact ⟨z, ht, ⟨k, ht2⟩, ⟨i, h1, h2, h3, hb.1⟩, h4, hp, hb.2⟩

theorem run_appZ {t t2 e by' ty : Nat} {z : Value} {zero : List AV} (T : ZTy P t t2 e by' z zero) {ad : Option Addr} {n0 cap n : Nat} {olds : List Value}
    (hfo : ∀ w1 : World, w1.heap = w.heap → (Builtin.firstCells zero.length n0 (.slice ad n0 cap)).run P w1 = .ok olds.toArray w1) (hpos : 0 < n) (hgrow : cap < n0 + n) (hbytes : (n0 + n) * by' ≤ 140737488355328) :
    ∃ cap', n0 + n ≤ cap' ∧ (Builtin.append_ #[t, t2] ty #[.slice ad n0 cap, .int .i64 (n : Nat)]).run P w =
      .ok (.slice (some ⟨w.heap.size, 0, none⟩) (n0 + n) cap') { w with drawn := w.drawn + 1, heap := w.heap.push (.cells (olds.toArray ++ Builtin.zeroCells z.cells n ++ Builtin.zeroCells z.cells (cap' - (n0 + n))) e) } := by
  obtain ⟨i, h1, h2, h3, h4⟩ := T.hz
  obtain ⟨d, h5⟩ := T.ht2
  have hsm : n0 + n ≤ 140737488355328 := Nat.le_trans (Nat.le_mul_of_pos_right _ T.by0) hbytes
  have hn : n ≤ 140737488355328 := by omega
  have hnb : n * by' ≤ 140737488355328 := Nat.le_trans (Nat.mul_le_mul_right _ (by omega)) hbytes
  have h63 : ¬ (((n0 + n : Nat) : Int) > IntKind.i64.max) := Int.not_lt.2 (Int.le_trans (Int.ofNat_le.2 hsm) (by decide))
  have hfit := growslice_fits hgrow hbytes
  have h48 : ¬ (2 ^ 48 < Builtin.nextslicecap (n0 + n) cap * by') := by
    have : (2 : Nat) ^ 48 = 281474976710656 := rfl
    rw [this]; omega
  have hneg : ¬ ((n : Int) < 0) := by omega
  have hbig : ¬ ((2 : Int) ^ 48 < (n : Int) * (by' : Int)) := by
    have : ((n * by' : Nat) : Int) = (n : Int) * (by' : Int) := Int.natCast_mul _ _
    rw [← this]
    have : (2 : Int) ^ 48 = 281474976710656 := rfl
    rw [this]; omega
  have hnz : ¬ (n * zero.length = 0) := by have := Nat.mul_pos hpos T.pos; omega
  refine ⟨grownCap w (n0 + n) cap e, grownCap_ge w _ _ _, ?_⟩
  simp only [Builtin.append_, List.getElem?_toArray, List.getElem?_cons_zero, List.getElem?_cons_succ, Sem.run_bind, run_underlying' T.ht, Result.andThen_ok, sizeOf, run_typeInfo' h1, Sem.run_pure, run_underlying' h5, h3, h4, if_true, asInt, asIntOf, wrap_id hn, Sem.run_ite,
    if_neg hneg, gt_iff_lt, if_neg hbig, Int.toNat_natCast, if_neg (Nat.not_le.2 hgrow), Bool.not_true, Bool.false_eq_true, if_false, hnz, h63, false_and, h48, run_choose, Question.forced, run_askRoom, zeroValue, h2, newRow, run_newObj, grownCap]
  rw [hfo { w with drawn := w.drawn + 1 } rfl]
  simp only [Result.andThen_ok, Sem.run_pure]

/-- What is appended onto: nothing, or a window of an array that is full. -/
def PreZ (rs : Rs) (sz m : Nat) (k x : AV) (pre : Els) : Prop :=
  ((∃ s, x = .nl s) ∧ pre = []) ∨ ∃ r off n pv len R, k = .cv 3 r off sz n ∧ x = .slc r [] pv sz off len ∧ rs r = some R ∧ R.own = true ∧ pre = wnd R.xs off len ∧ off + len ≤ R.xs.length ∧ anyDeeps pre = false ∧ n ≤ len + m ∧ off < R.xs.length

theorem sim_appZ (h : TR D A rs w tm a) (hh : HR cx w A rs) (hf : Fr cx w0 w) (hi : ∀ r R, rs r = some R → D r) {t t2 e by' : Nat} {z : Value} {zero : List AV} (T : ZTy P t t2 e by' z zero) {cl : Call} {x y : Operand} {k' x' y' : X}
    (ho : o.op = .call cl) (hcl : cl.callee = .builtin .append) (hca : cl.args = #[x, y]) (hct : cl.argTypes = #[t, t2]) (hk : isT' k' = true) (hx : xOk x x' = true) (hy : xOk y y' = true) {m : Int} (ey : y'.ev tm = .i .i64 m) (hm : 0 < m)
    {pre : Els} (hp : PreZ rs zero.length m.toNat (k'.ev tm) (x'.ev tm) pre) (hbytes : (pre.length + m.toNat) * by' ≤ 140737488355328) {id : Nat} (hid : ¬ D id) (hD : ∀ r, D r → D' r) (hid' : D' id) :
    ∃ v w' A', YieldsTo P a o w v w' ∧ Step cx w0 D D' A rs w A' (up' rs id (some ⟨true, zero.length, 0, pre ++ List.replicate m.toNat zero⟩)) w' ∧ VR D' A' (up' rs id (some ⟨true, zero.length, 0, pre ++ List.replicate m.toNat zero⟩)) w' (.slc id [] 0 zero.length 0 (pre.length + m.toNat)) v := by
  have hvy := h.ev hy
  rw [ey] at hvy
  have hvy := hvy.int
  obtain ⟨n, rfl⟩ : ∃ n : Nat, m = n := ⟨m.toNat, by omega⟩
  rw [Int.toNat_natCast] at hp hbytes ⊢
  have hn : 0 < n := by omega
  have run : ∀ {v w'}, (Builtin.append_ #[t, t2] o.type #[a.eval x, a.eval y]).run P w = .ok v w' → YieldsTo P a o w v w' := fun hr => by
    simp only [YieldsTo, execOp, ho, resolve, hcl, hca, hct, invoke, builtin, Sem.run_bind, Sem.run_pure, Result.andThen_ok, List.map_toArray, List.map_cons, List.map_nil, hr]
  rw [hvy] at run
  have hpre : ∃ ad cap vals0, a.eval x = .slice ad pre.length cap ∧ cap < pre.length + n ∧ ESrc cx w A rs zero.length pre vals0 [] (fun _ _ _ => none) (fun _ => none) ∧
      ∀ w1 : World, w1.heap = w.heap → (Builtin.firstCells zero.length pre.length (.slice ad pre.length cap)).run P w1 = .ok vals0.toArray w1 := by
    rcases hp with ⟨⟨s, ex⟩, rfl⟩ | ⟨r, off, n1, pv, len, R, ek, ex, hr, hown, rfl, _, hd, hnl, hoff⟩
    · have hv := h.ev hx
      rw [ex] at hv
      exact ⟨none, 0, [], hv.nl, by simpa using hn, ESrc.nil, fun w1 _ => run_firstCells_none (P := P) w1 _ _ _ _⟩
    · have hkT : isT k' = true := by
        cases k' with
        | t c => rfl
        | k v => simp only [X.ev] at ek; subst ek; cases hk
      obtain ⟨u, hu⟩ := h.tok hkT
      rw [ek] at hu
      have hu' : PR D A rs w (.cv 3 r off zero.length n1) u := by simpa only [VR, V1] using hu
      have hv := h.ev hx
      rw [ex] at hv
      have hl : look rs r [] pv = some (R, R.sz, false, R.xs) := by simp [look, hr, Root.arr, hown]
      obtain ⟨e0, h6, _, ha, vals0, ad, cap, hav, h7, h8, h9, h10, h11, h12⟩ := win_info (P := P) hh hv.slc hl
      have hp : PR D A rs w (.slc r [] pv zero.length off len) (.slice ad len cap) := by rw [← hav]; exact hv.slc
      obtain ⟨_, capT, ⟨_, hlt⟩, hu2⟩ := hu'
      obtain rfl := cap_same hu2 hp hr hown T.pos hoff
      have ht := hh.arr hr ha
      have hpl : (wnd R.xs off len).length = len := wnd_length h6
      rw [hpl]
      refine ⟨ad, capT, vals0, hav, by omega, ESrc.flat (by rw [hpl]; exact h8) (fun i el he => ?_) hd (fun i c cell hc => ?_) h9, fun w1 hw1 => by rw [← hav]; exact h11 w1 hw1⟩
      · rw [wnd_at h6] at he
        split at he
        · rw [← e0]; exact ht.top.1 _ _ he
        · cases he
      · obtain ⟨hi, hc2⟩ := wnd_cell h6 hc
        obtain ⟨v, g1, g2⟩ := h10 i c cell hi hc2
        exact ⟨_, v, g1, g2⟩
  obtain ⟨ad, cap, vals0, hav, hgrow, hE0, hfo⟩ := hpre
  have hzs : z.cells.size = zero.length := by have := (zeroCs_at T.zc).1; simpa using this.symm
  have hF := zero_flat (cx := cx) (w := w) (A := A) (rs := rs) T.zc n T.pos
  have hcz : ∀ n, Builtin.zeroCells z.cells n = (Array.range (n * zero.length)).map (z.cells[· % z.cells.size]!) := fun n => by unfold Builtin.zeroCells; rw [hzs]
  rw [← hcz] at hF
  have hE := hE0.append (ESrc.of_flat hF) (fun i j r q k q' k' _ h => by cases h)
  have zone : One z.cells := by
    have h1 := one_of (cur := z.cells) (xs := [zero]) (sz := zero.length) (by simp [hzs]) (fun i el he => by
      cases i with
      | zero => simp only [List.getElem?_cons_zero, Option.some.injEq] at he; subst he; rfl
      | succ i => simp at he) (fun i c cell hc => by
      obtain ⟨rfl, h2⟩ := cellAt_one hc
      obtain ⟨v, h3, h4⟩ := (zeroCs_at T.zc).2 c cell h2
      exact ⟨v, by simpa using h3, (zeroC_det (cx := cx) (w := w) (A := A) (rs := rs) h4).one⟩)
    exact h1
  obtain ⟨cap', hc', hrun⟩ := run_appZ (P := P) (w := w) (ty := o.type) (ad := ad) (olds := vals0) T hfo hn hgrow hbytes
  rw [← hav] at hrun
  have hzt : (Builtin.zeroCells z.cells n).toList.toArray = Builtin.zeroCells z.cells n := by simp
  have hst := esrc_step (D' := D') (id := id) (oo := 0) hh hf hi (grow_chg (e := e) (vals0.toArray ++ Builtin.zeroCells z.cells n ++ Builtin.zeroCells z.cells (cap' - (pre.length + n)))) hE hid hD hid' (b := w.heap.size) ⟨e, (0, 0), heap_push w _, fun _ => ⟨rfl, by rw [← hzt]; exact one_grow hE0.one (ESrc.of_flat hF).one zone⟩⟩ (fun j u hj => ?_) (fun x hx => hx.elim) (.inl ⟨hf.base, Nat.le_refl _, fun x h => h⟩)
  · have ek : kill rs ([] ++ []) = rs := by funext x; simp [kill]
    rw [ek] at hst
    refine ⟨_, _, _, run hrun, hst, (new_slc hid' (up'_same _ _ _) (by rw [up'_same]; rfl) rfl ?_ ?_ (Big.of (heap_push w _) ?_)).vr⟩
    · simp only [List.length_append, List.length_replicate]; omega
    · simp only [List.length_append, List.length_replicate]; exact hc'
    · have := hE0.size
      simp only [Array.size_append, List.size_toArray, size_zeroCells, hzs, this, Nat.zero_add]
      rw [← Nat.add_mul, ← Nat.add_mul]
      congr 1; omega
  · rw [Nat.zero_add]
    have hj' := (List.getElem?_eq_some_iff.1 hj).1
    rw [← Array.getElem?_toList]
    simp only [Array.toList_append]
    rw [List.getElem?_append_left (by simpa using hj')]; simpa using hj

/-- A root with unknown elements behind it. -/
theorem arr_ext {sz : Nat} {ro : Bool} {xs zs : Els} (hz : ∀ i c p bo s ys, cellAt zs i c ≠ some (.deep p bo s ys)) : ∀ {ρ : Path} {x : Nat × Nat} {y}, arrAt sz ro (xs ++ zs) (x :: ρ) = some y → arrAt sz ro xs (x :: ρ) = some y := by
  intro ρ x y h
  obtain ⟨i, c⟩ := x
  obtain ⟨p, bo, s, ys, h1, h2⟩ := arrAt_cons h
  rw [cellAt_append] at h1
  split at h1
  · simp only [arrAt, h1]; exact h2
  · exact absurd h1 (hz _ _ _ _ _ _)

theorem sim_slX (h : TR D A rs w tm a) (hh : HR cx w A rs) (hf : Fr cx w0 w) (hi : ∀ r R, rs r = some R → D r) {t e sz : Nat} {x y : Operand} {k' x' y' : X} (ho : o.op = .slice t x none (some y) none) (hk : isT k' = true) (hx : xOk x x' = true) (hy : xOk y y' = true)
    (ht : P.underlying t = some (.slice e)) (hs : szIs P e sz = true) (hsz : 0 < sz) {r off n pv len : Nat} {ki : IntKind} {m : Int} (ek : k'.ev tm = .cv 2 r off sz n) (ex : x'.ev tm = .slc r [] pv sz off len) (ey : y'.ev tm = .i ki m) (hlen : 0 < len) (hm0 : 0 ≤ m) (hmn : m ≤ n)
    {R : Root} (hr : rs r = some R) (hown : R.own = true) {id : Nat} (hid : ¬ D id) (hD : ∀ r, D r → D' r) (hid' : D' id) :
    ∃ v w' A', YieldsTo P a o w v w' ∧ Step cx w0 D D' A rs w A' (up' (kill rs [r]) id (some ⟨true, sz, 0, R.xs ++ List.replicate (off + m.toNat - R.xs.length) (List.replicate sz .undef)⟩)) w' ∧
      VR D' A' (up' (kill rs [r]) id (some ⟨true, sz, 0, R.xs ++ List.replicate (off + m.toNat - R.xs.length) (List.replicate sz .undef)⟩)) w' (.slc id [] 0 sz off m.toNat) v := by
  obtain ⟨u, hu⟩ := h.tok hk
  rw [ek] at hu
  have hu' : PR D A rs w (.cv 2 r off sz n) u := by simpa only [VR, V1] using hu
  have h1 := h.ev hx
  rw [ex] at h1
  obtain ⟨hDr, ad, cap, h3, h4, h5, h6⟩ := h1.slc
  obtain ⟨e0, h8, h9⟩ := (h6 R hr).2 R.sz (!R.own) R.xs rfl
  have hp : PR D A rs w (.slc r [] pv sz off len) (.slice ad len cap) := by rw [← h3]; exact h1.slc
  obtain ⟨_, capT, ⟨_, hle⟩, hu2⟩ := hu'
  obtain rfl := cap_same hu2 hp hr hown hsz (by omega)
  rcases h9 with ⟨_, h9⟩ | ⟨b, oo, hA, had, hbig, hxs⟩
  · omega
  have hmc : m.toNat ≤ capT := by omega
  generalize hmm : m.toNat = mm at *
  have hu1 : bnd tm (max len mm) (some y') len = some mm := by
    simp only [bnd, ey]; rw [if_pos ⟨hm0, by omega⟩, hmm]
  have hl1 : bnd tm mm none 0 = some 0 := rfl
  have htop : max len mm ≤ capT := by omega
  obtain ⟨h2, hlu, hul⟩ := run_bounds (P := P) (isS := true) h (lo := none) (hi := some y) rfl (by simpa [xoOk] using hy) htop (Nat.le_max_left _ _) hu1 hl1 (bound_up htop)
  simp only [Option.map_none, Option.map_some] at h2
  generalize hz : List.replicate (off + mm - R.xs.length) (List.replicate sz AV.undef) = zs
  have hzl : zs.length = off + mm - R.xs.length := by rw [← hz, List.length_replicate]
  have hzc : ∀ i c cell, cellAt zs i c = some cell → cell = .undef ∧ i < zs.length ∧ c < sz := fun i c cell hc => by
    obtain ⟨el, g1, g2⟩ := cellAt_some hc
    have hi := (List.getElem?_eq_some_iff.1 g1).1
    rw [← hz] at g1
    rw [List.getElem?_replicate] at g1
    split at g1
    · injection g1 with g1; subst g1
      rw [List.getElem?_replicate] at g2
      split at g2
      · injection g2 with g2; exact ⟨g2.symm, hi, by assumption⟩
      · cases g2
    · cases g1
  have hzd : ∀ i c p bo s ys, cellAt zs i c ≠ some (.deep p bo s ys) := fun i c p bo s ys hc => by cases (hzc i c _ hc).1
  have htree := hh.tree r R hr
  rw [hown] at htree
  have htop2 := htree.top
  have hcur := htop2.2
  rw [hA] at hcur
  obtain ⟨cur, hb, hcells⟩ := hcur
  have hcsz : oo + (off + capT) * R.sz ≤ cur.size := by
    obtain ⟨c2, ty2, fr2, k1, k2, _⟩ := hbig
    obtain ⟨ty, fr, k3, _⟩ := hb
    rw [k3] at k1; injection k1 with k1; injection k1 with k1; subst k1
    rw [e0]; exact k2
  have hkey : ∀ {f ρ b'}, Root.Key ⟨true, sz, 0, R.xs ++ zs⟩ (A r) f ρ b' → R.Key (A r) f ρ b' := fun {f ρ b'} ⟨s, ys, o', g1, g2⟩ => by
    cases ρ with
    | nil =>
      simp only [arrAt, Option.some.injEq, Prod.mk.injEq] at g1
      exact ⟨R.sz, R.xs, o', by simp only [arrAt, hown, g1.2.1], g2⟩
    | cons y ρ => exact ⟨s, ys, o', by rw [hown, e0]; exact arr_ext hzd g1, g2⟩
  have hst := new_step (D' := D') (R0 := ⟨true, sz, 0, R.xs ++ zs⟩) (B := A r) (asx := [r]) (M := fun _ => False) hh hf hi (Chg.refl _ w) (fun b h => h.elim) hid hD hid' ?_ (fun ρ b' k => .inr ⟨r, by simp, R, ρ, hr, hkey k⟩)
    (fun ρ ρ' b' k k' => (hh.inj r R ρ r R ρ' b' hr (hkey k) hr (hkey k')).2) (fun ρ b' k => hh.sta r R ρ b' hr (hkey k))
  · refine ⟨.slice ad mm capT, w, _, ?_, hst, ?_⟩
    · by_cases c : capT = 0
      · omega
      · simp only [YieldsTo, execOp, ho, h3, Instr.sliceAt, Instr.slice, Sem.run_bind, run_underlying' ht, Result.andThen_ok, Option.map_none, Option.map_some, h2, Sem.run_pure, run_sizeOf' hs]
        subst had
        simp [c, addr_add]
    · simp only [VR, V1, PR]
      refine ⟨hid', _, _, rfl, hmc, h5, fun R' hR' => ⟨fun e => absurd rfl e, fun s ro ys ha => ?_⟩⟩
      rw [up'_same] at hR'; injection hR' with hR'; subst hR'
      simp only [Root.arr, Option.some.injEq, Prod.mk.injEq] at ha
      obtain ⟨rfl, rfl, rfl⟩ := ha
      refine ⟨rfl, by rw [List.length_append, hzl]; omega, .inr ⟨b, oo, by rw [up'_same]; exact hA, had, ?_, by rw [List.length_append, hzl]; omega⟩⟩
      rw [hown] at hbig; exact hbig
  · refine TreeR.mk' ⟨fun i el he => ?_, ?_⟩ fun i c p bo s ys hc => ?_
    · by_cases hi : i < R.xs.length
      · rw [List.getElem?_append_left hi] at he; rw [← e0]; exact htop2.1 i el he
      · rw [List.getElem?_append_right (by omega), ← hz, List.getElem?_replicate] at he
        split at he
        · injection he with he; subst he; exact List.length_replicate
        · cases he
    · rw [hA]
      refine ⟨cur, hb, fun i c cell hc => ?_⟩
      simp only at hc ⊢
      rw [cellAt_append] at hc
      split at hc
      · rw [← e0]; exact hcells i c cell hc
      · rename_i hi
        obtain ⟨rfl, g1, g2⟩ := hzc _ _ _ hc
        have h10 : (i + 1) * sz ≤ (off + capT) * sz := Nat.mul_le_mul_right _ (by omega)
        rw [e0] at hcsz
        rw [Nat.add_mul, Nat.one_mul] at h10
        have hlt : oo + i * sz + c < cur.size := by omega
        obtain ⟨ty, fr, _, k4⟩ := hb
        exact ⟨cur[oo + i * sz + c], Array.getElem?_eq_getElem hlt, (k4 rfl).2 _ (Array.getElem_mem_toList hlt), trivial⟩
    · simp only at hc ⊢
      rw [cellAt_append] at hc
      split at hc
      · exact htree.sub hc
      · exact absurd hc (hzd _ _ _ _ _ _)

theorem lk_none : Extern.allGenericRows.lookup "slices.overlaps" = none := by kernel_rfl
theorem lk_typed : Extern.allTypedRows.lookup "slices.overlaps" = some Extern.SlicesOverlaps.overlaps := by kernel_rfl
theorem ovl_find {fn : Func} (h1 : noRow fn.name = true) (h2 : fn.origin = "slices.overlaps") : Extern.find fn = some (Extern.SlicesOverlaps.overlaps fn.params fn.resultTypes) := by
  simp only [noRow, Bool.and_eq_true, Option.isNone_iff_eq_none] at h1
  simp only [Extern.find, h1.1.1, h1.1.2, h1.2, h2, lk_none, lk_typed, Option.map_none, Option.map_some, HOrElse.hOrElse, OrElse.orElse, Option.orElse]

def ovlB (o : Option TypeId) (a b : Option Addr) (la lb : Nat) : Sem Value := do
  let some t := o | stuck "slices.overlaps: no parameter types"
  let .slice elem ← underlying t | stuck "slices.overlaps: slice type expected"
  let size ← sizeOf elem
  match a, b with
  | some a, some b =>
    if la = 0 ∨ lb = 0 ∨ size = 0 then pure (Value.bool false)
    else if a.block != b.block && (← frozen a) && (← frozen b) then unsupported .addressObserved
    else do
      if a.block != b.block then do
        noView a; noView b
        if ← mayBeOne a b then return Value.bool ((← choose (.extern "sameAddr.stringBytes" 2)) == 1)
      pure (Value.bool (a.block == b.block && a.off < b.off + lb * size && b.off < a.off + la * size))
  | _, _ => pure (Value.bool false)
theorem ovl_B (ps rs : Array TypeId) (a b : Option Addr) (la ca lb cb : Nat) : Extern.SlicesOverlaps.overlaps ps rs #[.slice a la ca, .slice b lb cb] = ovlB ps[0]? a b la lb := rfl

theorem sim_ovl (h : TR D A rs w tm a) (hh : HR cx w A rs) {sz : Nat} {cl : Call} {x y : Operand} {x' y' : X} {f : Nat} {fn : Func} (ho : o.op = .call cl) (hcl : cl.callee = .value (.func f)) (hca : cl.args = #[x, y]) (hfn : P.funcs[f]? = some fn) (hok : ovlFn P fn sz = true)
    (hx : xOk x x' = true) (hy : xOk y y' = true) {r r2 pv pv2 off off2 len len2 : Nat} (ex : x'.ev tm = .slc r [] pv sz off len) (ey : y'.ev tm = .slc r2 [] pv2 sz off2 len2) (hne : r ≠ r2) (hl : 0 < len) (hl2 : 0 < len2) {R R2 : Root} (hr : rs r = some R) (hr2 : rs r2 = some R2) (hown : R.own = true) :
    ∃ v, Yields P a o w v ∧ VR D A rs w (.b false) v := by
  simp only [ovlFn, Bool.and_eq_true, Bool.not_eq_true', beq_iff_eq, Option.isNone_iff_eq_none, Option.any_eq_true, decide_eq_true_eq] at hok
  obtain ⟨⟨⟨⟨⟨⟨h1, h2⟩, h3⟩, h4⟩, h5⟩, hsz⟩, t, ht0, ht⟩ := hok
  split at ht
  · rename_i e hu
    have top : ∀ {z : Operand} {z' : X} {r pv off len : Nat} {R : Root}, xOk z z' = true → z'.ev tm = .slc r [] pv sz off len → rs r = some R → 0 < len → ∃ b oo cap cur, a.eval z = .slice (some ⟨b, oo, none⟩) len cap ∧ Blk w b (!R.own) cur ∧ cur.size ≠ 0 ∧ R.Key (A r) (!R.own) [] b := fun {z z' r pv off len R} hz ez hr hl => by
      have hv := h.ev hz
      rw [ez] at hv
      obtain ⟨_, ad, cap, g1, g2, g3, g4⟩ := hv.slc
      obtain ⟨k1, k2, k3⟩ := (g4 R hr).2 R.sz (!R.own) R.xs rfl
      rcases k3 with ⟨k3, _⟩ | ⟨b, oo, k4, k5, k6, k7⟩
      · omega
      · have h6 := (hh.tree r R hr).top.2
        rw [k4] at h6
        obtain ⟨cur, hb, _⟩ := h6
        refine ⟨b, _, cap, cur, by rw [g1, k5], hb, fun h0 => ?_, R.sz, R.xs, oo, rfl, k4⟩
        obtain ⟨c2, ty2, fr2, q1, q2, _⟩ := k6
        obtain ⟨ty, fr, q3, _⟩ := hb
        rw [q3] at q1; injection q1 with q1; injection q1 with q1; subst q1
        have : 0 < (off + cap) * sz := Nat.mul_pos (by omega) hsz
        omega
    obtain ⟨b, oo, cap, cur, v1, v2, v3, v4⟩ := top hx ex hr hl
    obtain ⟨b2, oo2, cap2, cur2, w1, w2, w3, w4⟩ := top hy ey hr2 hl2
    have hbb : b ≠ b2 := by
      intro e1
      subst e1
      rw [hown] at v4
      cases ho2 : R2.own with
      | true =>
        rw [ho2] at w4
        exact hne (hh.inj r R _ r2 R2 _ b hr v4 hr2 w4).1
      | false =>
        rw [ho2] at w4
        have q1 := cx.ok b (hh.sta r2 R2 _ b hr2 w4)
        rcases hh.own r R _ b hr v4 with q2 | q2
        · omega
        · exact q1.2 q2
    refine ⟨.bool false, ?_, by simp only [VR, V1, PR]⟩
    obtain ⟨ty, fr, s1, s2⟩ := v2
    obtain ⟨ty2, fr2, s3, _⟩ := w2
    obtain ⟨s4, _⟩ := s2 (by rw [hown]; rfl)
    subst s4
    have hsame : ∀ a b, Extern.SlicesOverlaps.overlaps fn.params fn.resultTypes #[.slice a len cap, .slice b len2 cap2] = Extern.SlicesOverlaps.overlaps #[t, t] #[t] #[.slice a len cap, .slice b len2 cap2] := fun a b => by
      rw [ovl_B, ovl_B, ht0]; rfl
    have hrun := Lib.run_overlaps_apart (P := P) w t t e hu sz (run_sizeOf' ht) ⟨b, oo, none⟩ ⟨b2, oo2, none⟩ len cap len2 cap2 hbb ty ty2 cur.size cur2.size (by simp [World.shape?, s1]) (by simp [World.shape?, s3]) w3 (by simp [World.frozen?, s1]) (by simp [World.frozen?, s1])
    simp only [Yields, execOp, ho, resolve, hcl, hca, Sem.run_bind, Sem.run_pure, Result.andThen_ok, Act.eval, Deferred.ofValue, invoke, Array.append_empty, Array.empty_append, List.map_toArray, List.map_cons, List.map_nil]
    simp only [Act.eval] at v1 w1
    rw [run_callFunc_extern hfn h2 (by rw [h1]; rfl) h3 (ovl_find h4 h5), v1, w1, hsame, hrun]
    rfl
  · cases ht

theorem kill_step (hh : HR cx w A rs) (hf : Fr cx w0 w) (hi : ∀ r R, rs r = some R → D r) (asx : List Nat) : Step cx w0 D D A rs w A (kill rs asx) w :=
  ⟨⟨fun r R h => hh.tree r R (kill_some h).2, fun r R ρ b h k => hh.own r R ρ b (kill_some h).2 k, fun r R ρ b h k => hh.sta r R ρ b (kill_some h).2 k, fun r R ρ r' R' ρ' b h k h' k' => hh.inj r R ρ r' R' ρ' b (kill_some h).2 k (kill_some h').2 k'⟩,
    RsLe.kill fun r R h => (kill_some h).2, fun _ _ h => h, hf, fun r R h => hi r R (kill_some h).2, Nat.le_refl _, fun _ _ _ => rfl, fun r R ρ b h k => .inr ⟨r, R, ρ, (kill_some h).2, k⟩⟩
end
end Go.Proofs.Ytinlbiphjgpmmaa.V
end YtinlbiphjgpmmaaVYB
section YtinlbiphjgpmmaaVZ
namespace Go.Proofs.Ytinlbiphjgpmmaa.V
open Go
set_option linter.unusedVariables false
set_option linter.unusedSimpArgs false

section
variable {P : Program} {D D' : Nat → Prop} {A : Nat → Gh} {rs : Rs} {w : World} {cx : Cx} {w0 : World} {N : Nat} {tm : Tm} {a : Act} {o : Oper}

theorem sim_call (h : SR cx w0 N D A tm rs a w) {call : CallF} (hctr : ∀ f ds out, call f ds = some out → funcOk P f = true ∧ Ctr P f ds out) {fresh : Nat} {i : I} {av : AV} {rs' : Rs} (he : evI call fresh tm rs i = some (av, rs')) (ho : opOk P o i = true) (hic : i.isCall = true)
    (hd : ∀ x, o.dst = some x → x < N) (hfree : ∀ j, j < 16 → ¬ D (fresh + j)) (hD : ∀ r, D r → D' r) (hD' : ∀ j, j < 16 → D' (fresh + j)) {next : Act → World → Prop} {Q : Exit → Act → World → Prop}
    (hn : ∀ A' v w', SR cx w0 N D' A' (putT tm o.dst av) rs' (a.put o.dst v) w' → Step cx w0 D D' A rs w A' rs' w' → Keep A rs w A' rs' w' → next (a.put o.dst v) w') : o.wp P a w next Q := by
  cases i <;> simp only [I.isCall, Bool.false_eq_true] at hic
  case call f ms args =>
    simp only [opOk] at ho
    split at ho
    · rename_i c e
      split at ho
      · rename_i f' hc
        simp only [Bool.and_eq_true, beq_iff_eq] at ho
        obtain ⟨rfl, h1⟩ := ho
        simp only [evI] at he
        have hpw := h.tr.evs h1
        refine wp_call h hctr hD hd hpw he hfree hD' (fun hfo => ?_) hn
        have hargs : (c.args.toList.map a.eval).toArray = c.args.map a.eval := by rw [← Array.toList_map]
        simp only [execOp, e, resolve, hc, Sem.run_bind, Sem.run_pure, Result.andThen_ok, Act.eval, Deferred.ofValue, invoke, Array.append_empty, Array.empty_append, run_callFunc hfo, hargs]
      · cases ho
    · cases ho
  case callv g ms args =>
    simp only [opOk] at ho
    split at ho
    · rename_i c e
      split at ho
      · rename_i g' hc
        simp only [Bool.and_eq_true] at ho
        obtain ⟨h1, h2⟩ := ho
        simp only [evI] at he
        split at he
        · rename_i f caps eg
          have hg := h.tr.ev h1
          rw [eg] at hg
          obtain ⟨caps', hgv, hcaps⟩ := hg.fn
          have hpw := (h.tr.evs h2).app (hcaps.mono fun _ _ h => h.vr)
          refine wp_call h hctr hD hd hpw he hfree hD' (fun hfo => ?_) hn
          have hargs : (c.args.toList.map a.eval ++ caps'.toList).toArray = c.args.map a.eval ++ caps' := by rw [← Array.toList_map, ← Array.toList_append]
          simp only [execOp, e, resolve, hc, Sem.run_bind, Sem.run_pure, Result.andThen_ok, hgv, Deferred.ofValue, invoke, Array.append_empty, Array.empty_append, run_callFunc hfo, hargs]
        · cases he
      · cases ho
    · cases ho

theorem sim_op (h : SR cx w0 N D A tm rs a w) {call : CallF} (hctr : ∀ f ds out, call f ds = some out → funcOk P f = true ∧ Ctr P f ds out) {fresh : Nat} {i : I} {av : AV} {rs' : Rs} (he : evI call fresh tm rs i = some (av, rs')) (ho : opOk P o i = true)
    (hd : ∀ x, o.dst = some x → x < N) (hfree : ∀ j, j < 16 → ¬ D (fresh + j)) (hD : ∀ r, D r → D' r) (hD' : ∀ j, j < 16 → D' (fresh + j)) {next : Act → World → Prop} {Q : Exit → Act → World → Prop}
    (hn : ∀ A' v w', SR cx w0 N D' A' (putT tm o.dst av) rs' (a.put o.dst v) w' → Step cx w0 D D' A rs w A' rs' w' → next (a.put o.dst v) w') : o.wp P a w next Q := by
  have hf0 : ¬ D fresh := by have := hfree 0 (by omega); simpa using this
  have hf0' : D' fresh := by have := hD' 0 (by omega); simpa using this
  cases i with
  | mv x =>
    simp only [evI, Option.some.injEq, Prod.mk.injEq] at he
    obtain ⟨rfl, rfl⟩ := he
    simp only [opOk] at ho
    split at ho <;> first
      | (rename_i e; exact wp_yields h hD hd (sim_move h.tr (.inl e) ho) hn)
      | (rename_i e; exact wp_yields h hD hd (sim_move h.tr (.inr e) ho) hn)
      | cases ho
  | pick c x y =>
    simp only [evI] at he
    split at he
    · rename_i t et
      injection he with he; injection he with e1 e2; subst e1; subst e2
      simp only [opOk] at ho
      split at ho
      · rename_i e
        simp only [Bool.and_eq_true] at ho
        exact wp_yields h hD hd (sim_pick h.tr e ho.1.1 ho.1.2 ho.2 et) hn
      · cases ho
    · cases he
  | nilc x =>
    simp only [opOk] at ho
    split at ho
    · rename_i e
      simp only [evI] at he
      split at he
      · rename_i et
        injection he with he; injection he with e1 e2; subst e1; subst e2
        exact wp_yields h hD hd (sim_nilc_ptr h.tr e ho et) hn
      · rename_i et
        injection he with he; injection he with e1 e2; subst e1; subst e2
        exact wp_yields h hD hd (sim_nilc_fn h.tr e ho et) hn
      · rename_i et
        injection he with he; injection he with e1 e2; subst e1; subst e2
        exact wp_yields h hD hd (sim_nilc_bx h.tr e ho et) hn
      · cases he
    · cases ho
  | bin op kd x y =>
    simp only [opOk] at ho
    split at ho
    · rename_i e
      simp only [Bool.and_eq_true, decide_eq_true_eq] at ho
      obtain ⟨⟨⟨rfl, h1⟩, h2⟩, h3⟩ := ho
      simp only [evI] at he
      split at he
      · rename_i hk
        simp only [Option.map_eq_some_iff] at he
        obtain ⟨r, e1, e2⟩ := he
        injection e2 with e2 e3; subst e2; subst e3
        exact wp_yields h hD hd (sim_bin h.tr e h1 h2 h3 hk e1) hn
      · cases he
    · cases ho
  | eqA neg ks x y =>
    simp only [opOk] at ho
    split at ho
    · rename_i e
      simp only [Bool.and_eq_true, decide_eq_true_eq] at ho
      obtain ⟨⟨⟨rfl, h1⟩, h2⟩, h3⟩ := ho
      simp only [evI] at he
      split at he
      · rename_i ex ey
        simp only [Option.map_eq_some_iff] at he
        obtain ⟨r, e1, e2⟩ := he
        injection e2 with e2 e3; subst e2; subst e3
        exact wp_yields h hD hd (sim_eqA h.tr e h1 h2 h3 ex ey e1) hn
      · cases he
    · cases ho
  | un op x =>
    simp only [opOk] at ho
    split at ho
    · rename_i e
      simp only [Bool.and_eq_true, decide_eq_true_eq] at ho
      obtain ⟨rfl, h1⟩ := ho
      simp only [evI, Option.map_eq_some_iff] at he
      obtain ⟨r, e1, e2⟩ := he
      injection e2 with e2 e3; subst e2; subst e3
      exact wp_yields h hD hd (sim_un h.tr e h1 e1) hn
    · cases ho
  | build zero parts =>
    simp only [opOk] at ho
    split at ho
    · rename_i e
      split at ho
      · rename_i ht hz
        simp only [Bool.and_eq_true] at ho
        simp only [evI, Option.map_eq_some_iff] at he
        obtain ⟨r, e1, e2⟩ := he
        injection e2 with e2 e3; subst e2; subst e3
        exact wp_yields h hD hd (sim_build h.tr e ht ho.1.1 hz ho.1.2 ho.2 e1) hn
      · cases ho
    · cases ho
  | field off n x =>
    simp only [opOk] at ho
    split at ho
    · rename_i e
      split at ho
      · rename_i ht
        split at ho
        · rename_i hfd
          simp only [Bool.and_eq_true, beq_iff_eq] at ho
          simp only [evI] at he
          split at he
          · rename_i ex
            simp only [Option.map_eq_some_iff] at he
            obtain ⟨r, e1, e2⟩ := he
            injection e2 with e2 e3; subst e2; subst e3
            exact wp_yields h hD hd (sim_field h.tr e ho.1.1 ht hfd ho.1.2 ho.2 ex e1) hn
          · cases he
        · cases ho
      · cases ho
    · cases ho
  | ext j x =>
    simp only [opOk, Bool.or_eq_true] at ho
    rcases ho with ho | ho
    · rw [isU_eq ho] at he; cases he
    split at ho
    · rename_i e
      simp only [Bool.and_eq_true, beq_iff_eq] at ho
      obtain ⟨h1, rfl⟩ := ho
      simp only [evI] at he
      split at he
      · rename_i ex
        simp only [Option.map_eq_some_iff] at he
        obtain ⟨r, e1, e2⟩ := he
        injection e2 with e2 e3; subst e2; subst e3
        exact wp_yields h hD hd (sim_ext h.tr e h1 ex e1) hn
      · cases he
    · cases ho
  | idxS x j =>
    simp only [opOk] at ho
    split at ho
    · rename_i e
      simp only [Bool.and_eq_true] at ho
      obtain ⟨⟨h1, h2⟩, h3⟩ := ho
      split at h3
      · rename_i ht
        simp only [evI] at he
        split at he
        · rename_i ex ey
          split at he
          · rename_i hb
            injection he with he; injection he with e2 e3; subst e2; subst e3
            exact wp_yields h hD hd (sim_idxS h.tr e h1 h2 ht ex ey hb.1 hb.2) hn
          · cases he
        · cases he
      · cases h3
    · cases ho
  | idxA len sz n x j =>
    simp only [opOk] at ho
    split at ho
    · rename_i e
      split at ho
      · rename_i ht
        simp only [Bool.and_eq_true, beq_iff_eq] at ho
        obtain ⟨⟨⟨⟨h1, h2⟩, rfl⟩, h3⟩, h4⟩ := ho
        simp only [evI] at he
        split at he
        · rename_i ex ey
          split at he
          · rename_i hb
            simp only [Option.map_eq_some_iff] at he
            obtain ⟨r, e1, e2⟩ := he
            injection e2 with e2 e3; subst e2; subst e3
            exact wp_yields h hD hd (sim_idxA h.tr e h1 h2 ht h3 h4 ex ey hb.1 hb.2 e1) hn
          · cases he
        · cases he
      · cases ho
    · cases ho
  | slS x lo hi =>
    simp only [opOk] at ho
    split at ho
    · rename_i e
      simp only [Bool.and_eq_true] at ho
      obtain ⟨⟨⟨h1, h2⟩, h3⟩, h4⟩ := ho
      split at h4
      · rename_i ht
        simp only [evI] at he
        split at he
        · rename_i ex
          simp only [Option.bind_eq_some_iff, Option.map_eq_some_iff] at he
          obtain ⟨u, e1, l, e2, e3⟩ := he
          injection e3 with e3 e4; subst e3; subst e4
          exact wp_yields h hD hd (sim_slS h.tr e h1 h2 h3 ht ex e1 e2) hn
        · cases he
      · cases h4
    · cases ho
  | slR sz x lo hi =>
    simp only [opOk] at ho
    split at ho
    · rename_i e
      split at ho
      · rename_i ht
        simp only [Bool.and_eq_true] at ho
        obtain ⟨⟨⟨h1, h2⟩, h3⟩, h4⟩ := ho
        simp only [evI] at he
        split at he
        · rename_i ex
          split at he
          · rename_i hs
            subst hs
            simp only [Option.bind_eq_some_iff, Option.map_eq_some_iff] at he
            obtain ⟨u, e1, l, e2, e3⟩ := he
            injection e3 with e3 e4; subst e3; subst e4
            exact wp_yields h hD hd (sim_slR h.tr e h1 h2 h3 ht h4 ex e1 e2) hn
          · cases he
        · rename_i ex
          simp only [Option.bind_eq_some_iff, Option.map_eq_some_iff] at he
          obtain ⟨u, e1, l, e2, e3⟩ := he
          injection e3 with e3 e4; subst e3; subst e4
          exact wp_yields h hD hd (sim_slN h.tr e h1 h2 h3 ht h4 ex e1 e2) hn
        · cases he
      · cases ho
    · cases ho
  | slC sz x lo hi =>
    simp only [opOk] at ho
    split at ho
    · rename_i e
      split at ho
      · rename_i ht
        simp only [Bool.and_eq_true] at ho
        obtain ⟨⟨⟨h1, h2⟩, h3⟩, h4⟩ := ho
        simp only [evI] at he
        split at he
        · rename_i ex
          simp only [Option.bind_eq_some_iff] at he
          obtain ⟨⟨R, s0, ro0, ys0⟩, hlk, he⟩ := he
          split at he
          · rename_i hs
            subst hs
            simp only [Option.bind_eq_some_iff, Option.map_eq_some_iff] at he
            obtain ⟨u, e1, l, e2, e3⟩ := he
            injection e3 with e3 e4; subst e3; subst e4
            exact wp_yields h hD hd (sim_slC h.tr e h1 h2 h3 ht h4 ex hlk e1 e2) hn
          · cases he
        · cases he
      · cases ho
    · cases ho
  | slX sz k x hi =>
    simp only [opOk] at ho
    split at ho
    · rename_i e
      split at ho
      · rename_i ht
        simp only [Bool.and_eq_true, decide_eq_true_eq] at ho
        obtain ⟨⟨⟨⟨h0, h1⟩, h2⟩, h3⟩, h4⟩ := ho
        simp only [evI] at he
        split at he
        · rename_i ek ex ey
          split at he
          · rename_i hq
            obtain ⟨rfl, rfl, rfl, rfl, rfl, g1, g2, g3⟩ := hq
            simp only [Option.bind_eq_some_iff] at he
            obtain ⟨R, hr, he⟩ := he
            split at he
            · rename_i hb
              injection he with he; injection he with e2 e3; subst e2; subst e3
              exact wp_yieldsTo h hD hd (sim_slX h.tr h.heap h.fr h.ids e h0 h1 h2 ht h3 h4 ek ex ey g1 g2 g3 hr hb hf0 hD hf0') hn
            · cases he
          · cases he
        · cases he
      · cases ho
    · cases ho
  | slM sz x lo hi mx =>
    simp only [opOk] at ho
    split at ho
    · rename_i e
      split at ho
      · rename_i ht
        simp only [Bool.and_eq_true] at ho
        obtain ⟨⟨⟨⟨h1, h2⟩, h3⟩, h3'⟩, h4⟩ := ho
        simp only [evI] at he
        split at he
        · rename_i ex
          split at he
          · rename_i hs
            subst hs
            simp only [Option.bind_eq_some_iff, Option.map_eq_some_iff] at he
            obtain ⟨m, e0, u, e1, l, e2, e3⟩ := he
            injection e3 with e3 e4; subst e3; subst e4
            exact wp_yields h hD hd (sim_slM h.tr e h1 h2 h3 h3' ht h4 ex e0 e1 e2) hn
          · cases he
        · cases he
      · cases ho
    · cases ho
  | len isS x =>
    simp only [opOk] at ho
    split at ho
    · rename_i c e
      split at ho
      · rename_i x' t hc ha hat
        simp only [Bool.and_eq_true] at ho
        obtain ⟨h1, h2⟩ := ho
        have run : ∀ {r : AV}, (match x.ev tm with | .s x => some (AV.i .i64 x.size) | .slc _ _ _ _ _ len => some (.i .i64 len) | .nl _ => some (.i .i64 0) | _ => none) = some r →
            (P.underlying t = some .string ∧ (∃ s, x.ev tm = .s s) ∨ (∃ e, P.underlying t = some (.slice e)) ∧ ∀ s, x.ev tm ≠ .s s) → ∃ v, Yields P a o w v ∧ VR D A rs w r v :=
          fun g1 g2 => sim_len h.tr e hc (arr_of_toList ha) (arr_of_toList hat) h1 g1 g2
        simp only [evI] at he
        split at he
        · rename_i s ex
          split at he
          · rename_i hs
            injection he with he; injection he with e2 e3; subst e2; subst e3
            subst hs
            refine wp_yields h hD hd (run (by rw [ex]) (.inl ⟨?_, s, ex⟩)) hn
            split at h2 <;> first | assumption | cases h2
          · cases he
        · rename_i ex
          split at he
          · cases he
          · rename_i hs
            injection he with he; injection he with e2 e3; subst e2; subst e3
            refine wp_yields h hD hd (run (by rw [ex]) (.inr ⟨?_, fun s e => by rw [ex] at e; cases e⟩)) hn
            split at h2 <;> first | exact ⟨_, by assumption⟩ | (exact absurd h2 hs) | cases h2
        · rename_i ex
          split at he
          · cases he
          · rename_i hs
            injection he with he; injection he with e2 e3; subst e2; subst e3
            refine wp_yields h hD hd (run (by rw [ex]) (.inr ⟨?_, fun s e => by rw [ex] at e; cases e⟩)) hn
            split at h2 <;> first | exact ⟨_, by assumption⟩ | (exact absurd h2 hs) | cases h2
        · cases he
      · cases ho
    · cases ho
  | cap x =>
    simp only [opOk] at ho
    split at ho
    · rename_i c e
      split at ho
      · rename_i x' t hc ha hat
        simp only [Bool.and_eq_true] at ho
        obtain ⟨h1, h2⟩ := ho
        split at h2
        · rename_i el ht
          have run : ∀ {ad : Option Addr} {n m : Nat}, a.eval x' = .slice ad n m → Yields P a o w (.int .i64 m) := fun hv => by
            simp only [Yields, execOp, e, resolve, hc, arr_of_toList ha, arr_of_toList hat, invoke, builtin, Builtin.cap_, Sem.run_bind, Sem.run_pure, Result.andThen_ok, List.map_toArray, List.map_cons, List.map_nil, hv]
            simp [run_underlying' ht, goInt]
          have hv := h.tr.ev h1
          simp only [evI] at he
          split at he
          · rename_i ex
            injection he with he; injection he with e2 e3; subst e2; subst e3
            rw [ex] at hv
            exact wp_yields h hD hd ⟨_, run hv.nl, by simp only [VR, V1, PR]; rfl⟩ hn
          · rename_i ex
            split at he
            · rename_i hq
              obtain ⟨rfl, hq⟩ := hq
              injection he with he; injection he with e2 e3; subst e2; subst e3
              rw [ex] at hv
              obtain ⟨g0, ad, cap, g1, g2, g3, g4⟩ := hv.slc
              refine wp_yields h hD hd ⟨_, run g1, ?_⟩ hn
              simp only [VR, V1, PR]
              refine ⟨g0, cap, rfl, fun R hR => ?_⟩
              obtain ⟨k1, k2, k3⟩ := (g4 R hR).2 R.sz (!R.own) R.xs rfl
              refine ⟨k1, ?_⟩
              rcases k3 with ⟨k3, _⟩ | ⟨b, oo, k4, _, k5, _⟩
              · omega
              · exact ⟨b, oo, k4, by rw [Bool.not_not] at k5; exact k5⟩
            · cases he
          · cases he
        · cases h2
      · cases ho
    · cases ho
  | conv k x =>
    simp only [opOk] at ho
    split at ho
    · rename_i e
      simp only [Bool.and_eq_true] at ho
      obtain ⟨⟨h1, h2⟩, h3⟩ := ho
      obtain ⟨d, h2⟩ := Option.isSome_iff_exists.1 h2
      split at h3
      · rename_i ht
        simp only [decide_eq_true_eq] at h3
        subst h3
        simp only [evI] at he
        split at he
        · rename_i ex
          injection he with he; injection he with e2 e3; subst e2; subst e3
          exact wp_yields h hD hd (sim_conv h.tr e h1 h2 ht ex) hn
        · cases he
      · cases h3
    · cases ho
  | faddr off x =>
    simp only [opOk] at ho
    split at ho
    · rename_i e
      split at ho
      · rename_i ht
        split at ho
        · rename_i fd hfd
          simp only [Bool.and_eq_true, beq_iff_eq] at ho
          obtain ⟨⟨h1, h2⟩, h3⟩ := ho
          cases hin : P.info? fd.type with
          | none => rw [hin] at h3; simp at h3
          | some inf =>
            rw [hin] at h3
            simp only [Option.any_some, bne_iff_ne, ne_eq] at h3
            simp only [evI] at he
            split at he
            · rename_i ex
              injection he with he; injection he with e2 e3; subst e2; subst e3
              exact wp_yields h hD hd (sim_faddr h.tr e h1 ht hfd h2 (n := inf.size) (by simp [szIs, hin]) h3 ex) hn
            · rename_i ex
              injection he with he; injection he with e2 e3; subst e2; subst e3
              exact wp_yields h hD hd (sim_faddr_bx h.tr e h1 ht hfd h2 (n := inf.size) (by simp [szIs, hin]) h3 ex) hn
            · cases he
        · cases ho
      · cases ho
    · cases ho
  | iaddr sz x j =>
    simp only [opOk] at ho
    split at ho
    · rename_i e
      split at ho
      · rename_i ht
        simp only [Bool.and_eq_true] at ho
        simp only [evI] at he
        split at he
        · rename_i ex ey
          split at he
          · rename_i hb
            obtain ⟨rfl, hb1, hb2⟩ := hb
            injection he with he; injection he with e2 e3; subst e2; subst e3
            exact wp_yields h hD hd (sim_iaddr h.tr e ho.1.1 ho.1.2 ht ho.2 ex ey hb1 hb2) hn
          · cases he
        · cases he
      · cases ho
    · cases ho
  | mkfn f caps =>
    simp only [opOk] at ho
    split at ho
    · rename_i f' first' caps' e
      simp only [Bool.and_eq_true, beq_iff_eq] at ho
      obtain ⟨⟨rfl, h2⟩, h3⟩ := ho
      have hfe : first' = #[] := by simpa using h2
      subst hfe
      simp only [evI] at he
      split at he
      · rename_i hb
        injection he with he; injection he with e2 e3; subst e2; subst e3
        refine wp_yields h hD hd (sim_mkfn h.tr e h3 fun x hx => ?_) hn
        have := List.all_eq_true.1 hb x hx
        exact ⟨(fun cs e => by subst e; cases this), (fun g cs e => by subst e; cases this), (fun vs e => by subst e; cases this), (fun cs c e => by subst e; cases this)⟩
      · cases he
    · cases ho
  | mm mx xs =>
    simp only [opOk] at ho
    split at ho
    · rename_i c e
      split at ho
      · rename_i b hc
        simp only [Bool.and_eq_true, decide_eq_true_eq] at ho
        obtain ⟨rfl, h2⟩ := ho
        simp only [evI] at he
        split at he
        · cases he
        · simp only [Option.map_eq_some_iff] at he
          obtain ⟨r, e1, e2⟩ := he
          injection e2 with e2 e3; subst e2; subst e3
          exact wp_yields h hD hd (sim_mm h.tr e hc rfl h2 e1) hn
      · cases ho
    · cases ho
  | bts x =>
    simp only [opOk] at ho
    split at ho
    · rename_i e
      split at ho
      · rename_i hs hdd
        simp only [Bool.and_eq_true] at ho
        obtain ⟨h1, h2⟩ := ho
        split at h2
        · rename_i hu
          simp only [evI] at he
          split at he
          · rename_i sz ex
            injection he with he; injection he with e2 e3; subst e2; subst e3
            refine wp_yields h hD hd ⟨.string .empty, ?_, vr_s⟩ hn
            have := h.tr.ev h1
            rw [ex] at this
            simp only [Yields, execOp, e, this.nl, Sem.run_bind, run_convert_bytes_nil w _ _ hs hu 0 0 _ hdd, Result.andThen_ok, Sem.run_pure]
          · rename_i r q pv sz off len ex
            simp only [Option.bind_eq_some_iff] at he
            obtain ⟨⟨R, s1, ro, ys⟩, hl, he⟩ := he
            split at he
            · rename_i hsz
              subst hsz
              simp only [Option.map_eq_some_iff] at he
              obtain ⟨l, e1, e2⟩ := he
              injection e2 with e2 e3; subst e2; subst e3
              exact wp_yields h hD hd (sim_bts h.tr h.heap e h1 hs hu hdd ex hl e1) hn
            · cases he
          · cases he
        · cases h2
      · cases ho
    · cases ho
  | load n x =>
    simp only [opOk] at ho
    split at ho
    · rename_i e
      simp only [Bool.and_eq_true] at ho
      simp only [evI] at he
      split at he
      · rename_i r q pv i c ex
        simp only [Option.bind_eq_some_iff] at he
        obtain ⟨⟨R, s, ro, xs⟩, hl, el, hel, he⟩ := he
        simp only [Option.map_eq_some_iff] at he
        obtain ⟨v, hval, e2⟩ := he
        injection e2 with e2 e3; subst e2; subst e3
        exact wp_yields h hD hd (sim_load h.tr h.heap e ho.1 ho.2 ex hl hel hval) hn
      · rename_i ex
        simp only [Option.map_eq_some_iff] at he
        obtain ⟨v, hval, e2⟩ := he
        injection e2 with e2 e3; subst e2; subst e3
        exact wp_yields h hD hd (sim_load_bx h.tr e ho.1 ho.2 ex hval) hn
      · cases he
    · cases ho
  | store n x y =>
    simp only [opOk] at ho
    split at ho
    · rename_i e
      simp only [Bool.and_eq_true, decide_eq_true_eq] at ho
      obtain ⟨⟨⟨h1, h2⟩, h3⟩, h4⟩ := ho
      simp only [evI] at he
      split at he
      · rename_i r q pv i c ex
        simp only [Option.bind_eq_some_iff] at he
        obtain ⟨⟨R, s, ro, xs⟩, hl, el, hel, ⟨vs, asx⟩, hs, he⟩ := he
        split at he
        · rename_i hb
          obtain ⟨rfl, b2, b3, b4, b5⟩ := hb
          injection he with he; injection he with e2 e3; subst e2; subst e3
          obtain ⟨w', A', g1, g2⟩ := sim_store (D' := D') h.tr h.heap h.fr h.ids e h1 h2 h3 h4 ex hl hel hs b2 b3 b4 b5 hD
          unfold Oper.wp
          rw [g1]
          exact hn A' undef w' (h.step g2 hD hd (by simp only [VR, V1, PR])) g2
        · cases he
      · cases he
    · cases ho
  | box n x =>
    simp only [opOk] at ho
    split at ho
    · rename_i e
      simp only [evI, Option.bind_eq_some_iff] at he
      obtain ⟨⟨vs, asx⟩, hs, he⟩ := he
      split at he
      · rename_i hb
        injection he with he; injection he with e2 e3; subst e2; subst e3
        exact wp_yieldsTo h hD hd (sim_box h.tr h.heap h.fr h.ids e ho hs hb.1 hb.2 hf0 hD hf0') hn
      · cases he
    · cases ho
  | boxK x =>
    simp only [opOk] at ho
    split at ho
    · rename_i e
      simp only [evI] at he
      split at he
      · rename_i hb
        injection he with he; injection he with e2 e3; subst e2; subst e3
        exact wp_yieldsTo h hD hd (sim_boxK h.tr h.heap h.fr h.ids e ho hb hD) hn
      · cases he
    · cases ho
  | alloc zero =>
    simp only [opOk] at ho
    split at ho
    · rename_i e
      simp only [evI, Option.some.injEq, Prod.mk.injEq] at he
      obtain ⟨rfl, rfl⟩ := he
      exact wp_yieldsTo h hD hd (sim_alloc h.heap h.fr h.ids e ho hf0 hD hf0') hn
    · cases ho
  | lit sz len zero parts =>
    simp only [opOk] at ho
    split at ho
    · rename_i e
      split at ho
      · rename_i ht
        simp only [Bool.and_eq_true, beq_iff_eq, decide_eq_true_eq] at ho
        obtain ⟨⟨⟨⟨⟨h1, h2⟩, h3⟩, rfl⟩, h5⟩, h6⟩ := ho
        simp only [evI, Option.bind_eq_some_iff] at he
        obtain ⟨⟨xs, asx⟩, hs, he⟩ := he
        split at he
        · rename_i hb
          injection he with he; injection he with e2 e3; subst e2; subst e3
          exact wp_yieldsTo h hD hd (sim_lit h.tr h.heap h.fr h.ids e ht h1 h2 h3 h5 h6 hs hb hf0 hD hf0') hn
        · cases he
      · cases ho
    · cases ho
  | mks sz by' zero n =>
    simp only [opOk] at ho
    split at ho
    · rename_i e
      split at ho
      · rename_i ht
        simp only [Bool.and_eq_true, beq_iff_eq, decide_eq_true_eq] at ho
        obtain ⟨⟨⟨⟨⟨⟨h1, h2⟩, h3⟩, h4⟩, h5⟩, h6⟩, h7⟩ := ho
        simp only [evI] at he
        split at he
        · rename_i ex
          split at he
          · rename_i hb
            injection he with he; injection he with e2 e3; subst e2; subst e3
            exact wp_yieldsTo h hD hd (sim_mks h.tr h.heap h.fr h.ids e h1 h2 ht h3 h4 h5 h6 h7 ex hb.1 hb.2 hf0 hD hf0') hn
          · cases he
        · cases he
      · cases ho
    · cases ho
  | app sz by' x y =>
    simp only [opOk] at ho
    split at ho
    · rename_i c e
      split at ho
      · rename_i x' y' t t2 hc ha hat
        split at ho
        · rename_i ht ht2
          simp only [Bool.and_eq_true] at ho
          obtain ⟨⟨⟨h1, h2⟩, h3⟩, h4⟩ := ho
          obtain ⟨z, T⟩ := AppTy.of ht ht2 h3 h4
          simp only [evI, Option.bind_eq_some_iff] at he
          obtain ⟨⟨ys, asx⟩, hs, ⟨pre, post, rs1, r0⟩, hb, he⟩ := he
          split at he
          · rename_i hcnd
            injection he with he; injection he with e2 e3; subst e2; subst e3
            exact wp_yieldsTo h hD hd (sim_app h.tr h.heap h.fr h.ids T e hc (arr_of_toList ha) (arr_of_toList hat) h1 h2 hs hb hcnd.1 hcnd.2.1 hf0 (hfree 1 (by omega)) hD hf0' (hD' 1 (by omega))) hn
          · cases he
        · cases ho
      · cases ho
    · cases ho
  | appZ by' zero k x y =>
    simp only [opOk] at ho
    split at ho
    · rename_i c e
      split at ho
      · rename_i x' y' t t2 hc ha hat
        split at ho
        · rename_i ht ht2
          simp only [Bool.and_eq_true, decide_eq_true_eq] at ho
          obtain ⟨⟨⟨⟨⟨h0, h1⟩, h2⟩, h3⟩, h4⟩, h5⟩ := ho
          obtain ⟨z, T⟩ := ZTy.of ht ht2 h3 h4 (by simpa using h5)
          simp only [evI] at he
          split at he
          · rename_i ey
            split at he
            · rename_i hm
              split at he
              · rename_i ex
                split at he
                · rename_i hb
                  injection he with he; injection he with e2 e3; subst e2; subst e3
                  have := sim_appZ h.tr h.heap h.fr h.ids T e hc (arr_of_toList ha) (arr_of_toList hat) h0 h1 h2 ey hm (pre := []) (.inl ⟨⟨_, ex⟩, rfl⟩) (by simpa using hb) hf0 hD hf0'
                  simp only [List.nil_append, List.length_nil, Nat.zero_add] at this
                  exact wp_yieldsTo h hD hd this hn
                · cases he
              · rename_i ex
                split at he
                · rename_i ek
                  split at he
                  · rename_i hq
                    obtain ⟨rfl, rfl, rfl, rfl, rfl⟩ := hq
                    simp only [Option.bind_eq_some_iff] at he
                    obtain ⟨R, hr, he⟩ := he
                    split at he
                    · rename_i hb
                      obtain ⟨b1, b2, b3, b4, b5⟩ := hb
                      injection he with he; injection he with e2 e3; subst e2; subst e3
                      have hv := h.tr.ev h1
                      rw [ex] at hv
                      obtain ⟨_, _, _, _, _, _, g5⟩ := hv.slc
                      have hoff := ((g5 R hr).2 R.sz (!R.own) R.xs rfl).2.1
                      have hpl := wnd_length hoff
                      have := sim_appZ h.tr h.heap h.fr h.ids T e hc (arr_of_toList ha) (arr_of_toList hat) h0 h1 h2 ey hm (.inr ⟨_, _, _, _, _, R, ek, ex, hr, b1, rfl, hoff, b2, b3, b4⟩) (by rw [hpl]; exact b5) hf0 hD hf0'
                      rw [hpl] at this
                      exact wp_yieldsTo h hD hd this hn
                    · cases he
                  · cases he
                · cases he
              · cases he
            · cases he
          · cases he
        · cases ho
      · cases ho
    · cases ho
  | ovl sz x y =>
    simp only [opOk] at ho
    split at ho
    · rename_i c e
      split at ho
      · rename_i f x' y' hc ha
        simp only [Bool.and_eq_true, Option.any_eq_true] at ho
        obtain ⟨⟨h1, h2⟩, fn, hfn, hok⟩ := ho
        simp only [evI] at he
        split at he
        · rename_i ex ey
          split at he
          · rename_i hq
            obtain ⟨rfl, rfl, g1, rfl, rfl, g2, g3⟩ := hq
            simp only [Option.bind_eq_some_iff, Option.map_eq_some_iff] at he
            obtain ⟨u, ⟨R, hr, R2, hr2, he⟩, e4⟩ := he
            split at he
            · rename_i hb
              injection he with he; subst he
              injection e4 with e2 e3; subst e2; subst e3
              exact wp_yields h hD hd (sim_ovl h.tr h.heap e hc (arr_of_toList ha) hfn hok h1 h2 ex ey g1 g2 g3 hr hr2 hb) hn
            · cases he
          · cases he
        · cases he
      · cases ho
    · cases ho
  | copy sz x y =>
    simp only [opOk] at ho
    split at ho
    · rename_i c e
      split at ho
      · rename_i x' y' t t2 hc ha hat
        split at ho
        · rename_i ht
          simp only [Bool.and_eq_true] at ho
          obtain ⟨⟨h1, h2⟩, h3⟩ := ho
          simp only [evI] at he
          split at he
          · rename_i ex
            split at he
            · rename_i ey
              split at he
              · rename_i hq
                obtain ⟨rfl, rfl, rfl⟩ := hq
                simp only [Option.bind_eq_some_iff] at he
                obtain ⟨R, hr, ⟨R2, s2, ro2, ys⟩, hl, he⟩ := he
                split at he
                · rename_i hb
                  injection he with he; injection he with e2 e3; subst e2; subst e3
                  obtain ⟨v, w', A', g1, g2, g3⟩ := sim_copy (D := D) h.tr h.heap h.fr h.ids e hc (arr_of_toList ha) (arr_of_toList hat) h1 h2 ht h3 ex ey hr hb.1 hl hb.2
                  exact wp_yieldsTo h hD hd ⟨v, w', A', g1, ⟨g2.heap, g2.le, g2.big, g2.fr, fun r R hr => hD r (g2.ids r R hr), g2.size, g2.out, g2.keys⟩, by simpa only [VR, V1, PR] using g3⟩ hn
                · cases he
              · cases he
            · cases he
          · cases he
        · cases ho
      · cases ho
    · cases ho
  | copyK sz x y =>
    simp only [opOk] at ho
    split at ho
    · rename_i c e
      split at ho
      · rename_i x' y' t t2 hc ha hat
        split at ho
        · rename_i ht
          simp only [Bool.and_eq_true] at ho
          obtain ⟨⟨h1, h2⟩, h3⟩ := ho
          simp only [evI] at he
          split at he
          · rename_i ex
            split at he
            · rename_i r2 q2 pv2 sz2 off2 len2 ey
              split at he
              · rename_i hq
                obtain ⟨rfl, rfl, hne, rfl, rfl⟩ := hq
                simp only [Option.bind_eq_some_iff] at he
                obtain ⟨R, hr, R2, hr2, he⟩ := he
                split at he
                · rename_i hb
                  injection he with he; injection he with e2 e3; subst e2; subst e3
                  obtain ⟨v, w', A', g1, g2, g3⟩ := sim_copy (D := D) h.tr h.heap h.fr h.ids e hc (arr_of_toList ha) (arr_of_toList hat) h1 h2 ht h3 ex ey hr hb.1 (R2 := R2) (s2 := R2.sz) (ro2 := !R2.own) (ys := R2.xs) (by simp [look, hr2, Root.arr]) hb.2
                  have g4 := g2.trans (kill_step g2.heap g2.fr g2.ids [r2]) (fun _ h => h)
                  exact wp_yieldsTo h hD hd ⟨v, w', A', g1, ⟨g4.heap, g4.le, g4.big, g4.fr, fun r R hr => hD r (g4.ids r R hr), g4.size, g4.out, g4.keys⟩, by simpa only [VR, V1, PR] using g3⟩ hn
                · cases he
              · cases he
            · cases he
          · cases he
        · cases ho
      · cases ho
    · cases ho
  | clr zero x =>
    simp only [opOk] at ho
    split at ho
    · rename_i c e
      split at ho
      · rename_i x' t hc ha hat
        split at ho
        · rename_i ht
          simp only [Bool.and_eq_true, decide_eq_true_eq] at ho
          obtain ⟨⟨h1, h2⟩, h3⟩ := ho
          simp only [evI] at he
          split at he
          · rename_i ex
            split at he
            · rename_i hq
              obtain ⟨rfl, rfl⟩ := hq
              simp only [Option.bind_eq_some_iff] at he
              obtain ⟨R, hr, he⟩ := he
              split at he
              · rename_i hb
                injection he with he; injection he with e2 e3; subst e2; subst e3
                obtain ⟨v, w', A', g1, g2, g3⟩ := sim_clr (D := D) h.tr h.heap h.fr h.ids e hc (arr_of_toList ha) (arr_of_toList hat) h1 ht h2 h3 ex hr hb.1 hb.2
                exact wp_yieldsTo h hD hd ⟨v, w', A', g1, ⟨g2.heap, g2.le, g2.big, g2.fr, fun r R hr => hD r (g2.ids r R hr), g2.size, g2.out, g2.keys⟩, by simp only [VR, V1, PR]⟩ hn
              · cases he
            · cases he
          · cases he
        · cases ho
      · cases ho
    · cases ho
  | call f ms args => exact sim_call h hctr he ho rfl hd hfree hD hD' fun A' v w' hs st _ => hn A' v w' hs st
  | callv g ms args => exact sim_call h hctr he ho rfl hd hfree hD hD' fun A' v w' hs st _ => hn A' v w' hs st
end
end Go.Proofs.Ytinlbiphjgpmmaa.V
end YtinlbiphjgpmmaaVZ
section YtinlbiphjgpmmaaWA
namespace Go.Proofs.Ytinlbiphjgpmmaa.V
open Go
set_option linter.unusedVariables false
set_option linter.unusedSimpArgs false

def X.rd : X → List Nat
  | .t n => [n]
  | .k _ => []
def xord : Option X → List Nat
  | some x => x.rd
  | none => []
def xsrd (l : List X) : List Nat := l.flatMap X.rd

/-- The temporaries that an instruction reads. -/
def I.rd : I → List Nat
  | .mv x | .nilc x | .un _ x | .field _ _ x | .ext _ x | .len _ x | .cap x | .conv _ x | .faddr _ x | .bts x | .load _ x | .box _ x | .boxK x | .mks _ _ _ x | .clr _ x => x.rd
  | .pick c a b => c.rd ++ (a.rd ++ b.rd)
  | .bin _ _ x y | .eqA _ _ x y | .idxS x y | .idxA _ _ _ x y | .iaddr _ x y | .ovl _ x y | .store _ x y | .app _ _ x y | .copy _ x y | .copyK _ x y => x.rd ++ y.rd
  | .build _ ps => ps.flatMap (·.2.2.rd)
  | .slS x lo hi | .slR _ x lo hi | .slC _ x lo hi => x.rd ++ (xord lo ++ xord hi)
  | .slX _ k x y | .appZ _ _ k x y => k.rd ++ (x.rd ++ y.rd)
  | .slM _ x lo hi mx => x.rd ++ (xord lo ++ (xord hi ++ xord mx))
  | .mkfn _ xs | .mm _ xs | .call _ _ xs => xsrd xs
  | .alloc _ => []
  | .lit _ _ _ ps => ps.flatMap (·.2.rd)
  | .callv g _ xs => g.rd ++ xsrd xs

section
variable {tm tm' : Tm}
theorem X.ev_congr {x : X} (h : ∀ t ∈ x.rd, tm t = tm' t) : x.ev tm = x.ev tm' := by
  cases x with
  | t n => exact h n (by simp [X.rd])
  | k v => rfl
theorem xs_congr {l : List X} (h : ∀ t ∈ xsrd l, tm t = tm' t) : l.map (·.ev tm) = l.map (·.ev tm') :=
  List.map_congr_left fun x hx => X.ev_congr fun t ht => h t (List.mem_flatMap.2 ⟨x, hx, ht⟩)
theorem bnd_congr {x : Option X} {hi d : Nat} (h : ∀ t ∈ xord x, tm t = tm' t) : bnd tm hi x d = bnd tm' hi x d := by
  cases x with
  | none => rfl
  | some x => simp only [bnd, X.ev_congr h]
theorem aBuild_congr : ∀ {ps : List (Nat × Nat × X)} {cs : List AV}, (∀ t ∈ ps.flatMap (·.2.2.rd), tm t = tm' t) → aBuild tm cs ps = aBuild tm' cs ps
  | [], _, _ => rfl
  | (o, n, x) :: ps, cs, h => by
    have h1 : x.ev tm = x.ev tm' := X.ev_congr fun t ht => h t (by simp [ht])
    have h2 : ∀ cs, aBuild tm cs ps = aBuild tm' cs ps := fun cs => aBuild_congr fun t ht => h t (by rw [List.flatMap_cons]; exact List.mem_append_right _ ht)
    simp only [aBuild, h1, h2]
theorem go_congr {rs : Rs} : ∀ {ps : List (Nat × X)} {xs : Els} {asx : List Nat}, (∀ t ∈ ps.flatMap (·.2.rd), tm t = tm' t) → evI.go tm rs ps xs asx = evI.go tm' rs ps xs asx
  | [], _, _, _ => rfl
  | (j, x) :: ps, xs, asx, h => by
    have h1 : x.ev tm = x.ev tm' := X.ev_congr fun t ht => h t (by simp [ht])
    have h2 : ∀ xs asx, evI.go tm rs ps xs asx = evI.go tm' rs ps xs asx := fun _ _ => go_congr fun t ht => h t (by rw [List.flatMap_cons]; exact List.mem_append_right _ ht)
    simp only [evI.go, h1, h2]
theorem in2 {l l' : List Nat} (h : ∀ t ∈ l ++ l', tm t = tm' t) : (∀ t ∈ l, tm t = tm' t) ∧ ∀ t ∈ l', tm t = tm' t :=
  ⟨fun t ht => h t (List.mem_append_left _ ht), fun t ht => h t (List.mem_append_right _ ht)⟩

theorem evI_congr {call : CallF} {fresh : Nat} {rs : Rs} {i : I} (h : ∀ t ∈ i.rd, tm t = tm' t) : evI call fresh tm rs i = evI call fresh tm' rs i := by
  cases i <;> simp only [I.rd] at h <;> try (first | (simp only [evI, X.ev_congr h]; done) | (simp only [evI, xs_congr h]; done))
  case alloc => rfl
  case pick c a b => simp only [evI, X.ev_congr (in2 h).1, X.ev_congr (in2 (in2 h).2).1, X.ev_congr (in2 (in2 h).2).2]
  case bin => simp only [evI, X.ev_congr (in2 h).1, X.ev_congr (in2 h).2]
  case eqA => simp only [evI, X.ev_congr (in2 h).1, X.ev_congr (in2 h).2]
  case idxS => simp only [evI, X.ev_congr (in2 h).1, X.ev_congr (in2 h).2]
  case idxA => simp only [evI, X.ev_congr (in2 h).1, X.ev_congr (in2 h).2]
  case ovl => simp only [evI, X.ev_congr (in2 h).1, X.ev_congr (in2 h).2]
  case iaddr => simp only [evI, X.ev_congr (in2 h).1, X.ev_congr (in2 h).2]
  case store => simp only [evI, X.ev_congr (in2 h).1, X.ev_congr (in2 h).2]
  case app => simp only [evI, X.ev_congr (in2 h).1, X.ev_congr (in2 h).2]
  case slX => simp only [evI, X.ev_congr (in2 h).1, X.ev_congr (in2 (in2 h).2).1, X.ev_congr (in2 (in2 h).2).2]
  case appZ => simp only [evI, X.ev_congr (in2 h).1, X.ev_congr (in2 (in2 h).2).1, X.ev_congr (in2 (in2 h).2).2]
  case copyK => simp only [evI, X.ev_congr (in2 h).1, X.ev_congr (in2 h).2]
  case copy => simp only [evI, X.ev_congr (in2 h).1, X.ev_congr (in2 h).2]
  case build => simp only [evI, aBuild_congr h]
  case slS => simp only [evI, X.ev_congr (in2 h).1, bnd_congr (in2 (in2 h).2).1, bnd_congr (in2 (in2 h).2).2]
  case slR => simp only [evI, X.ev_congr (in2 h).1, bnd_congr (in2 (in2 h).2).1, bnd_congr (in2 (in2 h).2).2]
  case slC => simp only [evI, X.ev_congr (in2 h).1, bnd_congr (in2 (in2 h).2).1, bnd_congr (in2 (in2 h).2).2]
  case slM => simp only [evI, X.ev_congr (in2 h).1, bnd_congr (in2 (in2 h).2).1, bnd_congr (in2 (in2 (in2 h).2).2).1, bnd_congr (in2 (in2 (in2 h).2).2).2]
  case lit => simp only [evI, go_congr h]
  case mm mx xs =>
    cases xs with
    | nil => rfl
    | cons x xs =>
      have h' : ∀ t ∈ x.rd ++ xsrd xs, tm t = tm' t := fun t ht => h t (by rwa [xsrd, List.flatMap_cons])
      simp only [evI, X.ev_congr (in2 h').1, xs_congr (in2 h').2]
  case callv => simp only [evI, X.ev_congr (in2 h).1, xs_congr (in2 h).2]
end

/-- It reads temporaries alone, and leaves the roots. -/
def I.pure : I → Bool
  | .mv _ | .pick .. | .nilc _ | .bin .. | .eqA .. | .un .. | .build .. | .field .. | .ext .. | .idxS .. | .idxA .. | .slS .. | .slR .. | .slM .. | .len .. | .cap .. | .conv .. | .faddr .. | .iaddr .. | .mkfn .. | .mm .. => true
  | _ => false
/-- It leaves the roots. -/
def I.quiet : I → Bool
  | .bts _ | .load .. | .slC .. | .ovl .. => true
  | i => i.pure

theorem I.quiet_of {i : I} (h : i.pure = true) : i.quiet = true := by cases i <;> simp_all [I.quiet, I.pure]

def qv (tm : Tm) (rs : Rs) (i : I) : Option AV := (evI (fun _ _ => none) 0 tm rs i).map (·.1)

theorem evI_quiet {call : CallF} {fresh : Nat} {tm : Tm} {rs : Rs} {i : I} (h : i.quiet = true) : evI call fresh tm rs i = (qv tm rs i).map (·, rs) := by
  cases i <;> simp only [I.quiet, I.pure, Bool.false_eq_true] at h <;> simp only [evI, qv]
  all_goals (repeat' split)
  all_goals (simp only [Option.map_some, Option.map_none, Option.map_map, Option.map_bind, Option.bind_map, Function.comp_def]; try rfl)
  all_goals skip
theorem qv_pure {tm : Tm} {rs rs' : Rs} {i : I} (h : i.pure = true) : qv tm rs i = qv tm rs' i := by
  cases i <;> simp only [I.pure, Bool.false_eq_true] at h <;> simp only [evI, qv]
  all_goals (repeat' split)
  all_goals (simp only [Option.map_some, Option.map_none, Option.map_map, Option.map_bind, Option.bind_map, Function.comp_def]; try rfl)
  all_goals skip

/-! ### Two operations, in either order -/
def gord : Option (Nat × Bool) → List Nat
  | some (t, _) => [t]
  | none => []
def Op'.rd (o : Op') : List Nat := gord o.g ++ (o.s ++ o.i.rd)
def apartB (x y : Op') : Bool := (x.d.all fun d => !y.rd.contains d && !(y.d == some d)) && ((y.d.all fun d => !x.rd.contains d) && y.s.all fun d => !x.rd.contains d)
def okFirst (x y : Op') : Bool := apartB x y && (x.s.isEmpty && (x.i.pure || (x.i.quiet && (y.i.quiet && y.s.isEmpty))))

section
variable {call : CallF} {n m : Nat} {x y o : Op'} {tm tm' : Tm} {rs rs' : Rs}

def opv (call : CallF) (n : Nat) (o : Op') (tm : Tm) (rs : Rs) : Option (AV × Tm × Rs) :=
  (wants tm o.g).bind fun w => if w then (if o.s.length ≤ 4 then splitTs (n + 16) tm rs o.s else none).bind fun s' => (evI call n s'.1 s'.2.1 o.i).map fun p => (p.1, s'.1, if o.i.isCall then regrafts s'.2.1 p.2 s'.2.2 else p.2) else some (.tup [], tm, rs)
theorem evOp_opv : evOp call n o (tm, rs) = (opv call n o tm rs).map fun p => (putT p.2.1 o.d p.1, p.2.2) := by
  simp only [evOp, opv]
  cases wants tm o.g with
  | none => rfl
  | some w =>
    cases w with
    | false => rfl
    | true =>
      simp only [Option.bind_some, if_true]
      split
      · cases splitTs (n + 16) tm rs o.s with
        | none => rfl
        | some s' => simp only [Option.bind_some, Option.map_map]; rfl
      · rfl
theorem putT_at {d : Option Nat} {v : AV} {t : Nat} (h : d ≠ some t) : putT tm d v t = tm t := by
  cases d with
  | none => rfl
  | some d => exact up'_ne _ _ fun e => h (by rw [e])
theorem putT_comm {d e : Option Nat} {v u : AV} (h : ∀ x, d = some x → e ≠ some x) : putT (putT tm d v) e u = putT (putT tm e u) d v := by
  cases d with
  | none => rfl
  | some d =>
    cases e with
    | none => rfl
    | some e =>
      have hne : d ≠ e := fun h' => h d rfl (by rw [h'])
      funext t
      simp only [putT]
      by_cases h1 : t = d
      · subst h1; rw [up'_ne _ _ hne, up'_same, up'_same]
      · by_cases h2 : t = e
        · subst h2; rw [up'_same, up'_ne _ _ h1, up'_same]
        · rw [up'_ne _ _ h2, up'_ne _ _ h1, up'_ne _ _ h1, up'_ne _ _ h2]

theorem wants_congr {g : Option (Nat × Bool)} (h : ∀ t ∈ gord g, tm t = tm' t) : wants tm g = wants tm' g := by
  unfold wants
  cases g with
  | none => rfl
  | some g => simp only [h g.1 (by simp [gord])]
theorem regrafts_nil {rs0 rs : Rs} : regrafts rs0 rs [] = rs := rfl
theorem splitTs_put {d : Option Nat} {v : AV} : ∀ {s : List Nat} {n : Nat} {tm : Tm} {rs : Rs}, (∀ t ∈ s, d ≠ some t) → splitTs n (putT tm d v) rs s = (splitTs n tm rs s).map fun p => (putT p.1 d v, p.2)
  | [], n, tm, rs, h => rfl
  | t :: s, n, tm, rs, h => by
    simp only [splitTs]
    rw [putT_at (h t (by simp))]
    cases splitV n rs (tm t) with
    | none => rfl
    | some a =>
      simp only [Option.bind_some]
      have : up' (putT tm d v) t a.1 = putT (up' tm t a.1) d v := (putT_comm (e := some t) (u := a.1) fun x e1 e2 => h t (by simp) (e1.trans e2.symm))
      rw [this, splitTs_put fun t' ht => h t' (by simp [ht])]
      cases splitTs (n + 16) (up' tm t a.1) a.2.1 s <;> rfl
theorem splitTs_at : ∀ {s : List Nat} {n : Nat} {tm : Tm} {rs : Rs} {p : Tm × Rs × List Pl}, splitTs n tm rs s = some p → ∀ t, t ∉ s → p.1 t = tm t
  | [], n, tm, rs, p, h, t, ht => by simp only [splitTs, Option.some.injEq] at h; subst h; rfl
  | t' :: s, n, tm, rs, p, h, t, ht => by
    simp only [splitTs, Option.bind_eq_some_iff, Option.map_eq_some_iff] at h
    obtain ⟨a, h1, b, h2, h3⟩ := h
    subst h3
    rw [splitTs_at h2 t (fun e => ht (by simp [e])), up'_ne _ _ fun e => ht (by simp [e])]

/-- The value of an operation that splits nothing and leaves the roots. -/
theorem opv_quiet (hs : o.s = []) (h : o.i.quiet = true) : ∃ g : Option AV, ∀ call n, opv call n o tm rs = g.map (·, tm, rs) := by
  refine ⟨(wants tm o.g).bind fun w => if w then qv tm rs o.i else some (.tup []), fun call n => ?_⟩
  simp only [opv, hs, List.length_nil, Nat.zero_le, if_true, splitTs, Option.bind_some, regrafts_nil, ite_self, evI_quiet h, Option.map_map]
  cases wants tm o.g with
  | none => rfl
  | some w => cases w <;> rfl
theorem opv_pure (hs : o.s = []) (h : o.i.pure = true) : ∃ g : Option AV, ∀ call n rs tm', (∀ t ∈ o.rd, tm' t = tm t) → opv call n o tm' rs = g.map (·, tm', rs) := by
  refine ⟨(wants tm o.g).bind fun w => if w then qv tm (fun _ => none) o.i else some (.tup []), fun call n rs tm' ht => ?_⟩
  have h1 : wants tm' o.g = wants tm o.g := wants_congr fun t h => ht t (List.mem_append_left _ h)
  have h2 : qv tm' (fun _ => none) o.i = qv tm (fun _ => none) o.i := by
    unfold qv
    rw [evI_congr fun t h => ht t (List.mem_append_right _ (List.mem_append_right _ h))]
  simp only [opv, hs, List.length_nil, Nat.zero_le, if_true, splitTs, Option.bind_some, regrafts_nil, ite_self, evI_quiet (I.quiet_of h), Option.map_map, qv_pure (rs := rs) (rs' := fun _ => none) h, h1, h2]
  cases wants tm o.g with
  | none => rfl
  | some w => cases w <;> rfl
theorem opv_congr (hs : o.s = []) (h : o.i.quiet = true) (ht : ∀ t ∈ o.rd, tm' t = tm t) {v : AV} (e : opv call n o tm rs = some (v, tm, rs)) : opv call n o tm' rs = some (v, tm', rs) := by
  have h1 : wants tm' o.g = wants tm o.g := wants_congr fun t h => ht t (List.mem_append_left _ h)
  have h2 : qv tm' rs o.i = qv tm rs o.i := by
    unfold qv
    rw [evI_congr fun t h => ht t (List.mem_append_right _ (List.mem_append_right _ h))]
  simp only [opv, hs, List.length_nil, Nat.zero_le, if_true, splitTs, Option.bind_some, regrafts_nil, ite_self, evI_quiet h, Option.map_map, h1, h2] at e ⊢
  cases hw : wants tm o.g with
  | none => rw [hw] at e; cases e
  | some w =>
    rw [hw] at e
    cases w with
    | false => simp only [Option.bind_some, Bool.false_eq_true, if_false, Option.some.injEq, Prod.mk.injEq, and_true] at e ⊢; exact e
    | true =>
      simp only [Option.bind_some, if_true] at e ⊢
      cases hq : qv tm rs o.i with
      | none => rw [hq] at e; cases e
      | some u =>
        rw [hq] at e
        simp only [Option.map_some, Function.comp, Option.some.injEq, Prod.mk.injEq, and_true] at e ⊢
        exact e
/-- An operation, a temporary that it does not look at having another value. -/
theorem opv_put {d : Option Nat} {v : AV} (h : ∀ t ∈ o.rd, d ≠ some t) : opv call n o (putT tm d v) rs = (opv call n o tm rs).map fun p => (p.1, putT p.2.1 d v, p.2.2) := by
  have h1 : wants (putT tm d v) o.g = wants tm o.g := wants_congr fun t ht => putT_at (h t (List.mem_append_left _ ht))
  simp only [opv, h1]
  cases wants tm o.g with
  | none => rfl
  | some w =>
    cases w with
    | false => rfl
    | true =>
      simp only [Option.bind_some, if_true]
      split
      · rw [splitTs_put fun t ht => h t (List.mem_append_right _ (List.mem_append_left _ ht))]
        cases splitTs (n + 16) tm rs o.s with
        | none => rfl
        | some p =>
          simp only [Option.map_some, Option.bind_some, Option.map_map]
          have : evI call n (putT p.1 d v) p.2.1 o.i = evI call n p.1 p.2.1 o.i := evI_congr fun t ht => putT_at (h t (List.mem_append_right _ (List.mem_append_right _ ht)))
          rw [this]
          rfl
      · rfl

theorem apartB_spec (h : apartB x y = true) : (∀ t ∈ y.rd, x.d ≠ some t) ∧ (∀ d, x.d = some d → y.d ≠ some d) ∧ (∀ t ∈ x.rd, y.d ≠ some t) ∧ ∀ t ∈ x.rd, t ∉ y.s := by
  simp only [apartB, Bool.and_eq_true, Option.all_eq_true, Bool.not_eq_true', beq_eq_false_iff_ne, List.contains_eq_mem, decide_eq_false_iff_not, List.all_eq_true] at h
  exact ⟨fun t ht e => (h.1 t e).1 ht, fun d e => (h.1 d e).2, fun t ht e => h.2.1 t e ht, fun t ht e => h.2.2 t e ht⟩

theorem opv_tm {p : AV × Tm × Rs} (h : opv call m y tm rs = some p) : ∀ t, t ∉ y.s → p.2.1 t = tm t := by
  intro t ht
  simp only [opv, Option.bind_eq_some_iff] at h
  obtain ⟨w, _, h⟩ := h
  cases w with
  | false => simp only [Bool.false_eq_true, if_false, Option.some.injEq] at h; subst h; rfl
  | true =>
    simp only [if_true, Option.bind_eq_some_iff, Option.map_eq_some_iff] at h
    obtain ⟨s', h1, q, h2, h3⟩ := h
    subst h3
    split at h1
    · exact splitTs_at h1 t ht
    · cases h1

theorem evOp_comm (h : okFirst x y = true) {s s1 s2 : Tm × Rs} (hx : evOp call n x s = some s1) (hy : evOp call m y s1 = some s2) : ∃ s1', evOp call m y s = some s1' ∧ evOp call n x s1' = some s2 := by
  obtain ⟨tm, rs⟩ := s
  simp only [okFirst, Bool.and_eq_true, Bool.or_eq_true, List.isEmpty_iff] at h
  obtain ⟨ha, hs, hk⟩ := h
  obtain ⟨h1, h2, h3, h4⟩ := apartB_spec ha
  have hq : x.i.quiet = true := hk.elim I.quiet_of (fun h => h.1)
  rw [evOp_opv] at hx
  obtain ⟨g, hg⟩ := opv_quiet (tm := tm) (rs := rs) hs hq
  have hgn := hg call n
  rw [hgn] at hx
  cases g with
  | none => cases hx
  | some v =>
    simp only [Option.map_some, Option.some.injEq] at hx hgn
    subst hx
    rw [evOp_opv, opv_put h1] at hy
    rw [evOp_opv]
    cases hu : opv call m y tm rs with
    | none => rw [hu] at hy; cases hy
    | some p =>
      rw [hu] at hy
      simp only [Option.map_some, Option.some.injEq] at hy ⊢
      subst hy
      refine ⟨_, rfl, ?_⟩
      rw [evOp_opv, opv_put h3]
      have hat : ∀ t ∈ x.rd, p.2.1 t = tm t := fun t ht => opv_tm hu t (h4 t ht)
      have : opv call n x p.2.1 p.2.2 = some (v, p.2.1, p.2.2) := by
        rcases hk with hk | ⟨_, hk, hys⟩
        · obtain ⟨g', hg'⟩ := opv_pure (tm := tm) hs hk
          have e := hgn.symm.trans (hg' call n rs tm fun _ _ => rfl)
          cases g' with
          | none => cases e
          | some v' =>
            simp only [Option.map_some, Option.some.injEq, Prod.mk.injEq, and_true] at e
            rw [hg' call n p.2.2 p.2.1 hat, e]; rfl
        · obtain ⟨g', hg'⟩ := opv_quiet (tm := tm) (rs := rs) hys hk
          rw [hg'] at hu
          cases g' with
          | none => cases hu
          | some u => simp only [Option.map_some, Option.some.injEq] at hu; subst hu; exact hgn
      rw [this]
      simp only [Option.map_some, Option.some.injEq, Prod.mk.injEq, and_true]
      exact (putT_comm h2).symm
end

/-! ### Every order -/
section
variable {call : CallF} {n : Nat} {ops : Array Oper} {l : List Op'} {md : Region.Mode}

def AnyOrd (call : CallF) (n : Nat) (md : Region.Mode) (ops : Array Oper) (l : List Op') : Nat → Array Bool → Tm × Rs → Tm × Rs → Prop
  | 0, L, s, r => Region.ready md ops L = [] ∧ s = r
  | f + 1, L, s, r => (Region.ready md ops L = [] → s = r) ∧
    ∀ i ∈ Region.ready md ops L, ∃ o s', l[i]? = some o ∧ evOp call (n + i * idw) o s = some s' ∧ AnyOrd call n md ops l f (L.setIfInBounds i true) s' r

/-- What waits for i, directly or by way of others. -/
def waitB (md : Region.Mode) (ops : Array Oper) (L : Array Bool) (B : List Nat) (j : Nat) : List Nat :=
  if !B.contains j && !L.getD j true && (match ops[j]? with | some mj => mj.after.any (fun e => Region.binds md e && B.contains e.on) | none => false) then j :: B else B
def blockB (md : Region.Mode) (ops : Array Oper) (L : Array Bool) (i : Nat) : List Nat := (List.range ops.size).foldl (waitB md ops L) [i]
def Waits (md : Region.Mode) (ops : Array Oper) (L : Array Bool) (i : Nat) (B : List Nat) : Prop :=
  i ∈ B ∧ ∀ b ∈ B, b = i ∨ (L.getD b true = false ∧ ∃ mj, ops[b]? = some mj ∧ ∃ e ∈ mj.after, Region.binds md e = true ∧ e.on ∈ B)
theorem waits_fold {L : Array Bool} {i : Nat} : ∀ (js B : List Nat), Waits md ops L i B → Waits md ops L i (js.foldl (waitB md ops L) B)
  | [], B, h => h
  | j :: js, B, h => by
    refine waits_fold js _ ?_
    unfold waitB
    cases hmj : ops[j]? with
    | none => simp only [Bool.and_false, Bool.false_eq_true, if_false]; exact h
    | some mj =>
      simp only
      split
      · rename_i hc
        simp only [Bool.and_eq_true, Bool.not_eq_true'] at hc
        obtain ⟨⟨_, h2⟩, h3⟩ := hc
        refine ⟨List.mem_cons_of_mem _ h.1, fun b hb => ?_⟩
        rcases List.mem_cons.1 hb with rfl | hb
        · right
          refine ⟨h2, ?_⟩
          obtain ⟨e, he, hb⟩ := Array.any_eq_true'.1 h3
          simp only [Bool.and_eq_true, List.contains_eq_mem, decide_eq_true_eq] at hb
          exact ⟨mj, hmj, e, he, hb.1, List.mem_cons_of_mem _ hb.2⟩
        · rcases h.2 b hb with h4 | ⟨h4, mj, h5, e, h6, h7, h8⟩
          · exact .inl h4
          · exact .inr ⟨h4, mj, h5, e, h6, h7, List.mem_cons_of_mem _ h8⟩
      · exact h

theorem AnyOrd.first {i : Nat} {oi : Op'} (hi : l[i]? = some oi) {B : List Nat} {r : Tm × Rs} : ∀ (fuel : Nat) (L : Array Bool) (s s1 : Tm × Rs),
    (∀ j oj mj, ops[j]? = some mj → l[j]? = some oj → j ∉ B → L.getD j true = false → okFirst oi oj = true) → Waits md ops L i B →
    i ∈ Region.ready md ops L → evOp call (n + i * idw) oi s = some s1 → AnyOrd call n md ops l fuel (L.setIfInBounds i true) s1 r → AnyOrd call n md ops l (fuel + 1) L s r := by
  intro fuel
  induction fuel with
  | zero =>
    intro L s s1 _ _ hr hy H
    refine ⟨fun h => (by rw [h] at hr; cases hr), fun j hj => ?_⟩
    by_cases hji : j = i
    · subst hji; exact ⟨oi, s1, hi, hy, H⟩
    · have := ready_mono hj hji
      rw [H.1] at this
      cases this
  | succ fuel ih =>
    intro L s s1 hfree hW hr hy H
    refine ⟨fun h => (by rw [h] at hr; cases hr), fun j hj => ?_⟩
    by_cases hji : j = i
    · subst hji; exact ⟨oi, s1, hi, hy, H⟩
    · obtain ⟨oj, s2, hoj, hs2, hrest⟩ := H.2 j (ready_mono hj hji)
      obtain ⟨hjun, mj, hmj, hall⟩ := mem_ready.1 hj
      have hiun : L.getD i true = false := (mem_ready.1 hr).1
      have hund : ∀ b ∈ B, L.getD b true = false := fun b hb => by
        rcases hW.2 b hb with rfl | h
        · exact hiun
        · exact h.1
      have hjB : j ∉ B := fun hb => by
        rcases hW.2 j hb with h | ⟨_, mj', h5, e, h6, h7, h8⟩
        · exact hji h
        · rw [hmj] at h5; injection h5 with h5; subst h5
          have h1 := hall e h6 h7
          have h0 := hund _ h8
          rcases Nat.lt_or_ge e.on L.size with h' | h'
          · simp [h'] at h0 h1; rw [h0] at h1; cases h1
          · simp [Array.getElem?_eq_none h'] at h1
      obtain ⟨s1', e1, e2⟩ := evOp_comm (hfree j oj mj hmj hoj hjB hjun) hy hs2
      refine ⟨oj, s1', hoj, e1, ?_⟩
      have keep : ∀ b, b ≠ j → (L.setIfInBounds j true).getD b true = L.getD b true := fun b hb => getD_set_ne true (Ne.symm hb)
      refine ih (L.setIfInBounds j true) s1' s2 (fun k ok mk hmk hk hkB hun => ?_) ⟨hW.1, fun b hb => ?_⟩ (ready_mono hr (Ne.symm hji)) e2 ?_
      · refine hfree k ok mk hmk hk hkB ?_
        by_cases hjk : j = k
        · subst hjk; exact hjun
        · rw [getD_set_ne true hjk] at hun; exact hun
      · rcases hW.2 b hb with h | ⟨h1, h2⟩
        · exact .inl h
        · refine .inr ⟨?_, h2⟩
          have : b ≠ j := fun e => hjB (e ▸ hb)
          rw [keep b this]; exact h1
      · rw [Array.setIfInBounds_comm _ _ hji]; exact hrest

def freeG (l : List Op') (L : Array Bool) (oi : Op') (B : List Nat) (js : List Nat) : Bool := js.all fun j => B.contains j || L.getD j true || match l[j]? with
      | some oj => okFirst oi oj
      | none => false
def freeB (md : Region.Mode) (ops : Array Oper) (l : List Op') (L : Array Bool) (i : Nat) : Bool :=
  match l[i]? with
  | none => false
  | some oi => freeG l L oi (blockB md ops L i) (List.range ops.size)

/-- The schedule covers every order: 'none': all that may come up; 'some': these. -/
def schOk (md : Region.Mode) (ops : Array Oper) (l : List Op') : Sched → Nat → Array Bool → Option (List Nat) → Bool
  | .done, _, L, none => (Region.ready md ops L).isEmpty
  | .take k s, f + 1, L, none => (Region.ready md ops L == [k] || ((Region.ready md ops L).contains k && freeB md ops l L k)) && schOk md ops l s f (L.setIfInBounds k true) none
  | .take k s, f + 1, L, some rs => rs == [k] && schOk md ops l s f (L.setIfInBounds k true) none
  | .alt a b, f, L, none => match Region.ready md ops L with
    | [] => false
    | i :: rest => schOk md ops l a f L (some [i]) && schOk md ops l b f L (some rest)
  | .alt a b, f, L, some rs => match rs with
    | [] => false
    | i :: rest => schOk md ops l a f L (some [i]) && schOk md ops l b f L (some rest)
  | _, _, _, _ => false

theorem AnyOrd.all {f : Nat} {L : Array Bool} {s r : Tm × Rs} (hne : Region.ready md ops L ≠ [])
    (h : ∀ i ∈ Region.ready md ops L, ∃ o s', l[i]? = some o ∧ evOp call (n + i * idw) o s = some s' ∧ AnyOrd call n md ops l f (L.setIfInBounds i true) s' r) : AnyOrd call n md ops l (f + 1) L s r :=
  ⟨fun h0 => absurd h0 hne, h⟩

theorem sch_some {sch : Sched} : ∀ {f : Nat} {L : Array Bool} {rs : List Nat}, schOk md ops l sch f L (some rs) = true → ∃ f', f = f' + 1 := by
  induction sch with
  | done => intro f L rs h; simp [schOk] at h
  | take k s ih => intro f L rs h; cases f with | zero => simp [schOk] at h | succ f => exact ⟨f, rfl⟩
  | alt a b iha ihb =>
    intro f L rs h
    cases rs with
    | nil => simp [schOk] at h
    | cons i rest => simp only [schOk, Bool.and_eq_true] at h; exact iha h.1

theorem sch_sound {sch : Sched} : ∀ {f : Nat} {L : Array Bool} {s r : Tm × Rs}, evSch call n l sch s = some r →
    (schOk md ops l sch f L none = true → AnyOrd call n md ops l f L s r) ∧
    ∀ rs f', f = f' + 1 → schOk md ops l sch f L (some rs) = true → ∀ i ∈ rs, ∃ o s', l[i]? = some o ∧ evOp call (n + i * idw) o s = some s' ∧ AnyOrd call n md ops l f' (L.setIfInBounds i true) s' r := by
  induction sch with
  | done =>
    intro f L s r h
    simp only [evSch, Option.some.injEq] at h
    subst h
    refine ⟨fun h => ?_, fun rs f' e h => by simp [schOk] at h⟩
    simp only [schOk, List.isEmpty_iff] at h
    cases f with
    | zero => exact ⟨h, rfl⟩
    | succ f => exact ⟨fun _ => rfl, by rw [h]; simp⟩
  | take k s' ih =>
    intro f L s r h
    simp only [evSch, Option.bind_eq_some_iff] at h
    obtain ⟨o, ho, s1, hs1, hr⟩ := h
    cases f with
    | zero => exact ⟨fun h => by simp [schOk] at h, fun rs f' e => by omega⟩
    | succ f =>
      constructor
      · intro h
        simp only [schOk, Bool.and_eq_true, Bool.or_eq_true, beq_iff_eq, List.contains_eq_mem, decide_eq_true_eq] at h
        obtain ⟨h1, h2⟩ := h
        have hrest := (ih (f := f) (L := L.setIfInBounds k true) hr).1 h2
        rcases h1 with h1 | ⟨h1, h3⟩
        · refine AnyOrd.all (by rw [h1]; simp) fun i hi => ?_
          rw [h1, List.mem_singleton] at hi
          subst hi
          exact ⟨o, s1, ho, hs1, hrest⟩
        · refine AnyOrd.first ho (B := blockB md ops L k) f L s s1 (fun j oj mj hmj hoj hnB hun => ?_) (waits_fold _ _ ⟨List.mem_singleton.2 rfl, fun b hb => .inl (List.mem_singleton.1 hb)⟩) h1 hs1 hrest
          simp only [freeB, ho, freeG, List.all_eq_true, List.mem_range] at h3
          have h4 := h3 j (Array.getElem?_eq_some_iff.1 hmj).1
          simp only [hoj, Bool.or_eq_true, List.contains_eq_mem, decide_eq_true_eq, hun, Bool.false_eq_true, or_false] at h4
          rcases h4 with h4 | h4
          · exact absurd h4 hnB
          · exact h4
      · intro rs f' e h i hi
        simp only [schOk, Bool.and_eq_true, beq_iff_eq] at h
        obtain ⟨h1, h2⟩ := h
        have e' : f' = f := by omega
        subst e'
        rw [h1, List.mem_singleton] at hi
        subst hi
        exact ⟨o, s1, ho, hs1, (ih hr).1 h2⟩
  | alt a b iha ihb =>
    intro f L s r h
    simp only [evSch, Option.bind_eq_some_iff] at h
    obtain ⟨r', ha, hb⟩ := h
    split at hb
    case isFalse => cases hb
    rename_i hb'
    injection hb with hb; subst hb
    constructor
    · intro h
      cases hrd : Region.ready md ops L with
      | nil => simp [schOk, hrd] at h
      | cons i rest =>
        simp only [schOk, hrd, Bool.and_eq_true] at h
        obtain ⟨f', rfl⟩ := sch_some h.1
        refine AnyOrd.all (by rw [hrd]; simp) fun j hj => ?_
        rw [hrd, List.mem_cons] at hj
        rcases hj with rfl | hj
        · exact (iha ha).2 _ f' rfl h.1 j (by simp)
        · exact (ihb hb').2 _ f' rfl h.2 j hj
    · intro rs f' e h j hj
      cases rs with
      | nil => cases hj
      | cons i rest =>
        simp only [schOk, Bool.and_eq_true] at h
        rw [List.mem_cons] at hj
        rcases hj with rfl | hj
        · exact (iha ha).2 _ f' e h.1 j (by simp)
        · exact (ihb hb').2 _ f' e h.2 j hj
end
end Go.Proofs.Ytinlbiphjgpmmaa.V
end YtinlbiphjgpmmaaWA
section YtinlbiphjgpmmaaWAF
namespace Go.Proofs.Ytinlbiphjgpmmaa.V
open Go
set_option linter.unusedVariables false
set_option linter.unusedSimpArgs false

def bit (m i : Nat) : Bool := Nat.beq (Nat.land (Nat.shiftRight m i) 1) 1
theorem bit_eq (m i : Nat) : bit m i = m.testBit i := by
  rw [Nat.testBit_eq_decide_div_mod_eq]
  unfold bit
  show Nat.beq ((m >>> i) &&& 1) 1 = _
  rw [Nat.and_one_is_mod, Nat.shiftRight_eq_div_pow, Bool.eq_iff_iff, Nat.beq_eq, decide_eq_true_eq]
def put (m i : Nat) : Nat := Nat.lor m (Nat.shiftLeft 1 i)
theorem put_bit (m i j : Nat) : (put m i).testBit j = (m.testBit j || decide (i = j)) := by
  show (m ||| (1 <<< i)).testBit j = _
  rw [Nat.testBit_or, Nat.shiftLeft_eq, Nat.one_mul, Nat.testBit_two_pow]
def maskOf (md : Region.Mode) (es : List Edge) : Nat := es.foldr (fun e m => if Region.binds md e then put m e.on else m) 0
theorem maskOf_bit (md : Region.Mode) : ∀ (es : List Edge) (j : Nat), (maskOf md es).testBit j = es.any fun e => Region.binds md e && decide (e.on = j)
  | [], j => by simp [maskOf]
  | e :: es, j => by
    have ih := maskOf_bit md es j
    rw [List.any_cons, ← ih]
    show (if Region.binds md e = true then put (maskOf md es) e.on else maskOf md es).testBit j = _
    split
    · rename_i h; rw [put_bit, h, Bool.true_and, Bool.or_comm]
    · rename_i h; simp [h]
/-- No bit of a is missing in m. -/
theorem sub_iff {a m : Nat} : Nat.beq (Nat.land a m) a = true ↔ ∀ j, a.testBit j = true → m.testBit j = true := by
  rw [Nat.beq_eq]
  show a &&& m = a ↔ _
  constructor
  · intro h j hj
    rw [← h, Nat.testBit_and, Bool.and_eq_true] at hj
    exact hj.2
  · intro h
    refine Nat.eq_of_testBit_eq fun j => ?_
    rw [Nat.testBit_and]
    cases hj : a.testBit j with
    | false => rfl
    | true => rw [h j hj]; rfl
theorem meet_iff {a m : Nat} : Nat.beq (Nat.land a m) 0 = false ↔ ∃ j, a.testBit j = true ∧ m.testBit j = true := by
  constructor
  · intro h
    rcases Classical.em (∃ j, a.testBit j = true ∧ m.testBit j = true) with h' | h'
    · exact h'
    · have : a &&& m = 0 := by
        refine Nat.eq_of_testBit_eq fun j => ?_
        rw [Nat.testBit_and, Nat.zero_testBit]
        cases h1 : a.testBit j with
        | false => rfl
        | true => cases h2 : m.testBit j with
          | false => rfl
          | true => exact absurd ⟨j, h1, h2⟩ h'
      have h2 : Nat.beq (Nat.land a m) 0 = true := by rw [Nat.beq_eq]; exact this
      rw [h2] at h; cases h
  · rintro ⟨j, h1, h2⟩
    cases h : Nat.beq (Nat.land a m) 0 with
    | false => rfl
    | true =>
      rw [Nat.beq_eq] at h
      have h : a &&& m = 0 := h
      have := congrArg (fun x => x.testBit j) h
      simp [h1, h2] at this
def rdF (m : Nat) : List Nat → Nat → List Nat
  | [], _ => []
  | a :: asx, i => if !bit m i && Nat.beq (Nat.land a m) a then i :: rdF m asx (i + 1) else rdF m asx (i + 1)
def blkF (m : Nat) : List Nat → Nat → Nat → Nat
  | [], _, b => b
  | a :: asx, i, b => blkF m asx (i + 1) (if !bit b i && (!bit m i && !Nat.beq (Nat.land a b) 0) then put b i else b)
def freeF (m b : Nat) (oi : Op') : List Op' → Nat → Bool
  | [], _ => true
  | o :: os, i => (bit b i || (bit m i || okFirst oi o)) && freeF m b oi os (i + 1)
def schF (l : List Op') (ms : List Nat) : Sched → Nat → Nat → Option (List Nat) → Bool
  | .done, _, m, none => (rdF m ms 0).isEmpty
  | .take k s, f + 1, m, none => (match rdF m ms 0 with
      | [] => false
      | [j] => Nat.beq j k
      | js => js.contains k && (match l[k]? with
        | some oi => freeF m (blkF m ms 0 (put 0 k)) oi l 0
        | none => false)) && schF l ms s f (put m k) none
  | .take k s, f + 1, m, some rs => rs == [k] && schF l ms s f (put m k) none
  | .alt a b, f, m, none => match rdF m ms 0 with
    | [] => false
    | i :: rest => schF l ms a f m (some [i]) && schF l ms b f m (some rest)
  | .alt a b, f, m, some rs => match rs with
    | [] => false
    | i :: rest => schF l ms a f m (some [i]) && schF l ms b f m (some rest)
  | _, _, _, _ => false
/-- The check with numbers. -/
def schN (ops : Array Oper) (l : List Op') (sch : Sched) : Bool :=
  Nat.beq l.length ops.size && schF l (ops.toList.map fun o => maskOf .any o.after.toList) sch ops.size 0 none

section
variable {ops : Array Oper} {l : List Op'} {md : Region.Mode}
def RepL (ops : Array Oper) (L : Array Bool) (m : Nat) : Prop := L.size = ops.size ∧ ∀ j, L.getD j false = m.testBit j
theorem RepL.tt {L : Array Bool} {m : Nat} (h : RepL ops L m) {j : Nat} (hj : j < ops.size) : L.getD j true = m.testBit j := by
  rw [← h.2 j]
  have : j < L.size := by rw [h.1]; exact hj
  simp [Array.getD, this]
theorem RepL.put {L : Array Bool} {m k : Nat} (h : RepL ops L m) (hk : k < ops.size) : RepL ops (L.setIfInBounds k true) (V.put m k) := by
  refine ⟨by simp [h.1], fun j => ?_⟩
  rw [put_bit, ← h.2 j]
  have hk' : k < L.size := by rw [h.1]; exact hk
  by_cases e : k = j
  · subst e; simp [Array.getD, hk']
  · by_cases hj : j < L.size
    · simp [Array.getD, hj, e]
    · simp [Array.getD, hj, e]
def msk (md : Region.Mode) (ops : Array Oper) : List Nat := ops.toList.map fun o => maskOf md o.after.toList
theorem rdF_eq {p : Nat → Bool} {m : Nat} : ∀ (asx : List Nat) (i : Nat), (∀ j a, asx[j]? = some a → p (i + j) = (!bit m (i + j) && Nat.beq (Nat.land a m) a)) → (List.range' i asx.length).filter p = rdF m asx i
  | [], i, _ => by simp [rdF]
  | a :: asx, i, h => by
    have h0 := h 0 a rfl
    rw [Nat.add_zero] at h0
    have ih := rdF_eq asx (i + 1) (fun j b hj => by
      have := h (j + 1) b (by simpa using hj)
      rwa [show i + (j + 1) = i + 1 + j by omega] at this)
    rw [List.length_cons, List.range'_succ, List.filter_cons, ih, h0]
    rfl
theorem ready_eq {L : Array Bool} {m : Nat} (h : RepL ops L m) : Region.ready md ops L = rdF m (msk md ops) 0 := by
  unfold Region.ready
  rw [List.range_eq_range']
  have hl : ops.size = (msk md ops).length := by simp [msk]
  rw [hl]
  refine rdF_eq _ 0 fun j a hj => ?_
  rw [Nat.zero_add]
  unfold msk at hj
  rw [List.getElem?_map, Array.getElem?_toList] at hj
  cases ho : ops[j]? with
  | none => rw [ho] at hj; cases hj
  | some o =>
    rw [ho] at hj
    simp only [Option.map_some, Option.some.injEq] at hj
    subst hj
    have hlt : j < ops.size := by
      rcases Nat.lt_or_ge j ops.size with h | h
      · exact h
      · rw [Array.getElem?_eq_none h] at ho; cases ho
    rw [h.tt hlt, bit_eq]
    simp only [Option.map_some, Option.getD_some]
    congr 1
    rw [Bool.eq_iff_iff, sub_iff, Array.all_eq_true']
    constructor
    · intro g i hi
      rw [maskOf_bit, List.any_eq_true] at hi
      obtain ⟨e, he, hi⟩ := hi
      simp only [Bool.and_eq_true, decide_eq_true_eq] at hi
      have := g e (by simpa using he)
      rw [hi.1, Bool.not_true, Bool.false_or, h.2, hi.2] at this
      exact this
    · intro g e he
      cases hb : Region.binds md e with
      | false => rfl
      | true =>
        rw [Bool.not_true, Bool.false_or, h.2]
        refine g e.on ?_
        rw [maskOf_bit, List.any_eq_true]
        exact ⟨e, by simpa using he, by simp [hb]⟩
def RepB (B : List Nat) (b : Nat) : Prop := ∀ j, B.contains j = b.testBit j
theorem RepB.cons {B : List Nat} {b i : Nat} (h : RepB B b) : RepB (i :: B) (put b i) := fun j => by
  rw [List.contains_cons, h j, put_bit, Bool.or_comm]
  congr 1
  rw [Bool.eq_iff_iff, beq_iff_eq, decide_eq_true_eq, eq_comm]
theorem blk_eq {L : Array Bool} {m : Nat} (h : RepL ops L m) : ∀ (os : List Oper) (i : Nat) (B : List Nat) (b : Nat), (∀ j o, os[j]? = some o → ops[i + j]? = some o) → RepB B b →
    RepB ((List.range' i os.length).foldl (waitB md ops L) B) (blkF m (os.map fun o => maskOf md o.after.toList) i b)
  | [], i, B, b, _, hb => hb
  | o :: os, i, B, b, ho, hb => by
    rw [List.length_cons, List.range'_succ, List.foldl_cons, List.map_cons, blkF]
    have h0 : ops[i]? = some o := by have := ho 0 o rfl; rwa [Nat.add_zero] at this
    have hlt : i < ops.size := by
      rcases Nat.lt_or_ge i ops.size with h | h
      · exact h
      · rw [Array.getElem?_eq_none h] at h0; cases h0
    refine blk_eq h os (i + 1) _ _ (fun j x hx => by rw [show i + 1 + j = i + (j + 1) by omega]; exact ho (j + 1) x (by simpa using hx)) ?_
    unfold waitB
    rw [h0]
    simp only
    have hc : (!B.contains i && !L.getD i true && o.after.any fun e => Region.binds md e && B.contains e.on) = (!bit b i && (!bit m i && !Nat.beq (Nat.land (maskOf md o.after.toList) b) 0)) := by
      rw [hb i, h.tt hlt, bit_eq, bit_eq, Bool.and_assoc]
      congr 2
      rw [Bool.eq_iff_iff, Bool.not_eq_true', meet_iff, Array.any_eq_true']
      constructor
      · rintro ⟨e, he, g⟩
        simp only [Bool.and_eq_true] at g
        refine ⟨e.on, ?_, by rw [← hb]; exact g.2⟩
        rw [maskOf_bit, List.any_eq_true]
        exact ⟨e, by simpa using he, by simp [g.1]⟩
      · rintro ⟨j, h1, h2⟩
        rw [maskOf_bit, List.any_eq_true] at h1
        obtain ⟨e, he, h1⟩ := h1
        simp only [Bool.and_eq_true, decide_eq_true_eq] at h1
        exact ⟨e, by simpa using he, by rw [h1.1, hb, h1.2, h2]; rfl⟩
    rw [hc]
    split
    · exact hb.cons
    · exact hb
theorem block_eq {L : Array Bool} {m i : Nat} (h : RepL ops L m) : RepB (blockB md ops L i) (blkF m (msk md ops) 0 (put 0 i)) := by
  unfold blockB msk
  have hl : List.range ops.size = List.range' 0 ops.toList.length := by rw [List.range_eq_range', Array.length_toList]
  rw [hl]
  refine blk_eq h ops.toList 0 [i] (put 0 i) (fun j o hj => by rw [Nat.zero_add, ← Array.getElem?_toList]; exact hj) ?_
  intro j
  rw [put_bit, Nat.zero_testBit, Bool.false_or, List.contains_cons, List.contains_nil, Bool.or_false, Bool.eq_iff_iff, beq_iff_eq, decide_eq_true_eq, eq_comm]
theorem freeF_eq {m b : Nat} {oi : Op'} : ∀ (os : List Op') (i : Nat), freeF m b oi os i = true → ∀ j o, os[j]? = some o → (b.testBit (i + j) || (m.testBit (i + j) || okFirst oi o)) = true
  | [], i, _, j, o, h => by simp at h
  | o' :: os, i, h, j, o, hj => by
    rw [freeF, Bool.and_eq_true, bit_eq, bit_eq] at h
    cases j with
    | zero => simp only [List.getElem?_cons_zero, Option.some.injEq] at hj; subst hj; exact h.1
    | succ j => rw [show i + (j + 1) = i + 1 + j by omega]; exact freeF_eq os (i + 1) h.2 j o (by simpa using hj)
theorem free_ok {L : Array Bool} {m k : Nat} (hl : l.length = ops.size) (h : RepL ops L m) {oi : Op'} (ho : l[k]? = some oi) (hf : freeF m (blkF m (msk md ops) 0 (put 0 k)) oi l 0 = true) : freeB md ops l L k = true := by
  unfold freeB
  rw [ho]
  simp only [freeG, List.all_eq_true, List.mem_range]
  intro j hj
  have hj' : j < l.length := by omega
  rw [List.getElem?_eq_getElem hj']
  simp only
  have := freeF_eq l 0 hf j l[j] (List.getElem?_eq_getElem hj')
  rw [Nat.zero_add, ← block_eq (md := md) (i := k) h j, ← h.tt hj] at this
  rw [Bool.or_assoc]
  exact this
theorem rdF_lt {m : Nat} : ∀ (asx : List Nat) (i : Nat), ∀ x ∈ rdF m asx i, x < i + asx.length
  | [], i, x, h => by simp [rdF] at h
  | a :: asx, i, x, h => by
    have ih := rdF_lt (m := m) asx (i + 1)
    rw [rdF] at h
    rw [List.length_cons]
    split at h
    · rcases List.mem_cons.1 h with rfl | h
      · omega
      · have := ih x h; omega
    · have := ih x h; omega
theorem schF_ok (hl : l.length = ops.size) : ∀ (sch : Sched) (f : Nat) (L : Array Bool) (m : Nat) (ro : Option (List Nat)), RepL ops L m → (∀ rs, ro = some rs → ∀ x ∈ rs, x < ops.size) → schF l (msk md ops) sch f m ro = true → schOk md ops l sch f L ro = true := by
  intro sch
  have lt : ∀ {m x}, x ∈ rdF m (msk md ops) 0 → x < ops.size := fun {m x} h => by have := rdF_lt _ _ x h; simpa [msk] using this
  induction sch with
  | done =>
    intro f L m ro h hr hs
    cases ro with
    | none => simp only [schF] at hs; simp only [schOk]; rw [ready_eq h]; exact hs
    | some rs => simp [schF] at hs
  | take k s ih =>
    intro f L m ro h hr hs
    cases f with
    | zero => cases ro <;> simp [schF] at hs
    | succ f =>
      cases ro with
      | none =>
        simp only [schF, Bool.and_eq_true] at hs
        obtain ⟨h1, h2⟩ := hs
        simp only [schOk, Bool.and_eq_true, Bool.or_eq_true]
        rw [ready_eq h]
        split at h1
        · cases h1
        · rename_i j e
          have hjk : j = k := Nat.eq_of_beq_eq_true h1
          subst hjk
          refine ⟨.inl (by rw [e]; simp), ih f _ _ none (h.put (lt (m := m) (by rw [e]; simp))) (fun _ e => by cases e) h2⟩
        · rw [Bool.and_eq_true] at h1
          obtain ⟨h1, h3⟩ := h1
          split at h3
          · rename_i oi ho
            have hk : k ∈ rdF m (msk md ops) 0 := by simpa using h1
            exact ⟨.inr ⟨h1, free_ok hl h ho h3⟩, ih f _ _ none (h.put (lt hk)) (fun _ e => by cases e) h2⟩
          · cases h3
      | some rs =>
        simp only [schF, Bool.and_eq_true, beq_iff_eq] at hs
        simp only [schOk, Bool.and_eq_true, beq_iff_eq]
        exact ⟨hs.1, ih f _ _ none (h.put (hr rs rfl k (by rw [hs.1]; simp))) (fun _ e => by cases e) hs.2⟩
  | alt a b iha ihb =>
    intro f L m ro h hr hs
    cases ro with
    | none =>
      cases e : rdF m (msk md ops) 0 with
      | nil => simp [schF, e] at hs
      | cons i rest =>
        simp only [schF, e, Bool.and_eq_true] at hs
        simp only [schOk, ready_eq h, e, Bool.and_eq_true]
        exact ⟨iha f L m _ h (fun rs e' x hx => by injection e' with e'; subst e'; exact lt (m := m) (by rw [e]; simp at hx; simp [hx])) hs.1,
          ihb f L m _ h (fun rs e' x hx => by injection e' with e'; subst e'; exact lt (m := m) (by rw [e]; simp [hx])) hs.2⟩
    | some rs =>
      simp only [schF] at hs
      simp only [schOk]
      cases rs with
      | nil => cases hs
      | cons i rest =>
        simp only [Bool.and_eq_true] at hs ⊢
        exact ⟨iha f L m _ h (fun rs e' x hx => by injection e' with e'; subst e'; exact hr _ rfl x (by simp at hx; simp [hx])) hs.1,
          ihb f L m _ h (fun rs e' x hx => by injection e' with e'; subst e'; exact hr _ rfl x (by simp [hx])) hs.2⟩
theorem schN_ok {sch : Sched} (h : schN ops l sch = true) : schOk .any ops l sch ops.size (Array.replicate ops.size false) none = true := by
  unfold schN at h
  rw [Bool.and_eq_true] at h
  refine schF_ok (Nat.eq_of_beq_eq_true h.1) sch _ _ 0 none ⟨by simp, fun j => ?_⟩ (fun _ e => by cases e) h.2
  rw [Nat.zero_testBit]
  by_cases hj : j < ops.size <;> simp [Array.getD, hj]
end
end Go.Proofs.Ytinlbiphjgpmmaa.V
end YtinlbiphjgpmmaaWAF
section YtinlbiphjgpmmaaWB
namespace Go.Proofs.Ytinlbiphjgpmmaa.V
open Go
set_option linter.unusedVariables false
set_option linter.unusedSimpArgs false

/-- The operation of the evaluator is the program's; N temporaries. -/
def guardOk (ops : Array Oper) : Option (Nat × Bool) → Option (Nat × Bool) → Bool
  | none, none => true
  | some (g, b), some (t, b') => b == b' && (ops[g]?).bind (·.dst) == some t
  | _, _ => false
def operOk (P : Program) (N : Nat) (ops : Array Oper) (o : Oper) (o' : Op') : Bool :=
  o.dst == o'.d && (o.dst.all fun d => decide (d < N)) && guardOk ops o.guard o'.g && opOk P o o'.i
def opersOk (P : Program) (N : Nat) (ops : Array Oper) : List Oper → List Op' → Bool
  | [], [] => true
  | o :: os, o' :: os' => operOk P N ops o o' && opersOk P N ops os os'
  | _, _ => false

section
variable {P : Program} {D D' : Nat → Prop} {A : Nat → Gh} {rs : Rs} {w : World} {cx : Cx} {w0 : World} {N : Nat} {tm : Tm} {a : Act} {o : Oper} {o' : Op'} {ops : Array Oper} {n : Nat}

theorem wanted_of (h : SR cx w0 N D A tm rs a w) {g : Option (Nat × Bool)} (hg : guardOk ops o.guard g = true) {b : Bool} (hw : wants tm g = some b) : Region.wanted o (yielded ops a.tmps) = b := by
  unfold Region.wanted
  cases ho : o.guard with
  | none =>
    cases g with
    | none => simp only [wants, Option.some.injEq] at hw; exact hw
    | some g => simp [guardOk, ho] at hg
  | some p =>
    obtain ⟨j, want⟩ := p
    cases g with
    | none => simp [guardOk, ho] at hg
    | some g =>
      obtain ⟨t, b'⟩ := g
      simp only [guardOk, ho, Bool.and_eq_true, beq_iff_eq] at hg
      obtain ⟨rfl, ht⟩ := hg
      have hv := h.tmps t
      simp only [wants] at hw
      simp only [yielded, ht, Option.bind_some]
      rw [Array.getD_eq_getD_getElem?] at hv
      split at hw
      · rename_i x e
        rw [e] at hv
        injection hw with hw; subst hw
        have hv' : (a.tmps[t]?).getD undef = .bool x := by simpa only [VR, V1, PR] using hv
        cases hq : a.tmps[t]? with
        | none => rw [hq] at hv'; cases hv'
        | some u =>
          rw [hq] at hv'
          simp only [Option.getD_some] at hv'
          subst hv'
          cases x <;> cases want <;> rfl
      · rename_i e
        rw [e] at hv
        injection hw with hw; subst hw
        obtain ⟨c, hc, _⟩ := hv.tup
        cases hq : a.tmps[t]? with
        | none => rfl
        | some u =>
          rw [hq] at hc
          simp only [Option.getD_some] at hc
          subst hc
          rfl
      · cases hw

theorem SR.mono (h : SR cx w0 N D A tm rs a w) (hD : ∀ r, D r → D' r) : SR cx w0 N D' A tm rs a w :=
  ⟨h.heap, fun t => (h.tmps t).mono hD (RsLe.refl _ _ _) (fun _ _ h => h) (Still.refl _ _ _), fun r R e => hD r (h.ids r R e), h.size, h.defers, h.fr, h.big, fun k hk => hD k (h.low k hk), h.kept⟩

/-! ### Arrays taken out of their places -/
/-- What is known of a place that was emptied: the memory still holds the array's value. -/
def Hole (A : Nat → Gh) (rs : Rs) (w : World) (p : Pl) : Prop := ∀ R Ri, rs p.r = some R → rs p.id = some Ri → cellAt R.xs p.i p.c = some .undef → R.own = true → Ri.own = true → p.r ≠ p.id →
  ∃ b o cur v, A p.r [] = some (b, o) ∧ Blk w b false cur ∧ cur[o + p.i * R.sz + p.c]? = some v ∧ HdR w (A p.id []) false false Ri.sz Ri.xs.length v
def HoleE (D : Nat → Prop) (A : Nat → Gh) (rs : Rs) (w : World) (p : Pl) : Prop := D p.r ∧ D p.id ∧ Hole A rs w p ∧ ∀ R, rs p.r = some R → cellAt R.xs p.i p.c = some .undef

theorem Hole.step {p : Pl} {A' : Nat → Gh} {rs' : Rs} (h : Hole A rs w p) (h1 : D p.r) (h2 : D p.id) (st : Step cx w0 D D' A rs w A' rs' w)
    (hu : ∀ R R', rs p.r = some R → rs' p.r = some R' → cellAt R'.xs p.i p.c = some .undef → cellAt R.xs p.i p.c = some .undef) : Hole A' rs' w p := fun R' Ri' a1 a2 a3 a4 a5 a6 => by
  obtain ⟨R, e1, _, e3, e4, e5, e6, _⟩ := st.le.2 p.r R' h1 a1
  obtain ⟨Ri, g1, _, g3, g4, g5, g6, _⟩ := st.le.2 p.id Ri' h2 a2
  obtain ⟨b, o, cur, v, k1, k2, k3, k4⟩ := h R Ri e1 g1 (hu R R' e1 a1 a3) (e4.trans a4) (g4.trans a5) a6
  exact ⟨b, o, cur, v, e6.trans k1, k2, by rw [← e3]; exact k3, by rw [g6, ← g3, ← g5]; exact k4⟩

theorem drop_undef {sz : Nat} {ro : Bool} {xs : Els} {q : Path} {i c : Nat} {s : Nat} {ro' : Bool} {ys : Els} (ha : arrAt sz ro xs (q ++ [(i, c)]) = some (s, ro', ys)) {j k : Nat} (h : cellAt xs j k = some .undef) : cellAt (dropAt xs q i c) j k = some .undef := by
  unfold dropAt
  cases q with
  | nil =>
    obtain ⟨p, bo, s2, ws, hc, _⟩ := arrAt_cons (by simpa using ha)
    obtain ⟨el, h1, h2⟩ := cellAt_some hc
    have hcl : c < el.length := (List.getElem?_eq_some_iff.1 h2).1
    simp only [modArr]
    rw [setEl_cell h1 (by simp; omega)]
    split
    · rename_i hin
      have : k = c := by simp at hin; omega
      subst this; simp
    · exact h
  | cons x q =>
    obtain ⟨a, b⟩ := x
    obtain ⟨p, bo, s2, ws, hc, _⟩ := arrAt_cons (by simpa using ha)
    rw [modArr_cell hc]
    split
    · rename_i hin
      obtain ⟨rfl, rfl⟩ := hin
      rw [hc] at h; cases h
    · exact h

theorem splitC_ok (hh : HR cx w A rs) (hf : Fr cx w0 w) (hi : ∀ r R, rs r = some R → D r) {n : Nat} {v : AV} {x : Value} (h : PR D A rs w v x) (hid : ¬ D n) (hD : ∀ r, D r → D' r) (hid' : D' n) :
    ∃ A', Step cx w0 D D' A rs w A' (splitC n rs v).2.1 w ∧ PR D' A' (splitC n rs v).2.1 w (splitC n rs v).1 x ∧ (∀ p ∈ (splitC n rs v).2.2, HoleE D' A' (splitC n rs v).2.1 w p) ∧ ∀ p, HoleE D A rs w p → HoleE D' A' (splitC n rs v).2.1 w p := by
  have same : ∃ A', Step cx w0 D D' A rs w A' rs w ∧ PR D' A' rs w v x ∧ (∀ p ∈ ([] : List Pl), HoleE D' A' rs w p) ∧ ∀ p, HoleE D A rs w p → HoleE D' A' rs w p :=
    ⟨A, Step.refl hh hf hi hD, h.mono hD (RsLe.refl _ _ _) (fun _ _ h => h), (fun p hp => by cases hp), fun p hp => ⟨hD _ hp.1, hD _ hp.2.1, hp.2.2.1, hp.2.2.2⟩⟩
  unfold splitC
  split
  · rename_i r q pv sz off len
    split
    · exact same
    · rename_i q' i c hu
      split
      · rename_i R sz' ys hl
        obtain ⟨hr, ha⟩ := look_some hl
        have hq := unsnoc_some hu
        subst hq
        have ha' : arrAt R.sz (!R.own) R.xs (q' ++ [(i, c)]) = some (sz', false, ys) := Root.arr_of ha
        have hrn : r ≠ n := fun e => hid (e ▸ hi r R hr)
        obtain ⟨A', st, _, hA⟩ := split_step (D' := D') hh hf hi hr ha' hid hD hid'
        have hnew : up' (up' rs r (some { R with pv := R.pv, xs := dropAt R.xs q' i c })) n (some ⟨true, sz', 0, ys⟩) r = some { R with pv := R.pv, xs := dropAt R.xs q' i c } := by rw [up'_ne _ _ hrn, up'_same]
        have keep : ∀ p : Pl, D p.r → ∀ R2, up' (up' rs r (some { R with pv := R.pv, xs := dropAt R.xs q' i c })) n (some ⟨true, sz', 0, ys⟩) p.r = some R2 → (∀ R0, rs p.r = some R0 → cellAt R0.xs p.i p.c = some .undef) → cellAt R2.xs p.i p.c = some .undef := fun p hDp R2 e hE => by
          have hpn : p.r ≠ n := fun e => hid (e ▸ hDp)
          rw [up'_ne _ _ hpn] at e
          by_cases e2 : p.r = r
          · rw [e2, up'_same] at e
            injection e with e; subst e
            exact drop_undef ha' (hE R (by rw [e2]; exact hr))
          · rw [up'_ne _ _ e2] at e
            exact hE R2 e
        refine ⟨A', st, ?_, fun p hp => ?_, fun p ⟨p1, p2, p3, p4⟩ => ⟨hD _ p1, hD _ p2, p3.step p1 p2 st (fun R0 R2 e1 e2 _ => p4 R0 e1), fun R2 e => keep p p1 R2 e p4⟩⟩
        · simp only [PR] at h ⊢
          obtain ⟨_, b, cap, h2, h3, h4, h5⟩ := h
          refine ⟨hid', b, cap, h2, h3, h4, fun R2 hR2 => ⟨fun e => absurd rfl e, fun s ro zs hz => ?_⟩⟩
          rw [up'_same] at hR2
          injection hR2 with hR2; subst hR2
          simp only [Root.arr, Option.some.injEq, Prod.mk.injEq] at hz
          obtain ⟨rfl, rfl, rfl⟩ := hz
          obtain ⟨_, h6⟩ := h5 R hr
          have h7 := h6 sz' false ys ha
          rw [hA]
          have e : (A r).from' (q' ++ [(i, c)]) [] = A r (q' ++ [(i, c)]) := by simp [Gh.from']
          rw [e]
          exact h7
        · split at hp
          · rename_i hcond
            rw [List.mem_singleton] at hp
            subst hp
            simp only [Bool.and_eq_true, List.isEmpty_iff] at hcond
            obtain ⟨rfl, hdf⟩ := hcond
            have hown : R.own = true := own_of ha'
            obtain ⟨p, bo, s2, ws, hc, h2⟩ := arrAt_cons (by simpa using ha')
            simp only [arrAt, Option.some.injEq, Prod.mk.injEq] at h2
            obtain ⟨rfl, hro, rfl⟩ := h2
            have hp : p = false := by
              cases p with
              | false => rfl
              | true => rw [hc] at hdf; cases hdf
            subst hp
            have hbo : bo = false := by cases bo with
              | false => rfl
              | true => rw [Bool.or_true] at hro; cases hro
            subst hbo
            have ht := (hh.tree r R hr).top
            have hcell : cellAt (dropAt R.xs [] i c) i c = some .undef := by
              obtain ⟨el, h1, h2⟩ := cellAt_some hc
              have hcl : c < el.length := (List.getElem?_eq_some_iff.1 h2).1
              unfold dropAt
              simp only [modArr]
              rw [setEl_cell h1 (by simp; omega)]
              simp
            refine ⟨hD r (hi r R hr), hid', fun R2 Ri a1 a2 a3 a4 a5 a6 => ?_, fun R2 a1 => ?_⟩
            · simp only at a1 a2
              rw [hnew] at a1; injection a1 with a1; subst a1
              rw [up'_same] at a2; injection a2 with a2; subst a2
              have h3 := ht.2
              obtain ⟨R3, e1, _, _, _, _, e6, _⟩ := st.le.2 r _ (hi r R hr) hnew
              cases eB : A r [] with
              | none => rw [eB] at h3; simp only at h3; rw [h3] at hc; simp [cellAt] at hc
              | some y =>
                obtain ⟨b, o⟩ := y
                rw [eB] at h3
                obtain ⟨cur, g1, g2⟩ := h3
                obtain ⟨v, k1, _, k3⟩ := g2 i c _ hc
                rw [hown] at g1
                refine ⟨b, o, cur, v, e6.trans eB, g1, k1, ?_⟩
                simp only [CellR] at k3
                rw [hA]
                exact k3
            · simp only at a1
              rw [hnew] at a1; injection a1 with a1; subst a1
              exact hcell
          · cases hp
      · exact same
  · exact same

theorem splitCs_ok : ∀ {cs : List AV} {xs : List Value} {n : Nat} {D : Nat → Prop} {A : Nat → Gh} {rs : Rs}, HR cx w A rs → Fr cx w0 w → (∀ r R, rs r = some R → D r) → Pw (PR D A rs w) cs xs → (∀ j, j < cs.length → ¬ D (n + j)) → ∀ {D' : Nat → Prop}, (∀ r, D r → D' r) → (∀ j, j < cs.length → D' (n + j)) →
    ∃ A', Step cx w0 D D' A rs w A' (splitCs n rs cs).2.1 w ∧ Pw (PR D' A' (splitCs n rs cs).2.1 w) (splitCs n rs cs).1 xs ∧ (∀ p ∈ (splitCs n rs cs).2.2, HoleE D' A' (splitCs n rs cs).2.1 w p) ∧ ∀ p, HoleE D A rs w p → HoleE D' A' (splitCs n rs cs).2.1 w p
  | [], xs, n, D, A, rs, hh, hf, hi, h, hn, D', hD, hn' => by
    rw [h.nil_inv]
    exact ⟨A, Step.refl hh hf hi hD, Pw.nil, (fun p hp => by cases hp), fun p hp => ⟨hD _ hp.1, hD _ hp.2.1, hp.2.2.1, hp.2.2.2⟩⟩
  | c :: cs, xs, n, D, A, rs, hh, hf, hi, h, hn, D', hD, hn' => by
    obtain ⟨x, xs', rfl, h1, h2⟩ := h.head
    have h0 : ¬ D n := by have := hn 0 (by simp); simpa using this
    obtain ⟨A1, st1, p1, q1, k1⟩ := splitC_ok (D' := fun r => D r ∨ r = n) hh hf hi h1 h0 (fun r hr => .inl hr) (.inr rfl)
    have h2' := h2.mono (R' := PR (fun r => D r ∨ r = n) A1 (splitC n rs c).2.1 w) fun _ _ h => h.mono (fun r hr => .inl hr) st1.le st1.big
    have hDm : ∀ r, (D r ∨ r = n) → D' r := fun r hr => by
      rcases hr with hr | rfl
      · exact hD r hr
      · have := hn' 0 (by simp); simpa using this
    obtain ⟨A2, st2, p2, q2, k2⟩ := splitCs_ok (n := n + 1) (D' := D') st1.heap st1.fr st1.ids h2' (fun j hj hd => by
      rcases hd with hd | hd
      · exact hn (j + 1) (by simpa using hj) (by rwa [show n + (j + 1) = n + 1 + j by omega])
      · omega) hDm (fun j hj => by have := hn' (j + 1) (by simpa using hj); rwa [show n + (j + 1) = n + 1 + j by omega] at this)
    refine ⟨A2, st1.trans st2 (fun r hr => .inl hr), Pw.cons ?_ p2, fun p hp => ?_, fun p hp => k2 p (k1 p hp)⟩
    · exact p1.mono hDm st2.le st2.big
    · simp only [splitCs, List.mem_append] at hp
      rcases hp with hp | hp
      · exact k2 p (q1 p hp)
      · exact q2 p hp

theorem splitV_ok (hh : HR cx w A rs) (hf : Fr cx w0 w) (hi : ∀ r R, rs r = some R → D r) {n : Nat} {v : AV} {x : Value} (h : VR D A rs w v x) (hn : ∀ j, j < 16 → ¬ D (n + j)) (hD : ∀ r, D r → D' r) (hn' : ∀ j, j < 16 → D' (n + j)) {p : AV × Rs × List Pl} (he : splitV n rs v = some p) :
    ∃ A', Step cx w0 D D' A rs w A' p.2.1 w ∧ VR D' A' p.2.1 w p.1 x ∧ (∀ y ∈ p.2.2, HoleE D' A' p.2.1 w y) ∧ ∀ y, HoleE D A rs w y → HoleE D' A' p.2.1 w y := by
  have h0 : ¬ D n := by have := hn 0 (by omega); simpa using this
  have h0' : D' n := by have := hn' 0 (by omega); simpa using this
  have same : ∃ A', Step cx w0 D D' A rs w A' rs w ∧ VR D' A' rs w v x ∧ (∀ y ∈ ([] : List Pl), HoleE D' A' rs w y) ∧ ∀ y, HoleE D A rs w y → HoleE D' A' rs w y :=
    ⟨A, Step.refl hh hf hi hD, h.mono hD (RsLe.refl _ _ _) (fun _ _ h => h) (Still.refl _ _ _), (fun p hp => by cases hp), fun p hp => ⟨hD _ hp.1, hD _ hp.2.1, hp.2.2.1, hp.2.2.2⟩⟩
  have cell : PR D A rs w v x → ∃ A', Step cx w0 D D' A rs w A' (splitC n rs v).2.1 w ∧ VR D' A' (splitC n rs v).2.1 w (splitC n rs v).1 x ∧ (∀ y ∈ (splitC n rs v).2.2, HoleE D' A' (splitC n rs v).2.1 w y) ∧ ∀ y, HoleE D A rs w y → HoleE D' A' (splitC n rs v).2.1 w y := fun h => by
    obtain ⟨A', st, p, q, k⟩ := splitC_ok (D' := D') hh hf hi h h0 hD h0'
    exact ⟨A', st, p.vr, q, k⟩
  cases v with
  | agg cs =>
    simp only [splitV] at he
    split at he
    · rename_i hl
      injection he with he; subst he
      obtain ⟨c, h1, h2⟩ := h.agg
      obtain ⟨A', st, p, q, k⟩ := splitCs_ok (D' := D') hh hf hi h2 (fun j hj => hn j (by omega)) hD (fun j hj => hn' j (by omega))
      exact ⟨A', st, by simp only [VR, V1]; exact ⟨c, h1, p⟩, q, k⟩
    · cases he
  | tup vs => simp only [splitV, Option.some.injEq] at he; subst he; exact same
  | fn f cs => simp only [splitV, Option.some.injEq] at he; subst he; exact same
  | bx cs c => simp only [splitV, Option.some.injEq] at he; subst he; exact same
  | _ => simp only [splitV, Option.some.injEq] at he; subst he; exact cell (by simpa only [VR, V1] using h)

theorem SR.stepped (h : SR cx w0 N D A tm rs a w) {A' : Nat → Gh} {rs' : Rs} (st : Step cx w0 D D' A rs w A' rs' w) (hD : ∀ r, D r → D' r) : SR cx w0 N D' A' tm rs' a w :=
  ⟨st.heap, fun t' => (h.tmps t').mono hD st.le st.big st.still, st.ids, h.size, h.defers, st.fr, h.big, fun k hk => hD k (h.low k hk), fun k hk R' e => by
    obtain ⟨R, e1, _, e3, e4, e5, e6, _⟩ := st.le.2 k R' (h.low k hk) e
    obtain ⟨R0, g1, g2, g3, g4, g5⟩ := h.kept k hk R e1
    exact ⟨R0, g1, g2.trans e3, g3.trans e4, g4.trans e5, e6.trans g5⟩⟩

theorem SR.pre (h : SR cx w0 N D A tm rs a w) {A' : Nat → Gh} {rs' : Rs} (st : Step cx w0 D D' A rs w A' rs' w) (hD : ∀ r, D r → D' r) {t : Nat} {av : AV} (hv : VR D' A' rs' w av (a.tmps.getD t undef)) :
    SR cx w0 N D' A' (up' tm t av) rs' a w := by
  have h' := h.stepped st hD
  refine ⟨h'.heap, fun t' => ?_, h'.ids, h'.size, h'.defers, h'.fr, h'.big, h'.low, h'.kept⟩
  by_cases e : t' = t
  · subst e; rw [up'_same]; exact hv
  · rw [up'_ne _ _ e]; exact h'.tmps t'

theorem splitTs_ok : ∀ {s : List Nat} {n : Nat} {D : Nat → Prop} {A : Nat → Gh} {tm : Tm} {rs : Rs}, SR cx w0 N D A tm rs a w → ∀ {p : Tm × Rs × List Pl}, splitTs n tm rs s = some p → (∀ j, j < 16 * s.length → ¬ D (n + j)) →
    ∃ A', SR cx w0 N (fun r => D r ∨ n ≤ r ∧ r < n + 16 * s.length) A' p.1 p.2.1 a w ∧ (∀ y ∈ p.2.2, HoleE (fun r => D r ∨ n ≤ r ∧ r < n + 16 * s.length) A' p.2.1 w y) ∧ ∀ y, HoleE D A rs w y → HoleE (fun r => D r ∨ n ≤ r ∧ r < n + 16 * s.length) A' p.2.1 w y
  | [], n, D, A, tm, rs, h, p, he, hn => by
    simp only [splitTs, Option.some.injEq] at he
    subst he
    exact ⟨A, h.mono fun r hr => .inl hr, fun y hy => (by cases hy), fun y hy => ⟨.inl hy.1, .inl hy.2.1, hy.2.2.1, hy.2.2.2⟩⟩
  | t :: s, n, D, A, tm, rs, h, p, he, hn => by
    simp only [splitTs, Option.bind_eq_some_iff, Option.map_eq_some_iff] at he
    obtain ⟨q, h1, q2, h2, h3⟩ := he
    subst h3
    obtain ⟨A1, st, hv, j1, j2⟩ := splitV_ok (D' := fun r => D r ∨ n ≤ r ∧ r < n + 16) h.heap h.fr h.ids (h.tmps t) (fun j hj => hn j (by simp only [List.length_cons]; omega)) (fun r hr => .inl hr) (fun j hj => .inr ⟨by omega, by omega⟩) h1
    obtain ⟨A2, h3, j3, j4⟩ := splitTs_ok (n := n + 16) (h.pre st (fun r hr => .inl hr) hv) h2 (fun j hj hd => by
      rcases hd with hd | hd
      · exact hn (j + 16) (by simp only [List.length_cons]; omega) (by rwa [show n + (j + 16) = n + 16 + j by omega])
      · omega)
    have hsub : ∀ r, ((D r ∨ n ≤ r ∧ r < n + 16) ∨ n + 16 ≤ r ∧ r < n + 16 + 16 * s.length) → (D r ∨ n ≤ r ∧ r < n + 16 * (t :: s).length) := fun r hr => by
      rcases hr with (hr | hr) | hr
      · exact .inl hr
      · exact .inr ⟨hr.1, by simp only [List.length_cons]; omega⟩
      · exact .inr ⟨by omega, by simp only [List.length_cons]; omega⟩
    refine ⟨A2, h3.mono hsub, fun y hy => ?_, fun y hy => ?_⟩
    · rcases List.mem_append.1 hy with hy | hy
      · have := j4 y (j1 y hy)
        exact ⟨hsub _ this.1, hsub _ this.2.1, this.2.2.1, this.2.2.2⟩
      · have := j3 y hy
        exact ⟨hsub _ this.1, hsub _ this.2.1, this.2.2.1, this.2.2.2⟩
    · have := j4 y (j2 y hy)
      exact ⟨hsub _ this.1, hsub _ this.2.1, this.2.2.1, this.2.2.2⟩

theorem splitVs_ok : ∀ {cs : List AV} {xs : List Value} {n : Nat} {D : Nat → Prop} {A : Nat → Gh} {rs : Rs}, HR cx w A rs → Fr cx w0 w → (∀ r R, rs r = some R → D r) → Pw (VR D A rs w) cs xs → (∀ j, ¬ D (n + j)) → ∀ {p : List AV × Rs}, splitVs n rs cs = some p →
    ∃ D' A', Step cx w0 D D' A rs w A' p.2 w ∧ (∀ r, D r → D' r) ∧ Pw (VR D' A' p.2 w) p.1 xs
  | [], xs, n, D, A, rs, hh, hf, hi, h, hn, p, he => by
    simp only [splitVs, Option.some.injEq] at he
    subst he
    rw [h.nil_inv]
    exact ⟨D, A, Step.refl hh hf hi fun _ h => h, fun _ h => h, Pw.nil⟩
  | c :: cs, xs, n, D, A, rs, hh, hf, hi, h, hn, p, he => by
    obtain ⟨x, xs', rfl, h1, h2⟩ := h.head
    simp only [splitVs, Option.bind_eq_some_iff, Option.map_eq_some_iff] at he
    obtain ⟨q, e1, q', e2, e3⟩ := he
    subst e3
    obtain ⟨A1, st1, p1, _⟩ := splitV_ok (D' := fun r => D r ∨ n ≤ r ∧ r < n + 16) hh hf hi h1 (fun j _ => hn j) (fun r hr => .inl hr) (fun j hj => .inr ⟨by omega, by omega⟩) e1
    obtain ⟨D2, A2, st2, hD2, p2⟩ := splitVs_ok (n := n + 16) st1.heap st1.fr st1.ids (h2.mono fun _ _ h => h.mono (fun r hr => .inl hr) st1.le st1.big st1.still) (fun j hd => by
      rcases hd with hd | hd
      · exact hn (16 + j) (by rwa [← Nat.add_assoc])
      · omega) e2
    exact ⟨D2, A2, st1.trans st2 (fun r hr => .inl hr), fun r hr => hD2 r (.inl hr), Pw.cons (p1.mono hD2 st2.le st2.big st2.still) p2⟩

/-! ### Back to their places -/
theorem regraft_step (hh : HR cx w A rs) (hf : Fr cx w0 w) (hi : ∀ r R, rs r = some R → D r) {p : Pl} (hp : Hole A rs w p) : ∃ A', Step cx w0 D D A rs w A' (regraft rs p) w := by
  have same : ∃ A', Step cx w0 D D A rs w A' rs w := ⟨A, Step.refl hh hf hi fun _ h => h⟩
  unfold regraft
  split
  · rename_i R Ri h1 h2
    split
    · rename_i hcell
      split
      · rename_i hc
        obtain ⟨c1, c2, c3⟩ := hc
        obtain ⟨b, o, cur, v, k1, k2, k3, k4⟩ := hp R Ri h1 h2 hcell c1 c2 c3
        obtain ⟨el, e1, e2⟩ := cellAt_some hcell
        have hcl : p.c < el.length := (List.getElem?_eq_some_iff.1 e2).1
        have hv : PR D A rs w (.slc p.id [] 0 Ri.sz 0 Ri.xs.length) v := by
          simp only [PR]
          refine ⟨hi _ _ h2, ?_⟩
          cases eA : A p.id [] with
          | none =>
            rw [eA] at k4
            simp only [HdR] at k4
            obtain ⟨a1, x, a2⟩ := k4
            refine ⟨x, 0, by rw [a2, a1], by omega, fun _ => rfl, fun R' hR' => ⟨fun e => absurd rfl e, fun s ro ys ha => ?_⟩⟩
            rw [h2] at hR'; injection hR' with hR'; subst hR'
            simp only [Root.arr, Option.some.injEq, Prod.mk.injEq] at ha
            obtain ⟨rfl, _, rfl⟩ := ha
            exact ⟨rfl, by omega, .inl ⟨rfl, by omega⟩⟩
          | some y =>
            obtain ⟨b', o'⟩ := y
            rw [eA] at k4
            simp only [HdR] at k4
            obtain ⟨cap, a1, a2, a3⟩ := k4
            refine ⟨_, cap, a1, a2, fun e => (by cases e), fun R' hR' => ⟨fun e => absurd rfl e, fun s ro ys ha => ?_⟩⟩
            rw [h2] at hR'; injection hR' with hR'; subst hR'
            simp only [Root.arr, Option.some.injEq, Prod.mk.injEq] at ha
            obtain ⟨rfl, rfl, rfl⟩ := ha
            exact ⟨rfl, by omega, .inr ⟨b', o', rfl, by simp, by rw [Nat.zero_add, c2]; exact a3, by omega⟩⟩
        have hsk : sinks rs [.slc p.id [] 0 Ri.sz 0 Ri.xs.length] = some ([.deep false false Ri.sz Ri.xs], [p.id]) := by
          simp only [sinks, sink, look, h2, Root.arr, Option.bind_some, Option.map_some, c2, Bool.not_true, Bool.false_eq_true, if_false, wnd, List.drop_zero, List.take_length, List.append_nil]
        obtain ⟨G, ass, hd, has, hlass⟩ := sinks_ok hh (Pw.cons hv Pw.nil) hsk
        have harr : arrAt R.sz (!R.own) R.xs [] = some (R.sz, false, R.xs) := by simp only [arrAt, c1, Bool.not_true]
        have hlt : o + p.i * R.sz + p.c < cur.size := (Array.getElem?_eq_some_iff.1 k3).1
        obtain ⟨A', st⟩ := set_step (D' := D) (i := p.i) (c := p.c) hh hf hi h1 harr k1 k2 e1 hd (by simp; omega) (by rw [← has]; simp; exact c3) (by rw [← has]; simp) (by simp; omega) (fun _ h => h)
        have hw : (cur.toList.take (o + p.i * R.sz + p.c) ++ [v] ++ cur.toList.drop (o + p.i * R.sz + p.c + [v].length)).toArray = cur := by
          apply Array.ext'
          simp only [List.length_singleton]
          have hl : o + p.i * R.sz + p.c < cur.toList.length := by simpa using hlt
          have hv' : cur.toList[o + p.i * R.sz + p.c] = v := by
            have : cur.toList[o + p.i * R.sz + p.c]? = some v := by rw [Array.getElem?_toList]; exact k3
            rw [List.getElem?_eq_getElem hl] at this
            injection this
          rw [List.append_assoc, List.singleton_append, ← hv', List.getElem_cons_drop, List.take_append_drop]
        rw [hw, setRow_self k2, ← has] at st
        refine ⟨A', ?_⟩
        have hany : anyDeep [AV.deep false false Ri.sz Ri.xs] = true := rfl
        rw [hany, if_pos rfl] at st
        simp only [modArr] at st
        exact st
      · exact same
    · exact same
  · exact same

theorem regraft_or (rs : Rs) (p : Pl) : regraft rs p = rs ∨ ∃ R Ri : Root, rs p.r = some R ∧ cellAt R.xs p.i p.c = some .undef ∧ regraft rs p = up' (kill rs [p.id]) p.r (some { R with pv := R.pv + 1, xs := setEl R.xs p.i p.c [.deep false false Ri.sz Ri.xs] }) := by
  cases h1 : rs p.r with
  | none => left; simp only [regraft, h1]
  | some R =>
    cases h2 : rs p.id with
    | none => left; simp only [regraft, h1, h2]
    | some Ri =>
      cases h3 : cellAt R.xs p.i p.c with
      | none => left; simp only [regraft, h1, h2, h3]
      | some v =>
        cases v with
        | undef =>
          by_cases hc : R.own = true ∧ Ri.own = true ∧ p.r ≠ p.id
          · right; exact ⟨R, Ri, rfl, h3, by simp only [regraft, h1, h2, h3]; rw [if_pos hc]⟩
          · left; simp only [regraft, h1, h2, h3]; rw [if_neg hc]
        | _ => left; simp only [regraft, h1, h2, h3]

theorem regraft_cell {p p2 : Pl} {R R' : Root} (h : rs p2.r = some R) (h' : regraft rs p p2.r = some R') (hc : cellAt R'.xs p2.i p2.c = some .undef) : cellAt R.xs p2.i p2.c = some .undef := by
  have same : rs p2.r = some R' → cellAt R.xs p2.i p2.c = some .undef := fun e => by rw [h] at e; injection e with e; rw [e]; exact hc
  rcases regraft_or rs p with e0 | ⟨R1, Ri, h1, hcell, e0⟩
  · rw [e0] at h'; exact same h'
  · rw [e0] at h'
    by_cases e : p2.r = p.r
    · rw [e, up'_same] at h'
      injection h' with h'; subst h'
      rw [e, h1] at h; injection h with h; subst h
      obtain ⟨el, e1, e2⟩ := cellAt_some hcell
      have hcl : p.c < el.length := (List.getElem?_eq_some_iff.1 e2).1
      simp only at hc
      rw [setEl_cell e1 (by simp; omega)] at hc
      split at hc
      · rename_i hin
        have : p2.c - p.c = 0 := by simp at hin; omega
        rw [this] at hc; simp at hc
      · exact hc
    · rw [up'_ne _ _ e] at h'
      exact same (kill_some h').2

theorem grafts_ok : ∀ {pl : List Pl} {A : Nat → Gh} {rs : Rs}, SR cx w0 N D A tm rs a w → (∀ p ∈ pl, D p.r ∧ D p.id ∧ Hole A rs w p) → ∃ A', SR cx w0 N D A' tm (pl.foldl regraft rs) a w
  | [], A, rs, h, _ => ⟨A, h⟩
  | p :: pl, A, rs, h, hp => by
    obtain ⟨A1, st⟩ := regraft_step h.heap h.fr h.ids (hp p (by simp)).2.2
    exact grafts_ok (pl := pl) (h.stepped st fun _ h => h) fun p2 hp2 => by
      obtain ⟨g1, g2, g3⟩ := hp p2 (by simp [hp2])
      exact ⟨g1, g2, g3.step g1 g2 st fun R R' e1 e2 e3 => regraft_cell e1 e2 e3⟩

/-- A hole, behind a call. -/
theorem Hole.call {p : Pl} {A' : Nat → Gh} {rs' : Rs} {w' : World} (h : Hole A rs w p) (h1 : D p.r) (h2 : D p.id) (st : Step cx w0 D D' A rs w A' rs' w') (hk : Keep A rs w A' rs' w') (hs : same rs rs' p = true) : Hole A' rs' w' p := fun R' Ri' a1 a2 a3 a4 a5 a6 => by
  obtain ⟨R, e1, _, e3, e4, e5, e6, _⟩ := st.le.2 p.r R' h1 a1
  obtain ⟨Ri, g1, _, g3, g4, g5, g6, _⟩ := st.le.2 p.id Ri' h2 a2
  have hpv : R'.pv = R.pv := by
    simp only [same, e1, a1, beq_iff_eq] at hs
    exact hs.symm
  obtain ⟨m1, m2, m3⟩ := hk p.r R R' e1 a1 hpv
  obtain ⟨b, o, cur, v, k1, k2, k3, k4⟩ := h R Ri e1 g1 (by rw [← m1]; exact a3) (e4.trans a4) (g4.trans a5) a6
  have hb := m3 false [] b ⟨R.sz, R.xs, o, by simp only [arrAt, e4, a4, Bool.not_true], k1⟩
  obtain ⟨ty, fr, b1, b2⟩ := k2
  exact ⟨b, o, cur, v, e6.trans k1, ⟨ty, fr, by rw [hb]; exact b1, b2⟩, by rw [← e3]; exact k3, by rw [g6, ← g3, ← g5]; exact k4.mono fun b _ m _ => st.big b m⟩

/-- One operation, carried out or not. -/
theorem oper_step (h : SR cx w0 N D A tm rs a w) {call : CallF} (hctr : ∀ f ds out, call f ds = some out → funcOk P f = true ∧ Ctr P f ds out) {fresh : Nat} {s : Tm × Rs} (he : evOp call fresh o' (tm, rs) = some s) (ho : operOk P N ops o o' = true)
    (hfree : ∀ j, j < idw → ¬ D (fresh + j)) (hD : ∀ r, D r → D' r) (hD' : ∀ j, j < idw → D' (fresh + j)) {next : Act → World → Prop} {Q : Exit → Act → World → Prop}
    (hn : ∀ A' a' w', SR cx w0 N D' A' s.1 s.2 a' w' → next a' w') :
    if Region.wanted o (yielded ops a.tmps) then o.wp P a w next Q else next (a.put o.dst undef) w := by
  simp only [operOk, Bool.and_eq_true, beq_iff_eq, Option.all_eq_true, decide_eq_true_eq] at ho
  obtain ⟨⟨⟨h1, h2⟩, h3⟩, h4⟩ := ho
  rw [evOp_opv] at he
  unfold opv at he
  cases hw : wants tm o'.g with
  | none => rw [hw] at he; cases he
  | some b =>
    rw [hw] at he
    rw [wanted_of h h3 hw]
    simp only [Option.bind_some] at he
    cases b with
    | true =>
      simp only [if_true, Option.map_eq_some_iff, Option.bind_eq_some_iff] at he ⊢
      obtain ⟨p, ⟨s', hs', q, e1, e2⟩, e3⟩ := he
      subst e3; subst e2
      split at hs'
      case isFalse => cases hs'
      rename_i hlen
      obtain ⟨A1, h1', hol, _⟩ := splitTs_ok h hs' (fun j hj => by rw [Nat.add_assoc]; exact hfree (16 + j) (by simp only [idw]; omega))
      have f1 : ∀ j, j < 16 → ¬ (D (fresh + j) ∨ fresh + 16 ≤ fresh + j ∧ fresh + j < fresh + 16 + 16 * o'.s.length) := fun j hj hd => by
        rcases hd with hd | hd
        · exact hfree j (by simp only [idw]; omega) hd
        · omega
      have f2 : ∀ r, (D r ∨ fresh + 16 ≤ r ∧ r < fresh + 16 + 16 * o'.s.length) → D' r := fun r hr => by
        rcases hr with hr | hr
        · exact hD r hr
        · have := hD' (r - fresh) (by simp only [idw]; omega)
          rwa [show fresh + (r - fresh) = r by omega] at this
      have f3 : ∀ j, j < 16 → D' (fresh + j) := fun j hj => hD' j (by simp only [idw]; omega)
      cases hic : o'.i.isCall with
      | false =>
        simp only [hic, Bool.false_eq_true, if_false] at hn ⊢
        exact sim_op (D' := D') h1' hctr e1 h4 h2 f1 f2 f3 fun A' v w' hs _ => hn A' _ w' (by rw [h1] at hs ⊢; exact hs)
      | true =>
        simp only [hic, if_true] at hn ⊢
        refine sim_call (D' := D') h1' hctr e1 h4 hic h2 f1 f2 f3 fun A' v w' hs st hk => ?_
        rw [h1] at hs ⊢
        obtain ⟨A2, h5⟩ := grafts_ok (pl := s'.2.2.filter (same s'.2.1 q.2)) hs fun p hp => by
          rw [List.mem_filter] at hp
          obtain ⟨g1, g2, g3, _⟩ := hol p hp.1
          exact ⟨f2 _ g1, f2 _ g2, g3.call g1 g2 st hk hp.2⟩
        exact hn A2 _ w' h5
    | false =>
      simp only [Bool.false_eq_true, if_false, Option.map_some, Option.some.injEq] at he ⊢
      subst he
      have st := Step.refl (D' := D') h.heap h.fr h.ids hD
      have hu : VR D' A rs w (.tup []) undef := by simp only [VR, undef]; exact ⟨#[], rfl, Pw.nil⟩
      have := h.step st hD h2 hu
      rw [h1] at this ⊢
      exact hn A _ w this

/-! ### In the order of the text -/
theorem wpList_ev {call : CallF} (hctr : ∀ f ds out, call f ds = some out → funcOk P f = true ∧ Ctr P f ds out) {Q : Exit → Act → World → Prop} {r : Tm × Rs} {top : Nat}
    (hQ : ∀ A' a' w', SR cx w0 N (· < top) A' r.1 r.2 a' w' → Q .normal a' w') : ∀ {l : List Oper} {l' : List Op'} {n : Nat} {A : Nat → Gh} {tm : Tm} {rs : Rs} {a : Act} {w : World},
    SR cx w0 N (· < n) A tm rs a w → n + l'.length * idw = top → opersOk P N ops l l' = true → evOps call n l' (tm, rs) = some r → wpList P ops Q l a w
  | [], [], n, A, tm, rs, a, w, h, ht, hok, he => by
    simp only [evOps, Option.some.injEq] at he
    subst he
    simp only [List.length_nil, Nat.zero_mul, Nat.add_zero] at ht
    subst ht
    exact wpList_nil (hQ A a w h)
  | o :: l, o' :: l', n, A, tm, rs, a, w, h, ht, hok, he => by
    simp only [opersOk, Bool.and_eq_true] at hok
    simp only [evOps, Option.bind_eq_some_iff] at he
    obtain ⟨s, h1, h2⟩ := he
    refine wpList_step fun K hK => oper_step (D' := (· < n + idw)) h hctr h1 hok.1 (fun j hj => by simp) (fun r hr => by show r < n + idw; have : r < n := hr; omega) (fun j hj => by show n + j < n + idw; omega) fun A' a' w' hs => hK _ _ ?_
    exact wpList_ev hctr hQ hs (by simp only [List.length_cons, Nat.add_mul, Nat.one_mul] at ht; omega) hok.2 h2
  | [], _ :: _, _, _, _, _, _, _, _, _, hok, _ => by simp [opersOk] at hok
  | _ :: _, [], _, _, _, _, _, _, _, _, hok, _ => by simp [opersOk] at hok

/-! ### In whatever order -/
def Dl (n : Nat) (L : Array Bool) (r : Nat) : Prop := r < n ∨ ∃ k, L.getD k false = true ∧ n + k * idw ≤ r ∧ r < n + k * idw + idw

theorem opersOk_get : ∀ {l : List Oper} {l' : List Op'}, opersOk P N ops l l' = true → l.length = l'.length ∧ ∀ {i : Nat} {o : Oper} {o' : Op'}, l[i]? = some o → l'[i]? = some o' → operOk P N ops o o' = true
  | [], [], _ => ⟨rfl, fun h => by simp at h⟩
  | o :: l, o' :: l', h => by
    simp only [opersOk, Bool.and_eq_true] at h
    obtain ⟨h1, h2⟩ := opersOk_get h.2
    refine ⟨by simp [h1], fun {i p p'} e e' => ?_⟩
    cases i with
    | zero => simp only [List.getElem?_cons_zero, Option.some.injEq] at e e'; subst e; subst e'; exact h.1
    | succ i => exact h2 (by simpa using e) (by simpa using e')
  | [], _ :: _, h => by simp [opersOk] at h
  | _ :: _, [], h => by simp [opersOk] at h

theorem wpAny_ev {call : CallF} (hctr : ∀ f ds out, call f ds = some out → funcOk P f = true ∧ Ctr P f ds out) {Q : Exit → Act → World → Prop} {r : Tm × Rs} {n : Nat} {l : List Op'} {md : Region.Mode} (hok : opersOk P N ops ops.toList l = true)
    (hQ : ∀ A' a' w', SR cx w0 N (· < n + l.length * idw) A' r.1 r.2 a' w' → Q .normal a' w') : ∀ {f : Nat} {L : Array Bool} {A : Nat → Gh} {s : Tm × Rs} {a : Act} {w : World},
    SR cx w0 N (Dl n L) A s.1 s.2 a w → L.size = ops.size → AnyOrd call n md ops l f L s r → wpAny P md ops Q f L a w := by
  have hlen : l.length = ops.size := (opersOk_get hok).1.symm.trans (Array.length_toList)
  have fin : ∀ {L : Array Bool} {A : Nat → Gh} {s : Tm × Rs} {a : Act} {w : World}, SR cx w0 N (Dl n L) A s.1 s.2 a w → L.size = ops.size → s = r → Q .normal a w := by
    intro L A s a w h hL e
    subst e
    refine hQ A a w (h.mono fun x hx => ?_)
    rcases hx with hx | ⟨k, hk, h1, h2⟩
    · show x < _; omega
    · have hk' : k < ops.size := by
        rcases Nat.lt_or_ge k L.size with h' | h'
        · omega
        · simp [Array.getElem?_eq_none h'] at hk
      show x < n + l.length * idw
      rw [hlen]
      simp only [idw] at *
      omega
  intro f
  induction f with
  | zero => intro L A s a w h hL H; exact ⟨H.1, fin h hL H.2⟩
  | succ f ih =>
    intro L A s a w h hL H
    refine ⟨fun h0 => fin h hL (H.1 h0), fun i hi => ?_⟩
    obtain ⟨o', s', ho', hs', hrest⟩ := H.2 i hi
    obtain ⟨hun, o, ho, _⟩ := mem_ready.1 hi
    have hi' : i < ops.size := (Array.getElem?_eq_some_iff.1 ho).1
    have hnot : L.getD i false = false := by
      have e : i < L.size := by omega
      simp [e] at hun ⊢; exact hun
    have hoo : operOk P N ops o o' = true := (opersOk_get hok).2 (by rw [Array.getElem?_toList]; exact ho) ho'
    have := oper_step (Q := Q) (next := wpAny P md ops Q f (L.setIfInBounds i true)) (D' := Dl n (L.setIfInBounds i true)) h hctr hs' hoo (fun j hj hD => ?_) (fun x hx => ?_) (fun j hj => ?_) fun A' a' w' hs => ih hs (by simp [hL]) hrest
    · unfold wpOp
      simp only [ho]
      split
      · rename_i hw; rw [if_pos hw] at this; exact .inl this
      · rename_i hw; rw [if_neg hw] at this; exact this
    · rcases hD with hD | ⟨k, hk, h1, h2⟩
      · omega
      · have : k = i := by simp only [idw] at *; omega
        subst this
        rw [hnot] at hk
        cases hk
    · rcases hx with hx | ⟨k, hk, h1, h2⟩
      · exact .inl hx
      · exact .inr ⟨k, getD_set_true hk, h1, h2⟩
    · exact .inr ⟨i, by simp [hL, hi'], by omega, by omega⟩

theorem SR.drew (h : SR cx w0 N D A tm rs a w) : SR cx w0 N D A tm rs a { w with drawn := w.drawn + 1 } :=
  ⟨h.heap.world (fun _ _ h => h) fun _ _ _ _ _ _ _ => rfl, fun t => (h.tmps t).mono (fun _ h => h) (RsLe.refl _ _ _) (fun _ _ h => h) ⟨fun _ _ _ => rfl, fun r R ρ b h k => .inr ⟨r, R, ρ, h, k⟩⟩, h.ids, h.size, h.defers, ⟨h.fr.base, h.fr.block, h.fr.os, h.fr.tape, h.fr.output⟩, h.big, h.low, h.kept⟩

theorem wp_lex {call : CallF} (h : SR cx w0 N (· < n) A tm rs a w) (hctr : ∀ f ds out, call f ds = some out → funcOk P f = true ∧ Ctr P f ds out) {id : Nat} {l : List Op'} (hok : opersOk P N ops ops.toList l = true) {r : Tm × Rs} (he : evOps call n l (tm, rs) = some r)
    {Q : Exit → Act → World → Prop} (hQ : ∀ A' a' w', SR cx w0 N (· < n + l.length * idw) A' r.1 r.2 a' w' → Q .normal a' w') : (Code.region id ops false).wp P Q a w :=
  wp_region_list (wpList_ev hctr hQ h rfl hok he)

theorem wp_draw {call : CallF} (h : SR cx w0 N (· < n) A tm rs a w) (hm : P.follows .mixedOrders = true) (hctr : ∀ f ds out, call f ds = some out → funcOk P f = true ∧ Ctr P f ds out) {id : Nat} {l : List Op'} (hok : opersOk P N ops ops.toList l = true)
    {sch : Sched} (hs : schOk .any ops l sch ops.size (Array.replicate ops.size false) none = true) {r : Tm × Rs} (he : evSch call n l sch (tm, rs) = some r)
    {Q : Exit → Act → World → Prop} (hQ : ∀ A' a' w', SR cx w0 N (· < n + l.length * idw) A' r.1 r.2 a' w' → Q .normal a' w') : (Code.region id ops true).wp P Q a w :=
  wp_region_any hm (wpAny_ev hctr hok hQ (s := (tm, rs)) (h.drew.mono fun x hx => .inl hx) (by simp) ((sch_sound he).1 hs))
end
end Go.Proofs.Ytinlbiphjgpmmaa.V
end YtinlbiphjgpmmaaWB
section YtinlbiphjgpmmaaWC
namespace Go.Proofs.Ytinlbiphjgpmmaa.V
open Go
set_option linter.unusedVariables false
set_option linter.unusedSimpArgs false

section
variable {P : Program} {D D' : Nat → Prop} {A : Nat → Gh} {rs : Rs} {w : World} {cx : Cx} {w0 : World} {N : Nat} {tm : Tm} {a : Act}

theorem tmOf_map (f : Nat → AV) : ∀ (l : List Nat) (t : Nat), tmOf (l.map fun t => (t, f t)) t = f t ∨ tmOf (l.map fun t => (t, f t)) t = .undef
  | [], t => .inr rfl
  | x :: l, t => by
    simp only [List.map_cons, tmOf]
    by_cases h : t = x
    · subst h; exact .inl (up'_same _ _ _)
    · rw [up'_ne _ _ h]; exact tmOf_map f l t

theorem VR_undef {v : Value} : VR D A rs w .undef v := by simp only [VR, V1, PR]

theorem SR.forget (h : SR cx w0 N D A tm rs a w) (live : List Nat) : SR cx w0 N D A (tmOf (live.map fun t => (t, tm t))) rs a w :=
  ⟨h.heap, fun t => (tmOf_map tm live t).elim (fun e => by rw [e]; exact h.tmps t) (fun e => by rw [e]; exact VR_undef), h.ids, h.size, h.defers, h.fr, h.big, h.low, h.kept⟩

theorem addNew_nodup (rs : Rs) : ∀ (l acc : List Nat), acc.Nodup → (addNew rs acc l).Nodup
  | [], acc, h => h
  | r :: l, acc, h => by
    unfold addNew
    split
    · rename_i hc
      exact addNew_nodup rs l _ (List.nodup_append.2 ⟨h, by simp, fun a ha b hb => by rw [List.mem_singleton] at hb; subst hb; exact fun e => hc.2 (e ▸ ha)⟩)
    · exact addNew_nodup rs l _ h
theorem order_nodup (m : Nat) (live : List Nat) (st : St) : (order m live st).Nodup := addNew_nodup _ _ _ List.nodup_range

theorem idxOf_get {l : List Nat} {r : Nat} (h : r ∈ l) : l[l.idxOf r]? = some r := by
  rw [List.getElem?_eq_getElem (List.idxOf_lt_length_of_mem h), List.getElem_idxOf]

section
variable {od : List Nat}
/-- The roots, numbered anew. -/
def rsN (rs : Rs) (od : List Nat) : Rs := rsOf (od.map fun r => (rs r).map fun R => { R with pv := 0 })
def AN (A : Nat → Gh) (od : List Nat) : Nat → Gh := fun k => match od[k]? with
  | some r => A r
  | none => fun _ => none

theorem rsN_some {k : Nat} {R' : Root} (h : rsN rs od k = some R') : ∃ r R, od[k]? = some r ∧ rs r = some R ∧ R' = { R with pv := 0 } ∧ AN A od k = A r := by
  simp only [rsN, rsOf, List.getElem?_map] at h
  cases e : od[k]? with
  | none => rw [e] at h; simp at h
  | some r =>
    rw [e] at h
    simp only [Option.map_some, Option.join_some, Option.map_eq_some_iff] at h
    obtain ⟨R, h1, h2⟩ := h
    exact ⟨r, R, rfl, h1, h2.symm, by simp only [AN, e]⟩

theorem arr_zero {R : Root} {q : Path} {pv : Nat} (hq : q ≠ [] → pv = R.pv) : ({ R with pv := 0 } : Root).arr q 0 = R.arr q pv := by
  cases q with
  | nil => rfl
  | cons p q => simp only [Root.arr, hq (by simp), if_true]

theorem good_spec {r : Nat} {q : Path} {pv : Nat} (h : good rs r q pv = true) {R : Root} (hr : rs r = some R) : q ≠ [] → pv = R.pv := by
  intro hq
  simp only [good, hr] at h
  cases q with
  | nil => exact absurd rfl hq
  | cons p q => simpa using h

theorem PR.ren {av : AV} {v : Value} (h : PR D A rs w av v) : PR (· < od.length) (AN A od) (rsN rs od) w (renC rs od av) v := by
  have at' : ∀ {r : Nat}, r ∈ od → ∀ R', rsN rs od (od.idxOf r) = some R' → ∃ R, rs r = some R ∧ R' = { R with pv := 0 } ∧ AN A od (od.idxOf r) = A r := fun hr R' h' => by
    obtain ⟨r', R, h1, h2, h3, h4⟩ := rsN_some (A := A) h'
    rw [idxOf_get hr] at h1
    injection h1 with h1; subst h1
    exact ⟨R, h2, h3, h4⟩
  cases av with
  | slc r q pv sz off len =>
    simp only [renC]
    split
    · rename_i hc
      simp only [PR] at h ⊢
      obtain ⟨h1, a, cap, h2, h3, h4, h5⟩ := h
      refine ⟨List.idxOf_lt_length_of_mem hc.1, a, cap, h2, h3, h4, fun R' hR' => ?_⟩
      obtain ⟨R, e1, e2, e3⟩ := at' hc.1 R' hR'
      obtain ⟨h6, h7⟩ := h5 R e1
      subst e2
      refine ⟨fun _ => Nat.zero_le _, fun s ro ys ha => ?_⟩
      rw [arr_zero (good_spec hc.2 e1)] at ha
      rw [e3]
      exact h7 s ro ys ha
    · simp only [PR]
  | ptr r q pv i c =>
    simp only [renC]
    split
    · rename_i hc
      simp only [PR] at h ⊢
      obtain ⟨h1, a, h2, h5⟩ := h
      refine ⟨List.idxOf_lt_length_of_mem hc.1, a, h2, fun R' hR' => ?_⟩
      obtain ⟨R, e1, e2, e3⟩ := at' hc.1 R' hR'
      obtain ⟨h6, h7⟩ := h5 R e1
      subst e2
      refine ⟨fun _ => Nat.zero_le _, fun s ro ys ha => ?_⟩
      rw [arr_zero (good_spec hc.2 e1)] at ha
      rw [e3]
      exact h7 s ro ys ha
    · simp only [PR]
  | cv k r off sz n =>
    simp only [renC]
    split
    · rename_i hc
      simp only [PR] at h ⊢
      obtain ⟨h0, cap, h1, h2⟩ := h
      refine ⟨List.idxOf_lt_length_of_mem hc, cap, h1, fun R' hR' => ?_⟩
      simp only [rsN, rsOf, List.getElem?_map, idxOf_get hc, Option.map_some, Option.join_some, Option.map_eq_some_iff] at hR'
      obtain ⟨R, e1, rfl⟩ := hR'
      simp only [AN, idxOf_get hc]
      exact h2 R e1
    · simp only [PR]
  | vp x c =>
    simp only [renC]
    split
    · rename_i hc
      simp only [PR] at h ⊢
      obtain ⟨h0, h1, b, o, h2, h3⟩ := h
      refine ⟨List.idxOf_lt_length_of_mem hc, ?_, b, o, by simp only [AN, idxOf_get hc]; exact h2, h3⟩
      simp only [rsN, rsOf, List.getElem?_map, idxOf_get hc, Option.map_some, h1, Option.map_none, Option.join_some]
    · simp only [PR]
  | _ => exact h

theorem Pw.ren {cs : List AV} {vs : List Value} (h : Pw (PR D A rs w) cs vs) : Pw (PR (· < od.length) (AN A od) (rsN rs od) w) (cs.map (renC rs od)) vs := by
  refine ⟨by rw [List.length_map]; exact h.1, fun i x hx => ?_⟩
  rw [List.getElem?_map] at hx
  simp only [Option.map_eq_some_iff] at hx
  obtain ⟨x', h1, h2⟩ := hx
  subst h2
  obtain ⟨y, h3, h4⟩ := h.2 i x' h1
  exact ⟨y, h3, h4.ren⟩

theorem VR.ren {av : AV} {v : Value} (h : VR D A rs w av v) : VR (· < od.length) (AN A od) (rsN rs od) w (renV rs od av) v := by
  have cell : ∀ {av : AV}, PR D A rs w av v → VR (· < od.length) (AN A od) (rsN rs od) w (renC rs od av) v := fun h => (PR.ren h).vr
  cases av with
  | agg cs => simp only [VR, V1, renV] at h ⊢; obtain ⟨a, h1, h2⟩ := h; exact ⟨a, h1, h2.ren⟩
  | fn f cs => simp only [VR, V1, renV] at h ⊢; obtain ⟨a, h1, h2⟩ := h; exact ⟨a, h1, h2.ren⟩
  | tup vs => simp only [renV]; exact VR_undef
  | bx cs c =>
    simp only [VR, renV] at h ⊢
    obtain ⟨b, cur, ty, h1, h2, h3, h4⟩ := h
    refine ⟨b, cur, ty, h1, h2, h3.ren, fun k R' ρ e hk => ?_⟩
    obtain ⟨r, R, g1, g2, g3, g4⟩ := rsN_some (A := A) e
    subst g3; rw [g4] at hk
    exact h4 r R ρ g2 hk
  | _ => simp only [renV]; exact cell (by simpa only [VR, V1] using h)

theorem HR.ren (hh : HR cx w A rs) (hn : od.Nodup) : HR cx w (AN A od) (rsN rs od) := by
  refine ⟨fun k R' h => ?_, fun k R' ρ b h hk => ?_, fun k R' ρ b h hk => ?_, fun k R' ρ k' R'' ρ' b h hk h' hk' => ?_⟩
  · obtain ⟨r, R, h1, h2, h3, h4⟩ := rsN_some (A := A) h
    subst h3; rw [h4]; exact hh.tree r R h2
  · obtain ⟨r, R, h1, h2, h3, h4⟩ := rsN_some (A := A) h
    subst h3; rw [h4] at hk; exact hh.own r R ρ b h2 hk
  · obtain ⟨r, R, h1, h2, h3, h4⟩ := rsN_some (A := A) h
    subst h3; rw [h4] at hk; exact hh.sta r R ρ b h2 hk
  · obtain ⟨r, R, h1, h2, h3, h4⟩ := rsN_some (A := A) h
    obtain ⟨r', R2, g1, g2, g3, g4⟩ := rsN_some (A := A) h'
    subst h3; subst g3; rw [h4] at hk; rw [g4] at hk'
    obtain ⟨e, e'⟩ := hh.inj r R ρ r' R2 ρ' b h2 hk g2 hk'
    subst e
    have hk1 := (List.getElem?_eq_some_iff.1 h1)
    have hk2 := (List.getElem?_eq_some_iff.1 g1)
    exact ⟨(List.getElem_inj hn).1 (hk1.2.trans hk2.2.symm), e'⟩
end

theorem addNew_pre (rs : Rs) : ∀ (l acc : List Nat) {k r : Nat}, acc[k]? = some r → (addNew rs acc l)[k]? = some r
  | [], acc, k, r, h => h
  | x :: l, acc, k, r, h => by
    unfold addNew
    split
    · exact addNew_pre rs l _ (by rw [List.getElem?_append_left (List.getElem?_eq_some_iff.1 h).1]; exact h)
    · exact addNew_pre rs l _ h
theorem order_low {m k : Nat} (live : List Nat) (st : St) (h : k < m) : (order m live st)[k]? = some k := addNew_pre _ _ _ (by rw [List.getElem?_range h])

theorem SR.canon {st : St} (h : SR cx w0 N D A st.tm st.rs a w) (m : Nat) (live : List Nat) (hm : cx.m0 ≤ m) : SR cx w0 N (· < (canon m live st).nx) (AN A (order m live st)) (canon m live st).tm (canon m live st).rs a w := by
  refine ⟨h.heap.ren (order_nodup m live st), fun t => ?_, fun r R e => ?_, h.size, h.defers, h.fr, h.big, fun k hk => ?_, fun k hk R' e => ?_⟩
  · simp only [V.canon]
    rcases tmOf_map (fun t => renV st.rs (order m live st) (st.tm t)) live t with e | e <;> rw [e]
    · exact (h.tmps t).ren
    · exact VR_undef
  · obtain ⟨r', R', h1, h2, h3, h4⟩ := rsN_some (A := A) e
    exact (List.getElem?_eq_some_iff.1 h1).1
  · exact (List.getElem?_eq_some_iff.1 (order_low live st (Nat.lt_of_lt_of_le hk hm))).1
  · obtain ⟨r, R, h1, h2, h3, h4⟩ := rsN_some (A := A) e
    rw [order_low live st (Nat.lt_of_lt_of_le hk hm)] at h1
    injection h1 with h1; subst h1; subst h3; rw [h4]
    exact h.kept k hk R h2
end
end Go.Proofs.Ytinlbiphjgpmmaa.V
end YtinlbiphjgpmmaaWC
section YtinlbiphjgpmmaaWD
namespace Go.Proofs.Ytinlbiphjgpmmaa.V
open Go
set_option linter.unusedVariables false
set_option linter.unusedSimpArgs false

/-- The evaluator's code is the program's. -/
def cOk (P : Program) (N M : Nat) : Code → C → Bool
  | c, .kp _ C => cOk P N M c C
  | c, .jn m _ C => decide (M ≤ m) && cOk P N M c C
  | .skip, .skip => true
  | .region _ ops d, .ops l => !d && opersOk P N ops ops.toList l
  | .region _ ops d, .draw sch l => d && (opersOk P N ops ops.toList l && schN ops l sch)
  | .seq a b, .seq a' b' => cOk P N M a a' && cOk P N M b b'
  | .cond x a b, .cond x' a' b' => xOk x x' && (cOk P N M a a' && cOk P N M b b')
  | .block i c, .blk j c' => i == j && cOk P N M c c'
  | .loop c, .loop m _ c' => decide (M ≤ m) && cOk P N M c c'
  | .exit i, .exit j => i == j
  | .ret, .ret => true
  | _, _ => false

def Ex.to : Ex → Exit
  | .normal => .normal
  | .exit i => .exit i
  | .ret => .ret

/-- A loop, from its head. -/
def WpL (P : Program) (c : Code) (Q : Exit → Act → World → Prop) (a : Act) (w : World) : Prop :=
  ∀ (b : Frame) (k : List Item) (cs : List Frame), ∃ e a' w', Q e a' w' ∧ Arrives P (lone (b.at a (.code c :: .inLoop c :: k)) cs w) b k cs e a' w'

theorem WpL.loop {P : Program} {c : Code} {Q : Exit → Act → World → Prop} {a : Act} {w : World} (h : WpL P c Q a w) : (Code.loop c).wp P Q a w := fun b k cs =>
  let ⟨e, a', w', hq, harr⟩ := h b k cs
  ⟨e, a', w', hq, .of_steps (.one step_loop) harr⟩
theorem WpL.round {P : Program} {c : Code} {Q : Exit → Act → World → Prop} {a : Act} {w : World} (h : c.wp P (Exit.then (WpL P c Q) Q) a w) : WpL P c Q a w := by
  intro b k cs
  obtain ⟨e, a₁, w₁, hq, harr⟩ := h b (.inLoop c :: k) cs
  cases e with
  | normal =>
    obtain ⟨e₂, a₂, w₂, hq₂, harr₂⟩ := hq b k cs
    exact ⟨e₂, a₂, w₂, hq₂, .of_steps (Steps.trans harr (.one step_inLoop)) harr₂⟩
  | exit id => exact ⟨_, a₁, w₁, hq, .pass (x := .inLoop c) rfl (fun _ _ => .inl (by simp)) harr⟩
  | goto l => exact ⟨_, a₁, w₁, hq, .pass (x := .inLoop c) rfl (fun _ _ => .inl (by simp)) harr⟩
  | ret => exact ⟨_, a₁, w₁, hq, .pass (x := .inLoop c) rfl (fun _ _ => .inl (by simp)) harr⟩
  | panic ch => exact ⟨_, a₁, w₁, hq, .pass (x := .inLoop c) rfl (fun _ _ => .inl (by simp)) harr⟩
  | outgrown => exact ⟨_, a₁, w₁, hq, .pass (x := .inLoop c) rfl (fun _ _ => .inl (by simp)) harr⟩

section
variable {P : Program} {cx : Cx} {w0 : World} {N M : Nat}

/-- Between the state of the evaluator and the program's. -/
def At (cx : Cx) (w0 : World) (N : Nat) (st : St) (a : Act) (w : World) : Prop := ∃ A, SR cx w0 N (· < st.nx) A st.tm st.rs a w

/-- Whatever way the rest is sure to end, the program meets Q. -/
def KOk (cx : Cx) (w0 : World) (N : Nat) (K : Kont) (out : Out) (Q : Exit → Act → World → Prop) : Prop := ∀ e st a w, K e st = some out → At cx w0 N st a w → Q e.to a w

def AgainOk (P : Program) (cx : Cx) (w0 : World) (N M : Nat) (again : C → St → Kont → Option Out) : Prop :=
  ∀ m live c C st K out Q a w, M ≤ m → cOk P N M c C = true → again (.loop m live C) st K = some out → At cx w0 N st a w → KOk cx w0 N K out Q → WpL P c Q a w

theorem evC_sound (h0 : cx.m0 ≤ M) (hm : P.follows .mixedOrders = true) {call : CallF} (hctr : ∀ f ds out, call f ds = some out → funcOk P f = true ∧ Ctr P f ds out) {again : C → St → Kont → Option Out} (hag : AgainOk P cx w0 N M again) :
    ∀ (C : C) (c : Code) (st : St) (K : Kont) (out : Out) (Q : Exit → Act → World → Prop) (a : Act) (w : World), cOk P N M c C = true → evC call again C st K = some out → At cx w0 N st a w → KOk cx w0 N K out Q → c.wp P Q a w := by
  intro C
  induction C with
  | skip =>
    intro c st K out Q a w hc he hs hK
    cases c <;> simp only [cOk, Bool.false_eq_true] at hc
    exact wp_skip (hK .normal st a w he hs)
  | ops l =>
    intro c st K out Q a w hc he hs hK
    cases c <;> simp only [cOk, Bool.false_eq_true] at hc
    rename_i id ops d
    simp only [Bool.and_eq_true, Bool.not_eq_true'] at hc
    obtain ⟨rfl, hc⟩ := hc
    simp only [evC, Option.bind_eq_some_iff] at he
    obtain ⟨s, h1, h2⟩ := he
    obtain ⟨A, hs⟩ := hs
    exact wp_lex hs hctr hc h1 fun A' a' w' hs' => hK .normal _ a' w' h2 ⟨A', hs'⟩
  | draw sch l =>
    intro c st K out Q a w hc he hs hK
    cases c <;> simp only [cOk, Bool.false_eq_true] at hc
    rename_i id ops d
    simp only [Bool.and_eq_true] at hc
    obtain ⟨rfl, hc, hsch⟩ := hc
    simp only [evC, Option.bind_eq_some_iff] at he
    obtain ⟨s, h1, h2⟩ := he
    obtain ⟨A, hs⟩ := hs
    exact wp_draw hs hm hctr hc (schN_ok hsch) h1 fun A' a' w' hs' => hK .normal _ a' w' h2 ⟨A', hs'⟩
  | seq x y ihx ihy =>
    intro c st K out Q a w hc he hs hK
    cases c <;> simp only [cOk, Bool.false_eq_true] at hc
    simp only [Bool.and_eq_true] at hc
    simp only [evC] at he
    refine wp_seq (ihx _ st _ out _ a w hc.1 he hs fun e st' a' w' he' hs' => ?_)
    cases e with
    | normal => exact ihy _ st' K out Q a' w' hc.2 he' hs' hK
    | exit i => exact hK (.exit i) st' a' w' he' hs'
    | ret => exact hK .ret st' a' w' he' hs'
  | cond x y z ihy ihz =>
    intro c st K out Q a w hc he hs hK
    cases c <;> simp only [cOk, Bool.false_eq_true] at hc
    rename_i x' y' z'
    simp only [Bool.and_eq_true] at hc
    obtain ⟨hx, hc1, hc2⟩ := hc
    simp only [evC] at he
    obtain ⟨A, hs'⟩ := id hs
    have hv := hs'.tr.ev hx
    split at he
    · rename_i t e
      rw [e] at hv
      have hv' : a.eval x' = .bool t := by simpa only [VR, V1, PR] using hv
      refine wp_cond hv' ?_
      cases t with
      | true => exact ihy _ st K out Q a w hc1 (by simpa using he) hs hK
      | false => exact ihz _ st K out Q a w hc2 (by simpa using he) hs hK
    · rename_i e
      rw [e] at hv
      have hv' : ∃ t, a.eval x' = .bool t := by simpa only [VR, V1, PR] using hv
      obtain ⟨t, ht⟩ := hv'
      simp only [Option.bind_eq_some_iff] at he
      obtain ⟨r, h1, h2⟩ := he
      split at h2
      · rename_i h3
        injection h2 with h2; subst h2
        refine wp_cond ht ?_
        cases t with
        | true => exact ihy _ st K r Q a w hc1 h1 hs hK
        | false => exact ihz _ st K r Q a w hc2 h3 hs hK
      · cases h2
    · rename_i r1 off sz n e
      rw [e] at hv
      have hv' : PR (fun r => r < st.nx) A st.rs w (.cv 1 r1 off sz n) (a.eval x') := by simpa only [VR, V1] using hv
      obtain ⟨g0, cap, g1, g2⟩ := hv'
      simp only at g1
      simp only [Option.bind_eq_some_iff] at he
      obtain ⟨r, h1, h2⟩ := he
      split at h2
      · rename_i h3
        injection h2 with h2; subst h2
        refine wp_cond g1 ?_
        have htok : ∀ k2, PR (fun r => r < st.nx) A st.rs w (.cv k2 r1 off sz n) (a.eval x') → At cx w0 N (tok x k2 r1 off sz n st) a w := fun k2 hk2 => by
          refine ⟨A, ?_⟩
          cases x with
          | k v => exact hs'
          | t c =>
            have hxt : x' = .tmp c := by
              cases x' <;> simp [xOk] at hx
              rw [hx]
            subst hxt
            refine ⟨hs'.heap, fun t' => ?_, hs'.ids, hs'.size, hs'.defers, hs'.fr, hs'.big, hs'.low, hs'.kept⟩
            by_cases e2 : t' = c
            · subst e2
              simp only [tok, up'_same, VR, V1]
              exact hk2
            · simp only [tok]
              rw [up'_ne _ _ e2]
              exact hs'.tmps t'
        cases ht : decide (cap < n) with
        | true => exact ihy _ _ K r Q a w hc1 h1 (htok 3 ⟨g0, cap, ⟨by rw [g1, ht], by simpa using ht⟩, g2⟩) hK
        | false => exact ihz _ _ K r Q a w hc2 h3 (htok 2 ⟨g0, cap, ⟨by rw [g1, ht], by simpa using ht⟩, g2⟩) hK
      · cases h2
    · cases he
  | blk id x ih =>
    intro c st K out Q a w hc he hs hK
    cases c <;> simp only [cOk, Bool.false_eq_true] at hc
    simp only [Bool.and_eq_true, beq_iff_eq] at hc
    obtain ⟨rfl, hc⟩ := hc
    simp only [evC] at he
    refine wp_block (ih _ st _ out _ a w hc he hs fun e st' a' w' he' hs' => ?_)
    cases e with
    | normal => exact hK .normal st' a' w' he' hs'
    | exit i =>
      simp only [Ex.to, Exit.inBlock] at he' ⊢
      split at he' <;> rename_i h
      · rw [if_pos h]; exact hK .normal st' a' w' he' hs'
      · rw [if_neg h]; exact hK (.exit i) st' a' w' he' hs'
    | ret => exact hK .ret st' a' w' he' hs'
  | loop m live x ih =>
    intro c st K out Q a w hc he hs hK
    cases c <;> simp only [cOk, Bool.false_eq_true] at hc
    rename_i body
    simp only [Bool.and_eq_true, decide_eq_true_eq] at hc
    obtain ⟨hM, hc⟩ := hc
    simp only [evC] at he
    obtain ⟨A, hs⟩ := hs
    refine (WpL.round (ih _ (canon m live st) _ out _ a w hc he ⟨_, hs.canon m live (Nat.le_trans h0 hM)⟩ fun e st' a' w' he' hs' => ?_)).loop
    cases e with
    | normal => exact hag m live _ x st' K out Q a' w' hM hc he' hs' hK
    | exit i => exact hK (.exit i) st' a' w' he' hs'
    | ret => exact hK .ret st' a' w' he' hs'
  | exit i =>
    intro c st K out Q a w hc he hs hK
    cases c <;> simp only [cOk, Bool.false_eq_true] at hc
    simp only [beq_iff_eq] at hc
    subst hc
    exact wp_exit (hK (.exit _) st a w he hs)
  | ret =>
    intro c st K out Q a w hc he hs hK
    cases c <;> simp only [cOk, Bool.false_eq_true] at hc
    exact wp_ret (hK .ret st a w he hs)
  | kp live x ih =>
    intro c st K out Q a w hc he hs hK
    have hc' : cOk P N M c x = true := by cases c <;> simpa only [cOk] using hc
    simp only [evC] at he
    refine ih c st _ out Q a w hc' he hs fun e st' a' w' he' hs' => ?_
    cases e with
    | normal => obtain ⟨A, hs'⟩ := hs'; exact hK .normal _ a' w' he' ⟨A, hs'.forget live⟩
    | exit i => exact hK (.exit i) st' a' w' he' hs'
    | ret => exact hK .ret st' a' w' he' hs'
  | jn m live x ih =>
    intro c st K out Q a w hc he hs hK
    have hc' : M ≤ m ∧ cOk P N M c x = true := by cases c <;> simpa only [cOk, Bool.and_eq_true, decide_eq_true_eq] using hc
    simp only [evC] at he
    refine ih c st _ out Q a w hc'.2 he hs fun e st' a' w' he' hs' => ?_
    cases e with
    | normal => obtain ⟨A, hs'⟩ := hs'; exact hK .normal _ a' w' he' ⟨_, hs'.canon m live (Nat.le_trans h0 hc'.1)⟩
    | exit i => exact hK (.exit i) st' a' w' he' hs'
    | ret => exact hK .ret st' a' w' he' hs'

theorem loop_sound (h0 : cx.m0 ≤ M) (hm : P.follows .mixedOrders = true) {call : CallF} (hctr : ∀ f ds out, call f ds = some out → funcOk P f = true ∧ Ctr P f ds out) {again : C → St → Kont → Option Out} (hag : AgainOk P cx w0 N M again) :
    AgainOk P cx w0 N M (evC call again) := by
  intro m live c C st K out Q a w hM hc he hs hK
  simp only [evC] at he
  obtain ⟨A, hs⟩ := hs
  refine WpL.round (evC_sound h0 hm hctr hag C c (canon m live st) _ out _ a w hc he ⟨_, hs.canon m live (Nat.le_trans h0 hM)⟩ fun e st' a' w' he' hs' => ?_)
  cases e with
  | normal => exact hag m live _ C st' K out Q a' w' hM hc he' hs' hK
  | exit i => exact hK (.exit i) st' a' w' he' hs'
  | ret => exact hK .ret st' a' w' he' hs'
end
end Go.Proofs.Ytinlbiphjgpmmaa.V
end YtinlbiphjgpmmaaWD
section YtinlbiphjgpmmaaWE
namespace Go.Proofs.Ytinlbiphjgpmmaa.V
open Go
set_option linter.unusedVariables false
set_option linter.unusedSimpArgs false

def rsem (tmps : Array Value) : ResultVar → Sem Value
  | .tmp t => pure (tmps.getD t undef)
  | .cell a t => do loadVar t (← asAddr (tmps.getD a undef))
theorem results_eq (fn : Func) (tmps : Array Value) : results fn tmps = (do
    let vs ← fn.results.mapM (rsem tmps)
    pure (if h : vs.size = 1 then vs[0] else .tuple vs)) := by
  unfold results
  congr 1

section
variable {P : Program} {D D' : Nat → Prop} {A : Nat → Gh} {rs : Rs} {w : World} {cx : Cx} {w0 : World} {N : Nat} {tm : Tm} {a : Act}

theorem run_results {fn : Func} {tmps : Array Value} {l : List ResultVar} (h : fn.results = l.toArray) (hl : l.length ≤ 3) {vs : List Value} (hv : Pw (fun r v => (rsem tmps r).run P w = .ok v w) l vs) :
    (results fn tmps).run P w = .ok (retVal vs) w := by
  rw [results_eq, h]
  match l, hl, hv with
  | [], _, hv => rw [hv.nil_inv]; simp [retVal]
  | [r], _, hv =>
    obtain ⟨v, vs', rfl, h1, h2⟩ := hv.head
    rw [h2.nil_inv]
    simp [retVal, h1]
  | [r, r'], _, hv =>
    obtain ⟨v, vs', rfl, h1, h2⟩ := hv.head
    obtain ⟨v', vs', rfl, h3, h4⟩ := h2.head
    rw [h4.nil_inv]
    simp [retVal, h1, h3]
  | [r, r', r''], _, hv =>
    obtain ⟨v, vs', rfl, h1, h2⟩ := hv.head
    obtain ⟨v', vs', rfl, h3, h4⟩ := h2.head
    obtain ⟨v'', vs', rfl, h5, h6⟩ := h4.head
    rw [h6.nil_inv]
    simp [retVal, h1, h3, h5]
  | _ :: _ :: _ :: _ :: _, h, _ => simp at h

def rsOk (P : Program) : List ResultVar → List Res → Bool
  | [], [] => true
  | .tmp t :: rs, .t n :: rs' => t == n && rsOk P rs rs'
  | .cell a t :: rs, .cell a' n :: rs' => a == a' && partOk P t n && rsOk P rs rs'
  | _, _ => false

theorem V1_of {av : AV} {v : Value} (h : VR D A rs w av v) (ht : ∀ vs, av ≠ .tup vs) (hb : ∀ cs c, av ≠ .bx cs c) : V1 D A rs w av v := by
  unfold VR at h
  split at h
  · exact absurd rfl (ht _)
  · exact absurd rfl (hb _ _)
  · exact h

theorem resVals_ok (h : SR cx w0 N D A tm rs a w) {nx : Nat} : ∀ {l : List ResultVar} {l' : List Res} {vs : List AV}, rsOk P l l' = true → resVals ⟨tm, rs, nx⟩ l' = some vs →
    ∃ vals, Pw (fun r v => (rsem a.tmps r).run P w = .ok v w) l vals ∧ Pw (VR D A rs w) vs vals
  | [], [], vs, hl, hv => by
    simp only [resVals, Option.some.injEq] at hv
    subst hv
    exact ⟨[], Pw.nil, Pw.nil⟩
  | .tmp t :: l, .t n :: l', vs, hl, hv => by
    simp only [rsOk, Bool.and_eq_true, beq_iff_eq] at hl
    obtain ⟨rfl, hl⟩ := hl
    simp only [resVals, resVal, Option.bind_some, Option.map_eq_some_iff] at hv
    obtain ⟨vs', h1, h2⟩ := hv
    subst h2
    obtain ⟨vals, g1, g2⟩ := resVals_ok h hl h1
    exact ⟨a.tmps.getD t undef :: vals, Pw.cons (by simp only [rsem, Sem.run_pure]) g1, Pw.cons (h.tmps t) g2⟩
  | .cell b t :: l, .cell b' n :: l', vs, hl, hv => by
    simp only [rsOk, Bool.and_eq_true, beq_iff_eq] at hl
    obtain ⟨⟨rfl, hp⟩, hl⟩ := hl
    simp only [resVals, resVal, Option.bind_eq_some_iff, Option.map_eq_some_iff] at hv
    obtain ⟨av, ⟨p, h1, h2⟩, vs', h3, h4⟩ := hv
    subst h4; subst h2
    obtain ⟨vals, g1, g2⟩ := resVals_ok h hl h3
    simp only [evI] at h1
    split at h1
    · rename_i r q pv i c ex
      simp only [Option.bind_eq_some_iff, Option.map_eq_some_iff] at h1
      obtain ⟨⟨R, s, ro, xs⟩, hl', el, hel, v, hval, e2⟩ := h1
      subst e2
      obtain ⟨v', ad, k1, k2, k3⟩ := load_core (x := .tmp b) h.tr h.heap (by simp [xOk]) hp ex hl' hel hval
      refine ⟨v' :: vals, Pw.cons ?_ g1, Pw.cons k3 g2⟩
      have k1' : a.tmps.getD b undef = .pointer (some ad) := k1
      simp only [rsem, k1', asAddr, Sem.run_bind, Sem.run_pure, Result.andThen_ok, k2]
    · rename_i ex
      simp only [Option.map_eq_some_iff] at h1
      obtain ⟨v, hval, e2⟩ := h1
      subst e2
      obtain ⟨v', ad, k1, k2, k3⟩ := load_bx (x := .tmp b) h.tr (by simp [xOk]) hp ex hval
      refine ⟨v' :: vals, Pw.cons ?_ g1, Pw.cons k3 g2⟩
      have k1' : a.tmps.getD b undef = .pointer (some ad) := k1
      simp only [rsem, k1', asAddr, Sem.run_bind, Sem.run_pure, Result.andThen_ok, k2]
    · cases h1
  | [], _ :: _, _, hl, _ => by simp [rsOk] at hl
  | .tmp _ :: _, [], _, hl, _ => by simp [rsOk] at hl
  | .tmp _ :: _, .cell _ _ :: _, _, hl, _ => by simp [rsOk] at hl
  | .cell _ _ :: _, [], _, hl, _ => by simp [rsOk] at hl
  | .cell _ _ :: _, .t _ :: _, _, hl, _ => by simp [rsOk] at hl

theorem outVs_V1 : ∀ {cs : List AV} {vs : List Value} {o : List AV × List Nat}, outVs rs cs = some o → Pw (VR D A rs w) cs vs → Pw (V1 D A rs w) cs vs
  | [], vs, o, _, h => by rw [h.nil_inv]; exact Pw.nil
  | c :: cs, vs, o, ho, h => by
    obtain ⟨v, vs', rfl, h1, h2⟩ := h.head
    simp only [outVs, Option.bind_eq_some_iff, Option.map_eq_some_iff] at ho
    obtain ⟨p, e1, p', e2, _⟩ := ho
    refine Pw.cons (V1_of h1 (fun ws e => ?_) (fun ws c e => ?_)) (outVs_V1 e2 h2) <;> (subst e; simp [outV, outC] at e1)
end
end Go.Proofs.Ytinlbiphjgpmmaa.V
end YtinlbiphjgpmmaaWE
