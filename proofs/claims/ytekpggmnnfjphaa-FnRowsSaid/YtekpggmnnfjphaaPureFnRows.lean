/- The law FnRows, as a statement over numbers and lists: for any code the law's function answers true. -/
import Derived.Test.YtekpggmnnfjphaaXRows
import Derived.Test.YtekpggmnnfjphaaXDrawCost
import Derived.Test.YtekpggmnnfjphaaG19
import Derived.Test.YtekpggmnnfjphaaG22
import Derived.Test.YtekpggmnnfjphaaG4
import Derived.Test.YtekpggmnnfjphaaG58
import Derived.Test.YtekpggmnnfjphaaG59
import Derived.Test.YtekpggmnnfjphaaStFnRows
namespace Go.Proofs.Ytekpggmnnfjphaa.Pure
open Go Go.RowKit Go.Proofs.YtekpggmnnfjphaaW.PrintWords Go.Proofs.YtekpggmnnfjphaaW.PrintLast Go.Proofs.YtekpggmnnfjphaaW.PrintMore Go.Proofs.Ytekpggmnnfjphaa.P Go.Proofs.Ytekpggmnnfjphaa.X
theorem drRowLoop1 {b : List Int} (hb : b.length ≤ 4194304) : ∀ (n : Nat) (l : List Int) (i h : Int), 0 ≤ i → i ≤ (b.length : Int) → l.length ≤ 1001 → 25 ≤ l.length + n →
    B.EvP (fun k => spec_l25Row.l1 k l b i h) (B.Cu b fun l' => l'.length ≤ 1001) := by
  intro n
  induction n with
  | zero =>
    intro l i h h0 h1 hl hn
    refine B.EvP.succ ?_
    simp only [spec_l25Row.l1]
    refine B.EvP.bind (drBelow hb h 2 h0 h1) ?_
    rintro ⟨v, i, h⟩ ⟨q, h0, h1⟩
    have q1 := q.1
    have q2 := q.2.1 (by omega)
    simp only at q1 q2 ⊢
    rw [B.wid (by omega) (by omega)]
    simp only [show ¬ ((l.length : Int) < 24 + v) by omega, ↓reduceIte]
    exact B.EvP.pure ⟨hl, h0, h1⟩
  | succ n ih =>
    intro l i h h0 h1 hl hn
    refine B.EvP.succ ?_
    simp only [spec_l25Row.l1]
    refine B.EvP.bind (drBelow hb h 2 h0 h1) ?_
    rintro ⟨v, i, h⟩ ⟨q, h0, h1⟩
    have q1 := q.1
    have q2 := q.2.1 (by omega)
    simp only at q1 q2 ⊢
    rw [B.wid (by omega) (by omega)]
    refine B.EvP.ite (fun c => ?_) (fun c => B.EvP.pure ⟨hl, h0, h1⟩)
    simp only [show l.length < 17592186044416 by omega, ↓reduceIte]
    exact ih _ _ _ h0 h1 (by simp; omega) (by simp; omega)
theorem drRowLoop {b : List Int} (hb : b.length ≤ 4194304) : ∀ (n : Nat) (l : List Int) (i h : Int), 0 ≤ i → i ≤ (b.length : Int) → l.length + n ≤ 1000 →
    B.EvP (fun k => spec_l25Row.l0 k l (n : Int) b i h) (B.Cu b fun l' => l'.length ≤ 1001) := by
  intro n
  induction n with
  | zero =>
    intro l i h h0 h1 hl
    refine B.EvP.succ ?_
    simp only [spec_l25Row.l0, show ¬ ((0 : Nat) : Int) > 0 by decide, show l.length < 17592186044416 by omega, ↓reduceIte]
    refine B.EvP.bind (drBelow hb h 18 h0 h1) ?_
    rintro ⟨v, i, h⟩ ⟨q, h0, h1⟩
    refine B.EvP.ite (fun _ => ?_) (fun _ => ?_)
    · refine B.EvP.bind (drAnyLabel hb h h0 h1) ?_
      rintro ⟨v, i, h⟩ ⟨_, h0, h1⟩
      exact B.EvP.pure ⟨by simp; omega, h0, h1⟩
    · exact B.EvP.ite (fun _ => drRowLoop1 hb 25 l i h h0 h1 (by omega) (by omega)) (fun _ => B.EvP.pure ⟨by simp only; omega, h0, h1⟩)
  | succ n ih =>
    intro l i h h0 h1 hl
    refine B.EvP.succ ?_
    have e2 : wrap64 (((n + 1 : Nat) : Int) - 1) = (n : Int) := by rw [B.wid (by omega) (by omega)]; omega
    simp only [spec_l25Row.l0, show ((n + 1 : Nat) : Int) > 0 by omega, show l.length < 17592186044416 by omega, e2, ↓reduceIte]
    refine B.EvP.bind (drLabel hb h h0 h1) ?_
    rintro ⟨v, i, h⟩ ⟨_, h0, h1⟩
    exact ih _ _ _ h0 h1 (by simp; omega)
theorem drRow {b : List Int} (hb : b.length ≤ 4194304) {i : Int} (h : Int) (h0 : 0 ≤ i) (h1 : i ≤ (b.length : Int)) : B.EvP (fun k => spec_l25Row.f k b i h) (B.Cu b fun l => l.length ≤ 1001) := by
  simp only [spec_l25Row.f]
  refine B.EvP.bind (drBelow hb h 9 h0 h1) ?_
  rintro ⟨n, i, h⟩ ⟨q, h0, h1⟩
  have q1 := q.1
  have q2 := q.2.1 (by omega)
  simp only at q1 q2
  obtain ⟨m, rfl⟩ : ∃ m : Nat, n = (m : Int) := ⟨n.toNat, by omega⟩
  exact drRowLoop hb m [] i h h0 h1 (by simp; omega)
theorem drStr (l : List Int) (hl : l.length ≤ 4194304) : B.EvP (fun k => spec_DrawStrDist.f k l) (fun t => (t.1.length ≤ 1001 ∧ t.2.1.length ≤ 1001) ∧ t.2.2.1.length ≤ 36 ∧ t.2.2.2.1.length ≤ 36 ∧ t.2.2.2.2.length ≤ 36) := by
  simp only [spec_DrawStrDist.f]
  refine B.EvP.bind (drNew l hl) ?_
  rintro ⟨b, i, h⟩ ⟨e1, e2⟩
  obtain rfl : l = b := e1.symm
  obtain rfl : 0 = i := e2.symm
  dsimp only
  refine B.EvP.bind (drRow hl h (by omega) (by omega)) ?_
  rintro ⟨x, i, h⟩ ⟨hx, h0, h1⟩
  refine B.EvP.bind (drRow hl h h0 h1) ?_
  rintro ⟨y, i, h⟩ ⟨hy, h0, h1⟩
  refine B.EvP.bind (drAnyCost hl h h0 h1) ?_
  rintro ⟨d, e, r, i, h⟩ ⟨⟨hd, he, hr⟩, _⟩
  exact B.EvP.pure ⟨⟨hx, hy⟩, hd, he, hr⟩
theorem evFresh (l : List Int) (hl : l.length ≤ 4194304) (a : Int) : B.EvP (fun k => laws_fresh.f k l a) (fun t => t.length ≤ 4194304) := by
  simp only [laws_fresh.f]
  suffices H : ∀ (n i : Nat) (x : List Int), i + n = l.length → i ≤ 600 → x.length ≤ i + 1 → B.EvP (fun k => laws_fresh.l0 k l a x (i : Int)) (fun t => t.length ≤ 4194304) from H l.length 0 _ (by omega) (by omega) (by simp)
  intro n
  induction n with
  | zero =>
    intro i x hi h6 hx
    refine B.EvP.succ ?_
    simp only [laws_fresh.l0, show ¬ ((i : Int) < (l.length : Int)) by omega, ↓reduceIte]
    exact B.EvP.of (B.Ev.pure _) (by omega)
  | succ n ih =>
    intro i x hi h6 hx
    refine B.EvP.succ ?_
    have a1 : (i : Int) < (l.length : Int) := by omega
    have a2 : 0 ≤ (i : Int) := by omega
    have a3 : x.length < 140737488355328 := by omega
    have a4 := B.wsucc (show i < 9223372036854775807 by omega)
    simp only [laws_fresh.l0, a1, a2, a3, a4, ↓reduceIte]
    exact B.EvP.ite (fun c => ih (i + 1) _ (by omega) (by omega) (by simp; omega)) (fun _ => B.EvP.of (B.Ev.pure _) (by omega))
theorem e36_ : wrap64 (6 * 6) = 36 := by unfold wrap64; omega
theorem evSwapped (d i r : List Int) (hd : d.length ≤ 4194304) (hi : i.length ≤ 4194304) (hr : r.length = 36) : B.Ev (fun k => laws_swapped.f k d i r) (i, d, tr r) := by
  simp only [laws_swapped.f, Option.bind_some, List.length_nil, List.nil_append, show 0 + i.length < 17592186044416 by omega, show 0 + d.length < 17592186044416 by omega, ↓reduceIte]
  suffices H : ∀ (n x : Nat), x + n = 36 → B.Ev (fun k => laws_swapped.l0 k 6 (x : Int) d i r i d ((tr r).take x)) (i, d, tr r) from H 36 0 (by omega)
  intro n
  induction n with
  | zero =>
    intro x hx
    refine B.Ev.succ ?_
    have a1 : ¬ ((x : Int) < 36) := by omega
    have e36 : wrap64 (6 * 6) = 36 := by unfold wrap64; omega
    simp only [laws_swapped.l0, e36, a1, ↓reduceIte]
    clear e36
    rw [List.take_of_length_le (by rw [tr_length]; omega)]
    exact B.Ev.pure _
  | succ n ih =>
    intro x hx
    refine B.Ev.succ ?_
    have a1 : (x : Int) < 36 := by omega
    have a2 : ((r.length : Nat) : Int) = 36 := by omega
    have a3 : ((tr r).take x).length < 17592186044416 := by rw [List.length_take, tr_length]; omega
    have a4 := B.wsucc (show x < 9223372036854775807 by omega)
    have m1 : Int.tmod (x : Int) 6 = ((x % 6 : Nat) : Int) := by rw [Int.tmod_eq_emod_of_nonneg (by omega)]; omega
    have m2 : Int.tdiv (x : Int) 6 = ((x / 6 : Nat) : Int) := by rw [Int.tdiv_eq_ediv_of_nonneg (by omega)]; omega
    have b1 : 0 ≤ ((x % 6 * 6 + x / 6 : Nat) : Int) := by omega
    have b2 : ((x % 6 * 6 + x / 6 : Nat) : Int) < (36 : Int) := by omega
    have b3 : ((x % 6 : Nat) : Int) * 6 = ((x % 6 * 6 : Nat) : Int) := by omega
    have b4 : ((x % 6 * 6 : Nat) : Int) + ((x / 6 : Nat) : Int) = ((x % 6 * 6 + x / 6 : Nat) : Int) := by omega
    have c1 : x % 6 * 6 + x / 6 ≤ 1000 := by omega
    have c2 : x % 6 * 6 ≤ 1000 := by omega
    have c3 : x / 6 ≤ 1000 := by omega
    have ww : ∀ n : Nat, n ≤ 1000 → wrap64 (n : Int) = (n : Int) := fun n hn => by clear a4; exact B.wid (by omega) (by omega)
    have w3 : wrap64 (((x % 6 * 6 : Nat) : Int) + ((x / 6 : Nat) : Int)) = ((x % 6 * 6 + x / 6 : Nat) : Int) := by rw [b4]; exact ww _ c1
    have w1 : wrap64 (((x % 6 : Nat) : Int) * 6) = ((x % 6 * 6 : Nat) : Int) := by rw [b3]; exact ww _ c2
    have w2 : wrap64 ((x / 6 : Nat) : Int) = ((x / 6 : Nat) : Int) := ww _ c3
    have e36 : wrap64 (6 * 6) = 36 := e36_
    simp only [laws_swapped.l0, e36, a1, a2, a3, a4, m1, m2, w1, w2, w3, b1, b2, show ¬ (6 : Int) = 0 by decide, ↓reduceIte, rdInt]
    clear e36 w1 w2 w3 a4 m1 m2
    have e : (tr r).take x ++ [r.getD (x % 6 * 6 + x / 6) 0] = (tr r).take (x + 1) := by
      rw [← tr_get r (show x < 36 by omega), List.take_succ_eq_append_getElem (by rw [tr_length]; omega), B.getD_lt (by rw [tr_length]; omega)]
    rw [e]
    exact ih (x + 1) (by omega)
theorem FnRows : fnRows.Pure := by
  intro l hl0
  apply B.Ev.ex
  simp only [laws_FnRows.f, lawBig, Option.bind_some, decide_eq_true_eq]
  refine B.Ev.ite (fun _ => B.Ev.pure _) (fun c => ?_)
  have hl : l.length ≤ 4194304 := by omega
  obtain ⟨⟨a, b, d, i, r⟩, ⟨⟨ha, hb⟩, hd, hi, hr⟩, es⟩ := drStr l hl
  simp only at ha hb hd hi hr
  refine B.Ev.bind es ?_
  have im : ∀ a b d i r : List Int, a.length ≤ 4194304 → b.length ≤ 4194304 → d.length ≤ 36 → i.length ≤ 36 → r.length ≤ 36 → B.Ev (fun k => impl_StrDist.f k a b d i r) (strDist a b d i r) :=
    fun a b d i r ha hb hd hi hr => B.Ev.of _ (fun k hk => implStrDist a b d i r ha hb (by omega) (by omega) (by omega) k hk)
  refine B.Ev.bind (im a b d i r (by omega) (by omega) hd hi hr) ?_
  refine B.Ev.bind (B.Ev.of _ (fun k hk => specStrDist a b d i r (by omega) (by omega) (by omega) (by omega) (by omega) k hk)) ?_
  simp only [↓reduceIte]
  refine B.Ev.succ ?_
  cases hok : (labelsOk a && (labelsOk b && okC d i r)) with
  | false =>
    have e : strDist a b d i r = -1 := by unfold strDist; rw [hok]; rfl
    simp only [laws_FnRows.j0, e, show decide ((-1 : Int) < 0) = true by decide, ↓reduceIte]
    refine B.Ev.bind (B.Ev.of _ (fun k hk => specStrDist a b d i r (by omega) (by omega) (by omega) (by omega) (by omega) k hk)) ?_
    rw [e]
    exact B.Ev.pure _
  | true =>
    obtain ⟨oa, ob, oc⟩ : labelsOk a = true ∧ labelsOk b = true ∧ okC d i r = true := by simpa [and_assoc] using hok
    obtain ⟨p1, p2, p3, p4⟩ := okC_parts oc
    have A := Args.mk_ oa ob oc
    have e : strDist a b d i r = D a b d i r a.length b.length := by unfold strDist; rw [hok]; rfl
    have hn : ¬ strDist a b d i r < 0 := by rw [e]; have := (A.bd a.length b.length).1; omega
    simp only [laws_FnRows.j0, decide_eq_false hn, Bool.false_eq_true, ↓reduceIte]
    obtain ⟨fr, hfr, efr⟩ := evFresh l hl 5
    refine B.Ev.bind efr ?_
    obtain ⟨⟨g, g2, gd, gi, gr⟩, ⟨⟨hg, _⟩, _, _, _⟩, eg⟩ := drStr fr hfr
    simp only at hg
    refine B.Ev.bind eg ?_
    refine B.Ev.bind evUnit ?_
    have u1 : u6.length ≤ 36 := by decide
    have u2 : u36.length ≤ 36 := by decide
    refine B.Ev.bind (im a g u6 u6 u36 (by omega) (by omega) u1 u1 u2) ?_
    refine B.Ev.bind (im g b u6 u6 u36 (by omega) (by omega) u1 u1 u2) ?_
    refine B.Ev.bind (im a b u6 u6 u36 (by omega) (by omega) u1 u1 u2) ?_
    refine B.Ev.bind (im a a d i r (by omega) (by omega) hd hi hr) ?_
    have e0 : strDist a a d i r = 0 := by
      unfold strDist
      rw [oa, oc]
      refine D_self a d i r (fun p q => ((Args.mk_ oa oa oc).bd p q).1) (fun p => ?_) _
      have := A.va p
      rw [show (a.getD p 0).toNat * 6 + (a.getD p 0).toNat = 7 * (a.getD p 0).toNat by omega]
      exact diag_all.1 p4 _ (by omega)
    simp only [e0, ↓reduceIte]
    refine B.Ev.bind (evSwapped d i r (by omega) (by omega) p3.1) ?_
    refine B.Ev.bind (im b a i d (tr r) (by omega) (by omega) hi hd (by rw [tr_length]; decide)) ?_
    rw [strDist_swap a b d i r oc]
    have ez : strDist a b u6 u6 u36 = D a b u6 u6 u36 a.length b.length := by unfold strDist; rw [oa, ob, okC_unit]; rfl
    have hz : strDist a b u6 u6 u36 ≤ mx (a.length : Int) (b.length : Int) := by
      rw [ez]
      have := D_max (One.unit oa ob) _ a.length b.length rfl
      unfold mx
      omega
    have last : B.Ev (fun k => (impl_StrDist.f k a [] u6 u6 u36).bind fun t => some (t == (a.length : Int))) true := by
      refine B.Ev.bind (im a [] u6 u6 u36 (by omega) (by decide) u1 u1 u2) ?_
      have e5 : strDist a [] u6 u6 u36 = (a.length : Int) := by
        unfold strDist
        rw [oa, okC_unit]
        exact D_nil (One.unit oa oa).hd _
      rw [e5]
      exact (B.Ev.pure _).eq (by simp)
    simp only [hz, ↓reduceIte]
    cases og : labelsOk g with
    | false =>
      have ex : strDist a g u6 u6 u36 = -1 := by unfold strDist; rw [og, Bool.false_and, Bool.and_false]; rfl
      simp only [ex, show (-1 : Int) < 0 by decide, ↓reduceIte]
      exact last
    | true =>
      have ex : strDist a g u6 u6 u36 = D a g u6 u6 u36 a.length g.length := by unfold strDist; rw [oa, og, okC_unit]; rfl
      have ey : strDist g b u6 u6 u36 = D g b u6 u6 u36 g.length b.length := by unfold strDist; rw [ob, og, okC_unit]; rfl
      have bx := (Args.mk_ oa og okC_unit).bd a.length g.length
      have by' := (Args.mk_ og ob okC_unit).bd g.length b.length
      have la := (labelsOk_iff.1 oa).1
      have lg := (labelsOk_iff.1 og).1
      have lb := (labelsOk_iff.1 ob).1
      have tri := D_tri (One.unit oa ob) (One.unit oa og) (One.unit og ob) _ a.length g.length b.length rfl
      have hx : ¬ strDist a g u6 u6 u36 < 0 := by omega
      have hs : wrap64 (strDist a g u6 u6 u36 + strDist g b u6 u6 u36) = strDist a g u6 u6 u36 + strDist g b u6 u6 u36 := B.wid (by omega) (by omega)
      have ht : strDist a b u6 u6 u36 ≤ strDist a g u6 u6 u36 + strDist g b u6 u6 u36 := by omega
      simp only [hx, hs, ht, ↓reduceIte]
      exact last
end Go.Proofs.Ytekpggmnnfjphaa.Pure
