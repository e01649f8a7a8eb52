/- The law FnPicked, as a statement over numbers and lists: for any code the law's function answers true. -/
import Derived.Test.YtekpggmnnfjphaaXSelImpl
import Derived.Test.YtekpggmnnfjphaaXDrawTree
import Derived.Test.YtekpggmnnfjphaaG26
import Derived.Test.YtekpggmnnfjphaaG6
import Derived.Test.YtekpggmnnfjphaaG69
import Derived.Test.YtekpggmnnfjphaaStFnPicked
namespace Go.Proofs.Ytekpggmnnfjphaa.Pure
open Go Go.RowKit Go.Proofs.YtekpggmnnfjphaaW.PrintWords Go.Proofs.YtekpggmnnfjphaaW.PrintLast Go.Proofs.YtekpggmnnfjphaaW.PrintMore Go.Proofs.Ytekpggmnnfjphaa.P Go.Proofs.Ytekpggmnnfjphaa.X
theorem drQueryLoop1 {b : List Int} (hb : b.length ≤ 4194304) : ∀ (n : Nat) (l : List S56) (i h : Int), 0 ≤ i → i ≤ (b.length : Int) → l.length ≤ 1001 → 7 ≤ l.length + n →
    B.EvP (fun k => spec_l27Query.l1 k l b i h) (B.Cu b fun l' => l'.length ≤ 1001) := by
  intro n
  induction n with
  | zero =>
    intro l i h h0 h1 hl hn
    refine B.EvP.succ ?_
    simp only [spec_l27Query.l1]
    refine B.EvP.bind (drBelow hb h 2 h0 h1) ?_
    rintro ⟨v, i, h⟩ ⟨q, h0, h1⟩
    have q1 := q.1
    have q2 := q.2.1 (by omega)
    simp only at q1 q2 ⊢
    rw [B.wid (by omega) (by omega)]
    simp only [show ¬ ((l.length : Int) < 6 + v) by omega, ↓reduceIte]
    exact B.EvP.pure ⟨hl, h0, h1⟩
  | succ n ih =>
    intro l i h h0 h1 hl hn
    refine B.EvP.succ ?_
    simp only [spec_l27Query.l1]
    refine B.EvP.bind (drBelow hb h 2 h0 h1) ?_
    rintro ⟨v, i, h⟩ ⟨q, h0, h1⟩
    have q1 := q.1
    have q2 := q.2.1 (by omega)
    simp only at q1 q2 ⊢
    rw [B.wid (by omega) (by omega)]
    refine B.EvP.ite (fun c => ?_) (fun c => B.EvP.pure ⟨hl, h0, h1⟩)
    simp only [show l.length < 8796093022208 by omega, ↓reduceIte]
    exact ih _ _ _ h0 h1 (by simp; omega) (by simp; omega)
theorem drQueryLoop {b : List Int} (hb : b.length ≤ 4194304) : ∀ (n : Nat) (l : List S56) (i h : Int), 0 ≤ i → i ≤ (b.length : Int) → l.length + n ≤ 1000 → 1 ≤ l.length + n →
    B.EvP (fun k => spec_l27Query.l0 k l (n : Int) b i h) (B.Cu b fun l' => l'.length ≤ 1001) := by
  intro n
  induction n with
  | zero =>
    intro l i h h0 h1 hl hl1
    refine B.EvP.succ ?_
    simp only [spec_l27Query.l0, show ¬ ((0 : Nat) : Int) > 0 by decide, show 0 < (l.length : Int) by omega, ↓reduceIte]
    refine B.EvP.bind (drBelow hb h 16 h0 h1) ?_
    rintro ⟨v, i, h⟩ ⟨q, h0, h1⟩
    refine B.EvP.ite (fun _ => ?_) (fun _ => ?_)
    · refine B.EvP.bind (drPick hb h [-2, 6] (by decide) h0 h1) ?_
      rintro ⟨v, i, h⟩ ⟨_, h0, h1⟩
      exact B.EvP.pure ⟨by simp; omega, h0, h1⟩
    refine B.EvP.ite (fun _ => B.EvP.pure ⟨by simp, h0, h1⟩) (fun _ => ?_)
    exact B.EvP.ite (fun _ => drQueryLoop1 hb 7 l i h h0 h1 (by omega) (by omega)) (fun _ => B.EvP.pure ⟨by simp only; omega, h0, h1⟩)
  | succ n ih =>
    intro l i h h0 h1 hl hl1
    refine B.EvP.succ ?_
    have e2 : wrap64 (((n + 1 : Nat) : Int) - 1) = (n : Int) := by rw [B.wid (by omega) (by omega)]; omega
    simp only [spec_l27Query.l0, show ((n + 1 : Nat) : Int) > 0 by omega, show l.length < 8796093022208 by omega, e2, ↓reduceIte]
    refine B.EvP.bind (drOnce hb h 3 h0 h1) ?_
    rintro ⟨v, i, h⟩ ⟨_, h0, h1⟩
    refine B.EvP.bind (drPick hb h [-1, 0, 1, 2, 3, -1] (by decide) h0 h1) ?_
    rintro ⟨v2, i, h⟩ ⟨_, h0, h1⟩
    exact ih _ _ _ h0 h1 (by simp; omega) (by simp; omega)
theorem drSelect (l : List Int) (hl : l.length ≤ 4194304) : B.EvP (fun k => spec_DrawSelect.f k l) (fun t => t.1.length ≤ 1001 ∧ t.2.length ≤ 1001) := by
  simp only [spec_DrawSelect.f]
  refine B.EvP.bind (drNew l hl) ?_
  rintro ⟨b, i, h⟩ ⟨e1, e2⟩
  obtain rfl : l = b := e1.symm
  obtain rfl : 0 = i := e2.symm
  dsimp only
  refine B.EvP.bind (drAny hl h 12 (by omega) (by omega) (by omega)) ?_
  rintro ⟨x, i, h⟩ ⟨hx, h0, h1⟩
  have : B.EvP (fun k => spec_l27Query.f k l i h) (B.Cu l fun l' => l'.length ≤ 1001) := by
    simp only [spec_l27Query.f]
    refine B.EvP.bind (drBelow hl h 3 h0 h1) ?_
    rintro ⟨v, i, h⟩ ⟨q, h0, h1⟩
    have q1 := q.1
    have q2 := q.2.1 (by omega)
    simp only at q1 q2 ⊢
    obtain ⟨m, hm⟩ : ∃ m : Nat, wrap64 (1 + v) = (m : Int) := ⟨(1 + v).toNat, by rw [B.wid (by omega) (by omega)]; omega⟩
    have hm3 : m ≤ 3 ∧ 1 ≤ m := by rw [B.wid (by omega) (by omega)] at hm; omega
    rw [hm]
    exact drQueryLoop hl m [] i h h0 h1 (by simp; omega) (by simp; omega)
  refine B.EvP.bind this ?_
  rintro ⟨y, i, h⟩ ⟨hy, _⟩
  exact B.EvP.pure ⟨hx, hy⟩
theorem evHasI (xs : List Int) (hx : xs.length ≤ 4194304) (a : Int) : B.Ev (fun k => laws_has.f k xs a) (decide (a ∈ xs)) := by
  simp only [laws_has.f]
  suffices H : ∀ n i : Nat, i + n = xs.length → B.Ev (fun k => laws_has.l0 k xs a (i : Int)) (decide (a ∈ xs.drop i)) by
    have := H xs.length 0 (by omega); rwa [List.drop_zero] at this
  intro n
  induction n with
  | zero =>
    intro i hi
    refine B.Ev.succ ?_
    simp only [laws_has.l0, show ¬ ((i : Int) < (xs.length : Int)) by omega, ↓reduceIte]
    exact (B.Ev.pure _).eq (by rw [List.drop_eq_nil_of_le (by omega)]; simp)
  | succ n ih =>
    intro i hi
    have hi' : i < xs.length := by omega
    refine B.Ev.succ ?_
    simp only [laws_has.l0, show (i : Int) < (xs.length : Int) by omega, show 0 ≤ (i : Int) by omega, ↓reduceIte, rdInt, B.getD_lt hi', B.wsucc (show i < 9223372036854775807 by omega)]
    rw [List.drop_eq_getElem_cons hi']
    refine B.Ev.ite (fun c => (B.Ev.pure _).eq (by simp [c])) (fun c => ?_)
    exact (ih (i + 1) (by omega)).eq (by rw [decide_eq_decide, List.mem_cons]; constructor; exact Or.inr; rintro (e | e); exact absurd e.symm c; exact e)
theorem evSameI (a : List Int) (ha : a.length ≤ 4194304) : B.Ev (fun k => laws_sameInts.f k a a) true := by
  simp only [laws_sameInts.f, ↓reduceIte]
  suffices H : ∀ n i : Nat, i + n = a.length → B.Ev (fun k => laws_sameInts.l0 k a a (i : Int)) true from H a.length 0 (by omega)
  intro n
  induction n with
  | zero =>
    intro i hi
    refine B.Ev.succ ?_
    simp only [laws_sameInts.l0, show ¬ ((i : Int) < (a.length : Int)) by omega, ↓reduceIte]
    exact B.Ev.pure _
  | succ n ih =>
    intro i hi
    refine B.Ev.succ ?_
    simp only [laws_sameInts.l0, show (i : Int) < (a.length : Int) by omega, show 0 ≤ (i : Int) by omega, ↓reduceIte, B.wsucc (show i < 9223372036854775807 by omega)]
    exact ih (i + 1) (by omega)
theorem fitsP_take (l : List S48) (q : List S56) (m : Nat) : ∀ n, n ≤ m → fitsP l (q.take m) n = fitsP l q n := by
  intro n
  induction n with
  | zero => intro _; funext i; rfl
  | succ n ih =>
    intro hn
    funext i
    have e : (q.take m).getD n z56 = q.getD n z56 := by rw [List.getD_eq_getElem?_getD, List.getD_eq_getElem?_getD, List.getElem?_take_of_lt (by omega)]
    rw [fitsP, fitsP, e, ih (by omega)]
theorem okQ_take {q : List S56} (h : okQ q = true) {m : Nat} (h1 : 1 ≤ m) (h2 : m ≤ q.length) : okQ (q.take m) = true := by
  unfold okQ at h ⊢
  simp only [Bool.and_eq_true, decide_eq_true_eq, Bool.not_eq_true', List.any_eq_false] at h ⊢
  refine ⟨by rw [List.length_take]; omega, fun x hx => h.2 x (List.mem_of_mem_take hx)⟩
/-- A node that is picked before, over i, as the last pick asks. -/
def upB (l : List S48) (deep : Bool) (i : Nat) (u : Int) : Bool := decide (u.toNat < i ∧ i < endN l u.toNat) && (deep || decide (parN l i = u))
theorem upB_any {l : List S48} (q : List S56) (m : Nat) {i : Nat} (hi : i < l.length) (h0 : m ≠ 0) : (selN l q m).any (upB l (q.getD m z56).f0 i) = fitB l q m i := by
  have hp := parN_spec l i
  unfold fitB
  rw [if_neg h0, Bool.eq_iff_iff, List.any_eq_true]
  cases (q.getD m z56).f0 with
  | true =>
    rw [if_pos rfl, anyUp_iff l _ i hi]
    constructor
    · rintro ⟨x, hx, hc⟩
      obtain ⟨g, rfl, h1, h2⟩ := (mem_selN l q m x).1 hx
      unfold upB at hc
      rw [Int.toNat_natCast, Bool.true_or, Bool.and_true, decide_eq_true_eq] at hc
      exact ⟨g, hc, h2⟩
    · rintro ⟨g, hg, h2⟩
      have : g < l.length := by omega
      exact ⟨(g : Int), (mem_selN l q m _).2 ⟨g, rfl, this, h2⟩, by unfold upB; rw [Int.toNat_natCast, Bool.true_or, Bool.and_true, decide_eq_true_eq]; exact hg⟩
  | false =>
    rw [if_neg (by decide), Bool.and_eq_true, decide_eq_true_eq]
    constructor
    · rintro ⟨x, hx, hc⟩
      obtain ⟨g, rfl, h1, h2⟩ := (mem_selN l q m x).1 hx
      unfold upB at hc
      rw [Bool.false_or, Bool.and_eq_true, decide_eq_true_eq] at hc
      have := of_decide_eq_true hc.2
      rw [this, Int.toNat_natCast]
      exact ⟨by omega, h2⟩
    · rintro ⟨h1, h2⟩
      have h3 : (parN l i).toNat < i := by omega
      refine ⟨parN l i, (mem_selN l q m _).2 ⟨(parN l i).toNat, by omega, by omega, h2⟩, ?_⟩
      unfold upB
      rw [Bool.false_or, Bool.and_eq_true, decide_eq_true_eq]
      refine ⟨(under_iff l hi).2 ⟨h3, fun g g1 g2 => ?_⟩, by simp⟩
      have h4 := hp.2.2.2 h1
      rcases Nat.lt_or_ge g i with d | d
      · have := hp.2.2.1 g (by omega) d; omega
      · obtain rfl : g = i := by omega
        exact h4
theorem FnPicked : fnPicked.Pure := by
  intro b hb0
  apply B.Ev.ex
  simp only [laws_FnPicked.f, lawBig, Option.bind_some, decide_eq_true_eq]
  refine B.Ev.ite (fun _ => B.Ev.pure _) (fun c => ?_)
  obtain ⟨⟨l, q⟩, ⟨hl, hq⟩, es⟩ := drSelect b (by omega)
  simp only at hl hq
  refine B.Ev.bind es ?_
  refine B.Ev.bind (evSel' l q (by omega) (by omega)) ?_
  refine B.Ev.bind (B.Ev.of _ (fun k hk => specTreeOk l (by omega) k hk)) ?_
  have out : (okT l && okQ q) = false → B.Ev (fun k => laws_FnPicked.j0 k l q (sel l q) true) true := fun hc => by
    refine B.Ev.succ ?_
    simp only [laws_FnPicked.j0, ↓reduceIte]
    exact (B.Ev.pure _).eq (by unfold sel; rw [hc]; rfl)
  cases hok : okT l with
  | false => simp only [Bool.false_eq_true, ↓reduceIte]; exact out (by rw [hok]; rfl)
  | true =>
    simp only [↓reduceIte]
    refine B.Ev.bind (B.Ev.of _ (fun k hk => specQueryOk q (by omega) k hk)) ?_
    cases hqq : okQ q with
    | false => exact out (by rw [hqq, Bool.and_false])
    | true =>
      have hl2 := (okT_len hok).2
      have hq2 : 1 ≤ q.length ∧ q.length ≤ 6 := by unfold okQ at hqq; simp at hqq; exact hqq.1
      obtain ⟨m, hm⟩ : ∃ m, q.length = m + 1 := ⟨q.length - 1, by omega⟩
      have e : sel l q = selN l q (m + 1) := by unfold sel; rw [hok, hqq, hm]; rfl
      have hs := selN_length l q (m + 1)
      have es := evSel l q (by omega) (by omega)
      rw [e] at es
      rw [e]
      refine B.Ev.succ ?_
      have w1 : wrap64 ((q.length : Int) - 1) = (m : Int) := by rw [B.wid (by omega) (by omega)]; omega
      simp only [laws_FnPicked.j0, Bool.not_true, Bool.false_eq_true, ↓reduceIte, w1, Int.toNat_natCast, show 0 ≤ (m : Int) by omega, show (m : Int) < (q.length : Int) by omega, show (m : Int) ≤ (q.length : Int) by omega, pickAt]
      refine B.Ev.bind es ?_
      refine B.Ev.bind (evSameI _ (by omega)) ?_
      simp only [↓reduceIte]
      refine B.Ev.bind (evSel l (q.take m) (by omega) (by rw [List.length_take]; omega)) ?_
      have hup : ∀ x ∈ sel l (q.take m), 0 ≤ x ∧ x.toNat < l.length := fun x hx => by
        unfold sel at hx
        split at hx
        · obtain ⟨g, rfl, h1, _⟩ := (mem_selN _ _ _ x).1 hx; exact ⟨by omega, by omega⟩
        · cases hx
      have hlu := sel_length l (q.take m)
      have hany : ∀ i, i < l.length → ((decide (m = 0) && ((q.getD m z56).f0 || decide (i = 0))) || (sel l (q.take m)).any (upB l (q.getD m z56).f0 i)) = fitB l q m i := fun i hi => by
        rcases Nat.eq_zero_or_pos m with h0 | h0
        · have e1 : sel l (q.take m) = [] := by rw [h0]; unfold sel okQ; simp
          rw [e1]
          unfold fitB
          rw [if_pos h0, decide_eq_true h0]
          simp
        · have e1 : sel l (q.take m) = selN l q m := by
            unfold sel
            rw [hok, okQ_take hqq h0 (by omega)]
            show selN l (q.take m) (q.take m).length = _
            unfold selN
            rw [List.length_take, Nat.min_eq_left (by omega), fitsP_take l q m m (Nat.le_refl _)]
          rw [e1, upB_any q m hi (by omega), decide_eq_false (by omega), Bool.false_and, Bool.false_or]
      generalize sel l (q.take m) = up at hup hlu hany
      suffices H : ∀ n i, i + n = l.length → B.Ev (fun k => laws_FnPicked.l0 k l q (selN l q (m + 1)) up (i : Int) (q.getD m z56).f0 (q.getD m z56).f1) true from H l.length 0 (by omega)
      intro n
      induction n with
      | zero =>
        intro i hi
        refine B.Ev.succ ?_
        simp only [laws_FnPicked.l0, show ¬ ((i : Int) < (l.length : Int)) by omega, ↓reduceIte]
        refine B.Ev.bind (evSel' l [⟨true, -1⟩] (by omega) (by decide)) ?_
        have e1 : sel l [⟨true, -1⟩] = selN l [⟨true, -1⟩] 1 := by unfold sel; rw [hok]; rfl
        have e2 : (selN l [⟨true, -1⟩] 1).length = l.length := by
          unfold selN
          rw [List.length_map, List.filter_eq_self.2 (fun i _ => by rw [fitsP]; rfl), List.length_range]
        rw [e1, e2]
        exact (B.Ev.pure _).eq (by simp)
      | succ n ih =>
        intro i hi
        have hi' : i < l.length := by omega
        have hh : decide ((i : Int) ∈ selN l q (m + 1)) = (labP l (q.getD m z56) i && fitB l q m i) := by
          rw [← fitsP_succ, Bool.eq_iff_iff, decide_eq_true_eq, mem_selN]
          constructor
          · rintro ⟨g, h1, _, h2⟩; obtain rfl : i = g := by omega
            exact h2
          · intro h1; exact ⟨i, rfl, hi', h1⟩
        have fin : ∀ bb : Bool, bb = fitB l q m i → B.Ev (fun k => (laws_has.f k (selN l q (m + 1)) (i : Int)).bind fun t1036 => (if bb = true then (if (q.getD m z56).f1 = (-1) then (if (t1036 != true) = true then (some false) else (laws_FnPicked.l0 k l q (selN l q (m + 1)) up (wrap64 ((i : Int) + 1)) (q.getD m z56).f0 (q.getD m z56).f1)) else (if 0 ≤ (i : Int) then (if (i : Int) < (l.length : Int) then (if (t1036 != ((q.getD m z56).f1 == ((rd_T48 l (i : Int)).f0))) = true then (some false) else (laws_FnPicked.l0 k l q (selN l q (m + 1)) up (wrap64 ((i : Int) + 1)) (q.getD m z56).f0 (q.getD m z56).f1)) else (none)) else (none))) else (if (t1036 != false) = true then (some false) else (laws_FnPicked.l0 k l q (selN l q (m + 1)) up (wrap64 ((i : Int) + 1)) (q.getD m z56).f0 (q.getD m z56).f1)))) true := by
          intro bb hbb
          refine B.Ev.bind (evHasI _ (by omega) _) ?_
          rw [hh, ← hbb]
          simp only [B.wsucc (show i < 9223372036854775807 by omega), show 0 ≤ (i : Int) by omega, show (i : Int) < (l.length : Int) by omega, ↓reduceIte, rdNode]
          cases bb with
          | false => simp only [Bool.and_false, Bool.false_eq_true, ↓reduceIte, bne_self_eq_false]; exact ih (i + 1) (by omega)
          | true =>
            simp only [Bool.and_true, ↓reduceIte]
            refine B.Ev.ite (fun c1 => ?_) (fun c1 => ?_)
            · have : labP l (q.getD m z56) i = true := by unfold labP; rw [decide_eq_true c1]; rfl
              simp only [this, bne_self_eq_false, Bool.false_eq_true, ↓reduceIte]; exact ih (i + 1) (by omega)
            · have : labP l (q.getD m z56) i = ((q.getD m z56).f1 == (l.getD i z48).f0) := by unfold labP lab; rw [decide_eq_false c1, Bool.false_or]; rfl
              simp only [this, bne_self_eq_false, Bool.false_eq_true, ↓reduceIte]; exact ih (i + 1) (by omega)
        have loop : ∀ r j (bb : Bool), j + r = up.length → (bb || (up.drop j).any (upB l (q.getD m z56).f0 i)) = fitB l q m i → B.Ev (fun k => laws_FnPicked.l1 k l q (selN l q (m + 1)) up (i : Int) bb (j : Int) (q.getD m z56).f0 (q.getD m z56).f1) true := by
          intro r
          induction r with
          | zero =>
            intro j bb hj hbb
            refine B.Ev.succ ?_
            simp only [laws_FnPicked.l1, show ¬ ((j : Int) < (up.length : Int)) by omega, ↓reduceIte]
            refine fin bb ?_
            rw [List.drop_eq_nil_of_le (by omega)] at hbb
            simpa using hbb
          | succ r ihr =>
            intro j bb hj hbb
            have hj' : j < up.length := by omega
            have hx := hup _ (List.getElem_mem hj')
            rw [List.drop_eq_getElem_cons hj', List.any_cons] at hbb
            refine B.Ev.succ ?_
            simp only [laws_FnPicked.l1, show (j : Int) < (up.length : Int) by omega, show 0 ≤ (j : Int) by omega, ↓reduceIte, rdInt, B.getD_lt hj', B.wsucc (show j < 9223372036854775807 by omega)]
            cases bb with
            | true => simp only [↓reduceIte]; exact ihr (j + 1) true (by omega) (by simpa using hbb)
            | false =>
              simp only [Bool.false_eq_true, ↓reduceIte]
              generalize up[j] = x at hx hbb
              obtain ⟨g, rfl⟩ : ∃ g : Nat, x = (g : Int) := ⟨x.toNat, by omega⟩
              rw [Int.toNat_natCast] at hx
              refine B.Ev.bind (evUnder hok hx.2 hi') ?_
              have eu : upB l (q.getD m z56).f0 i (g : Int) = (decide (g < i ∧ i < endN l g) && ((q.getD m z56).f0 || decide (parN l i = (g : Int)))) := by unfold upB; rw [Int.toNat_natCast]
              rw [Bool.false_or, eu] at hbb
              refine B.Ev.ite (fun c1 => ?_) (fun c1 => ?_)
              · rw [c1, Bool.true_and] at hbb
                refine B.Ev.ite (fun c2 => ?_) (fun c2 => ?_)
                · rw [c2] at hbb
                  have := ihr (j + 1) true (by omega) (by rw [Bool.true_or]; simpa using hbb)
                  exact this
                · rw [Bool.eq_false_iff.2 c2, Bool.false_or] at hbb
                  refine B.Ev.bind (evPar hok hi') ?_
                  have e3 : (parN l i == (g : Int)) = decide (parN l i = (g : Int)) := rfl
                  rw [e3]
                  exact ihr (j + 1) _ (by omega) (by rw [Bool.eq_false_iff.2 c2]; exact hbb)
              · rw [Bool.eq_false_iff.2 c1, Bool.false_and] at hbb
                exact ihr (j + 1) false (by omega) hbb
        have j2 : ∀ bb : Bool, bb = (decide (m = 0) && ((q.getD m z56).f0 || decide (i = 0))) → B.Ev (fun k => laws_FnPicked.j2 k l q (selN l q (m + 1)) up (i : Int) bb (q.getD m z56).f0 (q.getD m z56).f1) true := fun bb hbb => by
          refine B.Ev.succ ?_
          simp only [laws_FnPicked.j2]
          exact loop up.length 0 bb (by omega) (by rw [List.drop_zero, hbb]; exact hany i hi')
        refine B.Ev.succ ?_
        simp only [laws_FnPicked.l0, show ((i : Int) < (l.length : Int)) by omega, ↓reduceIte]
        refine B.Ev.ite (fun c1 => ?_) (fun c1 => ?_)
        · have h0 : m = 0 := by omega
          refine B.Ev.ite (fun c2 => j2 _ (by rw [decide_eq_true h0, c2]; rfl)) (fun c2 => j2 _ ?_)
          rw [decide_eq_true h0, Bool.eq_false_iff.2 c2, Bool.true_and, Bool.false_or, Bool.eq_iff_iff]
          simp
        · exact j2 _ (by rw [decide_eq_false (by omega)]; rfl)
end Go.Proofs.Ytekpggmnnfjphaa.Pure
