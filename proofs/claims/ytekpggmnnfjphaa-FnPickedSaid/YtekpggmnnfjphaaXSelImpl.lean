/- The program's Select, step by step, picks what the query picks. -/
import Derived.Test.YtekpggmnnfjphaaXSel
import Derived.Test.YtekpggmnnfjphaaG104
import Derived.Test.YtekpggmnnfjphaaG30
namespace Go.Proofs.Ytekpggmnnfjphaa.X
open Go Go.RowKit Go.Proofs.YtekpggmnnfjphaaW.PrintWords Go.Proofs.YtekpggmnnfjphaaW.PrintLast Go.Proofs.YtekpggmnnfjphaaW.PrintMore Go.Proofs.Ytekpggmnnfjphaa.P
theorem evHasInt (xs : List Int) (hx : xs.length ≤ 4194304) (a : Int) : B.Ev (fun k => slices_Contains_int_int.f k xs a) (xs.any fun y => decide (a = y)) := by
  simp only [slices_Contains_int_int.f, slices_Index_int_int.f]
  have key : ∀ n i : Nat, i + n = xs.length → B.Ev (fun k => slices_Index_int_int.l0 k xs a (xs.length : Int) (i : Int)) (B.idxFrom (fun y => decide (a = y)) (xs.drop i) i) := by
    intro n
    induction n with
    | zero =>
      intro i hi
      refine B.Ev.succ ?_
      simp only [slices_Index_int_int.l0, show ¬ ((i : Int) < (xs.length : Int)) by omega, ↓reduceIte]
      rw [List.drop_eq_nil_of_le (by omega)]
      exact B.Ev.pure _
    | succ n ih =>
      intro i hi
      have hi' : i < xs.length := by omega
      refine B.Ev.succ ?_
      simp only [slices_Index_int_int.l0, show (i : Int) < (xs.length : Int) by omega, show 0 ≤ (i : Int) by omega, ↓reduceIte, rdInt, B.getD_lt hi', B.wsucc (show i < 9223372036854775807 by omega)]
      rw [B.idxFrom_drop _ _ hi']
      by_cases c : a = xs[i]
      · simp only [c, decide_true, ↓reduceIte]; exact B.Ev.pure _
      · simp only [c, decide_false, Bool.false_eq_true, ↓reduceIte]; exact ih (i + 1) (by omega)
  refine B.Ev.bind (key xs.length 0 (by omega)) ?_
  exact (B.Ev.pure _).eq (by rw [List.drop_zero]; exact B.idxFrom_any _ _ _)
/-- Whether one of some nodes lies over i. -/
theorem evUnderAny {l : List S48} (h : okT l = true) (q : List S56) (n : Nat) {i : Nat} (hi : i < l.length) :
    B.Ev (fun k => slices_ContainsFunc_int_int__Select_lit1.f k (selN l q n) l (i : Int)) (anyUp l (fitsP l q n) i) := by
  have hl := (okT_len h).2
  have hs := selN_length l q n
  simp only [slices_ContainsFunc_int_int__Select_lit1.f]
  have hm : ∀ x ∈ selN l q n, 0 ≤ x ∧ x.toNat < l.length := fun x hx => by
    obtain ⟨g, rfl, h1, _⟩ := (mem_selN l q n x).1 hx
    exact ⟨by omega, by omega⟩
  have key : ∀ m j : Nat, j + m = (selN l q n).length → B.Ev (fun k => slices_ContainsFunc_int_int__Select_lit1.l0 k (selN l q n) l (i : Int) ((selN l q n).length : Int) (j : Int)) (B.idxFrom (fun x => decide (x.toNat < i ∧ i < endN l x.toNat)) ((selN l q n).drop j) j) := by
    intro m
    induction m with
    | zero =>
      intro j hj
      refine B.Ev.succ ?_
      simp only [slices_ContainsFunc_int_int__Select_lit1.l0, show ¬ ((j : Int) < ((selN l q n).length : Int)) by omega, ↓reduceIte]
      rw [List.drop_eq_nil_of_le (by omega)]
      exact B.Ev.pure _
    | succ m ih =>
      intro j hj
      have hj' : j < (selN l q n).length := by omega
      refine B.Ev.succ ?_
      have hx := hm _ (List.getElem_mem hj')
      simp only [slices_ContainsFunc_int_int__Select_lit1.l0, show (j : Int) < ((selN l q n).length : Int) by omega, show 0 ≤ (j : Int) by omega, ↓reduceIte, rdInt, B.getD_lt hj', B.wsucc (show j < 9223372036854775807 by omega)]
      rw [B.idxFrom_drop _ _ hj']
      generalize (selN l q n)[j] = x at hx
      obtain ⟨g, rfl⟩ : ∃ g : Nat, x = (g : Int) := ⟨x.toNat, by omega⟩
      rw [Int.toNat_natCast] at hx
      refine B.Ev.bind (evUnder' h hx.2 hi) ?_
      rw [Int.toNat_natCast]
      refine B.Ev.ite (fun c => ?_) (fun c => ?_)
      · rw [if_pos c]; exact B.Ev.pure _
      · rw [if_neg c]; exact ih (j + 1) (by omega)
  refine B.Ev.bind (key (selN l q n).length 0 (by omega)) ?_
  refine (B.Ev.pure _).eq ?_
  rw [List.drop_zero, B.idxFrom_any, Bool.eq_iff_iff, List.any_eq_true, anyUp_iff l _ i hi]
  constructor
  · rintro ⟨x, hx, hc⟩
    obtain ⟨g, rfl, h1, h2⟩ := (mem_selN l q n x).1 hx
    rw [Int.toNat_natCast, decide_eq_true_eq] at hc
    exact ⟨g, hc, h2⟩
  · rintro ⟨g, hg, h2⟩
    have : g < l.length := by omega
    exact ⟨(g : Int), (mem_selN l q n _).2 ⟨g, rfl, this, h2⟩, by rw [Int.toNat_natCast, decide_eq_true_eq]; exact hg⟩

/-- What a step asks beside the label. -/
def fitB (l : List S48) (q : List S56) (n i : Nat) : Bool := if n = 0 then (q.getD n z56).f0 || decide (i = 0) else if (q.getD n z56).f0 then anyUp l (fitsP l q n) i else decide (0 ≤ parN l i) && fitsP l q n (parN l i).toNat
theorem fitsP_succ (l : List S48) (q : List S56) (n i : Nat) : fitsP l q (n + 1) i = (labP l (q.getD n z56) i && fitB l q n i) := by rw [fitsP]; rfl
theorem has_par {l : List S48} (q : List S56) (n i : Nat) (hi : i < l.length) : ((selN l q n).any fun y => decide (parN l i = y)) = (decide (0 ≤ parN l i) && fitsP l q n (parN l i).toNat) := by
  have hp := parN_spec l i
  rw [Bool.eq_iff_iff, List.any_eq_true, Bool.and_eq_true, decide_eq_true_eq]
  constructor
  · rintro ⟨x, hx, hc⟩
    obtain ⟨g, rfl, h1, h2⟩ := (mem_selN l q n x).1 hx
    rw [decide_eq_true_eq] at hc
    rw [hc, Int.toNat_natCast]
    exact ⟨by omega, h2⟩
  · rintro ⟨h1, h2⟩
    exact ⟨parN l i, (mem_selN l q n _).2 ⟨(parN l i).toNat, by omega, by omega, h2⟩, by simp⟩

theorem evSel' (l : List S48) (q : List S56) (hl : l.length ≤ 4194304) (hq : q.length ≤ 4194304) : B.Ev (fun k => impl_Select.f k l q) (sel l q) := by
  simp only [impl_Select.f, Option.bind_some]
  have out : (okT l && okQ q) = false → B.Ev (fun k => impl_Select.j0 k q [] true l) (sel l q) := fun hc => by
    refine B.Ev.succ ?_
    simp only [impl_Select.j0, ↓reduceIte]
    exact (B.Ev.pure _).eq (by unfold sel; rw [hc]; rfl)
  refine B.Ev.bind (B.Ev.of _ (fun k hk => implTreeOk l hl k hk)) ?_
  cases hok : okT l with
  | false => simp only [Bool.false_eq_true, ↓reduceIte]; exact out (by rw [hok]; rfl)
  | true =>
    simp only [↓reduceIte]
    refine B.Ev.bind (B.Ev.of _ (fun k hk => implQueryOk q hq k hk)) ?_
    cases hqq : okQ q with
    | false => exact out (by rw [hqq, Bool.and_false])
    | true =>
      have hl2 := (okT_len hok).2
      have hq2 : 1 ≤ q.length ∧ q.length ≤ 6 := by unfold okQ at hqq; simp at hqq; exact hqq.1
      have e : sel l q = selN l q q.length := by unfold sel; rw [hok, hqq]; rfl
      refine B.Ev.succ ?_
      simp only [impl_Select.j0, Bool.not_true, Bool.false_eq_true, ↓reduceIte]
      rw [e]
      suffices H : ∀ m n x, n + m = q.length → (n = 0 ∨ x = selN l q n) → x.length ≤ 24 → (m = 0 → x = selN l q n) → B.Ev (fun k => impl_Select.l0 k x q (q.length : Int) (n : Int) l) (selN l q q.length) from H q.length 0 [] (by omega) (Or.inl rfl) (by simp) (fun c => by omega)
      intro m
      induction m with
      | zero =>
        intro n x hn hx hx2 hx3
        refine B.Ev.succ ?_
        simp only [impl_Select.l0, show ¬ ((n : Int) < (q.length : Int)) by omega, ↓reduceIte]
        exact (B.Ev.pure _).eq (by rw [hx3 rfl]; congr 1)
      | succ m ihm =>
        intro n x hn hx hx2 _
        refine B.Ev.succ ?_
        simp only [impl_Select.l0, show ((n : Int) < (q.length : Int)) by omega, show 0 ≤ (n : Int) by omega, ↓reduceIte, pickAt]
        suffices H : ∀ r i, i + r = l.length → B.Ev (fun k => impl_Select.l1 k x (n : Int) (((List.range i).filter (fitsP l q (n + 1))).map fun i : Nat => (i : Int)) q (q.length : Int) (n : Int) l (l.length : Int) (i : Int) l (q.getD n z56).f0 (q.getD n z56).f1) (selN l q q.length) from H l.length 0 (by omega)
        intro r
        induction r with
        | zero =>
          intro i hi
          refine B.Ev.succ ?_
          simp only [impl_Select.l1, show ¬ ((i : Int) < (l.length : Int)) by omega, ↓reduceIte, B.wsucc (show n < 9223372036854775807 by omega)]
          have e2 : (((List.range i).filter (fitsP l q (n + 1))).map fun i : Nat => (i : Int)) = selN l q (n + 1) := by rw [show i = l.length by omega]; rfl
          rw [e2]
          exact ihm (n + 1) _ (by omega) (Or.inr rfl) (Nat.le_trans (selN_length _ _ _) (by omega)) (fun _ => rfl)
        | succ r ihr =>
          intro i hi
          have hr : ((List.range i).filter (fitsP l q (n + 1))).length ≤ i := Nat.le_trans (List.length_filter_le _ _) (by simp)
          have ih' := ihr (i + 1) (by omega)
          rw [List.range_succ, List.filter_append, List.map_append] at ih'
          have fin : ∀ b : Bool, b = fitB l q n i → B.Ev (fun k => if b = true then (if (q.getD n z56).f1 = -1 then (impl_Select.l1 k x (n : Int) ((((List.range i).filter (fitsP l q (n + 1))).map fun i : Nat => (i : Int)) ++ [(i : Int)]) q (q.length : Int) (n : Int) l (l.length : Int) ((i + 1 : Nat) : Int) l (q.getD n z56).f0 (q.getD n z56).f1) else (if (q.getD n z56).f1 = (l.getD i z48).f0 then (impl_Select.l1 k x (n : Int) ((((List.range i).filter (fitsP l q (n + 1))).map fun i : Nat => (i : Int)) ++ [(i : Int)]) q (q.length : Int) (n : Int) l (l.length : Int) ((i + 1 : Nat) : Int) l (q.getD n z56).f0 (q.getD n z56).f1) else (impl_Select.l1 k x (n : Int) (((List.range i).filter (fitsP l q (n + 1))).map fun i : Nat => (i : Int)) q (q.length : Int) (n : Int) l (l.length : Int) ((i + 1 : Nat) : Int) l (q.getD n z56).f0 (q.getD n z56).f1))) else (impl_Select.l1 k x (n : Int) (((List.range i).filter (fitsP l q (n + 1))).map fun i : Nat => (i : Int)) q (q.length : Int) (n : Int) l (l.length : Int) ((i + 1 : Nat) : Int) l (q.getD n z56).f0 (q.getD n z56).f1)) (selN l q q.length) := by
            intro b hb
            have ef := fitsP_succ l q n i
            rw [← hb] at ef
            cases b with
            | false =>
              simp only [Bool.false_eq_true, ↓reduceIte]
              rw [Bool.and_false] at ef
              simpa [List.filter_cons, ef] using ih'
            | true =>
              rw [Bool.and_true] at ef
              simp only [↓reduceIte]
              refine B.Ev.ite (fun c => ?_) (fun c => B.Ev.ite (fun c2 => ?_) (fun c2 => ?_))
              · have : labP l (q.getD n z56) i = true := by unfold labP; rw [decide_eq_true c]; rfl
                rw [this] at ef
                simpa [List.filter_cons, ef] using ih'
              · have : labP l (q.getD n z56) i = true := by unfold labP lab; rw [decide_eq_true c2, Bool.or_true]
                rw [this] at ef
                simpa [List.filter_cons, ef] using ih'
              · have : labP l (q.getD n z56) i = false := by unfold labP lab; rw [decide_eq_false c, decide_eq_false c2]; rfl
                rw [this] at ef
                simpa [List.filter_cons, ef] using ih'
          have j4 : ∀ (b11 b52 : Bool) (y : Int), (n = 0 → b11 = fitB l q n i ∧ b52 = false) → (n ≠ 0 → b52 = (q.getD n z56).f0) → B.Ev (fun k => impl_Select.j4 k x (n : Int) (((List.range i).filter (fitsP l q (n + 1))).map fun i : Nat => (i : Int)) b11 q (q.length : Int) (n : Int) l (l.length : Int) (i : Int) b52 l (q.getD n z56).f0 (q.getD n z56).f1 (i : Int) (l.getD i z48).f0 y) (selN l q q.length) := by
            intro b11 b52 y h0 h1
            refine B.Ev.succ ?_
            simp only [impl_Select.j4, List.length_map, show ((List.range i).filter (fitsP l q (n + 1))).length < 17592186044416 by omega, ↓reduceIte, B.wsucc (show i < 9223372036854775807 by omega)]
            by_cases hn0 : n = 0
            · obtain ⟨h2, h3⟩ := h0 hn0
              subst h3
              have hn1 : ¬ (n : Int) > 0 := by omega
              simp only [Bool.false_eq_true, ↓reduceIte, hn1]
              exact fin b11 h2
            · have hn1 : (n : Int) > 0 := by omega
              have hx' : x = selN l q n := by rcases hx with c | c; exact absurd c hn0; exact c
              rw [h1 hn0]
              simp only [hn1, ↓reduceIte]
              refine B.Ev.ite (fun hd => ?_) (fun hd => ?_)
              · have fb : fitB l q n i = anyUp l (fitsP l q n) i := by unfold fitB; rw [if_neg hn0, if_pos hd]
                have ev := evUnderAny hok q n (show i < l.length by omega)
                rw [← hx'] at ev
                exact B.Ev.bind ev (fin _ fb.symm)
              · have fb : fitB l q n i = (decide (0 ≤ parN l i) && fitsP l q n (parN l i).toNat) := by unfold fitB; rw [if_neg hn0, if_neg hd]
                refine B.Ev.bind (evPar' hok (show i < l.length by omega)) ?_
                refine B.Ev.bind (evHasInt x (by omega) _) ?_
                rw [hx', has_par q n i (by omega), ← hx']
                exact fin _ fb.symm
          have j3 : ∀ (b11 : Bool) (y : Int), (n = 0 → b11 = fitB l q n i) → B.Ev (fun k => impl_Select.j3 k x (n : Int) (((List.range i).filter (fitsP l q (n + 1))).map fun i : Nat => (i : Int)) b11 q (q.length : Int) (n : Int) l (l.length : Int) (i : Int) l (q.getD n z56).f0 (q.getD n z56).f1 (i : Int) (l.getD i z48).f0 y) (selN l q q.length) := by
            intro b11 y h0
            refine B.Ev.succ ?_
            simp only [impl_Select.j3]
            refine B.Ev.ite (fun c => j4 _ _ _ (fun c2 => absurd c2 (by omega)) (fun _ => rfl)) (fun c => j4 _ _ _ (fun c2 => ⟨h0 c2, rfl⟩) (fun c2 => absurd c2 (by omega)))
          refine B.Ev.succ ?_
          simp only [impl_Select.l1, show ((i : Int) < (l.length : Int)) by omega, show 0 ≤ (i : Int) by omega, ↓reduceIte, rdNode]
          refine B.Ev.ite (fun c => ?_) (fun c => j3 _ _ (fun c2 => absurd c2 (by omega)))
          have hn0 : n = 0 := by omega
          have fb : fitB l q n i = ((q.getD n z56).f0 || decide (i = 0)) := by unfold fitB; rw [if_pos hn0]
          refine B.Ev.ite (fun hd => j3 _ _ (fun _ => by rw [fb, hd]; rfl)) (fun hd => ?_)
          have e0 : ((i : Int) == 0) = decide (i = 0) := by rw [Bool.eq_iff_iff]; simp
          rw [e0]
          exact j3 _ _ (fun _ => by rw [fb, Bool.eq_false_iff.2 hd]; rfl)
end Go.Proofs.Ytekpggmnnfjphaa.X
