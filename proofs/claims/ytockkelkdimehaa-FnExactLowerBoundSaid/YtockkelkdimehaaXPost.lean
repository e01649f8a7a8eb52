/- The nodes in the order in which each comes behind what is under it: the reference's and the program's are one row. -/
import Derived.Test.YtockkelkdimehaaXEnd
import Derived.Test.YtockkelkdimehaaXEvP
import Derived.Test.YtockkelkdimehaaG102
namespace Go.Proofs.Ytockkelkdimehaa.X
open Go Go.RowKit Go.Proofs.YtockkelkdimehaaW.PrintWords Go.Proofs.YtockkelkdimehaaW.PrintLast Go.Proofs.YtockkelkdimehaaW.PrintMore Go.Proofs.Ytockkelkdimehaa.P
def ltP (l : List S59) (x y : Nat) : Prop := (x < y ∧ endN l x ≤ y) ∨ (y < x ∧ x < endN l y)
/-- Subtrees lie one in the other or apart. -/
theorem endN_in (l : List S59) {x y : Nat} (hy : y < l.length) (h : x < y) (h2 : y < endN l x) : endN l y ≤ endN l x := by
  have a := endN_spec l (show x < l.length by omega)
  have b := endN_spec l hy
  rcases Nat.lt_or_ge (endN l x) (endN l y) with c | c
  · have d1 := a.2.2.2 (by omega)
    have d2 := b.2.2.1 (endN l x) h2 c
    have d3 := a.2.2.1 y h h2
    omega
  · exact c
theorem endN_root {l : List S59} (h : okT l = true) : endN l 0 = l.length := by
  have hl := okT_len h
  have a := endN_spec l (show 0 < l.length by omega)
  rcases Nat.lt_or_ge (endN l 0) l.length with c | c
  · have d := a.2.2.2 c
    have r0 := (okT_at h (show 0 < l.length by omega)).2.2.1
    have r1 := okT_at h c
    have e0 : dep l 0 = 0 := r0.2 rfl
    have n1 : ¬ dep l (endN l 0) = 0 := fun e => by have := r1.2.2.1.1 e; omega
    omega
  · omega

/-- The children of i from place c on. -/
def kidF (l : List S59) (i a b : Nat) : List Nat := (List.range' a (b - a)).filter fun j => decide (dep l j = dep l i + 1)
def kids (l : List S59) (i : Nat) : List Nat := kidF l i (i + 1) (endN l i)
theorem kidF_snoc (l : List S59) (i a b : Nat) (h : a ≤ b) : kidF l i a (b + 1) = kidF l i a b ++ if dep l b = dep l i + 1 then [b] else [] := by
  unfold kidF
  rw [show b + 1 - a = (b - a) + 1 by omega, List.range'_concat, List.filter_append, show a + 1 * (b - a) = b by omega]
  split <;> rename_i c
  · rw [List.filter_cons_of_pos (by simp [c])]; rfl
  · rw [List.filter_cons_of_neg (by simp [c])]; rfl
theorem kidF_len (l : List S59) (i a b : Nat) : (kidF l i a b).length ≤ b - a := by
  unfold kidF
  exact Nat.le_trans (List.length_filter_le _ _) (by simp)
theorem kidF_end (l : List S59) (i b : Nat) : kidF l i b b = [] := by unfold kidF; simp
/-- A child, then the children behind its subtree. -/
theorem kidF_cons (l : List S59) {i c : Nat} (hi : i < c) (hc : c < endN l i) (hil : i < l.length) (hd : dep l c = dep l i + 1) :
    kidF l i c (endN l i) = c :: kidF l i (endN l c) (endN l i) := by
  have a := endN_spec l hil
  have b := endN_spec l (show c < l.length by omega)
  have e := endN_in l (show c < l.length by omega) hi hc
  unfold kidF
  rw [show endN l i - c = 1 + ((endN l c - (c + 1)) + (endN l i - endN l c)) by omega, ← List.range'_append_1, ← List.range'_append_1, List.filter_append, List.filter_append]
  rw [show c + 1 + (endN l c - (c + 1)) = endN l c by omega]
  have n1 : (List.range' (c + 1) (endN l c - (c + 1))).filter (fun j => decide (dep l j = dep l i + 1)) = [] := by
    rw [List.filter_eq_nil_iff]
    intro j hj
    rw [List.mem_range'_1] at hj
    have := b.2.2.1 j (by omega) (by omega)
    simp; omega
  rw [n1]
  simp [List.range'_succ, hd]

theorem evKids {l : List S59} (h : okT l = true) {i : Nat} (hi : i < l.length) : B.Ev (fun k => spec_KidsOf.f k l (i : Int)) ((kids l i).map fun (j : Nat) => (j : Int)) := by
  have hl := (okT_len h).2
  have a := endN_spec l hi
  simp only [spec_KidsOf.f, B.wsucc (show i < 9223372036854775807 by omega)]
  have e0 : ([] : List Int) = (kidF l i (i + 1) (i + 1)).map fun (j : Nat) => (j : Int) := by rw [kidF_end]; rfl
  rw [e0]
  have a3 : 0 ≤ (i : Int) := by omega
  have a4 : (i : Int) < (l.length : Int) := by omega
  refine B.Ev.loop (g := fun k j => spec_KidsOf.l0 k l (i : Int) ((kidF l i (i + 1) j).map fun (j : Nat) => (j : Int)) (j : Int)) (endN l i) (fun j => i + 1 ≤ j) ?_ ?_ (i + 1) (by omega) (Nat.le_refl _)
  · intro _
    refine B.Ev.succ ?_
    simp only [spec_KidsOf.l0]
    refine B.Ev.bind (evAt l (by omega) _) ?_
    rw [isAt_of h hi]
    simp only [↓reduceIte]
    refine B.Ev.bind (evEnd h hi) ?_
    refine B.Ev.succ ?_
    simp only [spec_KidsOf.j1, Int.lt_irrefl, decide_false, Bool.false_eq_true, ↓reduceIte]
    exact B.Ev.pure _
  · intro j hj hI ih
    refine B.Ev.succ ?_
    simp only [spec_KidsOf.l0]
    refine B.Ev.bind (evAt l (by omega) _) ?_
    rw [isAt_of h hi]
    simp only [↓reduceIte]
    refine B.Ev.bind (evEnd h hi) ?_
    refine B.Ev.succ ?_
    have a1 : (j : Int) < (l.length : Int) := by omega
    have a2 : 0 ≤ (j : Int) := by omega
    have a5 : (j : Int) < (endN l i : Int) := by omega
    have d := okT_at h hi
    have ew : wrap64 (dep l i + 1) = dep l i + 1 := B.wid (by omega) (by omega)
    have ew' : wrap64 ((l.getD i z59).f1 + 1) = (l.getD i z59).f1 + 1 := ew
    have hk := kidF_len l i (i + 1) j
    have lm : ((kidF l i (i + 1) j).map fun (j : Nat) => (j : Int)).length < 17592186044416 := by rw [List.length_map]; omega
    simp only [spec_KidsOf.j1, a1, a2, a3, a4, a5, lm, decide_true, ↓reduceIte, rdNode, ew', B.wsucc (show j < 9223372036854775807 by omega)]
    have ih := ih (by omega)
    rw [kidF_snoc l i (i + 1) j hI] at ih
    by_cases c : dep l j = dep l i + 1
    · have c' : (l.getD j z59).f1 = (l.getD i z59).f1 + 1 := c
      simp only [c', ↓reduceIte]
      simp only [c, ↓reduceIte, List.map_append, List.map_cons, List.map_nil] at ih
      exact ih
    · have c' : ¬ (l.getD j z59).f1 = (l.getD i z59).f1 + 1 := c
      simp only [c', ↓reduceIte]
      simp only [c, ↓reduceIte, List.append_nil] at ih
      exact ih

/-- L is the nodes of [a, b) in the order. -/
def Ord (l : List S59) (a b : Nat) (L : List Nat) : Prop := L.Perm (List.range' a (b - a)) ∧ L.Pairwise (ltP l)
theorem Ord.len {l : List S59} {a b : Nat} {L : List Nat} (h : Ord l a b L) : L.length = b - a := by rw [h.1.length_eq]; simp
theorem Ord.mem {l : List S59} {a b x : Nat} {L : List Nat} (h : Ord l a b L) (hx : x ∈ L) : a ≤ x ∧ x < b := by
  have := List.mem_range'_1.1 (h.1.mem_iff.1 hx)
  omega
theorem Ord.uniq {l : List S59} {a b : Nat} {L M : List Nat} (h : Ord l a b L) (h' : Ord l a b M) : L = M := by
  refine List.Perm.eq_of_pairwise (le := ltP l) ?_ h.2 h'.2 (h.1.trans h'.1.symm)
  intro x y _ _ h1 h2
  unfold ltP at h1 h2
  omega

theorem evPostN {l : List S59} (h : okT l = true) : ∀ i, i < l.length → B.EvP (fun k => spec_l6Post.f k l (i : Int)) (fun v => ∃ L : List Nat, v = L.map (fun (j : Nat) => (j : Int)) ∧ Ord l i (endN l i) L) := by
  have hl := (okT_len h).2
  have key : ∀ n i, i < l.length → l.length - i ≤ n → B.EvP (fun k => spec_l6Post.f k l (i : Int)) (fun v => ∃ L : List Nat, v = L.map (fun (j : Nat) => (j : Int)) ∧ Ord l i (endN l i) L) := by
    intro n
    induction n with
    | zero => intro i hi hn; omega
    | succ n ih =>
      intro i hi hn
      have a := endN_spec l hi
      refine B.EvP.succ ?_
      simp only [spec_l6Post.f]
      refine B.EvP.bind (P := fun v => v = (kids l i).map fun (j : Nat) => (j : Int)) (B.EvP.of (evKids h hi) rfl) ?_
      rintro _ rfl
      -- the loop over the children, from the child at place c on
      have loop : ∀ d m c (L : List Nat), endN l i - c ≤ d → (kids l i).drop m = kidF l i c (endN l i) → i < c → c ≤ endN l i → (c < endN l i → dep l c = dep l i + 1) → Ord l (i + 1) c L →
          B.EvP (fun k => spec_l6Post.l0 k l (i : Int) (L.map fun (j : Nat) => (j : Int)) ((kids l i).map fun (j : Nat) => (j : Int)) (m : Int)) (fun v => ∃ L : List Nat, v = L.map (fun (j : Nat) => (j : Int)) ∧ Ord l i (endN l i) L) := by
        intro d
        induction d with
        | zero =>
          intro m c L hd hk hic hce hdp hL
          obtain rfl : c = endN l i := by omega
          rw [kidF_end] at hk
          have hm : (kids l i).length ≤ m := by
            have := congrArg List.length hk
            simp at this
            omega
          refine B.EvP.succ ?_
          have hlen := hL.len
          have lm : (L.map fun (j : Nat) => (j : Int)).length < 17592186044416 := by rw [List.length_map]; omega
          have lk : ¬ (m : Int) < (((kids l i).map fun (j : Nat) => (j : Int)).length : Int) := by rw [List.length_map]; omega
          simp only [spec_l6Post.l0, lk, lm, ↓reduceIte]
          refine B.EvP.pure ⟨L ++ [i], by simp, ?_, ?_⟩
          · have e : List.range' i (endN l i - i) = i :: List.range' (i + 1) (endN l i - (i + 1)) := by
              rw [show endN l i - i = (endN l i - (i + 1)) + 1 by omega, List.range'_succ]
            rw [e]
            exact List.perm_append_comm.trans (List.Perm.cons i hL.1)
          · rw [List.pairwise_append]
            refine ⟨hL.2, by simp, ?_⟩
            intro x hx y hy
            obtain rfl := List.mem_singleton.1 hy
            have := hL.mem hx
            exact Or.inr (by omega)
        | succ d ihd =>
          intro m c L hd hk hic hce hdp hL
          by_cases hc : c < endN l i
          · have hcl : c < l.length := by omega
            have b := endN_spec l hcl
            have hdc := hdp hc
            have hin := endN_in l hcl hic hc
            rw [kidF_cons l hic hc hi hdc] at hk
            have hm : m < (kids l i).length := by
              have := congrArg List.length hk
              simp at this
              omega
            rw [List.drop_eq_getElem_cons hm, List.cons.injEq] at hk
            refine B.EvP.succ ?_
            have lk : (m : Int) < (((kids l i).map fun (j : Nat) => (j : Int)).length : Int) := by rw [List.length_map]; omega
            have rk : rd ((kids l i).map fun (j : Nat) => (j : Int)) (m : Int) = (c : Int) := by
              unfold rd
              rw [Int.toNat_natCast, B.getD_lt (by simpa using hm), List.getElem_map, hk.1]
            simp only [spec_l6Post.l0, lk, show 0 ≤ (m : Int) by omega, ↓reduceIte, rk, B.wsucc (show m < 9223372036854775807 by have := kidF_len l i (i + 1) (endN l i); unfold kids at hm; omega)]
            refine B.EvP.bind (ih c hcl (by omega)) ?_
            rintro _ ⟨M, rfl, hM⟩
            have hl1 := hL.len
            have hl2 := hM.len
            have lm : (L.map fun (j : Nat) => (j : Int)).length + (M.map fun (j : Nat) => (j : Int)).length < 17592186044416 := by rw [List.length_map, List.length_map]; omega
            simp only [lm, ↓reduceIte]
            rw [← List.map_append]
            refine ihd (m + 1) (endN l c) (L ++ M) (by omega) hk.2 (by omega) hin ?_ ⟨?_, ?_⟩
            · intro h1
              have d1 := b.2.2.2 (by omega)
              have d2 := a.2.2.1 (endN l c) (by omega) h1
              omega
            · have e : List.range' (i + 1) (endN l c - (i + 1)) = List.range' (i + 1) (c - (i + 1)) ++ List.range' c (endN l c - c) := by
                have q := List.range'_append_1 (s := i + 1) (m := c - (i + 1)) (n := endN l c - c)
                rw [show i + 1 + (c - (i + 1)) = c by omega] at q
                rw [q]
                congr 1
                omega
              rw [e]
              exact hL.1.append hM.1
            · rw [List.pairwise_append]
              refine ⟨hL.2, hM.2, ?_⟩
              intro x hx y hy
              have m1 := hL.mem hx
              have m2 := hM.mem hy
              have x1 := endN_spec l (show x < l.length by omega)
              have dx := a.2.2.1 x (by omega) (by omega)
              refine Or.inl ⟨by omega, ?_⟩
              rcases Nat.lt_or_ge c (endN l x) with q | q
              · have := x1.2.2.1 c (by omega) q
                omega
              · omega
          · exact ihd m c L (by omega) hk hic hce hdp hL
      have e0 : ([] : List Int) = ([] : List Nat).map fun (j : Nat) => (j : Int) := rfl
      rw [e0]
      refine loop (endN l i) 0 (i + 1) [] (by omega) (by rw [List.drop_zero]; rfl) (by omega) (by omega) ?_ ⟨by simp, by simp⟩
      intro hc
      have q1 := a.2.2.1 (i + 1) (by omega) hc
      have q2 := (okT_at h (show i + 1 < l.length by omega)).2.2.2
      rcases q2 with q2 | q2
      · omega
      · rw [show i + 1 - 1 = i by omega] at q2
        omega
  exact fun i hi => key _ i hi (Nat.le_refl _)

/-- All nodes in the order: by sorting. -/
def ends (l : List S59) : List Int := (List.range l.length).map fun (i : Nat) => (endN l i : Int)
theorem ends_at (l : List S59) {x : Nat} (hx : x < l.length) : (ends l).getD x 0 = (endN l x : Int) := by
  unfold ends
  rw [B.getD_lt (by simpa using hx)]
  simp
def postI (l : List S59) : List Int := if okT l = true then slices_SortFunc_int_int__PostOrder_lit1.sorted (ends l) l.length else []
theorem lam (l : List S59) : slices_SortFunc_int_int__PostOrder_lit1.Lam (ends l) l.length := by
  intro x hx y hy hxy h
  rw [ends_at l hx] at h ⊢
  rw [ends_at l hy]
  have := endN_in l hy hxy (by omega)
  omega
theorem sorted_ord (l : List S59) : ∃ L : List Nat, slices_SortFunc_int_int__PostOrder_lit1.sorted (ends l) l.length = L.map (fun (j : Nat) => (j : Int)) ∧ Ord l 0 l.length L := by
  have hS := slices_SortFunc_int_int__PostOrder_lit1.swo (lam l)
  unfold slices_SortFunc_int_int__PostOrder_lit1.sorted
  refine ⟨((List.finRange l.length).mergeSort fun x y => !decide (slices_SortFunc_int_int__PostOrder_lit1.cf (ends l) y.val x.val < 0)).map Fin.val, by rw [List.map_map]; rfl, ?_, ?_⟩
  · have e : (List.finRange l.length).map Fin.val = List.range' 0 (l.length - 0) := by
      apply List.ext_getElem
      · simp
      · intro n h1 h2
        simp
    rw [← e]
    exact (List.mergeSort_perm _ _).map _
  · rw [List.pairwise_map]
    have hp := List.pairwise_mergeSort (le := fun (x y : Fin l.length) => !decide (slices_SortFunc_int_int__PostOrder_lit1.cf (ends l) y.val x.val < 0)) ?_ ?_ (List.finRange l.length)
    · have hn : ((List.finRange l.length).mergeSort fun x y => !decide (slices_SortFunc_int_int__PostOrder_lit1.cf (ends l) y.val x.val < 0)).Pairwise (fun x y => x ≠ y) :=
        ((List.mergeSort_perm _ _).nodup_iff).2 (List.nodup_finRange _)
      refine (hp.and hn).imp ?_
      rintro x y ⟨h1, h2⟩
      have h3 : ¬ slices_SortFunc_int_int__PostOrder_lit1.cf (ends l) y.val x.val < 0 := by simpa using h1
      rw [slices_SortFunc_int_int__PostOrder_lit1.lt_iff, ends_at l x.isLt, ends_at l y.isLt] at h3
      have h4 : x.val ≠ y.val := fun e => h2 (Fin.ext e)
      unfold ltP
      omega
    · intro x y z h1 h2
      have h1 : ¬ slices_SortFunc_int_int__PostOrder_lit1.cf (ends l) y.val x.val < 0 := by simpa using h1
      have h2 : ¬ slices_SortFunc_int_int__PostOrder_lit1.cf (ends l) z.val y.val < 0 := by simpa using h2
      have := hS.ntrans z y x (decide_eq_false h2) (decide_eq_false h1)
      have := of_decide_eq_false this
      simpa using this
    · intro x y
      by_cases c : slices_SortFunc_int_int__PostOrder_lit1.cf (ends l) y.val x.val < 0
      · have c2 : ¬ slices_SortFunc_int_int__PostOrder_lit1.cf (ends l) x.val y.val < 0 := by
          intro c2
          rw [slices_SortFunc_int_int__PostOrder_lit1.lt_iff] at c c2
          omega
        simp [c2]
      · simp [c]
theorem postI_len (l : List S59) : (postI l).length ≤ l.length := by
  unfold postI
  split
  · obtain ⟨L, e, h⟩ := sorted_ord l
    rw [e, List.length_map, h.len]
    omega
  · simp
theorem postI_mem (l : List S59) {x : Nat} (hx : x < (postI l).length) : ∃ i : Nat, (postI l).getD x 0 = (i : Int) ∧ i < l.length := by
  unfold postI at *
  split at hx
  case isFalse => simp at hx
  rename_i h
  rw [if_pos h]
  obtain ⟨L, e, h⟩ := sorted_ord l
  rw [e] at hx ⊢
  rw [B.getD_lt hx, List.getElem_map]
  have := h.mem (List.getElem_mem (by simpa using hx))
  exact ⟨_, rfl, by omega⟩

theorem evPost (l : List S59) (hl : l.length ≤ 4194304) : B.Ev (fun k => spec_PostOrder.f k l) (postI l) := by
  simp only [spec_PostOrder.f]
  refine B.Ev.bind (B.Ev.of _ (fun k hk => specTreeOk l hl k hk)) ?_
  refine B.Ev.ite (fun h => ?_) (fun h => ?_)
  · obtain ⟨v, ⟨L, rfl, hL⟩, hv⟩ := evPostN h 0 (by have := okT_len h; omega)
    obtain ⟨M, e, hM⟩ := sorted_ord l
    rw [endN_root h] at hL
    refine B.Ev.bind hv ?_
    refine (B.Ev.pure _).eq ?_
    unfold postI
    rw [if_pos h, e, hL.uniq hM]
  · exact (B.Ev.pure _).eq (by unfold postI; rw [if_neg h])

theorem evEnds {l : List S59} (h : okT l = true) : B.Ev (fun k => slices_SortFunc_int_int__PostOrder_lit1.ends k l l.length) (ends l) := by
  have key : ∀ j, j ≤ l.length → B.Ev (fun k => slices_SortFunc_int_int__PostOrder_lit1.ends k l j) ((List.range j).map fun (i : Nat) => (endN l i : Int)) := by
    intro j
    induction j with
    | zero => intro _; exact B.Ev.pure _
    | succ j ih =>
      intro hj
      simp only [slices_SortFunc_int_int__PostOrder_lit1.ends]
      refine B.Ev.bind (ih (by omega)) (B.Ev.bind (evEnd' h (by omega)) ?_)
      exact (B.Ev.pure _).eq (by rw [List.range_succ, List.map_append]; rfl)
  exact key _ (Nat.le_refl _)
theorem evPost' (l : List S59) (hl : l.length ≤ 4194304) : B.Ev (fun k => impl_PostOrder.f k l) (postI l) := by
  simp only [impl_PostOrder.f, Option.bind_some]
  refine B.Ev.bind (B.Ev.of _ (fun k hk => implTreeOk l hl k hk)) ?_
  refine B.Ev.ite (fun h => ?_) (fun h => ?_)
  · have e0 : ([] : List Int) = (List.range 0).map fun (i : Nat) => (i : Int) := rfl
    rw [e0]
    have hn := okT_len h
    refine B.Ev.loop (g := fun k j => impl_PostOrder.l0 k ((List.range j).map fun (i : Nat) => (i : Int)) (l.length : Int) (j : Int) l) l.length (fun _ => True) ?_ ?_ 0 (by omega) trivial
    · intro _
      refine B.Ev.succ ?_
      simp only [impl_PostOrder.l0, Int.lt_irrefl, ↓reduceIte, slices_SortFunc_int_int__PostOrder_lit1.f, show 0 < l.length by omega, show l.length < 17592186044416 by omega, and_self]
      refine B.Ev.bind (a := postI l) (B.Ev.bind (evEnds h) ?_) (B.Ev.pure _)
      simp only [lam l, ↓reduceIte]
      exact (B.Ev.pure _).eq (by unfold postI; rw [if_pos h])
    · intro j hj _ ih
      refine B.Ev.succ ?_
      have lm : ((List.range j).map fun (i : Nat) => (i : Int)).length < 17592186044416 := by rw [List.length_map, List.length_range]; omega
      simp only [impl_PostOrder.l0, show (j : Int) < (l.length : Int) by omega, lm, ↓reduceIte, B.wsucc (show j < 9223372036854775807 by omega)]
      have ih := ih trivial
      rw [List.range_succ, List.map_append] at ih
      exact ih
  · exact (B.Ev.pure _).eq (by unfold postI; rw [if_neg h])
end Go.Proofs.Ytockkelkdimehaa.X
