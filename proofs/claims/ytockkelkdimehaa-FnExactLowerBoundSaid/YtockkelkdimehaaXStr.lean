/- The edit distance of two rows of labels: one function D of two places; the reference's table and the program's rows both tell it. -/
import Derived.Test.YtockkelkdimehaaXCostOk
import Derived.Test.YtockkelkdimehaaG20
import Derived.Test.YtockkelkdimehaaG43
namespace Go.Proofs.Ytockkelkdimehaa.X
open Go Go.RowKit Go.Proofs.YtockkelkdimehaaW.PrintWords Go.Proofs.YtockkelkdimehaaW.PrintLast Go.Proofs.YtockkelkdimehaaW.PrintMore Go.Proofs.Ytockkelkdimehaa.P

/-- What it costs at least from the first p labels of a to the first q of b. -/
def D (a b d i r : List Int) : Nat → Nat → Int
  | 0, 0 => 0
  | 0, q + 1 => D a b d i r 0 q + i.getD (b.getD q 0).toNat 0
  | p + 1, 0 => D a b d i r p 0 + d.getD (a.getD p 0).toNat 0
  | p + 1, q + 1 => min (min (D a b d i r p (q + 1) + d.getD (a.getD p 0).toNat 0) (D a b d i r (p + 1) q + i.getD (b.getD q 0).toNat 0)) (D a b d i r p q + r.getD ((a.getD p 0).toNat * 6 + (b.getD q 0).toNat) 0)
termination_by p q => p + q

theorem D_bound {a b d i r : List Int} (hd : ∀ x ∈ d, 0 ≤ x ∧ x ≤ 1000) (hi : ∀ x ∈ i, 0 ≤ x ∧ x ≤ 1000) (hr : ∀ x ∈ r, 0 ≤ x ∧ x ≤ 1000) :
    ∀ n p q, p + q = n → 0 ≤ D a b d i r p q ∧ D a b d i r p q ≤ 1000 * ((p : Int) + (q : Int)) := by
  intro n
  induction n using Nat.strongRecOn with
  | _ n ih =>
    intro p q hn
    rcases p with _ | p <;> rcases q with _ | q
    · rw [D]; omega
    · have h1 := ih (0 + q) (by omega) 0 q rfl
      have h2 := getD_bound hi (b.getD q 0).toNat
      rw [D]; omega
    · have h1 := ih (p + 0) (by omega) p 0 rfl
      have h2 := getD_bound hd (a.getD p 0).toNat
      rw [D]; omega
    · have h1 := ih (p + (q + 1)) (by omega) p (q + 1) rfl
      have h3 := ih (p + 1 + q) (by omega) (p + 1) q rfl
      have h4 := ih (p + q) (by omega) p q rfl
      have h2 := getD_bound hd (a.getD p 0).toNat
      have h5 := getD_bound hi (b.getD q 0).toNat
      have h6 := getD_bound hr ((a.getD p 0).toNat * 6 + (b.getD q 0).toNat)
      rw [D]; omega

theorem mn_min (a b : Int) : mn a b = min a b := by unfold mn; omega

def labelsOk (l : List Int) : Bool := decide (l.length ≤ 24) && !l.any fun x => !decide (0 ≤ x ∧ x ≤ 5)
theorem labelsOk_iff {l : List Int} : labelsOk l = true ↔ l.length ≤ 24 ∧ ∀ x ∈ l, 0 ≤ x ∧ x ≤ 5 := by unfold labelsOk; simp

theorem specLabels (l : List Int) (hl : l.length ≤ 4194304) (k : Nat) (hk : l.length < k) : spec_l25Labels.f k l = some (labelsOk l) := by
  unfold spec_l25Labels.f
  have h := B.loop (fun k i => spec_l25Labels.l0 k l (i : Int)) l.length (fun i => some (decide (l.length ≤ 24) && !((l.drop i).any fun x => !decide (0 ≤ x ∧ x ≤ 5))))
    (fun k => by
      simp only [spec_l25Labels.l0]
      rw [if_neg (by omega), List.drop_length]
      simp only [List.any_nil, Bool.not_false, Bool.and_true, Option.some.injEq]
      congr 1
      apply propext
      omega)
    (fun k i hi ih => by
      have a1 : (i : Int) < (l.length : Int) := by omega
      have a3 : 0 ≤ (i : Int) := by omega
      simp only [spec_l25Labels.l0, a1, a3, ↓reduceIte, B.wsucc (show i < 9223372036854775807 by omega), rdInt, specLabelOk, Option.bind_some, B.getD_lt hi]
      rw [List.drop_eq_getElem_cons hi, List.any_cons]
      by_cases hc : 0 ≤ l[i] ∧ l[i] ≤ 5
      · rw [if_pos (by simpa using hc), ih]; simp [hc]
      · rw [if_neg (by simpa using hc)]; simp [hc]) k 0 (by omega) (by omega)
  exact h

theorem idxLabels (l : List Int) (hl : l.length ≤ 4194304) (k : Nat) (hk : l.length < k) : slices_IndexFunc_int_int__labelsOk_lit1.f k l = some (B.idxFrom (fun x => !decide (0 ≤ x ∧ x ≤ 5)) l 0) := by
  unfold slices_IndexFunc_int_int__labelsOk_lit1.f
  have h := B.loop (fun k i => slices_IndexFunc_int_int__labelsOk_lit1.l0 k l (l.length : Int) (i : Int)) l.length (fun i => some (B.idxFrom (fun x => !decide (0 ≤ x ∧ x ≤ 5)) (l.drop i) i))
    (fun k => by
      simp only [slices_IndexFunc_int_int__labelsOk_lit1.l0]
      rw [if_neg (by omega), List.drop_length]; rfl)
    (fun k i hi ih => by
      have a1 : (i : Int) < (l.length : Int) := by omega
      have a3 : 0 ≤ (i : Int) := by omega
      simp only [slices_IndexFunc_int_int__labelsOk_lit1.l0, impl_labelsOk_lit1.f, a1, a3, ↓reduceIte, B.wsucc (show i < 9223372036854775807 by omega), rdInt, implLabelOk, Option.bind_some, B.getD_lt hi]
      rw [B.idxFrom_drop _ _ hi]
      split
      · rfl
      · exact ih) k 0 (by omega) (by omega)
  exact h

theorem implLabels (l : List Int) (hl : l.length ≤ 4194304) (k : Nat) (hk : l.length < k) : impl_labelsOk.f k l = some (labelsOk l) := by
  unfold impl_labelsOk.f labelsOk
  by_cases h : l.length ≤ 24
  · rw [if_pos (by omega), decide_eq_true h]
    unfold slices_ContainsFunc_int_int__labelsOk_lit1.f
    rw [idxLabels l hl k hk]
    simp only [Option.bind_some, B.idxFrom_any, Bool.true_and]
  · rw [if_neg (by omega), decide_eq_false h]; rfl

/-- The distance of two rows of labels. -/
def strDist (a b d i r : List Int) : Int := if labelsOk a && (labelsOk b && okC d i r) then D a b d i r a.length b.length else -1

/-- What a step of both needs. -/
structure Args (a b d i r : List Int) : Prop where
  la : a.length ≤ 24
  lb : b.length ≤ 24
  va : ∀ p, 0 ≤ a.getD p 0 ∧ a.getD p 0 ≤ 5
  vb : ∀ p, 0 ≤ b.getD p 0 ∧ b.getD p 0 ≤ 5
  ld : d.length = 6
  li : i.length = 6
  lr : r.length = 36
  bd : ∀ p q, 0 ≤ D a b d i r p q ∧ D a b d i r p q ≤ 1000 * ((p : Int) + (q : Int))
  cd : ∀ j, 0 ≤ d.getD j 0 ∧ d.getD j 0 ≤ 1000
  ci : ∀ j, 0 ≤ i.getD j 0 ∧ i.getD j 0 ≤ 1000
  cr : ∀ j, 0 ≤ r.getD j 0 ∧ r.getD j 0 ≤ 1000
theorem label_getD {l : List Int} (h : ∀ x ∈ l, 0 ≤ x ∧ x ≤ 5) (p : Nat) : 0 ≤ l.getD p 0 ∧ l.getD p 0 ≤ 5 := by
  rcases Nat.lt_or_ge p l.length with hp | hp
  · rw [B.getD_lt hp]; exact h _ (List.getElem_mem hp)
  · rw [List.getD_eq_getElem?_getD, List.getElem?_eq_none hp]; simp
theorem Args.mk_ {a b d i r : List Int} (ha : labelsOk a = true) (hb : labelsOk b = true) (hc : okC d i r = true) : Args a b d i r := by
  obtain ⟨h1, h2, h3, _⟩ := okC_parts hc
  obtain ⟨la, va⟩ := labelsOk_iff.1 ha
  obtain ⟨lb, vb⟩ := labelsOk_iff.1 hb
  exact ⟨la, lb, label_getD va, label_getD vb, h1.1, h2.1, h3.1, fun p q => D_bound h1.2 h2.2 h3.2 _ p q rfl, getD_bound h1.2, getD_bound h2.2, getD_bound h3.2⟩

/-! ### the reference's table -/
def TabInv (a b d i r : List Int) (t : List Int) (x y : Nat) : Prop :=
  t.length = (a.length + 1) * (b.length + 1) ∧ t.getD 0 0 = 0 ∧ ∀ p q, p ≤ a.length → q ≤ b.length → p * (b.length + 1) + q < x * (b.length + 1) + y → t.getD (p * (b.length + 1) + q) 0 = D a b d i r p q

theorem getD_set_self {t : List Int} {n : Nat} {v : Int} (h : n < t.length) : (t.set n v).getD n 0 = v := by
  rw [List.getD_eq_getElem?_getD, List.getElem?_set_self h]; rfl
theorem getD_set_ne {t : List Int} {n m : Nat} {v : Int} (h : n ≠ m) : (t.set n v).getD m 0 = t.getD m 0 := by
  rw [List.getD_eq_getElem?_getD, List.getElem?_set_ne h, List.getD_eq_getElem?_getD]

theorem TabInv.step {a b d i r t : List Int} {x y : Nat} (h : TabInv a b d i r t x y) (hx : x ≤ a.length) (hy : y ≤ b.length) (h0 : 0 < x + y) :
    TabInv a b d i r (t.set (x * (b.length + 1) + y) (D a b d i r x y)) x (y + 1) := by
  obtain ⟨hl, hz, hc⟩ := h
  have hlt : x * (b.length + 1) + y < t.length := by
    rw [hl]
    have : x * (b.length + 1) + (b.length + 1) ≤ (a.length + 1) * (b.length + 1) := by
      rw [← Nat.succ_mul]; exact Nat.mul_le_mul_right _ (by omega)
    omega
  have hpos : x * (b.length + 1) + y ≠ 0 := by
    rcases Nat.eq_zero_or_pos x with rfl | hx0
    · omega
    · have : 1 * (b.length + 1) ≤ x * (b.length + 1) := Nat.mul_le_mul_right _ hx0
      omega
  refine ⟨by rw [List.length_set, hl], by rw [getD_set_ne hpos, hz], fun p q hp hq hlt' => ?_⟩
  by_cases he : p * (b.length + 1) + q = x * (b.length + 1) + y
  · have hpx : p = x := by
      rcases Nat.lt_trichotomy p x with h1 | h1 | h1
      · have : (p + 1) * (b.length + 1) ≤ x * (b.length + 1) := Nat.mul_le_mul_right _ h1
        rw [Nat.succ_mul] at this; omega
      · exact h1
      · have : (x + 1) * (b.length + 1) ≤ p * (b.length + 1) := Nat.mul_le_mul_right _ h1
        rw [Nat.succ_mul] at this; omega
    subst hpx
    have hqy : q = y := by omega
    subst hqy
    exact getD_set_self hlt
  · rw [getD_set_ne (fun hh => he hh.symm)]
    exact hc p q hp hq (by omega)

theorem mulw (x n : Nat) (h : x * (n + 1) ≤ 1000000000) : wrap64 ((x : Int) * ((n : Int) + 1)) = ((x * (n + 1) : Nat) : Int) := by
  have e : (x : Int) * ((n : Int) + 1) = ((x * (n + 1) : Nat) : Int) := by simp
  rw [e]; exact B.wid (by omega) (by omega)
theorem addw {x y : Nat} (h : x ≤ 1000000000 ∧ y ≤ 1000000000) : wrap64 ((x : Int) + (y : Int)) = ((x + y : Nat) : Int) := by rw [B.wid (by omega) (by omega)]; omega
theorem subw {x : Nat} (h : x ≤ 1000000000) : wrap64 (((x + 1 : Nat) : Int) - 1) = (x : Int) := by rw [B.wid (by omega) (by omega)]; omega

theorem nn (n : Nat) : (0 : Int) ≤ (n : Int) := Int.natCast_nonneg n
theorem ltc {a b : Nat} (h : a < b) : (a : Int) < (b : Int) := Int.ofNat_lt.2 h
theorem lec {a b : Nat} (h : a ≤ b) : (a : Int) ≤ (b : Int) := Int.ofNat_le.2 h
theorem posc (n : Nat) : ((n + 1 : Nat) : Int) > 0 := Int.ofNat_lt.2 (Nat.succ_pos n)
theorem zc : ((0 : Nat) : Int) = 0 := rfl
theorem nposc : ¬ ((0 : Nat) : Int) > 0 := by decide
theorem nzc (n : Nat) : ¬ ((n + 1 : Nat) : Int) = 0 := by omega
theorem tab_lt {n m x y : Nat} (hx : x ≤ n) (hy : y ≤ m) : x * (m + 1) + y < (n + 1) * (m + 1) := by
  have h1 := Nat.succ_mul x (m + 1)
  have h2 : (x + 1) * (m + 1) ≤ (n + 1) * (m + 1) := Nat.mul_le_mul_right _ (by omega)
  rw [Nat.succ_eq_add_one] at h1
  omega
theorem tab_le {n m x y : Nat} (hn : n ≤ 24) (hm : m ≤ 24) (hx : x ≤ n) (hy : y ≤ m) : x * (m + 1) + y ≤ 1000 ∧ x * (m + 1) ≤ 1000 := by
  have : x * (m + 1) ≤ 24 * 25 := Nat.mul_le_mul (by omega) (by omega)
  omega
theorem relw {x y : Int} (hx : 0 ≤ x ∧ x ≤ 5) (hy : 0 ≤ y ∧ y ≤ 5) : wrap64 (wrap64 (x * 6) + y) = ((x.toNat * 6 + y.toNat : Nat) : Int) ∧ x.toNat * 6 + y.toNat < 36 := by
  rw [B.wid (n := x * 6) (by omega) (by omega), B.wid (by omega) (by omega)]; omega
theorem min_top {x : Int} (h : x ≤ 100000) : min 1000000000 x = x := by omega
theorem rd_lab {l : List Int} {x : Int} : rd l x = l.getD x.toNat 0 := rfl
theorem lab_lt {x : Int} {l : List Int} (hx : 0 ≤ x ∧ x ≤ 5) (hl : l.length = 6) : x < (l.length : Int) := by omega
theorem D_small {a b d i r : List Int} (A : Args a b d i r) {p q : Nat} (hp : p ≤ a.length) (hq : q ≤ b.length) : 0 ≤ D a b d i r p q ∧ D a b d i r p q ≤ 48000 := by
  have h := A.bd p q
  have h1 := A.la
  have h2 := A.lb
  omega
theorem sumw {x y : Int} (hx : 0 ≤ x ∧ x ≤ 48000) (hy : 0 ≤ y ∧ y ≤ 1000) : wrap64 (x + y) = x + y := B.wid (by omega) (by omega)

theorem mtop {x y : Int} (hx : 0 ≤ x ∧ x ≤ 48000) (hy : 0 ≤ y ∧ y ≤ 1000) : mn 1000000000 (x + y) = x + y := by rw [mn_min 1000000000 (x + y)]; omega
theorem big {n : Nat} (h : n ≤ 1000) : n ≤ 1000000000 := Nat.le_trans h (by decide)
/-- The first row. -/
theorem cell0 {a b d i r : List Int} (A : Args a b d i r) {q : Nat} {t : List Int} (hq : q < b.length) (hI : TabInv a b d i r t 0 (q + 1)) (k : Nat) :
    spec_StrDist.l1 (k + 3) a b ((b.length : Int) + 1) t ((0 : Nat) : Int) ((q + 1 : Nat) : Int) d i r = spec_StrDist.l1 k a b ((b.length : Int) + 1) (t.set (0 * (b.length + 1) + (q + 1)) (D a b d i r 0 (q + 1))) ((0 : Nat) : Int) ((q + 1 + 1 : Nat) : Int) d i r := by
  have hla := A.la
  have hlb := A.lb
  have h1 := tab_lt (n := a.length) (m := b.length) (x := 0) (y := q + 1) (Nat.zero_le _) hq
  have h2 := tab_lt (n := a.length) (m := b.length) (x := 0) (y := q) (Nat.zero_le _) (Nat.le_of_lt hq)
  rw [← hI.1] at h1 h2
  have g := hI.2.2 0 q (Nat.zero_le _) (Nat.le_of_lt hq) (Nat.lt_succ_self _)
  have e1 := mulw 0 b.length (by omega)
  have e2 : wrap64 (((0 * (b.length + 1) : Nat) : Int) + ((q + 1 : Nat) : Int)) = ((0 * (b.length + 1) + (q + 1) : Nat) : Int) := addw (by omega)
  have e3 : wrap64 (((0 * (b.length + 1) + (q + 1) : Nat) : Int) - 1) = ((0 * (b.length + 1) + q : Nat) : Int) := subw (x := 0 * (b.length + 1) + q) (by omega)
  have e4 : wrap64 (((q + 1 : Nat) : Int) - 1) = (q : Int) := subw (by omega)
  have vb := A.vb q
  have s := sumw (D_small A (Nat.zero_le _) (Nat.le_of_lt hq)) (A.ci (b.getD q 0).toNat)
  have bD := D_small A (p := 0) (q := q + 1) (Nat.zero_le _) hq
  have hD : D a b d i r 0 (q + 1) = D a b d i r 0 q + i.getD (b.getD q 0).toNat 0 := by rw [D]
  have hw : wrap64 (((q + 1 : Nat) : Int) + 1) = ((q + 1 + 1 : Nat) : Int) := B.wsucc (by omega)
  have hz : ((((q + 1 : Nat) : Int)) == 0) = false := beq_false_of_ne (nzc q)
  show spec_StrDist.l1 (k + 1 + 1 + 1) a b _ t _ _ d i r = _
  rw [spec_StrDist.l1, if_pos (lec hq), if_pos zc, hz, spec_StrDist.j3, if_neg (by decide), if_neg nposc, spec_StrDist.j4, if_pos (posc q)]
  rw [e1, e2, e3, e4, if_pos (nn _), if_pos (ltc h2), if_pos (nn _), if_pos (ltc hq), rdInt (xs := b) (i := q), if_pos vb.1, if_pos (lab_lt vb A.li), if_neg nposc, if_pos (nn _), if_pos (ltc h1)]
  rw [rdInt (xs := t) (i := 0 * (b.length + 1) + q), g, rd_lab (l := i) (x := b.getD q 0), s, ← hD, mn_min 1000000000 (D a b d i r 0 (q + 1)), hw, Int.toNat_natCast, min_top (by omega)]

/-- The first column. -/
theorem cell1 {a b d i r : List Int} (A : Args a b d i r) {p : Nat} {t : List Int} (hp : p < a.length) (hI : TabInv a b d i r t (p + 1) 0) (k : Nat) :
    spec_StrDist.l1 (k + 3) a b ((b.length : Int) + 1) t ((p + 1 : Nat) : Int) ((0 : Nat) : Int) d i r = spec_StrDist.l1 k a b ((b.length : Int) + 1) (t.set ((p + 1) * (b.length + 1) + 0) (D a b d i r (p + 1) 0)) ((p + 1 : Nat) : Int) ((0 + 1 : Nat) : Int) d i r := by
  have hla := A.la
  have hlb := A.lb
  have h1 := tab_lt (n := a.length) (m := b.length) (x := p + 1) (y := 0) hp (Nat.zero_le _)
  have h2 := tab_lt (n := a.length) (m := b.length) (x := p) (y := 0) (Nat.le_of_lt hp) (Nat.zero_le _)
  have l1 := tab_le (n := a.length) (m := b.length) (x := p + 1) (y := 0) hla hlb hp (Nat.zero_le _)
  have l2 := tab_le (n := a.length) (m := b.length) (x := p) (y := 0) hla hlb (Nat.le_of_lt hp) (Nat.zero_le _)
  rw [← hI.1] at h1 h2
  have hs := Nat.succ_mul p (b.length + 1)
  rw [Nat.succ_eq_add_one] at hs
  have g := hI.2.2 p 0 (Nat.le_of_lt hp) (Nat.zero_le _) (by omega)
  have e1 := mulw (p + 1) b.length (by omega)
  have e2 := addw (x := (p + 1) * (b.length + 1)) (y := 0) ⟨Nat.le_trans l1.2 (by decide), Nat.zero_le _⟩
  have e5 : wrap64 (((p + 1 : Nat) : Int) - 1) = (p : Int) := subw (by omega)
  have e6 := mulw p b.length (by omega)
  have e7 := addw (x := p * (b.length + 1)) (y := 0) ⟨Nat.le_trans l2.2 (by decide), Nat.zero_le _⟩
  have va := A.va p
  have s := sumw (D_small A (Nat.le_of_lt hp) (Nat.zero_le b.length)) (A.cd (a.getD p 0).toNat)
  have bD := D_small A (p := p + 1) (q := 0) hp (Nat.zero_le _)
  have hD : D a b d i r (p + 1) 0 = D a b d i r p 0 + d.getD (a.getD p 0).toNat 0 := by rw [D]
  have hw := B.wsucc (i := 0) (by omega)
  show spec_StrDist.l1 (k + 1 + 1 + 1) a b _ t _ _ d i r = _
  rw [spec_StrDist.l1, if_pos (lec (Nat.zero_le _)), if_neg (nzc p), spec_StrDist.j3, if_neg (by decide), if_pos (posc p), e5, e6, e7]
  rw [if_pos (nn _), if_pos (ltc h2), if_pos (nn _), if_pos (ltc hp), rdInt (xs := a) (i := p), if_pos va.1, if_pos (lab_lt va A.ld)]
  rw [rdInt (xs := t) (i := p * (b.length + 1) + 0), g, rd_lab (l := d) (x := a.getD p 0), s, ← hD, mn_min 1000000000 (D a b d i r (p + 1) 0), min_top (by omega)]
  rw [spec_StrDist.j4, if_neg nposc, if_pos (posc p), e1, e2, if_pos (nn _), if_pos (ltc h1), hw, Int.toNat_natCast]

set_option maxHeartbeats 2000000 in
theorem cell2 {a b d i r : List Int} (A : Args a b d i r) {p q : Nat} {t : List Int} (hp : p < a.length) (hq : q < b.length) (hI : TabInv a b d i r t (p + 1) (q + 1)) (k : Nat) :
    spec_StrDist.l1 (k + 3) a b ((b.length : Int) + 1) t ((p + 1 : Nat) : Int) ((q + 1 : Nat) : Int) d i r = spec_StrDist.l1 k a b ((b.length : Int) + 1) (t.set ((p + 1) * (b.length + 1) + (q + 1)) (D a b d i r (p + 1) (q + 1))) ((p + 1 : Nat) : Int) ((q + 1 + 1 : Nat) : Int) d i r := by
  have hla := A.la
  have hlb := A.lb
  have hw : wrap64 (((q + 1 : Nat) : Int) + 1) = ((q + 1 + 1 : Nat) : Int) := B.wsucc (by omega)
  have hq1 : q + 1 ≤ 1000 := by omega
  have hq0 : q ≤ 1000 := by omega
  have hp0 : p ≤ 1000 := by omega
  have h1 := tab_lt (n := a.length) (m := b.length) (x := p + 1) (y := q + 1) hp hq
  have h2 := tab_lt (n := a.length) (m := b.length) (x := p) (y := q + 1) (Nat.le_of_lt hp) hq
  have h3 := tab_lt (n := a.length) (m := b.length) (x := p + 1) (y := q) hp (Nat.le_of_lt hq)
  have h4 := tab_lt (n := a.length) (m := b.length) (x := p) (y := q) (Nat.le_of_lt hp) (Nat.le_of_lt hq)
  have l1 := tab_le (n := a.length) (m := b.length) (x := p + 1) (y := q + 1) hla hlb hp hq
  have l2 := tab_le (n := a.length) (m := b.length) (x := p) (y := q + 1) hla hlb (Nat.le_of_lt hp) hq
  rw [← hI.1] at h1 h2 h3 h4
  have hs := Nat.succ_mul p (b.length + 1)
  rw [Nat.succ_eq_add_one] at hs
  have g2 := hI.2.2 p (q + 1) (Nat.le_of_lt hp) hq (by omega)
  have g3 := hI.2.2 (p + 1) q hp (Nat.le_of_lt hq) (by omega)
  have g4 := hI.2.2 p q (Nat.le_of_lt hp) (Nat.le_of_lt hq) (by omega)
  have e1 := mulw (p + 1) b.length (big l1.2)
  have e2 : wrap64 ((((p + 1) * (b.length + 1) : Nat) : Int) + ((q + 1 : Nat) : Int)) = (((p + 1) * (b.length + 1) + (q + 1) : Nat) : Int) := addw ⟨big l1.2, big hq1⟩
  have e3 : wrap64 ((((p + 1) * (b.length + 1) + (q + 1) : Nat) : Int) - 1) = (((p + 1) * (b.length + 1) + q : Nat) : Int) := subw (x := (p + 1) * (b.length + 1) + q) (big (Nat.le_trans (Nat.le_succ _) l1.1))
  have e4 : wrap64 (((q + 1 : Nat) : Int) - 1) = (q : Int) := subw (big hq0)
  have e5 : wrap64 (((p + 1 : Nat) : Int) - 1) = (p : Int) := subw (big hp0)
  have e6 := mulw p b.length (big l2.2)
  have e7 : wrap64 (((p * (b.length + 1) : Nat) : Int) + ((q + 1 : Nat) : Int)) = ((p * (b.length + 1) + (q + 1) : Nat) : Int) := addw ⟨big l2.2, big hq1⟩
  have e8 : wrap64 (((p * (b.length + 1) + (q + 1) : Nat) : Int) - 1) = ((p * (b.length + 1) + q : Nat) : Int) := subw (x := p * (b.length + 1) + q) (big (Nat.le_trans (Nat.le_succ _) l2.1))
  have va := A.va p
  have vb := A.vb q
  obtain ⟨e9, l9⟩ := relw va vb
  rw [← A.lr] at l9
  have s2 := sumw (D_small A (Nat.le_of_lt hp) hq) (A.cd (a.getD p 0).toNat)
  have s3 := sumw (D_small A (p := p + 1) hp (Nat.le_of_lt hq)) (A.ci (b.getD q 0).toNat)
  have s4 := sumw (D_small A (Nat.le_of_lt hp) (Nat.le_of_lt hq)) (A.cr ((a.getD p 0).toNat * 6 + (b.getD q 0).toNat))
  have m2 := mtop (D_small A (Nat.le_of_lt hp) hq) (A.cd (a.getD p 0).toNat)
  have hD : D a b d i r (p + 1) (q + 1) = min (min (D a b d i r p (q + 1) + d.getD (a.getD p 0).toNat 0) (D a b d i r (p + 1) q + i.getD (b.getD q 0).toNat 0)) (D a b d i r p q + r.getD ((a.getD p 0).toNat * 6 + (b.getD q 0).toNat) 0) := by rw [D]
  show spec_StrDist.l1 (k + 1 + 1 + 1) a b _ t _ _ d i r = _
  rw [spec_StrDist.l1, if_pos (lec hq), if_neg (nzc p), spec_StrDist.j3, if_neg (by decide), if_pos (posc p), e5, e6, e7]
  rw [if_pos (nn _), if_pos (ltc h2), if_pos (nn _), if_pos (ltc hp), rdInt (xs := a) (i := p), if_pos va.1, if_pos (lab_lt va A.ld)]
  rw [rdInt (xs := t) (i := p * (b.length + 1) + (q + 1)), g2, rd_lab (l := d) (x := a.getD p 0), s2, m2]
  rw [spec_StrDist.j4, if_pos (posc q), e1, e2, e3, e4, e5, e6, e7, e8, if_pos (nn _), if_pos (ltc h3), if_pos (nn _), if_pos (ltc hq), rdInt (xs := b) (i := q), if_pos vb.1, if_pos (lab_lt vb A.li), if_pos (posc p), if_pos (nn _), if_pos (ltc h4), if_pos (nn _), if_pos (ltc hp), rdInt (xs := a) (i := p), e9]
  rw [if_pos (nn _), if_pos (ltc l9), if_pos (nn _), if_pos (ltc h1)]
  rw [rdInt (xs := t) (i := (p + 1) * (b.length + 1) + q), rdInt (xs := t) (i := p * (b.length + 1) + q), rdInt (xs := r) (i := (a.getD p 0).toNat * 6 + (b.getD q 0).toNat), g3, g4, rd_lab (l := i) (x := b.getD q 0), s3, s4]
  rw [hw, Int.toNat_natCast, hD]
  simp only [mn_min]

theorem specStrLoop {a b d i r : List Int} (A : Args a b d i r) : ∀ (X Y x y : Nat) (t : List Int) (k : Nat), a.length - x = X → b.length + 1 - y = Y → x ≤ a.length → y ≤ b.length + 1 → X * 100 + Y * 3 + 4 ≤ k → TabInv a b d i r t x y →
    spec_StrDist.l1 k a b ((b.length : Int) + 1) t (x : Int) (y : Int) d i r = some (D a b d i r a.length b.length) := by
  intro X
  have hla := A.la
  have hlb := A.lb
  induction X with
  | zero =>
    intro Y
    induction Y with
    | zero =>
      intro x y t k hX hY hx hy hk hI
      obtain ⟨k, rfl⟩ : ∃ m, k = m + 1 + 1 := ⟨k - 2, by omega⟩
      obtain rfl : y = b.length + 1 := by omega
      obtain rfl : x = a.length := by omega
      have h1 := tab_lt (n := a.length) (m := b.length) (x := a.length) (y := b.length) (Nat.le_refl _) (Nat.le_refl _)
      have l1 := tab_le (n := a.length) (m := b.length) (x := a.length) (y := b.length) hla hlb (Nat.le_refl _) (Nat.le_refl _)
      have hs := Nat.succ_mul a.length (b.length + 1)
      rw [Nat.succ_eq_add_one] at hs
      have hl := hI.1
      rw [← hl] at h1
      have ew : wrap64 ((t.length : Int) - 1) = ((a.length * (b.length + 1) + b.length : Nat) : Int) := by
        rw [show t.length = a.length * (b.length + 1) + b.length + 1 by omega]; exact subw (by omega)
      have g := hI.2.2 a.length b.length (Nat.le_refl _) (Nat.le_refl _) (by omega)
      rw [spec_StrDist.l1, if_neg (by omega), spec_StrDist.l0, B.wsucc (by omega), if_neg (by omega), ew, if_pos (nn _), if_pos (ltc h1), rdInt, g]
    | succ Y ih =>
      intro x y t k hX hY hx hy hk hI
      obtain rfl : x = a.length := by omega
      by_cases h00 : a.length = 0 ∧ y = 0
      · obtain ⟨h0, rfl⟩ := h00
        obtain ⟨k, rfl⟩ : ∃ m, k = m + 1 + 1 := ⟨k - 2, by omega⟩
        have hI' : TabInv a b d i r t a.length (0 + 1) := by
          refine ⟨hI.1, hI.2.1, fun p q hp hq hlt => ?_⟩
          rw [h0] at hp hlt
          obtain rfl : p = 0 := by omega
          obtain rfl : q = 0 := by omega
          rw [show 0 * (b.length + 1) + 0 = 0 by omega, hI.2.1, D]
        rw [spec_StrDist.l1, if_pos (lec (Nat.zero_le _)), if_pos (by omega), spec_StrDist.j3, if_pos (by decide), B.wsucc (by omega)]
        exact ih a.length (0 + 1) t k hX (by omega) hx (by omega) (by omega) hI'
      · obtain ⟨k, rfl⟩ : ∃ m, k = m + 3 := ⟨k - 3, by omega⟩
        have hI' := hI.step (Nat.le_refl _) (show y ≤ b.length by omega) (by omega)
        have nxt := ih a.length (y + 1) _ k hX (by omega) hx (by omega) (by omega) hI'
        rcases ha : a.length with _ | p
        · rw [ha] at hI nxt
          obtain ⟨q, rfl⟩ : ∃ q, y = q + 1 := ⟨y - 1, by omega⟩
          rw [← ha] at nxt ⊢
          rw [ha] at nxt ⊢
          rw [cell0 A (by omega) hI k, ← ha]
          rw [← ha] at nxt
          simpa [ha] using nxt
        · rw [ha] at hI
          rcases y with _ | q
          · have e := cell1 A (p := p) (by omega) hI k
            rw [e]
            rw [ha] at nxt
            exact nxt
          · have e := cell2 A (p := p) (q := q) (by omega) (by omega) hI k
            rw [e]
            rw [ha] at nxt
            exact nxt
  | succ X ihX =>
    intro Y
    induction Y with
    | zero =>
      intro x y t k hX hY hx hy hk hI
      obtain ⟨k, rfl⟩ : ∃ m, k = m + 1 + 1 := ⟨k - 2, by omega⟩
      obtain rfl : y = b.length + 1 := by omega
      have hs := Nat.succ_mul x (b.length + 1)
      rw [Nat.succ_eq_add_one] at hs
      rw [spec_StrDist.l1, if_neg (by omega), spec_StrDist.l0, B.wsucc (by omega), if_pos (by omega)]
      exact ihX (b.length + 1) (x + 1) 0 t k (by omega) (by omega) (by omega) (by omega) (by omega) ⟨hI.1, hI.2.1, fun p q hp hq hlt => hI.2.2 p q hp hq (by omega)⟩
    | succ Y ih =>
      intro x y t k hX hY hx hy hk hI
      by_cases h00 : x = 0 ∧ y = 0
      · obtain ⟨rfl, rfl⟩ := h00
        obtain ⟨k, rfl⟩ : ∃ m, k = m + 1 + 1 := ⟨k - 2, by omega⟩
        have hI' : TabInv a b d i r t 0 (0 + 1) := by
          refine ⟨hI.1, hI.2.1, fun p q hp hq hlt => ?_⟩
          have hp0 : p = 0 := by
            rcases Nat.eq_zero_or_pos p with h1 | h1
            · exact h1
            · have : 1 * (b.length + 1) ≤ p * (b.length + 1) := Nat.mul_le_mul_right _ h1
              omega
          subst hp0
          obtain rfl : q = 0 := by omega
          rw [show 0 * (b.length + 1) + 0 = 0 by omega, hI.2.1, D]
        rw [spec_StrDist.l1, if_pos (lec (Nat.zero_le _)), if_pos zc, spec_StrDist.j3, if_pos (by decide), B.wsucc (i := 0) (by omega)]
        exact ih 0 (0 + 1) t k hX (by omega) hx (by omega) (by omega) hI'
      · obtain ⟨k, rfl⟩ : ∃ m, k = m + 3 := ⟨k - 3, by omega⟩
        have hI' := hI.step hx (show y ≤ b.length by omega) (by omega)
        have nxt := ih x (y + 1) _ k hX (by omega) hx (by omega) (by omega) hI'
        rcases x with _ | p
        · obtain ⟨q, rfl⟩ : ∃ q, y = q + 1 := ⟨y - 1, by omega⟩
          rw [cell0 A (by omega) hI k]
          exact nxt
        · rcases y with _ | q
          · rw [cell1 A (p := p) (by omega) hI k]
            exact nxt
          · rw [cell2 A (p := p) (q := q) (by omega) (by omega) hI k]
            exact nxt

theorem specStrDist (a b d i r : List Int) (ha : a.length ≤ 4194304) (hb : b.length ≤ 4194304) (hd : d.length ≤ 4194304) (hi : i.length ≤ 4194304) (hr : r.length ≤ 4194304) (k : Nat) (hk : 5000000 < k) : spec_StrDist.f k a b d i r = some (strDist a b d i r) := by
  obtain ⟨k, rfl⟩ : ∃ m, k = m + 1 + 1 := ⟨k - 2, by omega⟩
  unfold spec_StrDist.f strDist
  rw [specLabels a ha _ (by omega), specLabels b hb _ (by omega), specCostOk d i r hd hi hr _ (by omega)]
  simp only [Option.bind_some, spec_StrDist.j0]
  cases h1 : labelsOk a
  · rfl
  cases h2 : labelsOk b
  · rfl
  cases h3 : okC d i r
  · rfl
  have A := Args.mk_ h1 h2 h3
  have hla := A.la
  have hlb := A.lb
  simp only [↓reduceIte, Bool.not_true, Bool.false_eq_true, Bool.and_self]
  have hub : (a.length + 1) * (b.length + 1) ≤ 25 * 25 := Nat.mul_le_mul (by omega) (by omega)
  have e0 : wrap64 ((a.length : Int) + 1) = ((a.length + 1 : Nat) : Int) := B.wsucc (by omega)
  have e1 : wrap64 ((b.length : Int) + 1) = ((b.length + 1 : Nat) : Int) := B.wsucc (by omega)
  have e2 : wrap64 (((a.length + 1 : Nat) : Int) * ((b.length + 1 : Nat) : Int)) = (((a.length + 1) * (b.length + 1) : Nat) : Int) := by
    rw [← Int.natCast_mul]; exact B.wid (by omega) (by omega)
  rw [e0, e1, e2, if_pos (by omega), if_pos (by omega), Int.toNat_natCast]
  simp only [spec_StrDist.l0]
  rw [if_pos (by omega)]
  exact specStrLoop A _ _ 0 0 _ k rfl rfl (by omega) (by omega) (by omega) ⟨by simp, by rw [List.getD_eq_getElem?_getD, List.getElem?_replicate]; split <;> rfl, fun p q hp hq h => by simp at h⟩

/-! ### the program's rows -/
def row (a b d i r : List Int) (p n : Nat) : List Int := (List.range n).map fun q => D a b d i r p q
theorem row_length (a b d i r : List Int) (p n : Nat) : (row a b d i r p n).length = n := by simp [row]
theorem row_get (a b d i r : List Int) (p n : Nat) {q : Nat} (h : q < n) : (row a b d i r p n).getD q 0 = D a b d i r p q := by
  rw [B.getD_lt (by simpa [row] using h)]; simp [row]
theorem row_succ (a b d i r : List Int) (p n : Nat) : row a b d i r p (n + 1) = row a b d i r p n ++ [D a b d i r p n] := by unfold row; rw [List.range_succ, List.map_append]; rfl

theorem implRow2 {a b d i r : List Int} (A : Args a b d i r) {p : Nat} (hp : p < a.length) (kk : Nat) (hk : b.length < kk) (R : Option Int)
    (hR : ∀ k, kk - (b.length + 1) ≤ k → k < kk → impl_StrDist.l1 k b (row a b d i r (p + 1) (b.length + 1)) a (a.length : Int) ((p + 1 : Nat) : Int) d i r = R) :
    impl_StrDist.l2 kk b (row a b d i r p (b.length + 1)) (a.getD p 0) (row a b d i r (p + 1) 1) a (a.length : Int) (p : Int) b (b.length : Int) 0 d i r = R := by
  have hla := A.la
  have hlb := A.lb
  suffices h : ∀ (dd q k : Nat), q ≤ b.length → b.length - q = dd → k + q = kk → impl_StrDist.l2 k b (row a b d i r p (b.length + 1)) (a.getD p 0) (row a b d i r (p + 1) (q + 1)) a (a.length : Int) (p : Int) b (b.length : Int) (q : Int) d i r = R from
    h _ 0 kk (by omega) rfl rfl
  intro dd
  induction dd with
  | zero =>
    intro q k hq hdd hkk
    obtain ⟨k, rfl⟩ : ∃ m, k = m + 1 := ⟨k - 1, by omega⟩
    obtain rfl : q = b.length := by omega
    simp only [impl_StrDist.l2]
    rw [if_neg (by omega), B.wsucc (by omega)]
    exact hR k (by omega) (by omega)
  | succ dd ih =>
    intro q k hq hdd hkk
    obtain ⟨k, rfl⟩ : ∃ m, k = m + 1 := ⟨k - 1, by omega⟩
    have va := A.va p
    have vb := A.vb q
    have ld := A.ld
    have li := A.li
    have lr := A.lr
    have r1 := row_length a b d i r p (b.length + 1)
    have r2 := row_length a b d i r (p + 1) (q + 1)
    have e9 := (relw va vb).1
    have b1 := A.bd p (q + 1)
    have b2 := A.bd (p + 1) q
    have b3 := A.bd p q
    have b4 := A.cr ((a.getD p 0).toNat * 6 + (b.getD q 0).toNat)
    have b5 := A.ci (b.getD q 0).toNat
    have b6 := A.cd (a.getD p 0).toNat
    have er : rd d (a.getD p 0) = d.getD (a.getD p 0).toNat 0 := rfl
    have ei : rd i (b.getD q 0) = i.getD (b.getD q 0).toNat 0 := rfl
    simp only [impl_StrDist.l2]
    rw [if_pos (by omega), if_pos (by omega), if_pos (by omega), B.wsucc (by omega), if_pos (by omega), if_pos (by omega), if_pos (by omega), if_pos (by omega), if_pos (by omega), rdInt, if_pos (by omega), if_pos (by omega), if_pos (by omega), e9, if_pos (by omega), if_pos (by omega), if_pos (by omega)]
    rw [rdInt, rdInt, rdInt, rdInt, row_get _ _ _ _ _ _ _ (show q + 1 < b.length + 1 by omega), row_get _ _ _ _ _ _ _ (show q < q + 1 by omega), row_get _ _ _ _ _ _ _ (show q < b.length + 1 by omega), er, ei, B.wid (by omega) (by omega), B.wid (by omega) (by omega), B.wid (by omega) (by omega), mn_min, mn_min]
    have hD : min (min (D a b d i r p (q + 1) + d.getD (a.getD p 0).toNat 0) (D a b d i r (p + 1) q + i.getD (b.getD q 0).toNat 0)) (D a b d i r p q + r.getD ((a.getD p 0).toNat * 6 + (b.getD q 0).toNat) 0) = D a b d i r (p + 1) (q + 1) := by rw [D]
    rw [hD, ← row_succ]
    exact ih (q + 1) k (by omega) (by omega) (by omega)

theorem implRows {a b d i r : List Int} (A : Args a b d i r) : ∀ (dd p k : Nat), p ≤ a.length → a.length - p = dd → dd * 30 + 2 ≤ k →
    impl_StrDist.l1 k b (row a b d i r p (b.length + 1)) a (a.length : Int) (p : Int) d i r = some (D a b d i r a.length b.length) := by
  have hla := A.la
  have hlb := A.lb
  intro dd
  induction dd with
  | zero =>
    intro p k hp hdd hk
    obtain ⟨k, rfl⟩ : ∃ m, k = m + 1 := ⟨k - 1, by omega⟩
    obtain rfl : p = a.length := by omega
    have r1 := row_length a b d i r a.length (b.length + 1)
    simp only [impl_StrDist.l1]
    rw [if_neg (by omega), if_pos (by omega), if_pos (by omega), rdInt, row_get _ _ _ _ _ _ _ (by omega)]
  | succ dd ih =>
    intro p k hp hdd hk
    obtain ⟨k, rfl⟩ : ∃ m, k = m + 1 := ⟨k - 1, by omega⟩
    have r1 := row_length a b d i r p (b.length + 1)
    have va := A.va p
    have ld := A.ld
    have b3 := A.bd p 0
    have b6 := A.cd (a.getD p 0).toNat
    have er : rd d (a.getD p 0) = d.getD (a.getD p 0).toNat 0 := rfl
    have e0 : rd (row a b d i r p (b.length + 1)) 0 = D a b d i r p 0 := row_get _ _ _ _ _ _ _ (show 0 < b.length + 1 by omega)
    simp only [impl_StrDist.l1]
    rw [if_pos (by omega), if_pos (by omega), if_pos (by omega), if_pos (by omega), rdInt, if_pos (by omega), if_pos (by omega), er, e0, B.wid (by omega) (by omega)]
    have hD : [D a b d i r p 0 + d.getD (a.getD p 0).toNat 0] = row a b d i r (p + 1) 1 := by
      have : D a b d i r (p + 1) 0 = D a b d i r p 0 + d.getD (a.getD p 0).toNat 0 := by rw [D]
      simp [row, this]
    rw [hD]
    exact implRow2 A (by omega) k (by omega) _ (fun k' hk1 hk2 => ih (p + 1) k' (by omega) (by omega) (by omega))

theorem implRow0 {a b d i r : List Int} (A : Args a b d i r) : ∀ (dd q k : Nat), q ≤ b.length → b.length - q = dd → dd + a.length * 30 + 3 ≤ k →
    impl_StrDist.l0 k a b (row a b d i r 0 (q + 1)) b (b.length : Int) (q : Int) d i r = some (D a b d i r a.length b.length) := by
  have hla := A.la
  have hlb := A.lb
  intro dd
  induction dd with
  | zero =>
    intro q k hq hdd hk
    obtain ⟨k, rfl⟩ : ∃ m, k = m + 1 := ⟨k - 1, by omega⟩
    obtain rfl : q = b.length := by omega
    simp only [impl_StrDist.l0]
    rw [if_neg (by omega)]
    exact implRows A _ 0 k (by omega) rfl (by omega)
  | succ dd ih =>
    intro q k hq hdd hk
    obtain ⟨k, rfl⟩ : ∃ m, k = m + 1 := ⟨k - 1, by omega⟩
    have r1 := row_length a b d i r 0 (q + 1)
    have vb := A.vb q
    have li := A.li
    have b3 := A.bd 0 q
    have b5 := A.ci (b.getD q 0).toNat
    have ei : rd i (b.getD q 0) = i.getD (b.getD q 0).toNat 0 := rfl
    simp only [impl_StrDist.l0]
    rw [if_pos (by omega), if_pos (by omega), if_pos (by omega), if_pos (by omega), rdInt, if_pos (by omega), if_pos (by omega), if_pos (by omega), rdInt, row_get _ _ _ _ _ _ _ (show q < q + 1 by omega), ei, B.wid (by omega) (by omega), B.wsucc (by omega)]
    have hD : D a b d i r 0 q + i.getD (b.getD q 0).toNat 0 = D a b d i r 0 (q + 1) := by rw [D]
    rw [hD, ← row_succ]
    exact ih (q + 1) k (by omega) (by omega) (by omega)

theorem implStrDist (a b d i r : List Int) (ha : a.length ≤ 4194304) (hb : b.length ≤ 4194304) (hd : d.length ≤ 4194304) (hi : i.length ≤ 4194304) (hr : r.length ≤ 4194304) (k : Nat) (hk : 5000000 < k) : impl_StrDist.f k a b d i r = some (strDist a b d i r) := by
  obtain ⟨k, rfl⟩ : ∃ m, k = m + 1 := ⟨k - 1, by omega⟩
  unfold impl_StrDist.f strDist
  rw [implLabels a ha _ (by omega), implLabels b hb _ (by omega), implCostOk d i r hd hi hr _ (by omega)]
  simp only [Option.bind_some, impl_StrDist.j0]
  cases h1 : labelsOk a
  · rfl
  cases h2 : labelsOk b
  · rfl
  cases h3 : okC d i r
  · rfl
  have A := Args.mk_ h1 h2 h3
  have hla := A.la
  have hlb := A.lb
  simp only [↓reduceIte, Bool.not_true, Bool.false_eq_true, Bool.and_self]
  have h0 : [(0 : Int)] = row a b d i r 0 1 := by
    have : D a b d i r 0 0 = 0 := by rw [D]
    simp [row, this]
  rw [h0]
  exact implRow0 A _ 0 k (by omega) rfl (by omega)
end Go.Proofs.Ytockkelkdimehaa.X
