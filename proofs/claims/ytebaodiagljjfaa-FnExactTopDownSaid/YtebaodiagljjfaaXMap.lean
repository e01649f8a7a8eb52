/- Mappings: what the reference's MapOk and the program's MapOk both tell; the place behind a node's last descendant; a node's parent. -/
import Derived.Test.YtebaodiagljjfaaXTree
import Derived.Test.YtebaodiagljjfaaXEv
import Derived.Test.YtebaodiagljjfaaG17
import Derived.Test.YtebaodiagljjfaaG39
import Derived.Test.YtebaodiagljjfaaG40
import Derived.Test.YtebaodiagljjfaaG44
namespace Go.Proofs.Ytebaodiagljjfaa.X
open Go Go.RowKit Go.Proofs.YtebaodiagljjfaaW.PrintWords Go.Proofs.YtebaodiagljjfaaW.PrintLast Go.Proofs.YtebaodiagljjfaaW.PrintMore Go.Proofs.Ytebaodiagljjfaa.P

theorem rdPair {xs : List S64} {i : Nat} : rd_T64 xs (i : Int) = xs.getD i z64 := by unfold rd_T64; rw [Int.toNat_natCast]
def isAt (l : List S57) (i : Int) : Bool := okT l && decide (0 ≤ i ∧ i ≤ (l.length : Int) - 1)
theorem isAt_okT {l : List S57} {i : Int} (h : isAt l i = true) : okT l = true := by unfold isAt at h; simp at h; exact h.1
theorem isAt_nat {l : List S57} {i : Int} (h : isAt l i = true) : ∃ n : Nat, i = (n : Int) ∧ n < l.length := by
  unfold isAt at h; simp at h
  exact ⟨i.toNat, by omega, by omega⟩
theorem isAt_of {l : List S57} {n : Nat} (h : okT l = true) (hn : n < l.length) : isAt l (n : Int) = true := by
  unfold isAt; simp [h]; omega

theorem evAt (l : List S57) (hl : l.length ≤ 4194304) (i : Int) : B.Ev (fun k => spec_l3At.f k l i) (isAt l i) := by
  simp only [spec_l3At.f]
  refine B.Ev.bind (B.Ev.of _ (fun k hk => specTreeOk l hl k hk)) ?_
  have e : wrap64 ((l.length : Int) - 1) = (l.length : Int) - 1 := B.wid (by omega) (by omega)
  simp only [l1In, e, Option.bind_some]
  refine B.Ev.ite (fun h => ?_) (fun h => ?_)
  · exact (B.Ev.pure _).eq (by simp [isAt, h])
  · exact (B.Ev.pure _).eq (by simp [isAt, h])
theorem evHas (l : List S57) (hl : l.length ≤ 4194304) (i : Int) : B.Ev (fun k => impl_hasNode.f k l i) (isAt l i) := by
  simp only [impl_hasNode.f]
  refine B.Ev.bind (B.Ev.of _ (fun k hk => implTreeOk l hl k hk)) ?_
  have e : wrap64 ((l.length : Int) - 1) = (l.length : Int) - 1 := B.wid (by omega) (by omega)
  simp only [within, e, Option.bind_some]
  refine B.Ev.ite (fun h => ?_) (fun h => ?_)
  · exact (B.Ev.pure _).eq (by simp [isAt, h])
  · exact (B.Ev.pure _).eq (by simp [isAt, h])

/-- The place behind the last node under i. -/
def endGo (l : List S57) (i : Nat) : Nat → Nat → Nat
  | 0, j => j
  | n + 1, j => if dep l j > dep l i then endGo l i n (j + 1) else j
def endN (l : List S57) (i : Nat) : Nat := endGo l i (l.length - (i + 1)) (i + 1)

theorem evEndLoop (l : List S57) (hl : l.length ≤ 4194304) (i : Nat) (hi : i < l.length) : ∀ n j : Nat, j + n = l.length → B.Ev (fun k => spec_EndOf.l0 k l (i : Int) (j : Int)) (endGo l i n j : Int) := by
  intro n
  have a3 : 0 ≤ (i : Int) := by omega
  have a4 : (i : Int) < (l.length : Int) := by omega
  induction n with
  | zero =>
    intro j hj
    refine B.Ev.succ ?_
    simp only [spec_EndOf.l0, endGo, show ¬ ((j : Int) < (l.length : Int)) by omega, ↓reduceIte]
    exact B.Ev.pure _
  | succ n ih =>
    intro j hj
    refine B.Ev.succ ?_
    have a1 : (j : Int) < (l.length : Int) := by omega
    have a2 : 0 ≤ (j : Int) := by omega
    simp only [spec_EndOf.l0, endGo, a1, a2, a3, a4, ↓reduceIte, rdNode, B.wsucc (show j < 9223372036854775807 by omega)]
    by_cases c : dep l j > dep l i
    · have c' : (l.getD j z57).f1 > (l.getD i z57).f1 := c
      simp only [c, c', ↓reduceIte]
      exact ih (j + 1) (by omega)
    · have c' : ¬ (l.getD j z57).f1 > (l.getD i z57).f1 := c
      simp only [c, c', ↓reduceIte]
      exact B.Ev.pure _
theorem evEndLoop' (l : List S57) (hl : l.length ≤ 4194304) (i : Nat) (hi : i < l.length) : ∀ n j : Nat, j + n = l.length → B.Ev (fun k => impl_endOf.l0 k l (i : Int) (j : Int)) (endGo l i n j : Int) := by
  intro n
  have a3 : 0 ≤ (i : Int) := by omega
  have a4 : (i : Int) < (l.length : Int) := by omega
  induction n with
  | zero =>
    intro j hj
    refine B.Ev.succ ?_
    simp only [impl_endOf.l0, endGo, show ¬ ((j : Int) < (l.length : Int)) by omega, ↓reduceIte]
    exact B.Ev.pure _
  | succ n ih =>
    intro j hj
    refine B.Ev.succ ?_
    have a1 : (j : Int) < (l.length : Int) := by omega
    have a2 : 0 ≤ (j : Int) := by omega
    simp only [impl_endOf.l0, endGo, a1, a2, a3, a4, ↓reduceIte, rdNode, B.wsucc (show j < 9223372036854775807 by omega)]
    by_cases c : dep l j > dep l i
    · have c' : (l.getD j z57).f1 > (l.getD i z57).f1 := c
      simp only [c, c', ↓reduceIte]
      exact ih (j + 1) (by omega)
    · have c' : ¬ (l.getD j z57).f1 > (l.getD i z57).f1 := c
      simp only [c, c', ↓reduceIte]
      exact B.Ev.pure _
theorem evEnd {l : List S57} (h : okT l = true) {i : Nat} (hi : i < l.length) : B.Ev (fun k => spec_EndOf.f k l (i : Int)) (endN l i : Int) := by
  have hl := (okT_len h).2
  simp only [spec_EndOf.f]
  refine B.Ev.bind (evAt l (by omega) _) ?_
  rw [isAt_of h hi]
  simp only [↓reduceIte, B.wsucc (show i < 9223372036854775807 by omega)]
  exact evEndLoop l (by omega) i hi _ (i + 1) (by omega)
theorem evEnd' {l : List S57} (h : okT l = true) {i : Nat} (hi : i < l.length) : B.Ev (fun k => impl_endOf.f k l (i : Int)) (endN l i : Int) := by
  have hl := (okT_len h).2
  simp only [impl_endOf.f, B.wsucc (show i < 9223372036854775807 by omega)]
  exact evEndLoop' l (by omega) i hi _ (i + 1) (by omega)
theorem evUnder {l : List S57} (h : okT l = true) {i j : Nat} (hi : i < l.length) (hj : j < l.length) : B.Ev (fun k => spec_Under.f k l (i : Int) (j : Int)) (decide (i < j ∧ j < endN l i)) := by
  have hl := (okT_len h).2
  simp only [spec_Under.f]
  refine B.Ev.bind (evAt l (by omega) _) ?_
  rw [isAt_of h hi]
  simp only [↓reduceIte]
  refine B.Ev.bind (evAt l (by omega) _) ?_
  rw [isAt_of h hj]
  simp only [↓reduceIte]
  refine B.Ev.ite (fun c => ?_) (fun c => ?_)
  · refine B.Ev.bind (evEnd h hi) ?_
    exact (B.Ev.pure _).eq (by rw [decide_eq_decide]; omega)
  · exact (B.Ev.pure _).eq (by rw [eq_comm, decide_eq_false_iff_not]; omega)

/-! ### a mapping is valid -/
def pA (m : List S64) (i : Nat) : Int := (m.getD i z64).f0
def pB (m : List S64) (i : Nat) : Int := (m.getD i z64).f1
def chkU (a b : List S57) (m : List S64) (i h : Nat) : Bool := decide ((pA m i < (endN a (pA m h).toNat : Int)) ↔ (pB m i < (endN b (pB m h).toNat : Int)))
def chk (a b : List S57) (m : List S64) (i : Nat) : Bool :=
  isAt a (pA m i) && isAt b (pB m i) && (decide (i = 0) || decide (pA m (i - 1) < pA m i ∧ pB m (i - 1) < pB m i)) && (List.range i).all (chkU a b m i)
def okM (a b : List S57) (m : List S64) : Bool := (okT a && okT b) && (List.range m.length).all (chk a b m)
theorem chk_iff {a b : List S57} {m : List S64} {i : Nat} : chk a b m i = true ↔ (isAt a (pA m i) = true ∧ isAt b (pB m i) = true) ∧ (i = 0 ∨ (pA m (i - 1) < pA m i ∧ pB m (i - 1) < pB m i)) ∧ ∀ h, h < i → chkU a b m i h = true := by
  unfold chk; simp [and_assoc]
def Upto (a b : List S57) (m : List S64) (n : Nat) : Prop := ∀ i, i < n → chk a b m i = true
theorem Upto.inc {a b : List S57} {m : List S64} {n : Nat} (h : Upto a b m n) {i j : Nat} (hij : i < j) (hj : j < n) : pA m i < pA m j ∧ pB m i < pB m j := by
  induction j with
  | zero => omega
  | succ j ih =>
    have h1 := (chk_iff.1 (h (j + 1) hj)).2.1
    simp only [Nat.add_sub_cancel] at h1
    rcases Nat.lt_or_ge i j with c | c
    · have h2 := ih c (by omega); omega
    · obtain rfl : i = j := by omega
      omega
theorem okM_false {a b : List S57} {m : List S64} {i : Nat} (hi : i < m.length) (h : chk a b m i = false) : okM a b m = false := by
  unfold okM
  rw [Bool.and_eq_false_iff]
  right
  rw [Bool.eq_false_iff]
  intro hc
  rw [List.all_eq_true.1 hc i (List.mem_range.2 hi)] at h
  cases h
theorem okM_all {a b : List S57} {m : List S64} (h : Upto a b m m.length) : okM a b m = (okT a && okT b) := by
  unfold okM
  rw [List.all_eq_true.2 fun i hi => h i (List.mem_range.1 hi), Bool.and_true]
theorem Upto.succ {a b : List S57} {m : List S64} {n : Nat} (h : Upto a b m n) (hn : chk a b m n = true) : Upto a b m (n + 1) := by
  intro i hi
  rcases Nat.lt_or_ge i n with c | c
  · exact h i c
  · obtain rfl : i = n := by omega
    exact hn
theorem chk_not {a b : List S57} {m : List S64} {i : Nat} (h : ¬ chk a b m i = true) : chk a b m i = false := Bool.eq_false_iff.2 h

theorem evMapOk (a b : List S57) (m : List S64) (ha : a.length ≤ 4194304) (hb : b.length ≤ 4194304) (hm : m.length ≤ 4194304) : B.Ev (fun k => spec_MapOk.f k a b m) (okM a b m) := by
  simp only [spec_MapOk.f]
  have key : ∀ i, i ≤ m.length → Upto a b m i → B.Ev (fun k => spec_MapOk.l0 k a b m (i : Int)) (okM a b m) := by
    refine B.Ev.loop (g := fun k i => spec_MapOk.l0 k a b m (i : Int)) m.length (Upto a b m) (fun hU => ?_) ?_
    · refine B.Ev.succ ?_
      simp only [spec_MapOk.l0, show ¬ ((m.length : Int) < (m.length : Int)) by omega, ↓reduceIte]
      refine B.Ev.bind (B.Ev.of _ (fun k hk => specTreeOk a ha k hk)) ?_
      rw [okM_all hU]
      refine B.Ev.ite (fun h => ?_) (fun h => ?_)
      · refine B.Ev.bind (B.Ev.of _ (fun k hk => specTreeOk b hb k hk)) ?_
        exact (B.Ev.pure _).eq (by rw [h, Bool.true_and])
      · exact (B.Ev.pure _).eq (by simp [h])
    · intro i hi hU ih
      have out : chk a b m i = false → B.Ev (fun k => spec_MapOk.j1 k a b m (i : Int) true) (okM a b m) := fun h => by
        refine B.Ev.succ ?_
        simp only [spec_MapOk.j1, ↓reduceIte]
        exact (B.Ev.pure _).eq (okM_false hi h).symm
      have inn : isAt a (pA m i) = true → isAt b (pB m i) = true → (i = 0 ∨ pA m (i - 1) < pA m i) → B.Ev (fun k => spec_MapOk.j1 k a b m (i : Int) false) (okM a b m) := fun h1 h2 h3 => by
        refine B.Ev.succ ?_
        simp only [spec_MapOk.j1, Bool.false_eq_true, ↓reduceIte]
        have hA : ∀ h, h < i → pA m h < pA m i := fun h hh => by
          rcases h3 with h3 | h3
          · omega
          · rcases Nat.lt_or_ge h (i - 1) with c | c
            · have := (hU.inc c (by omega)).1; omega
            · obtain rfl : h = i - 1 := by omega
              exact h3
        have keyh : ∀ h, h ≤ i → (∀ g, g < h → pB m g < pB m i ∧ chkU a b m i g = true) → B.Ev (fun k => spec_MapOk.l1 k a b m (i : Int) (h : Int)) (okM a b m) := by
          refine B.Ev.loop (g := fun k h => spec_MapOk.l1 k a b m (i : Int) (h : Int)) i (fun h => ∀ g, g < h → pB m g < pB m i ∧ chkU a b m i g = true) (fun hV => ?_) ?_
          · refine B.Ev.succ ?_
            simp only [spec_MapOk.l1, show ¬ ((i : Int) < (i : Int)) by omega, ↓reduceIte, B.wsucc (show i < 9223372036854775807 by omega)]
            have hc : chk a b m i = true := by
              rw [chk_iff]
              refine ⟨⟨h1, h2⟩, ?_, fun h hh => (hV h hh).2⟩
              rcases Nat.eq_zero_or_pos i with c | c
              · exact Or.inl c
              · exact Or.inr ⟨hA _ (by omega), (hV _ (by omega)).1⟩
            exact ih (hU.succ hc)
          · intro h hh hV ihh
            refine B.Ev.succ ?_
            have b1 : (h : Int) < (i : Int) := by omega
            have b2 : 0 ≤ (h : Int) := by omega
            have b3 : (h : Int) < (m.length : Int) := by omega
            have b4 : 0 ≤ (i : Int) := by omega
            have b5 : (i : Int) < (m.length : Int) := by omega
            simp only [spec_MapOk.l1, b1, b2, b3, b4, b5, ↓reduceIte, rdPair, B.wsucc (show h < 9223372036854775807 by omega)]
            refine B.Ev.ite (fun c => ?_) (fun c => ?_)
            · refine (B.Ev.pure _).eq (okM_false hi (chk_not fun hc => ?_)).symm
              have := (hU.succ hc).inc hh (Nat.lt_succ_self i)
              have c' : pB m h ≥ pB m i := c
              omega
            · have c' : ¬ pB m h ≥ pB m i := c
              have hch := (chk_iff.1 (hU h hh)).1
              obtain ⟨x, ex, hx⟩ := isAt_nat h1
              obtain ⟨y, ey, hy⟩ := isAt_nat h2
              obtain ⟨x', ex', hx'⟩ := isAt_nat hch.1
              obtain ⟨y', ey', hy'⟩ := isAt_nat hch.2
              have f1 : (m.getD i z64).f0 = (x : Int) := ex
              have f2 : (m.getD i z64).f1 = (y : Int) := ey
              have f3 : (m.getD h z64).f0 = (x' : Int) := ex'
              have f4 : (m.getD h z64).f1 = (y' : Int) := ey'
              have q1 := hA h hh
              simp only [f1, f2, f3, f4]
              refine B.Ev.bind (evUnder (isAt_okT h1) hx' hx) ?_
              refine B.Ev.bind (evUnder (isAt_okT h2) hy' hy) ?_
              have hu : chkU a b m i h = decide ((x < endN a x') ↔ (y < endN b y')) := by
                unfold chkU
                rw [ex, ey, ex', ey', Int.toNat_natCast, Int.toNat_natCast, decide_eq_decide]
                omega
              have hd : (decide (x' < x ∧ x < endN a x') != decide (y' < y ∧ y < endN b y')) = !chkU a b m i h := by
                rw [hu, show decide (x' < x ∧ x < endN a x') = decide (x < endN a x') by rw [decide_eq_decide]; omega, show decide (y' < y ∧ y < endN b y') = decide (y < endN b y') by rw [decide_eq_decide]; omega]
                by_cases g1 : x < endN a x' <;> by_cases g2 : y < endN b y' <;> simp [g1, g2]
              rw [hd]
              cases hcu : chkU a b m i h
              · simp only [Bool.not_false, ↓reduceIte]
                refine (B.Ev.pure _).eq (okM_false hi (chk_not fun hc => ?_)).symm
                have := (chk_iff.1 hc).2.2 h hh
                rw [hcu] at this; cases this
              · simp only [Bool.not_true, Bool.false_eq_true, ↓reduceIte]
                have hV' : ∀ g, g < h + 1 → pB m g < pB m i ∧ chkU a b m i g = true := fun g hg => by
                  rcases Nat.lt_or_ge g h with d | d
                  · exact hV g d
                  · obtain rfl : g = h := by omega
                    exact ⟨by omega, hcu⟩
                exact ihh hV'
        exact keyh 0 (Nat.zero_le _) (fun g hg => absurd hg (Nat.not_lt_zero _))
      refine B.Ev.succ ?_
      have a1 : (i : Int) < (m.length : Int) := by omega
      have a2 : 0 ≤ (i : Int) := by omega
      simp only [spec_MapOk.l0, a1, a2, ↓reduceIte, rdPair]
      refine B.Ev.bind (evAt a ha _) ?_
      refine B.Ev.ite (fun c1 => ?_) (fun c1 => out (chk_not fun hc => c1 (chk_iff.1 hc).1.1))
      refine B.Ev.bind (evAt b hb _) ?_
      refine B.Ev.ite (fun c2 => ?_) (fun c2 => out (chk_not fun hc => c2 (chk_iff.1 hc).1.2))
      rcases i with _ | j
      · simp only [show ¬ (((0 : Nat) : Int) > 0) by decide, ↓reduceIte]
        exact inn c1 c2 (Or.inl rfl)
      · have e : wrap64 (((j + 1 : Nat) : Int) - 1) = (j : Int) := by rw [B.wid (by omega) (by omega)]; omega
        have a4 : 0 ≤ (j : Int) := by omega
        have a5 : (j : Int) < (m.length : Int) := by omega
        simp only [show ((j + 1 : Nat) : Int) > 0 by omega, e, a4, a5, ↓reduceIte, rdPair]
        by_cases c3 : (m.getD (j + 1) z64).f0 ≤ (m.getD j z64).f0
        · simp only [c3, decide_true]
          refine out (chk_not fun hc => ?_)
          have h3 := (chk_iff.1 hc).2.1
          simp only [Nat.add_sub_cancel] at h3
          have c3' : pA m (j + 1) ≤ pA m j := c3
          omega
        · simp only [c3, decide_false]
          have c3' : ¬ pA m (j + 1) ≤ pA m j := c3
          exact inn c1 c2 (Or.inr (by simp only [Nat.add_sub_cancel]; omega))
  exact key 0 (Nat.zero_le _) (fun g hg => absurd hg (Nat.not_lt_zero _))
end Go.Proofs.Ytebaodiagljjfaa.X
