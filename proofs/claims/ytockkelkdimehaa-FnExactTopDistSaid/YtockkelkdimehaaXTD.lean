/- The distance where only whole subtrees go or come: the table over the children of two nodes, and the recursion over the nodes. -/
import Derived.Test.YtockkelkdimehaaXKids
import Derived.Test.YtockkelkdimehaaXSub
import Derived.Test.YtockkelkdimehaaXDelT
namespace Go.Proofs.Ytockkelkdimehaa.X
open Go Go.RowKit Go.Proofs.YtockkelkdimehaaW.PrintWords Go.Proofs.YtockkelkdimehaaW.PrintLast Go.Proofs.YtockkelkdimehaaW.PrintMore Go.Proofs.Ytockkelkdimehaa.P
/-- The table: what the first p of xs and the first q of ys cost, D and I for what goes and comes, R for two that belong together. -/
def tdp (xs ys : List Nat) (D I : Nat → Int) (R : Nat → Nat → Int) : Nat → Nat → Int
  | 0, 0 => 0
  | p + 1, 0 => tdp xs ys D I R p 0 + D (xs.getD p 0)
  | 0, q + 1 => tdp xs ys D I R 0 q + I (ys.getD q 0)
  | p + 1, q + 1 => min (min (tdp xs ys D I R p (q + 1) + D (xs.getD p 0)) (tdp xs ys D I R (p + 1) q + I (ys.getD q 0))) (tdp xs ys D I R p q + R (xs.getD p 0) (ys.getD q 0))
termination_by p q => p + q
theorem tdp_congr {xs ys : List Nat} {D I : Nat → Int} {R R' : Nat → Nat → Int} (h : ∀ x ∈ xs, ∀ y ∈ ys, R x y = R' x y) : ∀ p q, p ≤ xs.length → q ≤ ys.length → tdp xs ys D I R p q = tdp xs ys D I R' p q := by
  intro p
  induction p with
  | zero =>
    intro q _ hq
    induction q with
    | zero => rw [tdp, tdp]
    | succ q ih => rw [tdp, tdp, ih (by omega)]
  | succ p ihp =>
    intro q hp hq
    induction q with
    | zero => rw [tdp, tdp, ihp 0 (by omega) (by omega)]
    | succ q ih =>
      rw [tdp, tdp, ihp (q + 1) (by omega) hq, ih (by omega), ihp q (by omega) (by omega)]
      rw [h (xs.getD p 0) (by rw [B.getD_lt (show p < xs.length by omega)]; exact List.getElem_mem _) (ys.getD q 0) (by rw [B.getD_lt (show q < ys.length by omega)]; exact List.getElem_mem _)]
theorem tdp_bound {xs ys : List Nat} {D I : Nat → Int} {R : Nat → Nat → Int} (hD : ∀ x, 0 ≤ D x ∧ D x ≤ 24000) (hI : ∀ y, 0 ≤ I y ∧ I y ≤ 24000) (hR : ∀ x ∈ xs, ∀ y ∈ ys, 0 ≤ R x y) : ∀ p q, p ≤ xs.length → q ≤ ys.length → 0 ≤ tdp xs ys D I R p q ∧ tdp xs ys D I R p q ≤ 24000 * ((p + q : Nat) : Int) := by
  intro p
  induction p with
  | zero =>
    intro q _ hq
    induction q with
    | zero => rw [tdp]; omega
    | succ q ih =>
      have h1 := ih (by omega)
      have h2 := hI (ys.getD q 0)
      rw [tdp]
      constructor <;> omega
  | succ p ihp =>
    intro q hp hq
    induction q with
    | zero =>
      have h1 := ihp 0 (by omega) (by omega)
      have h2 := hD (xs.getD p 0)
      rw [tdp]
      constructor <;> omega
    | succ q ih =>
      have h1 := ihp (q + 1) (by omega) hq
      have h2 := ih (by omega)
      have h3 := ihp q (by omega) (by omega)
      have h4 := hD (xs.getD p 0)
      have h5 := hI (ys.getD q 0)
      have h6 := hR (xs.getD p 0) (by rw [B.getD_lt (show p < xs.length by omega)]; exact List.getElem_mem _) (ys.getD q 0) (by rw [B.getD_lt (show q < ys.length by omega)]; exact List.getElem_mem _)
      rw [tdp]
      constructor <;> omega
/-- What it costs to take out the subtree of a node, to put one in. -/
def dN (l : List S59) (d i r : List Int) (x : Nat) : Int := delT (subN l x) d i r
def iN (l : List S59) (d i r : List Int) (x : Nat) : Int := insT (subN l x) d i r
/-- The distance of two nodes' subtrees, by n steps of the recursion. -/
def gd (a b : List S59) (d i r : List Int) : Nat → Nat → Nat → Int
  | 0, _, _ => 0
  | n + 1, u, v => tdp (kids a u) (kids b v) (dN a d i r) (iN b d i r) (gd a b d i r n) (kids a u).length (kids b v).length + relC d i r (lab a u) (lab b v)
theorem kids_mem {l : List S59} {i x : Nat} (hi : i < l.length) (h : x ∈ kids l i) : i < x ∧ x < endN l i ∧ x < l.length ∧ dep l x = dep l i + 1 := by
  have a := endN_spec l hi
  unfold kids kidF at h
  rw [List.mem_filter, List.mem_range'_1] at h
  obtain ⟨⟨h1, h2⟩, h3⟩ := h
  simp only [decide_eq_true_eq] at h3
  exact ⟨by omega, by omega, by omega, h3⟩
theorem kids_len {l : List S59} {i : Nat} (hi : i < l.length) : (kids l i).length < l.length := by
  have a := endN_spec l hi
  have := kidF_len l i (i + 1) (endN l i)
  unfold kids
  omega
theorem gd_nn (a b : List S59) (d i r : List Int) : ∀ n u v, u < a.length → v < b.length → 0 ≤ gd a b d i r n u v := by
  intro n
  induction n with
  | zero => intro u v _ _; rw [gd]; omega
  | succ n ih =>
    intro u v hu hv
    rw [gd]
    have h1 := tdp_bound (xs := kids a u) (ys := kids b v) (D := dN a d i r) (I := iN b d i r) (R := gd a b d i r n) (fun x => delT_bound _ _ _ _) (fun x => insT_bound _ _ _ _) (fun x hx y hy => ih x y (kids_mem hu hx).2.2.1 (kids_mem hv hy).2.2.1) _ _ (Nat.le_refl _) (Nat.le_refl _)
    have h2 := relC_bound d i r (lab a u) (lab b v)
    omega
/-- Enough steps tell the same. -/
theorem gd_more (a b : List S59) (d i r : List Int) : ∀ n m u v, u < a.length → v < b.length → a.length - u ≤ n → a.length - u ≤ m → gd a b d i r n u v = gd a b d i r m u v := by
  intro n
  induction n with
  | zero => intro m u v hu _ h; omega
  | succ n ih =>
    intro m u v hu hv h1 h2
    obtain ⟨m, rfl⟩ : ∃ x, m = x + 1 := ⟨m - 1, by omega⟩
    rw [gd, gd]
    congr 1
    refine tdp_congr (fun x hx y hy => ?_) _ _ (Nat.le_refl _) (Nat.le_refl _)
    have k1 := kids_mem hu hx
    have k2 := kids_mem hv hy
    exact ih m x y k1.2.2.1 k2.2.2.1 (by omega) (by omega)
/-- The distance of two nodes' subtrees. -/
def gN (a b : List S59) (d i r : List Int) (u v : Nat) : Int := gd a b d i r a.length u v
theorem gN_nn (a b : List S59) (d i r : List Int) {u v : Nat} (hu : u < a.length) (hv : v < b.length) : 0 ≤ gN a b d i r u v := gd_nn a b d i r _ u v hu hv
/-- The table over the children of u and v. -/
def tN (a b : List S59) (d i r : List Int) (u v p q : Nat) : Int := tdp (kids a u) (kids b v) (dN a d i r) (iN b d i r) (gN a b d i r) p q
theorem gN_eq (a b : List S59) (d i r : List Int) {u v : Nat} (hu : u < a.length) (hv : v < b.length) : gN a b d i r u v = tN a b d i r u v (kids a u).length (kids b v).length + relC d i r (lab a u) (lab b v) := by
  unfold gN tN
  obtain ⟨n, hn⟩ : ∃ n, a.length = n + 1 := ⟨a.length - 1, by omega⟩
  rw [hn, gd]
  congr 1
  refine tdp_congr (fun x hx y hy => ?_) _ _ (Nat.le_refl _) (Nat.le_refl _)
  have k1 := kids_mem hu hx
  have k2 := kids_mem hv hy
  unfold gN
  exact gd_more a b d i r n a.length x y k1.2.2.1 k2.2.2.1 (by omega) (by omega)
theorem tN_bound (a b : List S59) (d i r : List Int) {u v : Nat} (hu : u < a.length) (hv : v < b.length) (ha : a.length ≤ 24) (hb : b.length ≤ 24) {p q : Nat} (hp : p ≤ (kids a u).length) (hq : q ≤ (kids b v).length) : 0 ≤ tN a b d i r u v p q ∧ tN a b d i r u v p q ≤ 1152000 := by
  have h1 := tdp_bound (xs := kids a u) (ys := kids b v) (D := dN a d i r) (I := iN b d i r) (R := gN a b d i r) (fun x => delT_bound _ _ _ _) (fun x => insT_bound _ _ _ _) (fun x hx y hy => gN_nn a b d i r (kids_mem hu hx).2.2.1 (kids_mem hv hy).2.2.1) p q hp hq
  have := kids_len hu
  have := kids_len hv
  unfold tN
  omega
theorem gN_bound (a b : List S59) (d i r : List Int) {u v : Nat} (hu : u < a.length) (hv : v < b.length) (ha : a.length ≤ 24) (hb : b.length ≤ 24) : 0 ≤ gN a b d i r u v ∧ gN a b d i r u v ≤ 1153000 := by
  rw [gN_eq a b d i r hu hv]
  have h1 := tN_bound a b d i r hu hv ha hb (Nat.le_refl _) (Nat.le_refl _)
  have h2 := relC_bound d i r (lab a u) (lab b v)
  omega
end Go.Proofs.Ytockkelkdimehaa.X
