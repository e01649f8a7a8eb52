/- The distance of the specification: the table, and the knot of the recursion. -/
import Derived.Test.YtockkelkdimehaaXTDSpec
import Derived.Test.YtockkelkdimehaaXKids
import Derived.Test.YtockkelkdimehaaXSub
import Derived.Test.YtockkelkdimehaaXDelT
import Derived.Test.YtockkelkdimehaaXCost
import Derived.Test.YtockkelkdimehaaG88
namespace Go.Proofs.Ytockkelkdimehaa.X
open Go Go.RowKit Go.Proofs.YtockkelkdimehaaW.PrintWords Go.Proofs.YtockkelkdimehaaW.PrintLast Go.Proofs.YtockkelkdimehaaW.PrintMore Go.Proofs.Ytockkelkdimehaa.P
theorem evAllP (xs : List Nat) (P : Nat → Nat → Prop) (h : ∀ x ∈ xs, ∃ K, ∀ k, K ≤ k → P x k) : ∃ K, ∀ k, K ≤ k → ∀ x ∈ xs, P x k := by
  induction xs with
  | nil => exact ⟨0, fun k _ x hx => by simp at hx⟩
  | cons x xs ih =>
    obtain ⟨K, hK⟩ := h x (by simp)
    obtain ⟨L, hL⟩ := ih (fun y hy => h y (by simp [hy]))
    refine ⟨K + L, fun k hk y hy => ?_⟩
    rcases List.mem_cons.mp hy with e | e
    · subst e; exact hK k (by omega)
    · exact hL k (by omega) y e
theorem getD_memN {xs : List Nat} {p : Nat} (h : p < xs.length) : xs.getD p 0 ∈ xs := by rw [B.getD_lt h]; exact List.getElem_mem _
theorem td_size {P Q : Nat} (hP : P < 24) (hQ : Q < 24) : (P + 1) * (Q + 1) ≤ 576 := Nat.mul_le_mul (show P + 1 ≤ 24 by omega) (show Q + 1 ≤ 24 by omega)
theorem evTabS [spec_l26Dist_O] {a b : List S59} (ha : okT a = true) (hb : okT b = true) {d i r : List Int} (hd : d.length ≤ 4194304) (hi : i.length ≤ 4194304) (hr : r.length ≤ 4194304) {u v : Nat} (hu : u < a.length) (hv : v < b.length)
    (hR : ∀ x ∈ kids a u, ∀ y ∈ kids b v, B.Ev (fun k => spec_l26Dist_O.f k a b d i r (x : Int) (y : Int)) (gN a b d i r x y)) :
    B.Ev (fun k => spec_l26Table.f k a b d i r (u : Int) (v : Int)) (flat (tN a b d i r u v) (((kids a u).length + 1) * ((kids b v).length + 1)) ((kids b v).length + 1) (((kids a u).length + 1) * ((kids b v).length + 1))) := by
  have hla := (okT_len ha).2
  have hlb := (okT_len hb).2
  have lP := kids_len hu
  have lQ := kids_len hv
  simp only [spec_l26Table.f]
  refine B.Ev.bind (evKids ha hu) ?_
  refine B.Ev.bind (evKids hb hv) ?_
  have hsz := td_size (show (kids a u).length < 24 by omega) (show (kids b v).length < 24 by omega)
  have hm : wrap64 ((((kids a u).length + 1 : Nat) : Int) * (((kids b v).length + 1 : Nat) : Int)) = ((((kids a u).length + 1) * ((kids b v).length + 1) : Nat) : Int) := wmul (by omega)
  simp only [List.length_map, B.wsucc (show (kids a u).length < 9223372036854775807 by omega), B.wsucc (show (kids b v).length < 9223372036854775807 by omega), hm]
  obtain ⟨N, hN⟩ : ∃ N, N = ((kids a u).length + 1) * ((kids b v).length + 1) := ⟨_, rfl⟩
  rw [← hN] at hsz
  rw [← hN]
  simp only [show 0 ≤ (N : Int) by omega, show N ≤ 35184372088832 by omega, Int.toNat_natCast, ↓reduceIte]
  have kx : ∀ p, p < ((kids a u).map fun (j : Nat) => (j : Int)).length → (kids a u).getD p 0 ∈ kids a u := fun p hp => getD_memN (by rw [List.length_map] at hp; exact hp)
  have ky : ∀ q, q < ((kids b v).map fun (j : Nat) => (j : Int)).length → (kids b v).getD q 0 ∈ kids b v := fun q hq => getD_memN (by rw [List.length_map] at hq; exact hq)
  exact evTab0 (X := (kids a u).map fun (j : Nat) => (j : Int)) (Y := (kids b v).map fun (j : Nat) => (j : Int)) (x := fun p => (kids a u).getD p 0) (y := fun q => (kids b v).getD q 0)
    (D := fun p => dN a d i r ((kids a u).getD p 0)) (I := fun q => iN b d i r ((kids b v).getD q 0)) (R := fun p q => gN a b d i r ((kids a u).getD p 0) ((kids b v).getD q 0))
    (w := (kids b v).length + 1) (N := N) (by rw [List.length_map]) (by rw [List.length_map]; exact hN) (by omega) (by rw [List.length_map]; omega) (by rw [List.length_map]; omega)
    (fun p hp => rdMap _ (by rw [List.length_map] at hp; exact hp)) (fun q hq => rdMap _ (by rw [List.length_map] at hq; exact hq))
    (fun p hp => evSub ha (kids_mem hu (kx p hp)).2.2.1)
    (fun p hp => evDelT _ _ _ _ (by have := subN_len (kids_mem hu (kx p hp)).2.2.1; omega) hd hi hr)
    (fun q hq => evSub hb (kids_mem hv (ky q hq)).2.2.1)
    (fun q hq => evInsT _ _ _ _ (by have := subN_len (kids_mem hv (ky q hq)).2.2.1; omega) hd hi hr)
    (fun p q hp hq => hR _ (kx p hp) _ (ky q hq))
    (fun p => delT_bound _ _ _ _) (fun q => insT_bound _ _ _ _)
    (fun p q hp hq => gN_bound a b d i r (kids_mem hu (kx p hp)).2.2.1 (kids_mem hv (ky q hq)).2.2.1 hla hlb)
    (fun p q hp hq => tN_bound a b d i r hu hv hla hlb (by rw [List.length_map] at hp; exact hp) (by rw [List.length_map] at hq; exact hq))
    (by unfold tN; rw [tdp]) (fun p => by unfold tN; rw [tdp]) (fun q => by unfold tN; rw [tdp]) (fun p q => by unfold tN; rw [tdp])
theorem evDistB [spec_l26Dist_O] {a b : List S59} (ha : okT a = true) (hb : okT b = true) {d i r : List Int} (hd : d.length ≤ 4194304) (hi : i.length ≤ 4194304) (hr : r.length ≤ 4194304) {u v : Nat} (hu : u < a.length) (hv : v < b.length)
    (hR : ∀ x ∈ kids a u, ∀ y ∈ kids b v, B.Ev (fun k => spec_l26Dist_O.f k a b d i r (x : Int) (y : Int)) (gN a b d i r x y)) :
    B.Ev (fun k => spec_l26DistB.f k a b d i r (u : Int) (v : Int)) (gN a b d i r u v) := by
  have hla := (okT_len ha).2
  have hlb := (okT_len hb).2
  have lP := kids_len hu
  have lQ := kids_len hv
  have hsz := td_size (show (kids a u).length < 24 by omega) (show (kids b v).length < 24 by omega)
  simp only [spec_l26DistB.f]
  refine B.Ev.bind (evTabS ha hb hd hi hr hu hv hR) ?_
  have hN : ((kids a u).length + 1) * ((kids b v).length + 1) = ((kids a u).length * ((kids b v).length + 1) + (kids b v).length) + 1 := by rw [Nat.succ_mul]; rfl
  simp only [flat_len]
  obtain ⟨m, hm⟩ : ∃ m, m = (kids a u).length * ((kids b v).length + 1) + (kids b v).length := ⟨_, rfl⟩
  rw [hN, ← hm] at hsz
  rw [hN, ← hm]
  have r1 : rd (flat (tN a b d i r u v) (m + 1) ((kids b v).length + 1) (m + 1)) (m : Int) = tN a b d i r u v (kids a u).length (kids b v).length := rdFlat _ hm (by omega) (by omega) (by omega)
  have t1 := tN_bound a b d i r hu hv hla hlb (Nat.le_refl _) (Nat.le_refl _)
  have t2 := relC_bound d i r (lab a u) (lab b v)
  simp only [wpred m (by omega), show 0 ≤ (m : Int) by omega, show (m : Int) < ((m + 1 : Nat) : Int) by omega, show 0 ≤ (u : Int) by omega, show (u : Int) < (a.length : Int) by omega, show 0 ≤ (v : Int) by omega, show (v : Int) < (b.length : Int) by omega, ↓reduceIte, rdNode, r1]
  refine B.Ev.bind (evRel d i r _ _ hd hi hr) ?_
  refine (B.Ev.pure _).eq ?_
  rw [gN_eq a b d i r hu hv]
  exact B.wid (by show _ ≤ tN a b d i r u v _ _ + relC d i r (lab a u) (lab b v); omega) (by show tN a b d i r u v _ _ + relC d i r (lab a u) (lab b v) ≤ _; omega)
theorem spec_mono {a b : List S59} {d i r : List Int} {u v : Int} {K k : Nat} (h : K ≤ k) : LeO (spec_l26Dist.f K a b d i r u v) (spec_l26Dist.f k a b d i r u v) := by
  obtain ⟨n, rfl⟩ : ∃ n, k = K + n := ⟨k - K, by omega⟩
  clear h
  induction n with
  | zero => exact LeO.refl _
  | succ n ih => exact fun z hz => spec_l26Dist.mono _ _ _ _ _ _ _ (K + n) z (ih z hz)
theorem evDistS {a b : List S59} (ha : okT a = true) (hb : okT b = true) {d i r : List Int} (hd : d.length ≤ 4194304) (hi : i.length ≤ 4194304) (hr : r.length ≤ 4194304) :
    ∀ n u v, u < a.length → v < b.length → a.length - u ≤ n → B.Ev (fun k => spec_l26Dist.f k a b d i r (u : Int) (v : Int)) (gN a b d i r u v) := by
  intro n
  induction n with
  | zero => intro u v hu _ h; omega
  | succ n ih =>
    intro u v hu hv hn
    obtain ⟨K, hK⟩ := evAllP (kids a u) (fun x k => ∀ y ∈ kids b v, spec_l26Dist.f k a b d i r (x : Int) (y : Int) = some (gN a b d i r x y)) (fun x hx =>
      evAllP (kids b v) (fun y k => spec_l26Dist.f k a b d i r (x : Int) (y : Int) = some (gN a b d i r x y)) (fun y hy => by
        have k1 := kids_mem hu hx
        have k2 := kids_mem hv hy
        exact ih x y k1.2.2.1 k2.2.2.1 (by omega)))
    obtain ⟨T, hT⟩ := @evDistB (spec_l26Dist.o K) a b ha hb d i r hd hi hr u v hu hv (fun x hx y hy => ⟨0, fun k _ => hK K (Nat.le_refl _) x hx y hy⟩)
    refine ⟨K + T + 1, fun k hk => ?_⟩
    obtain ⟨k, rfl⟩ : ∃ m, k = m + 1 := ⟨k - 1, by omega⟩
    show @spec_l26DistB.f (spec_l26Dist.o k) (k + 1) a b d i r (u : Int) (v : Int) = some (gN a b d i r u v)
    have h := @spec_l26DistB.omono (spec_l26Dist.o K) (spec_l26Dist.o k) (k + 1) (fun j _ a0 a1 a2 a3 a4 a5 a6 => spec_mono (by omega)) a b d i r (u : Int) (v : Int)
    exact h _ (hT (k + 1) (by omega))
end Go.Proofs.Ytockkelkdimehaa.X
