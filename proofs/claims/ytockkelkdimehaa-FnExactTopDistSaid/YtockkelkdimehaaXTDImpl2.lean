/- The distance of the program: the table, and the knot of the recursion. -/
import Derived.Test.YtockkelkdimehaaXTDSpec2
import Derived.Test.YtockkelkdimehaaXTDImpl
import Derived.Test.YtockkelkdimehaaXKidsI
import Derived.Test.YtockkelkdimehaaXKids
import Derived.Test.YtockkelkdimehaaXSub
import Derived.Test.YtockkelkdimehaaXDelT
import Derived.Test.YtockkelkdimehaaXCost

namespace Go.Proofs.Ytockkelkdimehaa.X
open Go Go.RowKit Go.Proofs.YtockkelkdimehaaW.PrintWords Go.Proofs.YtockkelkdimehaaW.PrintLast Go.Proofs.YtockkelkdimehaaW.PrintMore Go.Proofs.Ytockkelkdimehaa.P
theorem evDel1 {a b : List S59} (ha : okT a = true) {d i r : List Int} (hd : d.length ≤ 4194304) (hi : i.length ≤ 4194304) (hr : r.length ≤ 4194304) (g : Int) {x : Nat} (hx : x < a.length) : B.Ev (fun k => impl_topdown_del.f k a b d i r g (x : Int)) (dN a d i r x) := by
  have hla := (okT_len ha).2
  simp only [impl_topdown_del.f]
  refine B.Ev.bind (evSub' ha hx) ?_
  refine B.Ev.bind (evDelT' _ _ _ _ (by have := subN_len hx; omega) hd hi hr) ?_
  exact B.Ev.pure _
theorem evIns1 {a b : List S59} (hb : okT b = true) {d i r : List Int} (hd : d.length ≤ 4194304) (hi : i.length ≤ 4194304) (hr : r.length ≤ 4194304) (g : Int) {y : Nat} (hy : y < b.length) : B.Ev (fun k => impl_topdown_ins.f k a b d i r g (y : Int)) (iN b d i r y) := by
  have hlb := (okT_len hb).2
  simp only [impl_topdown_ins.f]
  refine B.Ev.bind (evSub' hb hy) ?_
  refine B.Ev.bind (evInsT' _ _ _ _ (by have := subN_len hy; omega) hd hi hr) ?_
  exact B.Ev.pure _
theorem evTabI [impl_topdown_dist_O] {a b : List S59} (ha : okT a = true) (hb : okT b = true) {d i r : List Int} (hd : d.length ≤ 4194304) (hi : i.length ≤ 4194304) (hr : r.length ≤ 4194304) (g : Int) {u v : Nat} (hu : u < a.length) (hv : v < b.length)
    (hR : ∀ x ∈ kids a u, ∀ y ∈ kids b v, B.Ev (fun k => impl_topdown_dist_O.f k a b d i r g (x : Int) (y : Int)) (gN a b d i r x y)) :
    B.Ev (fun k => impl_topdown_table.f k a b d i r g (u : Int) (v : Int)) (rows (tN a b d i r u v) ((kids a u).length + 1) ((kids b v).length + 1)) := by
  have hla := (okT_len ha).2
  have hlb := (okT_len hb).2
  have lP := kids_len hu
  have lQ := kids_len hv
  simp only [impl_topdown_table.f]
  refine B.Ev.bind (evKids' ha hu) ?_
  refine B.Ev.bind (evKids' hb hv) ?_
  have kx : ∀ p, p < ((kids a u).map fun (j : Nat) => (j : Int)).length → (kids a u).getD p 0 ∈ kids a u := fun p hp => getD_memN (by rw [List.length_map] at hp; exact hp)
  have ky : ∀ q, q < ((kids b v).map fun (j : Nat) => (j : Int)).length → (kids b v).getD q 0 ∈ kids b v := fun q hq => getD_memN (by rw [List.length_map] at hq; exact hq)
  have h := evTabI0 (a := a) (b := b) (d := d) (i := i) (r := r) (g := g) (X := (kids a u).map fun (j : Nat) => (j : Int)) (Y := (kids b v).map fun (j : Nat) => (j : Int)) (x := fun p => (kids a u).getD p 0) (y := fun q => (kids b v).getD q 0) (T := tN a b d i r u v)
    (D := fun p => dN a d i r ((kids a u).getD p 0)) (I := fun q => iN b d i r ((kids b v).getD q 0)) (R := fun p q => gN a b d i r ((kids a u).getD p 0) ((kids b v).getD q 0))
    (by rw [List.length_map]; omega) (by rw [List.length_map]; omega)
    (fun p hp => rdMap _ (by rw [List.length_map] at hp; exact hp)) (fun q hq => rdMap _ (by rw [List.length_map] at hq; exact hq))
    (fun p hp => evDel1 ha hd hi hr g (kids_mem hu (kx p hp)).2.2.1)
    (fun q hq => evIns1 hb hd hi hr g (kids_mem hv (ky q hq)).2.2.1)
    (fun p q hp hq => hR _ (kx p hp) _ (ky q hq))
    (fun p => delT_bound _ _ _ _) (fun q => insT_bound _ _ _ _)
    (fun p q hp hq => gN_bound a b d i r (kids_mem hu (kx p hp)).2.2.1 (kids_mem hv (ky q hq)).2.2.1 hla hlb)
    (fun p q hp hq => tN_bound a b d i r hu hv hla hlb (by rw [List.length_map] at hp; exact hp) (by rw [List.length_map] at hq; exact hq))
    (by unfold tN; rw [tdp]) (fun p => by unfold tN; rw [tdp]) (fun q => by unfold tN; rw [tdp]) (fun p q => by unfold tN; rw [tdp])
  have e1 : ((kids a u).map fun (j : Nat) => (j : Int)).length = (kids a u).length := by rw [List.length_map]
  have e2 : ((kids b v).map fun (j : Nat) => (j : Int)).length = (kids b v).length := by rw [List.length_map]
  refine h.eq ?_
  rw [e1, e2]
theorem evDistBI [impl_topdown_dist_O] {a b : List S59} (ha : okT a = true) (hb : okT b = true) {d i r : List Int} (hd : d.length ≤ 4194304) (hi : i.length ≤ 4194304) (hr : r.length ≤ 4194304) (g : Int) {u v : Nat} (hu : u < a.length) (hv : v < b.length)
    (hR : ∀ x ∈ kids a u, ∀ y ∈ kids b v, B.Ev (fun k => impl_topdown_dist_O.f k a b d i r g (x : Int) (y : Int)) (gN a b d i r x y)) :
    B.Ev (fun k => impl_topdown_distB.f k a b d i r g (u : Int) (v : Int)) (gN a b d i r u v) := by
  have hla := (okT_len ha).2
  have hlb := (okT_len hb).2
  have lP := kids_len hu
  have lQ := kids_len hv
  simp only [impl_topdown_distB.f]
  refine B.Ev.bind (evTabI ha hb hd hi hr g hu hv hR) ?_
  obtain ⟨P, hP⟩ : ∃ P, P = (kids a u).length := ⟨_, rfl⟩
  obtain ⟨Q, hQ⟩ : ∃ Q, Q = (kids b v).length := ⟨_, rfl⟩
  have t1 := tN_bound a b d i r hu hv hla hlb (Nat.le_refl _) (Nat.le_refl _)
  have t2 := relC_bound d i r (lab a u) (lab b v)
  rw [← hP, ← hQ] at t1
  rw [← hP] at lP
  rw [← hQ] at lQ
  rw [← hP, ← hQ]
  have er := rdRows (tN a b d i r u v) (m := Q + 1) (show P < P + 1 by omega)
  have r1 : rd (rng (tN a b d i r u v P) (Q + 1)) (Q : Int) = tN a b d i r u v P Q := rdRng _ (by omega)
  simp only [rows_len, wpred P (by omega), show 0 ≤ (P : Int) by omega, show (P : Int) < ((P + 1 : Nat) : Int) by omega, show 0 ≤ (u : Int) by omega, show (u : Int) < (a.length : Int) by omega, show 0 ≤ (v : Int) by omega, show (v : Int) < (b.length : Int) by omega, ↓reduceIte, rdNode]
  refine B.Ev.bind (evRel' d i r _ _ hd hi hr) ?_
  simp only [er, rng_len, wpred Q (by omega), show 0 ≤ (Q : Int) by omega, show (Q : Int) < ((Q + 1 : Nat) : Int) by omega, ↓reduceIte, r1]
  refine (B.Ev.pure _).eq ?_
  rw [gN_eq a b d i r hu hv, ← hP, ← hQ, Int.add_comm]
  exact B.wid (by show _ ≤ tN a b d i r u v _ _ + relC d i r (lab a u) (lab b v); omega) (by show tN a b d i r u v _ _ + relC d i r (lab a u) (lab b v) ≤ _; omega)
theorem impl_dmono {a b : List S59} {d i r : List Int} {g u v : Int} {K k : Nat} (h : K ≤ k) : LeO (impl_topdown_dist.f K a b d i r g u v) (impl_topdown_dist.f k a b d i r g u v) := by
  obtain ⟨n, rfl⟩ : ∃ n, k = K + n := ⟨k - K, by omega⟩
  clear h
  induction n with
  | zero => exact LeO.refl _
  | succ n ih => exact fun z hz => impl_topdown_dist.mono _ _ _ _ _ _ _ _ (K + n) z (ih z hz)
theorem evDistI {a b : List S59} (ha : okT a = true) (hb : okT b = true) {d i r : List Int} (hd : d.length ≤ 4194304) (hi : i.length ≤ 4194304) (hr : r.length ≤ 4194304) (g : Int) :
    ∀ n u v, u < a.length → v < b.length → a.length - u ≤ n → B.Ev (fun k => impl_topdown_dist.f k a b d i r g (u : Int) (v : Int)) (gN a b d i r u v) := by
  intro n
  induction n with
  | zero => intro u v hu _ h; omega
  | succ n ih =>
    intro u v hu hv hn
    obtain ⟨K, hK⟩ := evAllP (kids a u) (fun x k => ∀ y ∈ kids b v, impl_topdown_dist.f k a b d i r g (x : Int) (y : Int) = some (gN a b d i r x y)) (fun x hx =>
      evAllP (kids b v) (fun y k => impl_topdown_dist.f k a b d i r g (x : Int) (y : Int) = some (gN a b d i r x y)) (fun y hy => by
        have k1 := kids_mem hu hx
        have k2 := kids_mem hv hy
        exact ih x y k1.2.2.1 k2.2.2.1 (by omega)))
    obtain ⟨T, hT⟩ := @evDistBI (impl_topdown_dist.o K) a b ha hb d i r hd hi hr g u v hu hv (fun x hx y hy => ⟨0, fun k _ => hK K (Nat.le_refl _) x hx y hy⟩)
    refine ⟨K + T + 1, fun k hk => ?_⟩
    obtain ⟨k, rfl⟩ : ∃ m, k = m + 1 := ⟨k - 1, by omega⟩
    show @impl_topdown_distB.f (impl_topdown_dist.o k) (k + 1) a b d i r g (u : Int) (v : Int) = some (gN a b d i r u v)
    have h := @impl_topdown_distB.omono (impl_topdown_dist.o K) (impl_topdown_dist.o k) (k + 1) (fun j _ a0 a1 a2 a3 a4 a5 a6 a7 => impl_dmono (by omega)) a b d i r g (u : Int) (v : Int)
    exact h _ (hT (k + 1) (by omega))
end Go.Proofs.Ytockkelkdimehaa.X
