-- Written by this session's program mk.py with the kit's print program, out of the translation; not by hand. Lean checks it.
import Derived.Test.YtekpggmnnfjphaaP0
import Derived.Test.YtekpggmnnfjphaaHand
import Derived.Test.YtekpggmnnfjphaaG9
namespace Go.Proofs.Ytekpggmnnfjphaa.P
open Go.RowKit Go.Proofs.YtekpggmnnfjphaaW.PrintWords Go.Proofs.YtekpggmnnfjphaaW.PrintLast Go.Proofs.YtekpggmnnfjphaaW.PrintMore
attribute [local go_sem] max2_int min2_int max_two min_two max_three min_three max_four min_four   -- for this text's walks alone
set_option linter.unusedVariables false
set_option linter.unusedSimpArgs false


/-! ### spec_l25Row: function 58 -/
mutual
def spec_l25Row.l0 : Nat → List Int → Int → List Int → Int → Int → Option (List Int × Int × Int)
 | 0, _, _, _, _, _ => none
 | k + 1, x3, x4, x1000, x1001, x1002 => if x4 > 0 then ((spec_l2Label.f x1000 x1001 x1002).bind fun bt395 => (if x3.length < 17592186044416 then (spec_l25Row.l0 k (x3 ++ [bt395.1]) (wrap64 (x4 - 1)) x1000 bt395.2.1 bt395.2.2) else (none))) else ((spec_l1Below.f x1000 x1001 x1002 18).bind fun bt401 => (if bt401.1 = 0 then ((spec_l2Any.f x1000 bt401.2.1 bt401.2.2).bind fun bt404 => (if x3.length < 17592186044416 then (some ((x3 ++ [bt404.1]), bt404.2.1, bt404.2.2)) else (none))) else (if bt401.1 = 1 then (spec_l25Row.l1 k x3 x1000 bt401.2.1 bt401.2.2) else (some (x3, bt401.2.1, bt401.2.2)))))
def spec_l25Row.l1 : Nat → List Int → List Int → Int → Int → Option (List Int × Int × Int)
 | 0, _, _, _, _ => none
 | k + 1, x3, x1000, x1001, x1002 => (spec_l1Below.f x1000 x1001 x1002 2).bind fun bt410 => (if (x3.length : Int) < (wrap64 (24 + bt410.1)) then (if x3.length < 17592186044416 then (spec_l25Row.l1 k (x3 ++ [1]) x1000 bt410.2.1 bt410.2.2) else (none)) else (some (x3, bt410.2.1, bt410.2.2)))
end
def spec_l25Row.f (k : Nat) (s0_0 : List Int) (s0_1 : Int) (s0_2 : Int) : Option (List Int × Int × Int) := (spec_l1Below.f s0_0 s0_1 s0_2 9).bind fun bt392 => (spec_l25Row.l0 k (([] : List Int)) bt392.1 s0_0 bt392.2.1 bt392.2.2)
theorem spec_l25Row.mono_l : ∀ k, (∀ y0 y1 y2 y3 y4, LeO (spec_l25Row.l0 k y0 y1 y2 y3 y4) (spec_l25Row.l0 (k + 1) y0 y1 y2 y3 y4)) ∧ (∀ y0 y1 y2 y3, LeO (spec_l25Row.l1 k y0 y1 y2 y3) (spec_l25Row.l1 (k + 1) y0 y1 y2 y3))
 | 0 => ⟨fun _ _ _ _ _ r h => by simp [spec_l25Row.l0] at h, fun _ _ _ _ r h => by simp [spec_l25Row.l1] at h⟩
 | k + 1 => by
  obtain ⟨ih0, ih1⟩ := spec_l25Row.mono_l k
  refine ⟨?_, ?_⟩
  ·intro y0 y1 y2 y3 y4
   unfold spec_l25Row.l0
   repeat' first
   | (with_reducible exact ih0 _ _ _ _ _)
   | (with_reducible exact ih1 _ _ _ _)
   | (with_reducible exact LeO.refl _)
   | (with_reducible exact LeO.none _)
   | (with_reducible refine LeO.ite ?_ ?_)
   | (with_reducible refine LeO.bind ?_ (fun _ => ?_))
   | exact ih0 _ _ _ _ _
   | exact ih1 _ _ _ _
   | exact LeO.none _
   | refine LeO.ite ?_ ?_
   | refine LeO.bind ?_ (fun _ => ?_)
  ·intro y0 y1 y2 y3
   unfold spec_l25Row.l1
   repeat' first
   | (with_reducible exact ih0 _ _ _ _ _)
   | (with_reducible exact ih1 _ _ _ _)
   | (with_reducible exact LeO.refl _)
   | (with_reducible exact LeO.none _)
   | (with_reducible refine LeO.ite ?_ ?_)
   | (with_reducible refine LeO.bind ?_ (fun _ => ?_))
   | exact ih0 _ _ _ _ _
   | exact ih1 _ _ _ _
   | exact LeO.none _
   | refine LeO.ite ?_ ?_
   | refine LeO.bind ?_ (fun _ => ?_)
theorem spec_l25Row.mono : ∀ a0 a1 a2 k, LeO (spec_l25Row.f k a0 a1 a2) (spec_l25Row.f (k + 1) a0 a1 a2) := by
 intro a0 a1 a2 k
 obtain ⟨ih0, ih1⟩ := spec_l25Row.mono_l k
 unfold spec_l25Row.f
 repeat' first
   | (with_reducible exact ih0 _ _ _ _ _)
   | (with_reducible exact ih1 _ _ _ _)
   | (with_reducible exact LeO.refl _)
   | (with_reducible exact LeO.none _)
   | (with_reducible refine LeO.ite ?_ ?_)
   | (with_reducible refine LeO.bind ?_ (fun _ => ?_))
   | exact ih0 _ _ _ _ _
   | exact ih1 _ _ _ _
   | exact LeO.none _
   | refine LeO.ite ?_ ?_
   | refine LeO.bind ?_ (fun _ => ?_)
set_option maxHeartbeats 8000000 in
set_option maxRecDepth 100000 in
theorem spec_l25Row.calls (k : Nat) (g : Nat) (s0_0 : List Int) (s0_1 : Int) (s0_2 : Int) (r1 : List Int) (r2 : Int) (r3 : Int) (w0 w : World) (hI : IsS104 w0 w g s0_0 s0_1 s0_2) (hB : Below w0.heap.size w0 w) (h : spec_l25Row.f k s0_0 s0_1 s0_2 = some (r1, r2, r3)) :
  Calls Try.prog 58 #[.pointer (some ⟨g, 0, none⟩)] w fun e w' => ∃ v0_ : Value, e = .returned (v0_) ∧ Kd.R (Kd.int .i64) 3 w' w.heap.size (fun _ => True) v0_ r1 ∧ IsS104 w0 w' g s0_0 r2 r3 ∧ Below w0.heap.size w0 w' ∧ KeepBut w w' g none := by
 have HI0 := Aside0.mk hI
 have HK := Aside0.mk (KeepBut.refl w g none)
 have HL := Aside0.mk hB.size
 clear hI
 have HW0 := Aside0.mk hB.size
 have HB := Aside0.mk hB
 clear hB
 have H : ((spec_l1Below.f s0_0 s0_1 s0_2 9).bind fun bt392 => (spec_l25Row.l0 k (([] : List Int)) bt392.1 s0_0 bt392.2.1 bt392.2.2)) = some (r1, r2, r3) := h
 clear h
 obtain ⟨y389, hy389⟩ : ∃ y_ : List Int, y_ = (([] : List Int)) := ⟨_, rfl⟩
 replace H : ((spec_l1Below.f s0_0 s0_1 s0_2 9).bind fun bt392 => (spec_l25Row.l0 k y389 bt392.1 s0_0 bt392.2.1 bt392.2.2)) = some (r1, r2, r3) := by first | (rw [hy389]; with_reducible exact H) | (have H2_ := (Option.bind_some _ _).symm.trans H; rw [hy389]; with_reducible exact H2_) | (have H2_ := (Option.bind_some _ _).symm.trans H; with_reducible exact H2_) | with_reducible exact H | (rw [hy389]; exact H) | exact H
 have Ny389 := Aside0.mk hy389
 clear hy389
 replace H := Option.bind_eq_some_iff.mp H
 obtain ⟨⟨t392, t393, t394⟩, A20, H⟩ := H
 have A2 := Aside0.mk A20
 clear A20
 have H' := Aside0.mk H
 clear H
 go_enter Try.func58, Try.ntmps58
 go_wp2_with (first | ((with_reducible refine gate_dst (N := 5) rfl ?_); refine Kd.R_lit (Kd.int .i64) _ 3 ?hg (N := 5) ?hd (xs := ([] : List Int)) (inner := []) (ok := fun _ => True) (okp := fun _ => True) ?hr ?hp (fun _ hk => hk) trivial (Below.refl _ _) (Nat.le_refl _) (by simp) ?_; (case hd => rfl); (case hg => rfl); (case hr => first | (go_simp; done) | (go_simp; rfl)); (case hp => exact (Reps.none _ _)); intro v390 w3 ho4 hb hg_ hnew_; clear hg_ hnew_; (first | rw [← Ny389.out] at ho4 | (simp only [Int.reduceToNat] at ho4; rw [← Ny389.out] at ho4)); have HO391 := Aside0.mk (Kd.R_lower ho4 (keep_size (w := w) (g := g) (row := none) (by repeat (first | (with_reducible first | exact HK.out | apply KeepBut.set_ | apply keep_drewN | apply keep_drew | apply keep_alloc) | exact HK.out)))); replace HK := Aside0.mk (KeepBut.trans (by repeat (first | (with_reducible first | exact HK.out | apply KeepBut.set_ | apply keep_drewN | apply keep_drew | apply keep_alloc) | exact HK.out)) (KeepBut.of_below hb g none) (.inl rfl)); replace HB := Aside0.mk (below_step (by repeat (first | (with_reducible first | exact HB.out | apply below_alloc | apply pw_below_drewN | apply below_drew1 | refine below_set ?_ (IsS104.ge HI0.out)) | exact HB.out)) hb); replace HI0 := Aside0.mk (IsS104.below (by repeat (first | (with_reducible first | exact HI0.out | apply IsS104.alloc | apply IsS104.drewN | apply IsS104.drew | apply IsS104.set_1 | apply IsS104.set_2) | exact HI0.out)) hb); clear hb ho4) | ((with_reducible refine gate_callee (f := 87) rfl ?_); refine goesL_ (some 7) rfl rfl Try.func87 (by kernel_rfl) rfl #[.pointer (some ⟨g, 0, none⟩), .int .i64 9] rfl (by (try simp only [List.map_toArray, List.map_cons, List.map_nil]); first | done | rfl | (simp only [List.length_drop, List.length_take]; rfl)) ?_; (with_reducible refine (spec_l1Below.calls g s0_0 s0_1 s0_2 9 t392 t393 t394 w0 _ ?side1 ?side2 A2.out).mono ?_); (case side1 => repeat (first | (with_reducible first | exact HI0.out | apply IsS104.alloc | apply IsS104.drewN | apply IsS104.drew | apply IsS104.set_1 | apply IsS104.set_2) | exact HI0.out)); (case side2 => repeat (first | (with_reducible first | exact HB.out | apply below_alloc | apply pw_below_drewN | apply below_drew1 | refine below_set ?_ (IsS104.ge HI0.out)) | exact HB.out)); rintro e w5 ⟨rfl, hi, hb, hk⟩; refine ⟨_, rfl, ?_⟩; replace HO391 := Aside0.mk (Kd.R_mono (Kd.R_keep (IsS104.apart (show IsS104 w0 _ g s0_0 s0_1 s0_2 from by repeat (first | (with_reducible first | exact HI0.out | apply IsS104.alloc | apply IsS104.drewN | apply IsS104.drew | apply IsS104.set_1 | apply IsS104.set_2) | exact HI0.out)) (laR HO391.out) (by decide)) hk (fun _ h => h.2)) (fun _ h => h.1)); replace HK := Aside0.mk (KeepBut.trans (by repeat (first | (with_reducible first | exact HK.out | apply KeepBut.set_ | apply keep_drewN | apply keep_drew | apply keep_alloc) | exact HK.out)) hk (.inl rfl)); replace HB := Aside0.mk (hb); replace HI0 := Aside0.mk (hi); (try clear hb); (try clear hb2); (try clear hk); (try clear hi)))
 go_loopg [3, 4] k (fun kq v3 v4 w' => ∃ (x3_1 : List Int) (x4_1 : Int) (x1001_1 : Int) (x1002_1 : Int), v4 = .int .i64 x4_1 ∧ Aside0 (spec_l25Row.l0 kq x3_1 x4_1 s0_0 x1001_1 x1002_1 = some (r1, r2, r3)) ∧ Aside0 (kq ≤ k) ∧ Aside0 (Kd.R (Kd.int .i64) 3 w' w.heap.size (fun _ => True) v3 x3_1) ∧ Aside0 (IsS104 w0 w' g s0_0 x1001_1 x1002_1) ∧ Aside0 (KeepBut w w' g none) ∧ Aside0 (Below w0.heap.size w0 w'))
 case atStart => exact ⟨(y389), (t392), (t393), (t394), (by first | rfl | (simp; done) | (simp [*]; done)), H', ⟨Nat.le_refl _⟩, ⟨laR HO391.out⟩, ⟨by repeat (first | (with_reducible first | exact HI0.out | apply IsS104.alloc | apply IsS104.drewN | apply IsS104.drew | apply IsS104.set_1 | apply IsS104.set_2) | exact HI0.out)⟩, ⟨by repeat (first | (with_reducible first | exact HK.out | apply KeepBut.set_ | apply keep_drewN | apply keep_drew | apply keep_alloc) | exact HK.out)⟩, ⟨by repeat (first | (with_reducible first | exact HB.out | apply below_alloc | apply pw_below_drewN | apply below_drew1 | refine below_set ?_ (IsS104.ge HI0.out)) | exact HB.out)⟩⟩
 case round =>
  clear H'
  try clear p2
  try clear c5
  obtain ⟨x3_1, x4_1, x1001_1, x1002_1, rfl, HA, HK1, HO_3, HI0, HK, HB⟩ := hrel
  cases gk with
  | zero => exact absurd HA.out (by simp [spec_l25Row.l0])
  | succ k1 =>
   have H := HA.out
   clear HA
   simp only [spec_l25Row.l0] at H
   by_cases c6 : x4_1 > 0
   ·rw [if_pos c6] at H
    have c6b0 : decide (0 < x4_1) = true := decide_eq_true c6
    clear c6
    replace H := Option.bind_eq_some_iff.mp H
    obtain ⟨⟨t395, t396, t397⟩, A70, H⟩ := H
    have A7 := Aside0.mk A70
    clear A70
    by_cases c8 : x3_1.length < 17592186044416
    ·rw [if_pos c8] at H
     have LMc8 := Aside0.mk c8
     clear c8
     obtain ⟨y398, hy398⟩ : ∃ y_ : List Int, y_ = (x3_1 ++ [t395]) := ⟨_, rfl⟩
     replace H : (spec_l25Row.l0 k1 y398 (wrap64 (x4_1 - 1)) s0_0 t396 t397) = some (r1, r2, r3) := by first | (rw [hy398]; with_reducible exact H) | (have H2_ := (Option.bind_some _ _).symm.trans H; rw [hy398]; with_reducible exact H2_) | (have H2_ := (Option.bind_some _ _).symm.trans H; with_reducible exact H2_) | with_reducible exact H | (rw [hy398]; exact H) | exact H
     have Ny398 := Aside0.mk hy398
     clear hy398
     have H' := Aside0.mk H
     clear H
     go_wp2_with (first | ((with_reducible refine gate_callee (f := 95) rfl ?_); refine goesL_ (some 14) rfl rfl Try.func95 (by kernel_rfl) rfl #[.pointer (some ⟨g, 0, none⟩)] rfl (by (try simp only [List.map_toArray, List.map_cons, List.map_nil]); first | done | rfl | (simp only [List.length_drop, List.length_take]; rfl)) ?_; (with_reducible refine (spec_l2Label.calls g s0_0 x1001_1 x1002_1 t395 t396 t397 w0 _ ?side1 ?side2 A7.out).mono ?_); (case side1 => repeat (first | (with_reducible first | exact HI0.out | apply IsS104.alloc | apply IsS104.drewN | apply IsS104.drew | apply IsS104.set_1 | apply IsS104.set_2) | exact HI0.out)); (case side2 => repeat (first | (with_reducible first | exact HB.out | apply below_alloc | apply pw_below_drewN | apply below_drew1 | refine below_set ?_ (IsS104.ge HI0.out)) | exact HB.out)); rintro e w9 ⟨rfl, hi, hb, hk⟩; refine ⟨_, rfl, ?_⟩; replace HO_3 := Aside0.mk (Kd.R_mono (Kd.R_keep (IsS104.apart (show IsS104 w0 _ g s0_0 x1001_1 x1002_1 from by repeat (first | (with_reducible first | exact HI0.out | apply IsS104.alloc | apply IsS104.drewN | apply IsS104.drew | apply IsS104.set_1 | apply IsS104.set_2) | exact HI0.out)) (laR HO_3.out) (by decide)) hk (fun _ h => h.2)) (fun _ h => h.1)); replace HK := Aside0.mk (KeepBut.trans (by repeat (first | (with_reducible first | exact HK.out | apply KeepBut.set_ | apply keep_drewN | apply keep_drew | apply keep_alloc) | exact HK.out)) hk (.inl rfl)); replace HB := Aside0.mk (hb); replace HI0 := Aside0.mk (hi); (try clear hb); (try clear hb2); (try clear hk); (try clear hi)) | ((with_reducible refine gate_builtin (b := .append) (xs := #[.tmp 12, .tmp 15]) rfl ?_); at_builtin; refine Kd.R_append (Kd.int .i64) w.heap.size rfl (.tmp 12) (.tmp 15) 26 3 (.int .i64 0) 8 rfl Try.underlying26 info3 rfl (by decide) (by omega) u3 x3_1 t395 [.int .i64 t395] (fun _ => True) (fun _ => False) rfl rfl ?aP (fun _ hk => hk.elim) ?aF ?aO (Below.refl _ _) ?aS ?aL ?_; (case aP => exact rfl); (case aF => exact (fun _ _ => trivial)); (case aO => exact (laR HO_3.out)); (case aS => exact (keep_size (w := w) (g := g) (row := none) (by repeat (first | (with_reducible first | exact HK.out | apply KeepBut.set_ | apply keep_drewN | apply keep_drew | apply keep_alloc) | exact HK.out)))); (case aL => have := LMc8.out; omega); intro v399 w10 ho hb hg hat; rw [← Ny398.out] at ho; have n0_ := Aside0.mk (IsS104.grown (by repeat (first | (with_reducible first | exact HI0.out | apply IsS104.alloc | apply IsS104.drewN | apply IsS104.drew | apply IsS104.set_1 | apply IsS104.set_2) | exact HI0.out)) hg (IsS104.own_ne HI0.out HO_3.out (by decide))); have n1_ := Aside0.mk (below_weaken (by repeat (first | (with_reducible first | exact HB.out | apply below_alloc | apply pw_below_drewN | apply below_drew1 | refine below_set ?_ (IsS104.ge HI0.out)) | exact HB.out)) HL.out hb); have n2_ := Aside0.mk (KeepBut.trans (by repeat (first | (with_reducible first | exact HK.out | apply KeepBut.set_ | apply keep_drewN | apply keep_drew | apply keep_alloc) | exact HK.out)) (KeepBut.of_grown hg g) (Kd.R_base2 HO_3.out)); have n3_ := Aside0.mk (ho); clear HI0; clear HB; clear HK; clear HO_3; have HI0 := n0_; have HB := n1_; have HK := n2_; have HO400 := n3_; clear n0_ n1_ n2_ n3_; clear ho hb hg hat))
     go_roundg k1
     case measure => have := HK1.out; omega
     case rel => exact ⟨(y398), (wrap64 (x4_1 - 1)), (t396), (t397), (by first | rfl | (simp; done) | (simp [*]; done)), H', ⟨by have := HK1.out; omega⟩, ⟨laR HO400.out⟩, ⟨by repeat (first | (with_reducible first | exact HI0.out | apply IsS104.alloc | apply IsS104.drewN | apply IsS104.drew | apply IsS104.set_1 | apply IsS104.set_2) | exact HI0.out)⟩, ⟨by repeat (first | (with_reducible first | exact HK.out | apply KeepBut.set_ | apply keep_drewN | apply keep_drew | apply keep_alloc) | exact HK.out)⟩, ⟨by repeat (first | (with_reducible first | exact HB.out | apply below_alloc | apply pw_below_drewN | apply below_drew1 | refine below_set ?_ (IsS104.ge HI0.out)) | exact HB.out)⟩⟩
    ·rw [if_neg c8] at H
     exact absurd H (by simp)
   ·rw [if_neg c6] at H
    have c6b0 : decide (0 < x4_1) = false := decide_eq_false c6
    clear c6
    replace H := Option.bind_eq_some_iff.mp H
    obtain ⟨⟨t401, t402, t403⟩, A110, H⟩ := H
    have A11 := Aside0.mk A110
    clear A110
    by_cases c12 : t401 = 0
    ·rw [if_pos c12] at H
     have c12b0 : (t401 == 0) = true := beq_iff_eq.mpr c12
     have c12b1 : (t401 != 0) = false := bne_eq_false_iff_eq.mpr c12
     clear c12
     replace H := Option.bind_eq_some_iff.mp H
     obtain ⟨⟨t404, t405, t406⟩, A130, H⟩ := H
     have A13 := Aside0.mk A130
     clear A130
     by_cases c14 : x3_1.length < 17592186044416
     ·rw [if_pos c14] at H
      have LMc14 := Aside0.mk c14
      clear c14
      obtain ⟨y407, hy407⟩ : ∃ y_ : List Int, y_ = (x3_1 ++ [t404]) := ⟨_, rfl⟩
      replace H : (some (y407, t405, t406)) = some (r1, r2, r3) := by first | (rw [hy407]; with_reducible exact H) | (have H2_ := (Option.bind_some _ _).symm.trans H; rw [hy407]; with_reducible exact H2_) | (have H2_ := (Option.bind_some _ _).symm.trans H; with_reducible exact H2_) | with_reducible exact H | (rw [hy407]; exact H) | exact H
      have Ny407 := Aside0.mk hy407
      clear hy407
      simp only [Option.some.injEq, Prod.mk.injEq] at H
      obtain ⟨rfl, rfl, rfl⟩ := H
      go_wp2_with (first | ((with_reducible refine gate_callee (f := 87) rfl ?_); refine goesL_ (some 18) rfl rfl Try.func87 (by kernel_rfl) rfl #[.pointer (some ⟨g, 0, none⟩), .int .i64 18] rfl (by (try simp only [List.map_toArray, List.map_cons, List.map_nil]); first | done | rfl | (simp only [List.length_drop, List.length_take]; rfl)) ?_; (with_reducible refine (spec_l1Below.calls g s0_0 x1001_1 x1002_1 18 t401 t402 t403 w0 _ ?side1 ?side2 A11.out).mono ?_); (case side1 => repeat (first | (with_reducible first | exact HI0.out | apply IsS104.alloc | apply IsS104.drewN | apply IsS104.drew | apply IsS104.set_1 | apply IsS104.set_2) | exact HI0.out)); (case side2 => repeat (first | (with_reducible first | exact HB.out | apply below_alloc | apply pw_below_drewN | apply below_drew1 | refine below_set ?_ (IsS104.ge HI0.out)) | exact HB.out)); rintro e w15 ⟨rfl, hi, hb, hk⟩; refine ⟨_, rfl, ?_⟩; replace HO_3 := Aside0.mk (Kd.R_mono (Kd.R_keep (IsS104.apart (show IsS104 w0 _ g s0_0 x1001_1 x1002_1 from by repeat (first | (with_reducible first | exact HI0.out | apply IsS104.alloc | apply IsS104.drewN | apply IsS104.drew | apply IsS104.set_1 | apply IsS104.set_2) | exact HI0.out)) (laR HO_3.out) (by decide)) hk (fun _ h => h.2)) (fun _ h => h.1)); replace HK := Aside0.mk (KeepBut.trans (by repeat (first | (with_reducible first | exact HK.out | apply KeepBut.set_ | apply keep_drewN | apply keep_drew | apply keep_alloc) | exact HK.out)) hk (.inl rfl)); replace HB := Aside0.mk (hb); replace HI0 := Aside0.mk (hi); (try clear hb); (try clear hb2); (try clear hk); (try clear hi)) | ((with_reducible refine gate_callee (f := 88) rfl ?_); refine goesL_ (some 23) rfl rfl Try.func88 (by kernel_rfl) rfl #[.pointer (some ⟨g, 0, none⟩)] rfl (by (try simp only [List.map_toArray, List.map_cons, List.map_nil]); first | done | rfl | (simp only [List.length_drop, List.length_take]; rfl)) ?_; (with_reducible refine (spec_l2Any.calls g s0_0 t402 t403 t404 t405 t406 w0 _ ?side1 ?side2 A13.out).mono ?_); (case side1 => repeat (first | (with_reducible first | exact HI0.out | apply IsS104.alloc | apply IsS104.drewN | apply IsS104.drew | apply IsS104.set_1 | apply IsS104.set_2) | exact HI0.out)); (case side2 => repeat (first | (with_reducible first | exact HB.out | apply below_alloc | apply pw_below_drewN | apply below_drew1 | refine below_set ?_ (IsS104.ge HI0.out)) | exact HB.out)); rintro e w16 ⟨rfl, hi, hb, hk⟩; refine ⟨_, rfl, ?_⟩; replace HO_3 := Aside0.mk (Kd.R_mono (Kd.R_keep (IsS104.apart (show IsS104 w0 _ g s0_0 t402 t403 from by repeat (first | (with_reducible first | exact HI0.out | apply IsS104.alloc | apply IsS104.drewN | apply IsS104.drew | apply IsS104.set_1 | apply IsS104.set_2) | exact HI0.out)) (laR HO_3.out) (by decide)) hk (fun _ h => h.2)) (fun _ h => h.1)); replace HK := Aside0.mk (KeepBut.trans (by repeat (first | (with_reducible first | exact HK.out | apply KeepBut.set_ | apply keep_drewN | apply keep_drew | apply keep_alloc) | exact HK.out)) hk (.inl rfl)); replace HB := Aside0.mk (hb); replace HI0 := Aside0.mk (hi); (try clear hb); (try clear hb2); (try clear hk); (try clear hi)) | ((with_reducible refine gate_builtin (b := .append) (xs := #[.tmp 21, .tmp 24]) rfl ?_); at_builtin; refine Kd.R_append (Kd.int .i64) w.heap.size rfl (.tmp 21) (.tmp 24) 26 3 (.int .i64 0) 8 rfl Try.underlying26 info3 rfl (by decide) (by omega) u3 x3_1 t404 [.int .i64 t404] (fun _ => True) (fun _ => False) rfl rfl ?aP (fun _ hk => hk.elim) ?aF ?aO (Below.refl _ _) ?aS ?aL ?_; (case aP => exact rfl); (case aF => exact (fun _ _ => trivial)); (case aO => exact (laR HO_3.out)); (case aS => exact (keep_size (w := w) (g := g) (row := none) (by repeat (first | (with_reducible first | exact HK.out | apply KeepBut.set_ | apply keep_drewN | apply keep_drew | apply keep_alloc) | exact HK.out)))); (case aL => have := LMc14.out; omega); intro v408 w17 ho hb hg hat; rw [← Ny407.out] at ho; have n0_ := Aside0.mk (IsS104.grown (by repeat (first | (with_reducible first | exact HI0.out | apply IsS104.alloc | apply IsS104.drewN | apply IsS104.drew | apply IsS104.set_1 | apply IsS104.set_2) | exact HI0.out)) hg (IsS104.own_ne HI0.out HO_3.out (by decide))); have n1_ := Aside0.mk (below_weaken (by repeat (first | (with_reducible first | exact HB.out | apply below_alloc | apply pw_below_drewN | apply below_drew1 | refine below_set ?_ (IsS104.ge HI0.out)) | exact HB.out)) HL.out hb); have n2_ := Aside0.mk (KeepBut.trans (by repeat (first | (with_reducible first | exact HK.out | apply KeepBut.set_ | apply keep_drewN | apply keep_drew | apply keep_alloc) | exact HK.out)) (KeepBut.of_grown hg g) (Kd.R_base2 HO_3.out)); have n3_ := Aside0.mk (ho); clear HI0; clear HB; clear HK; clear HO_3; have HI0 := n0_; have HB := n1_; have HK := n2_; have HO409 := n3_; clear n0_ n1_ n2_ n3_; clear ho hb hg hat))
      go_ret
      exact ⟨_, by first | rfl | (simp [errW_none, errW_some] <;> rfl) | (simp [*, errW_none, errW_some] <;> rfl), by (with_reducible repeat (first | apply Kd.R_alloc | apply Kd.R_drewN | apply Kd.R_drew)); exact HO409.out, by repeat (first | (with_reducible first | exact HI0.out | apply IsS104.alloc | apply IsS104.drewN | apply IsS104.drew | apply IsS104.set_1 | apply IsS104.set_2) | exact HI0.out), by repeat (first | (with_reducible first | exact HB.out | apply below_alloc | apply pw_below_drewN | apply below_drew1 | refine below_set ?_ (IsS104.ge HI0.out)) | exact HB.out), by repeat (first | (with_reducible first | exact HK.out | apply KeepBut.set_ | apply keep_drewN | apply keep_drew | apply keep_alloc) | exact HK.out)⟩
     ·rw [if_neg c14] at H
      exact absurd H (by simp)
    ·rw [if_neg c12] at H
     have c12b0 : (t401 == 0) = false := beq_eq_false_iff_ne.mpr c12
     have c12b1 : (t401 != 0) = true := bne_iff_ne.mpr c12
     by_cases c18 : t401 = 1
     ·rw [if_pos c18] at H
      have c18b0 : (t401 == 1) = true := beq_iff_eq.mpr c18
      have c18b1 : (t401 != 1) = false := bne_eq_false_iff_eq.mpr c18
      clear c18
      have H' := Aside0.mk H
      clear H
      go_wp2_with (first | ((with_reducible refine gate_callee (f := 87) rfl ?_); refine goesL_ (some 18) rfl rfl Try.func87 (by kernel_rfl) rfl #[.pointer (some ⟨g, 0, none⟩), .int .i64 18] rfl (by (try simp only [List.map_toArray, List.map_cons, List.map_nil]); first | done | rfl | (simp only [List.length_drop, List.length_take]; rfl)) ?_; (with_reducible refine (spec_l1Below.calls g s0_0 x1001_1 x1002_1 18 t401 t402 t403 w0 _ ?side1 ?side2 A11.out).mono ?_); (case side1 => repeat (first | (with_reducible first | exact HI0.out | apply IsS104.alloc | apply IsS104.drewN | apply IsS104.drew | apply IsS104.set_1 | apply IsS104.set_2) | exact HI0.out)); (case side2 => repeat (first | (with_reducible first | exact HB.out | apply below_alloc | apply pw_below_drewN | apply below_drew1 | refine below_set ?_ (IsS104.ge HI0.out)) | exact HB.out)); rintro e w19 ⟨rfl, hi, hb, hk⟩; refine ⟨_, rfl, ?_⟩; replace HO_3 := Aside0.mk (Kd.R_mono (Kd.R_keep (IsS104.apart (show IsS104 w0 _ g s0_0 x1001_1 x1002_1 from by repeat (first | (with_reducible first | exact HI0.out | apply IsS104.alloc | apply IsS104.drewN | apply IsS104.drew | apply IsS104.set_1 | apply IsS104.set_2) | exact HI0.out)) (laR HO_3.out) (by decide)) hk (fun _ h => h.2)) (fun _ h => h.1)); replace HK := Aside0.mk (KeepBut.trans (by repeat (first | (with_reducible first | exact HK.out | apply KeepBut.set_ | apply keep_drewN | apply keep_drew | apply keep_alloc) | exact HK.out)) hk (.inl rfl)); replace HB := Aside0.mk (hb); replace HI0 := Aside0.mk (hi); (try clear hb); (try clear hb2); (try clear hk); (try clear hi)))
      go_loopg [3] k1 (fun kq v3 w' => ∃ (x3_2 : List Int) (x1001_2 : Int) (x1002_2 : Int), Aside0 (spec_l25Row.l1 kq x3_2 s0_0 x1001_2 x1002_2 = some (r1, r2, r3)) ∧ Aside0 (kq ≤ k1) ∧ Aside0 (Kd.R (Kd.int .i64) 3 w' w.heap.size (fun _ => True) v3 x3_2) ∧ Aside0 (IsS104 w0 w' g s0_0 x1001_2 x1002_2) ∧ Aside0 (KeepBut w w' g none) ∧ Aside0 (Below w0.heap.size w0 w'))
      case atStart => exact ⟨(x3_1), (t402), (t403), H', ⟨Nat.le_refl _⟩, ⟨laR HO_3.out⟩, ⟨by repeat (first | (with_reducible first | exact HI0.out | apply IsS104.alloc | apply IsS104.drewN | apply IsS104.drew | apply IsS104.set_1 | apply IsS104.set_2) | exact HI0.out)⟩, ⟨by repeat (first | (with_reducible first | exact HK.out | apply KeepBut.set_ | apply keep_drewN | apply keep_drew | apply keep_alloc) | exact HK.out)⟩, ⟨by repeat (first | (with_reducible first | exact HB.out | apply below_alloc | apply pw_below_drewN | apply below_drew1 | refine below_set ?_ (IsS104.ge HI0.out)) | exact HB.out)⟩⟩
      case round =>
       clear H'
       try clear c1
       try clear p2
       try clear c5
       try clear c6
       try clear c6b0
       try clear p6
       try clear c8
       try clear c9
       try clear c12
       try clear c12b0
       try clear c12b1
       try clear c14
       try clear c18
       try clear c18b0
       try clear c18b1
       try clear p2
       obtain ⟨x3_2, x1001_2, x1002_2, HA, HK2, HO_3, HI0, HK, HB⟩ := hrel
       cases gk with
       | zero => exact absurd HA.out (by simp [spec_l25Row.l1])
       | succ k2 =>
        have H := HA.out
        clear HA
        simp only [spec_l25Row.l1] at H
        replace H := Option.bind_eq_some_iff.mp H
        obtain ⟨⟨t410, t411, t412⟩, A200, H⟩ := H
        have A20 := Aside0.mk A200
        clear A200
        by_cases c21 : (x3_2.length : Int) < (wrap64 (24 + t410))
        ·rw [if_pos c21] at H
         have c21b0 : decide ((x3_2.length : Int) < (wrap64 (24 + t410))) = true := decide_eq_true c21
         clear c21
         by_cases c22 : x3_2.length < 17592186044416
         ·rw [if_pos c22] at H
          have LMc22 := Aside0.mk c22
          clear c22
          obtain ⟨y413, hy413⟩ : ∃ y_ : List Int, y_ = (x3_2 ++ [1]) := ⟨_, rfl⟩
          replace H : (spec_l25Row.l1 k2 y413 s0_0 t411 t412) = some (r1, r2, r3) := by first | (rw [hy413]; with_reducible exact H) | (have H2_ := (Option.bind_some _ _).symm.trans H; rw [hy413]; with_reducible exact H2_) | (have H2_ := (Option.bind_some _ _).symm.trans H; with_reducible exact H2_) | with_reducible exact H | (rw [hy413]; exact H) | exact H
          have Ny413 := Aside0.mk hy413
          clear hy413
          have H' := Aside0.mk H
          clear H
          obtain ⟨Ao23, co23, eo23⟩ := Kd.R_slice HO_3.out
          subst eo23
          go_wp2_with (first | ((with_reducible refine gate_callee (f := 87) rfl ?_); refine goesL_ (some 31) rfl rfl Try.func87 (by kernel_rfl) rfl #[.pointer (some ⟨g, 0, none⟩), .int .i64 2] rfl (by (try simp only [List.map_toArray, List.map_cons, List.map_nil]); first | done | rfl | (simp only [List.length_drop, List.length_take]; rfl)) ?_; (with_reducible refine (spec_l1Below.calls g s0_0 x1001_2 x1002_2 2 t410 t411 t412 w0 _ ?side1 ?side2 A20.out).mono ?_); (case side1 => repeat (first | (with_reducible first | exact HI0.out | apply IsS104.alloc | apply IsS104.drewN | apply IsS104.drew | apply IsS104.set_1 | apply IsS104.set_2) | exact HI0.out)); (case side2 => repeat (first | (with_reducible first | exact HB.out | apply below_alloc | apply pw_below_drewN | apply below_drew1 | refine below_set ?_ (IsS104.ge HI0.out)) | exact HB.out)); rintro e w24 ⟨rfl, hi, hb, hk⟩; refine ⟨_, rfl, ?_⟩; replace HO_3 := Aside0.mk (Kd.R_mono (Kd.R_keep (IsS104.apart (show IsS104 w0 _ g s0_0 x1001_2 x1002_2 from by repeat (first | (with_reducible first | exact HI0.out | apply IsS104.alloc | apply IsS104.drewN | apply IsS104.drew | apply IsS104.set_1 | apply IsS104.set_2) | exact HI0.out)) (laR HO_3.out) (by decide)) hk (fun _ h => h.2)) (fun _ h => h.1)); replace HK := Aside0.mk (KeepBut.trans (by repeat (first | (with_reducible first | exact HK.out | apply KeepBut.set_ | apply keep_drewN | apply keep_drew | apply keep_alloc) | exact HK.out)) hk (.inl rfl)); replace HB := Aside0.mk (hb); replace HI0 := Aside0.mk (hi); (try clear hb); (try clear hb2); (try clear hk); (try clear hi)) | ((with_reducible refine gate_builtin (b := .append) (xs := #[.tmp 34, .tmp 35]) rfl ?_); at_builtin; refine Kd.R_append (Kd.int .i64) w.heap.size rfl (.tmp 34) (.tmp 35) 26 3 (.int .i64 0) 8 rfl Try.underlying26 info3 rfl (by decide) (by omega) (.slice Ao23 x3_2.length co23) x3_2 1 [.int .i64 1] (fun _ => True) (fun _ => False) rfl rfl ?aP (fun _ hk => hk.elim) ?aF ?aO (Below.refl _ _) ?aS ?aL ?_; (case aP => exact rfl); (case aF => exact (fun _ _ => trivial)); (case aO => exact (laR HO_3.out)); (case aS => exact (keep_size (w := w) (g := g) (row := none) (by repeat (first | (with_reducible first | exact HK.out | apply KeepBut.set_ | apply keep_drewN | apply keep_drew | apply keep_alloc) | exact HK.out)))); (case aL => have := LMc22.out; omega); intro v414 w25 ho hb hg hat; rw [← Ny413.out] at ho; have n0_ := Aside0.mk (IsS104.grown (by repeat (first | (with_reducible first | exact HI0.out | apply IsS104.alloc | apply IsS104.drewN | apply IsS104.drew | apply IsS104.set_1 | apply IsS104.set_2) | exact HI0.out)) hg (IsS104.own_ne HI0.out HO_3.out (by decide))); have n1_ := Aside0.mk (below_weaken (by repeat (first | (with_reducible first | exact HB.out | apply below_alloc | apply pw_below_drewN | apply below_drew1 | refine below_set ?_ (IsS104.ge HI0.out)) | exact HB.out)) HL.out hb); have n2_ := Aside0.mk (KeepBut.trans (by repeat (first | (with_reducible first | exact HK.out | apply KeepBut.set_ | apply keep_drewN | apply keep_drew | apply keep_alloc) | exact HK.out)) (KeepBut.of_grown hg g) (Kd.R_base2 HO_3.out)); have n3_ := Aside0.mk (ho); clear HI0; clear HB; clear HK; clear HO_3; have HI0 := n0_; have HB := n1_; have HK := n2_; have HO415 := n3_; clear n0_ n1_ n2_ n3_; clear ho hb hg hat))
          go_roundg k2
          case measure => have := HK1.out; have := HK2.out; omega
          case rel => exact ⟨(y413), (t411), (t412), H', ⟨by have := HK1.out; have := HK2.out; omega⟩, ⟨laR HO415.out⟩, ⟨by repeat (first | (with_reducible first | exact HI0.out | apply IsS104.alloc | apply IsS104.drewN | apply IsS104.drew | apply IsS104.set_1 | apply IsS104.set_2) | exact HI0.out)⟩, ⟨by repeat (first | (with_reducible first | exact HK.out | apply KeepBut.set_ | apply keep_drewN | apply keep_drew | apply keep_alloc) | exact HK.out)⟩, ⟨by repeat (first | (with_reducible first | exact HB.out | apply below_alloc | apply pw_below_drewN | apply below_drew1 | refine below_set ?_ (IsS104.ge HI0.out)) | exact HB.out)⟩⟩
         ·rw [if_neg c22] at H
          exact absurd H (by simp)
        ·rw [if_neg c21] at H
         have c21b0 : decide ((x3_2.length : Int) < (wrap64 (24 + t410))) = false := decide_eq_false c21
         clear c21
         simp only [Option.some.injEq, Prod.mk.injEq] at H
         obtain ⟨rfl, rfl, rfl⟩ := H
         obtain ⟨Ao26, co26, eo26⟩ := Kd.R_slice HO_3.out
         subst eo26
         go_wp2_with (first | ((with_reducible refine gate_callee (f := 87) rfl ?_); refine goesL_ (some 31) rfl rfl Try.func87 (by kernel_rfl) rfl #[.pointer (some ⟨g, 0, none⟩), .int .i64 2] rfl (by (try simp only [List.map_toArray, List.map_cons, List.map_nil]); first | done | rfl | (simp only [List.length_drop, List.length_take]; rfl)) ?_; (with_reducible refine (spec_l1Below.calls g s0_0 x1001_2 x1002_2 2 t410 t411 t412 w0 _ ?side1 ?side2 A20.out).mono ?_); (case side1 => repeat (first | (with_reducible first | exact HI0.out | apply IsS104.alloc | apply IsS104.drewN | apply IsS104.drew | apply IsS104.set_1 | apply IsS104.set_2) | exact HI0.out)); (case side2 => repeat (first | (with_reducible first | exact HB.out | apply below_alloc | apply pw_below_drewN | apply below_drew1 | refine below_set ?_ (IsS104.ge HI0.out)) | exact HB.out)); rintro e w27 ⟨rfl, hi, hb, hk⟩; refine ⟨_, rfl, ?_⟩; replace HO_3 := Aside0.mk (Kd.R_mono (Kd.R_keep (IsS104.apart (show IsS104 w0 _ g s0_0 x1001_2 x1002_2 from by repeat (first | (with_reducible first | exact HI0.out | apply IsS104.alloc | apply IsS104.drewN | apply IsS104.drew | apply IsS104.set_1 | apply IsS104.set_2) | exact HI0.out)) (laR HO_3.out) (by decide)) hk (fun _ h => h.2)) (fun _ h => h.1)); replace HK := Aside0.mk (KeepBut.trans (by repeat (first | (with_reducible first | exact HK.out | apply KeepBut.set_ | apply keep_drewN | apply keep_drew | apply keep_alloc) | exact HK.out)) hk (.inl rfl)); replace HB := Aside0.mk (hb); replace HI0 := Aside0.mk (hi); (try clear hb); (try clear hb2); (try clear hk); (try clear hi)))
         go_ret
         exact ⟨_, by first | rfl | (simp [errW_none, errW_some] <;> rfl) | (simp [*, errW_none, errW_some] <;> rfl), by (with_reducible repeat (first | apply Kd.R_alloc | apply Kd.R_drewN | apply Kd.R_drew)); exact HO_3.out, by repeat (first | (with_reducible first | exact HI0.out | apply IsS104.alloc | apply IsS104.drewN | apply IsS104.drew | apply IsS104.set_1 | apply IsS104.set_2) | exact HI0.out), by repeat (first | (with_reducible first | exact HB.out | apply below_alloc | apply pw_below_drewN | apply below_drew1 | refine below_set ?_ (IsS104.ge HI0.out)) | exact HB.out), by repeat (first | (with_reducible first | exact HK.out | apply KeepBut.set_ | apply keep_drewN | apply keep_drew | apply keep_alloc) | exact HK.out)⟩
     ·rw [if_neg c18] at H
      have c18b0 : (t401 == 1) = false := beq_eq_false_iff_ne.mpr c18
      have c18b1 : (t401 != 1) = true := bne_iff_ne.mpr c18
      simp only [Option.some.injEq, Prod.mk.injEq] at H
      obtain ⟨rfl, rfl, rfl⟩ := H
      go_wp2_with (first | ((with_reducible refine gate_callee (f := 87) rfl ?_); refine goesL_ (some 18) rfl rfl Try.func87 (by kernel_rfl) rfl #[.pointer (some ⟨g, 0, none⟩), .int .i64 18] rfl (by (try simp only [List.map_toArray, List.map_cons, List.map_nil]); first | done | rfl | (simp only [List.length_drop, List.length_take]; rfl)) ?_; (with_reducible refine (spec_l1Below.calls g s0_0 x1001_1 x1002_1 18 t401 t402 t403 w0 _ ?side1 ?side2 A11.out).mono ?_); (case side1 => repeat (first | (with_reducible first | exact HI0.out | apply IsS104.alloc | apply IsS104.drewN | apply IsS104.drew | apply IsS104.set_1 | apply IsS104.set_2) | exact HI0.out)); (case side2 => repeat (first | (with_reducible first | exact HB.out | apply below_alloc | apply pw_below_drewN | apply below_drew1 | refine below_set ?_ (IsS104.ge HI0.out)) | exact HB.out)); rintro e w28 ⟨rfl, hi, hb, hk⟩; refine ⟨_, rfl, ?_⟩; replace HO_3 := Aside0.mk (Kd.R_mono (Kd.R_keep (IsS104.apart (show IsS104 w0 _ g s0_0 x1001_1 x1002_1 from by repeat (first | (with_reducible first | exact HI0.out | apply IsS104.alloc | apply IsS104.drewN | apply IsS104.drew | apply IsS104.set_1 | apply IsS104.set_2) | exact HI0.out)) (laR HO_3.out) (by decide)) hk (fun _ h => h.2)) (fun _ h => h.1)); replace HK := Aside0.mk (KeepBut.trans (by repeat (first | (with_reducible first | exact HK.out | apply KeepBut.set_ | apply keep_drewN | apply keep_drew | apply keep_alloc) | exact HK.out)) hk (.inl rfl)); replace HB := Aside0.mk (hb); replace HI0 := Aside0.mk (hi); (try clear hb); (try clear hb2); (try clear hk); (try clear hi)))
      go_ret
      exact ⟨_, by first | rfl | (simp [errW_none, errW_some] <;> rfl) | (simp [*, errW_none, errW_some] <;> rfl), by (with_reducible repeat (first | apply Kd.R_alloc | apply Kd.R_drewN | apply Kd.R_drew)); exact HO_3.out, by repeat (first | (with_reducible first | exact HI0.out | apply IsS104.alloc | apply IsS104.drewN | apply IsS104.drew | apply IsS104.set_1 | apply IsS104.set_2) | exact HI0.out), by repeat (first | (with_reducible first | exact HB.out | apply below_alloc | apply pw_below_drewN | apply below_drew1 | refine below_set ?_ (IsS104.ge HI0.out)) | exact HB.out), by repeat (first | (with_reducible first | exact HK.out | apply KeepBut.set_ | apply keep_drewN | apply keep_drew | apply keep_alloc) | exact HK.out)⟩



/-! ### spec_UnitCost: function 21 -/
mutual
def spec_UnitCost.l0 : Nat → Int → List Int → List Int → List Int → Option (List Int × List Int × List Int)
 | 0, _, _, _, _ => none
 | k + 1, x2, x418000, x418001, x418002 => if x2 < 6 then (if x418000.length < 17592186044416 then (if x418001.length < 17592186044416 then (spec_UnitCost.l1 k x2 0 (x418000 ++ [1]) (x418001 ++ [1]) x418002) else (none)) else (none)) else (some (x418000, x418001, x418002))
def spec_UnitCost.l1 : Nat → Int → Int → List Int → List Int → List Int → Option (List Int × List Int × List Int)
 | 0, _, _, _, _, _ => none
 | k + 1, x2, x3, x418000, x418001, x418002 => if x3 < 6 then (if x2 = x3 then (if x418002.length < 17592186044416 then (spec_UnitCost.l1 k x2 (wrap64 (x3 + 1)) x418000 x418001 (x418002 ++ [0])) else (none)) else (if x418002.length < 17592186044416 then (spec_UnitCost.l1 k x2 (wrap64 (x3 + 1)) x418000 x418001 (x418002 ++ [1])) else (none))) else (spec_UnitCost.l0 k (wrap64 (x2 + 1)) x418000 x418001 x418002)
end
def spec_UnitCost.f (k : Nat)  : Option (List Int × List Int × List Int) := spec_UnitCost.l0 k 0 ([] : List Int) ([] : List Int) ([] : List Int)
theorem spec_UnitCost.mono_l : ∀ k, (∀ y0 y1 y2 y3, LeO (spec_UnitCost.l0 k y0 y1 y2 y3) (spec_UnitCost.l0 (k + 1) y0 y1 y2 y3)) ∧ (∀ y0 y1 y2 y3 y4, LeO (spec_UnitCost.l1 k y0 y1 y2 y3 y4) (spec_UnitCost.l1 (k + 1) y0 y1 y2 y3 y4))
 | 0 => ⟨fun _ _ _ _ r h => by simp [spec_UnitCost.l0] at h, fun _ _ _ _ _ r h => by simp [spec_UnitCost.l1] at h⟩
 | k + 1 => by
  obtain ⟨ih0, ih1⟩ := spec_UnitCost.mono_l k
  refine ⟨?_, ?_⟩
  ·intro y0 y1 y2 y3
   unfold spec_UnitCost.l0
   repeat' first
   | (with_reducible exact ih0 _ _ _ _)
   | (with_reducible exact ih1 _ _ _ _ _)
   | (with_reducible exact LeO.refl _)
   | (with_reducible exact LeO.none _)
   | (with_reducible refine LeO.ite ?_ ?_)
   | (with_reducible refine LeO.bind ?_ (fun _ => ?_))
   | exact ih0 _ _ _ _
   | exact ih1 _ _ _ _ _
   | exact LeO.none _
   | refine LeO.ite ?_ ?_
   | refine LeO.bind ?_ (fun _ => ?_)
  ·intro y0 y1 y2 y3 y4
   unfold spec_UnitCost.l1
   repeat' first
   | (with_reducible exact ih0 _ _ _ _)
   | (with_reducible exact ih1 _ _ _ _ _)
   | (with_reducible exact LeO.refl _)
   | (with_reducible exact LeO.none _)
   | (with_reducible refine LeO.ite ?_ ?_)
   | (with_reducible refine LeO.bind ?_ (fun _ => ?_))
   | exact ih0 _ _ _ _
   | exact ih1 _ _ _ _ _
   | exact LeO.none _
   | refine LeO.ite ?_ ?_
   | refine LeO.bind ?_ (fun _ => ?_)
theorem spec_UnitCost.mono : ∀ k, LeO (spec_UnitCost.f k ) (spec_UnitCost.f (k + 1) ) := by
 intro  k
 obtain ⟨ih0, ih1⟩ := spec_UnitCost.mono_l k
 unfold spec_UnitCost.f
 repeat' first
   | (with_reducible exact ih0 _ _ _ _)
   | (with_reducible exact ih1 _ _ _ _ _)
   | (with_reducible exact LeO.refl _)
   | (with_reducible exact LeO.none _)
   | (with_reducible refine LeO.ite ?_ ?_)
   | (with_reducible refine LeO.bind ?_ (fun _ => ?_))
   | exact ih0 _ _ _ _
   | exact ih1 _ _ _ _ _
   | exact LeO.none _
   | refine LeO.ite ?_ ?_
   | refine LeO.bind ?_ (fun _ => ?_)
set_option maxHeartbeats 8000000 in
set_option maxRecDepth 100000 in
theorem spec_UnitCost.calls (k : Nat)  (r1 : List Int) (r2 : List Int) (r3 : List Int) (w : World) (h : spec_UnitCost.f k  = some (r1, r2, r3)) :
  Calls Try.prog 21 #[] w fun e w' => ∃ v0_ v1_ v2_ : Value, e = .returned (.agg #[v0_, v1_, v2_]) ∧ Kd.R (Kd.int .i64) 3 w' w.heap.size (fun k_ => some k_ ≠ (v1_ : Value).ownBlock ∧ some k_ ≠ (v2_ : Value).ownBlock) v0_ r1 ∧ Kd.R (Kd.int .i64) 3 w' w.heap.size (fun k_ => some k_ ≠ (v0_ : Value).ownBlock ∧ some k_ ≠ (v2_ : Value).ownBlock) v1_ r2 ∧ Kd.R (Kd.int .i64) 3 w' w.heap.size (fun k_ => some k_ ≠ (v0_ : Value).ownBlock ∧ some k_ ≠ (v1_ : Value).ownBlock) v2_ r3 ∧ Below w.heap.size w w' := by
 have hu34 := Try.underlying34
 have HB := Aside0.mk (Below.refl w.heap.size w)
 have H : (spec_UnitCost.l0 k 0 ([] : List Int) ([] : List Int) ([] : List Int)) = some (r1, r2, r3) := h
 clear h
 have H' := Aside0.mk H
 clear H
 go_enter Try.func21, Try.ntmps21
 go_wp2_with (first | ((with_reducible refine gate_dst (N := 0) rfl ?_); refine box_event ?hg (N := 0) ?hd (cs := #[.slice none 0 0, .slice none 0 0, .slice none 0 0]) (t := 34) ?hr ?_; (case hd => rfl); (case hg => rfl); (case hr => first | (go_simp; done) | (go_simp; rfl)); intro gb416 hg w1 hbox hb; have BK416 := Aside0.mk (hbox); have GW416 := Aside0.mk ((by rw [hg]; exact (below_size (laB HB.out)) : w.heap.size ≤ gb416)); have GE416 := Aside0.mk ((by rw [hg]; exact (below_size (laB HB.out)) : w.heap.size ≤ gb416)); have ge416_ := Nonempty.intro GE416.out; replace HB := Aside0.mk (below_step (laB HB.out) hb); clear hb hbox hg) | ((with_reducible refine gate_dst (N := 1) rfl ?_); refine box_event ?hg (N := 1) ?hd (cs := #[.slice none 0 0, .slice none 0 0, .slice none 0 0]) (t := 34) ?hr ?_; (case hd => rfl); (case hg => rfl); (case hr => first | (go_simp; done) | (go_simp; rfl)); intro gb417 hg w2 hbox hb; have BK417 := Aside0.mk (hbox); have GW417 := Aside0.mk ((by rw [hg]; exact (below_size (laB HB.out)) : w.heap.size ≤ gb417)); have GE417 := Aside0.mk ((by rw [hg]; exact (below_size (laB HB.out)) : w.heap.size ≤ gb417)); have ge417_ := Nonempty.intro GE417.out; replace HB := Aside0.mk (below_step (laB HB.out) hb); have NB416_417 := Aside0.mk ((by rw [hg]; exact Nat.ne_of_lt (blk_lt (g := gb416) (o := .cells #[.slice none 0 0, .slice none 0 0, .slice none 0 0] 34 (0, 0)) (laK BK416.out)) : gb416 ≠ gb417)); have NB417_416 := Aside0.mk ((by rw [hg]; exact Nat.ne_of_gt (blk_lt (g := gb416) (o := .cells #[.slice none 0 0, .slice none 0 0, .slice none 0 0] 34 (0, 0)) (laK BK416.out)) : gb417 ≠ gb416)); replace BK416 := Aside0.mk (laKb BK416.out hb); clear hb hbox hg; have hnb3 := NB417_416.out; have hnc3 := NB416_417.out; have hcz4_0 : w2.cell? ⟨gb417, 0, none⟩ = some (.slice none 0 0) := (blk_cell BK417.out 0).trans rfl; have hcz4_1 : w2.cell? ⟨gb417, 1, none⟩ = some (.slice none 0 0) := (blk_cell BK417.out 1).trans rfl; have hcz4_2 : w2.cell? ⟨gb417, 2, none⟩ = some (.slice none 0 0) := (blk_cell BK417.out 2).trans rfl; have hfz4_0 := blk_frozen BK417.out 0; have hfz4_1 := blk_frozen BK417.out 1; have hfz4_2 := blk_frozen BK417.out 2))
 go_loopg [2] k (fun kq v2 w' => ∃ (x2_1 : Int) (x418000_1 : List Int) (x418001_1 : List Int) (x418002_1 : List Int) (u418000 : Value) (u418001 : Value) (u418002 : Value), v2 = .int .i64 x2_1 ∧ Aside0 (spec_UnitCost.l0 kq x2_1 x418000_1 x418001_1 x418002_1 = some (r1, r2, r3)) ∧ Aside0 (kq ≤ k) ∧ Aside0 (Kd.R (Kd.int .i64) 3 w' w.heap.size (fun k_ => some k_ ≠ (u418001 : Value).ownBlock ∧ some k_ ≠ (u418002 : Value).ownBlock) u418000 x418000_1) ∧ Aside0 (Kd.R (Kd.int .i64) 3 w' w.heap.size (fun k_ => some k_ ≠ (u418000 : Value).ownBlock ∧ some k_ ≠ (u418002 : Value).ownBlock) u418001 x418001_1) ∧ Aside0 (Kd.R (Kd.int .i64) 3 w' w.heap.size (fun k_ => some k_ ≠ (u418000 : Value).ownBlock ∧ some k_ ≠ (u418001 : Value).ownBlock) u418002 x418002_1) ∧ Aside0 (w'.heap[gb416]? = some (.cells #[(.slice none 0 0), (.slice none 0 0), (.slice none 0 0)] 34 (0, 0))) ∧ Aside0 (w'.heap[gb417]? = some (.cells #[u418000, u418001, u418002] 34 (0, 0))) ∧ Aside0 (Below w.heap.size w w'))
 case atStart => exact ⟨(0), (([] : List Int)), (([] : List Int)), (([] : List Int)), (.slice none 0 0), (.slice none 0 0), (.slice none 0 0), (by first | rfl | (simp; done) | (simp [*]; done)), H', ⟨Nat.le_refl _⟩, ⟨by first | exact Kd.R_nil _ _ _ _ _ | exact Kd.N_nil _ _ _ _ _ | exact Kd.V_nil _ _ _ _ _ | exact Kd.Q_nil _ _ _ _ _ | exact Kd.S_nil _ _ _ _ _⟩, ⟨by first | exact Kd.R_nil _ _ _ _ _ | exact Kd.N_nil _ _ _ _ _ | exact Kd.V_nil _ _ _ _ _ | exact Kd.Q_nil _ _ _ _ _ | exact Kd.S_nil _ _ _ _ _⟩, ⟨by first | exact Kd.R_nil _ _ _ _ _ | exact Kd.N_nil _ _ _ _ _ | exact Kd.V_nil _ _ _ _ _ | exact Kd.Q_nil _ _ _ _ _ | exact Kd.S_nil _ _ _ _ _⟩, ⟨by (with_reducible repeat (first | refine blk_drewN ?_ _ | refine blk_drew ?_ | refine blk_alloc ?_ _)); refine blk_far ?_ NB416_417.out _; (with_reducible repeat (first | refine blk_drewN ?_ _ | refine blk_drew ?_ | refine blk_alloc ?_ _)); refine blk_far ?_ NB416_417.out _; (with_reducible repeat (first | refine blk_drewN ?_ _ | refine blk_drew ?_ | refine blk_alloc ?_ _)); refine blk_far ?_ NB416_417.out _; (with_reducible repeat (first | refine blk_drewN ?_ _ | refine blk_drew ?_ | refine blk_alloc ?_ _)); exact BK416.out⟩, ⟨by (with_reducible repeat (first | refine blk_drewN ?_ _ | refine blk_drew ?_ | refine blk_alloc ?_ _)); refine blk_put (cs := #[.slice none 0 0, .slice none 0 0, .slice none 0 0]) ?_ 2 _ rfl; (with_reducible repeat (first | refine blk_drewN ?_ _ | refine blk_drew ?_ | refine blk_alloc ?_ _)); refine blk_put (cs := #[.slice none 0 0, .slice none 0 0, .slice none 0 0]) ?_ 1 _ rfl; (with_reducible repeat (first | refine blk_drewN ?_ _ | refine blk_drew ?_ | refine blk_alloc ?_ _)); refine blk_put (cs := #[.slice none 0 0, .slice none 0 0, .slice none 0 0]) ?_ 0 _ rfl; (with_reducible repeat (first | refine blk_drewN ?_ _ | refine blk_drew ?_ | refine blk_alloc ?_ _)); exact BK417.out⟩, ⟨laB HB.out⟩⟩
 case round =>
  clear H'
  try clear c2
  try clear p2
  try clear c3
  try clear hcz4_0
  try clear hcz4_1
  try clear hcz4_2
  try clear hfz4_0
  try clear hfz4_1
  try clear hfz4_2
  obtain ⟨x2_1, x418000_1, x418001_1, x418002_1, u418000, u418001, u418002, rfl, HA, HK1, HO_418000, HO_418001, HO_418002, BK416, BK417, HB⟩ := hrel
  cases gk with
  | zero => exact absurd HA.out (by simp [spec_UnitCost.l0])
  | succ k1 =>
   have H := HA.out
   clear HA
   simp only [spec_UnitCost.l0] at H
   by_cases c5 : x2_1 < 6
   ·rw [if_pos c5] at H
    have c5b0 : decide (x2_1 < 6) = true := decide_eq_true c5
    clear c5
    by_cases c6 : x418000_1.length < 17592186044416
    ·rw [if_pos c6] at H
     have LMc6 := Aside0.mk c6
     clear c6
     obtain ⟨y418, hy418⟩ : ∃ y_ : List Int, y_ = (x418000_1 ++ [1]) := ⟨_, rfl⟩
     replace H : (if x418001_1.length < 17592186044416 then (spec_UnitCost.l1 k1 x2_1 0 y418 (x418001_1 ++ [1]) x418002_1) else (none)) = some (r1, r2, r3) := by first | (rw [hy418]; with_reducible exact H) | (have H2_ := (Option.bind_some _ _).symm.trans H; rw [hy418]; with_reducible exact H2_) | (have H2_ := (Option.bind_some _ _).symm.trans H; with_reducible exact H2_) | with_reducible exact H | (rw [hy418]; exact H) | exact H
     have Ny418 := Aside0.mk hy418
     clear hy418
     by_cases c7 : x418001_1.length < 17592186044416
     ·rw [if_pos c7] at H
      have LMc7 := Aside0.mk c7
      clear c7
      obtain ⟨y421, hy421⟩ : ∃ y_ : List Int, y_ = (x418001_1 ++ [1]) := ⟨_, rfl⟩
      replace H : (spec_UnitCost.l1 k1 x2_1 0 y418 y421 x418002_1) = some (r1, r2, r3) := by first | (rw [hy421]; with_reducible exact H) | (have H2_ := (Option.bind_some _ _).symm.trans H; rw [hy421]; with_reducible exact H2_) | (have H2_ := (Option.bind_some _ _).symm.trans H; with_reducible exact H2_) | with_reducible exact H | (rw [hy421]; exact H) | exact H
      have Ny421 := Aside0.mk hy421
      clear hy421
      have H' := Aside0.mk H
      clear H
      have hnb8 := NB417_416.out
      have hnc8 := NB416_417.out
      have hcz9_0 : wr.cell? ⟨gb417, 0, none⟩ = some (u418000) := (blk_cell BK417.out 0).trans rfl
      have hcz9_1 : wr.cell? ⟨gb417, 1, none⟩ = some (u418001) := (blk_cell BK417.out 1).trans rfl
      have hcz9_2 : wr.cell? ⟨gb417, 2, none⟩ = some (u418002) := (blk_cell BK417.out 2).trans rfl
      have hfz9_0 := blk_frozen BK417.out 0
      have hfz9_1 := blk_frozen BK417.out 1
      have hfz9_2 := blk_frozen BK417.out 2
      go_wp2_with (first | ((with_reducible refine gate_builtin (b := .append) (xs := #[.tmp 11, .tmp 12]) rfl ?_); at_builtin; refine Kd.R_append (Kd.int .i64) (w0 := w) w.heap.size rfl (.tmp 11) (.tmp 12) 26 3 (.int .i64 0) 8 rfl Try.underlying26 info3 rfl (by decide) (by omega) u418000 x418000_1 1 [.int .i64 1] (fun k_ => some k_ ≠ (u418001 : Value).ownBlock ∧ some k_ ≠ (u418002 : Value).ownBlock) (fun _ => False) rfl rfl ?aP (fun _ hk => hk.elim) ?aF ?aO ?aB ?aS ?aL ?_; (case aP => exact rfl); (case aB => exact (laB HB.out)); (case aF => exact (fun k_ hk => ⟨Kd.fresh' (Kd.R_lt (laR HO_418001.out)) k_ hk, Kd.fresh' (Kd.R_lt (laR HO_418002.out)) k_ hk⟩)); (case aO => exact (laR HO_418000.out)); (case aS => exact (below_size (laB HB.out))); (case aL => have := LMc6.out; omega); intro v419 w10 ho hb hg hat; rw [← Ny418.out] at ho; have n0_ := Aside0.mk (Kd.R_after (ok := (fun k_ => some k_ ≠ (u418002 : Value).ownBlock)) (laR (Kd.R_mono HO_418001.out (fun _ hk => ⟨hk.2, hk.1⟩))) hg hat); have n1_ := Aside0.mk (Kd.R_after (ok := (fun k_ => some k_ ≠ (u418001 : Value).ownBlock)) (laR (Kd.R_mono HO_418002.out (fun _ hk => ⟨hk.2, hk.1⟩))) hg hat); have n2_ := Aside0.mk (blk_grown (g := gb416) (o := .cells #[.slice none 0 0, .slice none 0 0, .slice none 0 0] 34 (0, 0)) (laK BK416.out) hg (Kd.R_ne HO_418000.out BK416.out (by decide))); have n3_ := Aside0.mk (blk_grown (g := gb417) (o := .cells #[u418000, u418001, u418002] 34 (0, 0)) (laK BK417.out) hg (Kd.R_ne HO_418000.out BK417.out (by decide))); have n4_ := Aside0.mk (hb); have n5_ := Aside0.mk (ho); clear HO_418001; clear HO_418002; clear BK416; clear BK417; clear HB; clear HO_418000; have HO_418001 := n0_; have HO_418002 := n1_; have BK416 := n2_; have BK417 := n3_; have HB := n4_; have HO420 := n5_; clear n0_ n1_ n2_ n3_ n4_ n5_; clear ho hb hg hat; obtain ⟨Ao11, co11, eo11⟩ := Kd.R_slice HO420.out; subst eo11; have hcz12_0 : w10.cell? ⟨gb417, 0, none⟩ = some (u418000) := (blk_cell BK417.out 0).trans rfl; have hcz12_1 : w10.cell? ⟨gb417, 1, none⟩ = some (u418001) := (blk_cell BK417.out 1).trans rfl; have hcz12_2 : w10.cell? ⟨gb417, 2, none⟩ = some (u418002) := (blk_cell BK417.out 2).trans rfl; have hfz12_0 := blk_frozen BK417.out 0; have hfz12_1 := blk_frozen BK417.out 1; have hfz12_2 := blk_frozen BK417.out 2) | ((with_reducible refine gate_builtin (b := .append) (xs := #[.tmp 16, .tmp 17]) rfl ?_); at_builtin; refine Kd.R_append (Kd.int .i64) (w0 := w) w.heap.size rfl (.tmp 16) (.tmp 17) 26 3 (.int .i64 0) 8 rfl Try.underlying26 info3 rfl (by decide) (by omega) u418001 x418001_1 1 [.int .i64 1] (fun k_ => some k_ ≠ (u418002 : Value).ownBlock ∧ some k_ ≠ (.slice Ao11 y418.length co11 : Value).ownBlock) (fun _ => False) rfl (by first | (go_simp; done) | (go_simp; rfl)) ?aP (fun _ hk => hk.elim) ?aF ?aO ?aB ?aS ?aL ?_; (case aP => exact rfl); (case aB => exact (laB HB.out)); (case aF => exact (fun k_ hk => ⟨Kd.fresh' (Kd.R_lt (laR ((Kd.R_mono (Kd.R_far (p := ⟨gb417, 0, none⟩) (Kd.R_types HO_418002.out BK417.out (by decide)) (fun _ hk => hk.2) (.slice Ao11 y418.length co11)) (fun _ h_ => h_.1))))) k_ hk, Kd.fresh' (Kd.R_lt (laR ((Kd.R_mono (Kd.R_far (p := ⟨gb417, 0, none⟩) (Kd.R_types HO420.out BK417.out (by decide)) (fun _ hk => hk.2) (.slice Ao11 y418.length co11)) (fun _ h_ => h_.1))))) k_ hk⟩)); (case aO => exact (laR (Kd.R_mono (Kd.R_far (p := ⟨gb417, 0, none⟩) (Kd.R_types HO_418001.out BK417.out (by decide)) (fun _ hk => hk.2) (.slice Ao11 y418.length co11)) (fun _ hk => ⟨hk.1.1, hk.1.2⟩)))); (case aS => exact (below_size (laB HB.out))); (case aL => have := LMc7.out; omega); intro v422 w13 ho hb hg hat; rw [← Ny421.out] at ho; have n0_ := Aside0.mk (Kd.R_after (ok := (fun k_ => some k_ ≠ (.slice Ao11 y418.length co11 : Value).ownBlock)) (laR (Kd.R_mono (Kd.R_far (p := ⟨gb417, 0, none⟩) (Kd.R_types HO_418002.out BK417.out (by decide)) (fun _ hk => hk.2) (.slice Ao11 y418.length co11)) (fun _ hk => ⟨hk.1.2, hk.1.1⟩))) hg hat); have n1_ := Aside0.mk (blk_grown (g := gb416) (o := .cells #[.slice none 0 0, .slice none 0 0, .slice none 0 0] 34 (0, 0)) (by (with_reducible repeat (first | refine blk_drewN ?_ _ | refine blk_drew ?_ | refine blk_alloc ?_ _)); refine blk_far ?_ NB416_417.out _; (with_reducible repeat (first | refine blk_drewN ?_ _ | refine blk_drew ?_ | refine blk_alloc ?_ _)); exact BK416.out) hg (Kd.R_ne HO_418001.out BK416.out (by decide))); have n2_ := Aside0.mk (blk_grown (g := gb417) (o := .cells #[.slice Ao11 y418.length co11, u418001, u418002] 34 (0, 0)) (by (with_reducible repeat (first | refine blk_drewN ?_ _ | refine blk_drew ?_ | refine blk_alloc ?_ _)); refine blk_put (cs := #[u418000, u418001, u418002]) ?_ 0 _ rfl; (with_reducible repeat (first | refine blk_drewN ?_ _ | refine blk_drew ?_ | refine blk_alloc ?_ _)); exact BK417.out) hg (Kd.R_ne HO_418001.out BK417.out (by decide))); have n3_ := Aside0.mk (Kd.R_after (ok := (fun k_ => some k_ ≠ (u418002 : Value).ownBlock)) (laR (Kd.R_mono (Kd.R_far (p := ⟨gb417, 0, none⟩) (Kd.R_types HO420.out BK417.out (by decide)) (fun _ hk => hk.2) (.slice Ao11 y418.length co11)) (fun _ hk => ⟨hk.1.2, hk.1.1⟩))) hg hat); have n4_ := Aside0.mk (hb); have n5_ := Aside0.mk (ho); clear HO_418002; clear BK416; clear BK417; clear HO420; clear HB; clear HO_418001; have HO_418002 := n0_; have BK416 := n1_; have BK417 := n2_; have HO420 := n3_; have HB := n4_; have HO423 := n5_; clear n0_ n1_ n2_ n3_ n4_ n5_; clear ho hb hg hat; obtain ⟨Ao14, co14, eo14⟩ := Kd.R_slice HO423.out; subst eo14; have hcz15_0 : w13.cell? ⟨gb417, 0, none⟩ = some (.slice Ao11 y418.length co11) := (blk_cell BK417.out 0).trans rfl; have hcz15_1 : w13.cell? ⟨gb417, 1, none⟩ = some (u418001) := (blk_cell BK417.out 1).trans rfl; have hcz15_2 : w13.cell? ⟨gb417, 2, none⟩ = some (u418002) := (blk_cell BK417.out 2).trans rfl; have hfz15_0 := blk_frozen BK417.out 0; have hfz15_1 := blk_frozen BK417.out 1; have hfz15_2 := blk_frozen BK417.out 2))
      go_loopg [3] k1 (fun kq v3 w' => ∃ (x3_2 : Int) (x418002_2 : List Int) (u418002 : Value), v3 = .int .i64 x3_2 ∧ Aside0 (spec_UnitCost.l1 kq x2_1 x3_2 y418 y421 x418002_2 = some (r1, r2, r3)) ∧ Aside0 (kq ≤ k1) ∧ Aside0 (Kd.R (Kd.int .i64) 3 w' w.heap.size (fun k_ => some k_ ≠ ((.slice Ao14 y421.length co14) : Value).ownBlock ∧ some k_ ≠ (u418002 : Value).ownBlock) (.slice Ao11 y418.length co11) y418) ∧ Aside0 (Kd.R (Kd.int .i64) 3 w' w.heap.size (fun k_ => some k_ ≠ ((.slice Ao11 y418.length co11) : Value).ownBlock ∧ some k_ ≠ (u418002 : Value).ownBlock) (.slice Ao14 y421.length co14) y421) ∧ Aside0 (Kd.R (Kd.int .i64) 3 w' w.heap.size (fun k_ => some k_ ≠ ((.slice Ao11 y418.length co11) : Value).ownBlock ∧ some k_ ≠ ((.slice Ao14 y421.length co14) : Value).ownBlock) u418002 x418002_2) ∧ Aside0 (w'.heap[gb416]? = some (.cells #[(.slice none 0 0), (.slice none 0 0), (.slice none 0 0)] 34 (0, 0))) ∧ Aside0 (w'.heap[gb417]? = some (.cells #[(.slice Ao11 y418.length co11), (.slice Ao14 y421.length co14), u418002] 34 (0, 0))) ∧ Aside0 (Below w.heap.size w w'))
      case atStart => exact ⟨(0), (x418002_1), (u418002), (by first | rfl | (simp; done) | (simp [*]; done)), H', ⟨Nat.le_refl _⟩, ⟨laR (Kd.R_mono (Kd.R_far (p := ⟨gb417, 1, none⟩) (Kd.R_types HO420.out BK417.out (by decide)) (fun _ hk => hk.2) (.slice Ao14 y421.length co14)) (fun _ hk => ⟨hk.1.2, hk.1.1⟩))⟩, ⟨laR (Kd.R_mono (Kd.R_far (p := ⟨gb417, 1, none⟩) (Kd.R_types HO423.out BK417.out (by decide)) (fun _ hk => hk.2) (.slice Ao14 y421.length co14)) (fun _ hk => ⟨hk.1.2, hk.1.1⟩))⟩, ⟨laR (Kd.R_mono (Kd.R_far (p := ⟨gb417, 1, none⟩) (Kd.R_types HO_418002.out BK417.out (by decide)) (fun _ hk => hk.2) (.slice Ao14 y421.length co14)) (fun _ hk => ⟨hk.1.1, hk.1.2⟩))⟩, ⟨by (with_reducible repeat (first | refine blk_drewN ?_ _ | refine blk_drew ?_ | refine blk_alloc ?_ _)); refine blk_far ?_ NB416_417.out _; (with_reducible repeat (first | refine blk_drewN ?_ _ | refine blk_drew ?_ | refine blk_alloc ?_ _)); exact BK416.out⟩, ⟨by (with_reducible repeat (first | refine blk_drewN ?_ _ | refine blk_drew ?_ | refine blk_alloc ?_ _)); refine blk_put (cs := #[.slice Ao11 y418.length co11, u418001, u418002]) ?_ 1 _ rfl; (with_reducible repeat (first | refine blk_drewN ?_ _ | refine blk_drew ?_ | refine blk_alloc ?_ _)); exact BK417.out⟩, ⟨laB HB.out⟩⟩
      case round =>
       clear H'
       try clear c2
       try clear p2
       try clear c3
       try clear c5
       try clear c5b0
       try clear c6
       try clear c7
       try clear c8
       try clear hcz12_0
       try clear hcz12_1
       try clear hcz12_2
       try clear hcz15_0
       try clear hcz15_1
       try clear hcz15_2
       try clear hcz4_0
       try clear hcz4_1
       try clear hcz4_2
       try clear hcz9_0
       try clear hcz9_1
       try clear hcz9_2
       try clear hfz12_0
       try clear hfz12_1
       try clear hfz12_2
       try clear hfz15_0
       try clear hfz15_1
       try clear hfz15_2
       try clear hfz4_0
       try clear hfz4_1
       try clear hfz4_2
       try clear hfz9_0
       try clear hfz9_1
       try clear hfz9_2
       try clear p2
       obtain ⟨x3_2, x418002_2, u418002, rfl, HA, HK2, HO_418000, HO_418001, HO_418002, BK416, BK417, HB⟩ := hrel
       cases gk with
       | zero => exact absurd HA.out (by simp [spec_UnitCost.l1])
       | succ k2 =>
        have H := HA.out
        clear HA
        simp only [spec_UnitCost.l1] at H
        by_cases c16 : x3_2 < 6
        ·rw [if_pos c16] at H
         have c16b0 : decide (x3_2 < 6) = true := decide_eq_true c16
         clear c16
         by_cases c17 : x2_1 = x3_2
         ·rw [if_pos c17] at H
          have c17b0 : (x2_1 == x3_2) = true := beq_iff_eq.mpr c17
          have c17b1 : (x2_1 != x3_2) = false := bne_eq_false_iff_eq.mpr c17
          clear c17
          by_cases c18 : x418002_2.length < 17592186044416
          ·rw [if_pos c18] at H
           have LMc18 := Aside0.mk c18
           clear c18
           obtain ⟨y424, hy424⟩ : ∃ y_ : List Int, y_ = (x418002_2 ++ [0]) := ⟨_, rfl⟩
           replace H : (spec_UnitCost.l1 k2 x2_1 (wrap64 (x3_2 + 1)) y418 y421 y424) = some (r1, r2, r3) := by first | (rw [hy424]; with_reducible exact H) | (have H2_ := (Option.bind_some _ _).symm.trans H; rw [hy424]; with_reducible exact H2_) | (have H2_ := (Option.bind_some _ _).symm.trans H; with_reducible exact H2_) | with_reducible exact H | (rw [hy424]; exact H) | exact H
           have Ny424 := Aside0.mk hy424
           clear hy424
           have H' := Aside0.mk H
           clear H
           have hnb19 := NB417_416.out
           have hnc19 := NB416_417.out
           have hcz20_0 : wr.cell? ⟨gb417, 0, none⟩ = some (.slice Ao11 y418.length co11) := (blk_cell BK417.out 0).trans rfl
           have hcz20_1 : wr.cell? ⟨gb417, 1, none⟩ = some (.slice Ao14 y421.length co14) := (blk_cell BK417.out 1).trans rfl
           have hcz20_2 : wr.cell? ⟨gb417, 2, none⟩ = some (u418002) := (blk_cell BK417.out 2).trans rfl
           have hfz20_0 := blk_frozen BK417.out 0
           have hfz20_1 := blk_frozen BK417.out 1
           have hfz20_2 := blk_frozen BK417.out 2
           go_wp2_with (first | ((with_reducible refine gate_builtin (b := .append) (xs := #[.tmp 28, .tmp 30]) rfl ?_); at_builtin; refine Kd.R_append (Kd.int .i64) (w0 := w) w.heap.size rfl (.tmp 28) (.tmp 30) 26 3 (.int .i64 0) 8 rfl Try.underlying26 info3 rfl (by decide) (by omega) u418002 x418002_2 0 [.int .i64 0] (fun k_ => some k_ ≠ (.slice Ao11 y418.length co11 : Value).ownBlock ∧ some k_ ≠ (.slice Ao14 y421.length co14 : Value).ownBlock) (fun _ => False) rfl rfl ?aP (fun _ hk => hk.elim) ?aF ?aO ?aB ?aS ?aL ?_; (case aP => exact rfl); (case aB => exact (laB HB.out)); (case aF => exact (fun k_ hk => ⟨Kd.fresh' (Kd.R_lt (laR HO_418000.out)) k_ hk, Kd.fresh' (Kd.R_lt (laR HO_418001.out)) k_ hk⟩)); (case aO => exact (laR HO_418002.out)); (case aS => exact (below_size (laB HB.out))); (case aL => have := LMc18.out; omega); intro v425 w21 ho hb hg hat; rw [← Ny424.out] at ho; have n0_ := Aside0.mk (Kd.R_after (ok := (fun k_ => some k_ ≠ (.slice Ao14 y421.length co14 : Value).ownBlock)) (laR HO_418000.out) hg hat); have n1_ := Aside0.mk (Kd.R_after (ok := (fun k_ => some k_ ≠ (.slice Ao11 y418.length co11 : Value).ownBlock)) (laR HO_418001.out) hg hat); have n2_ := Aside0.mk (blk_grown (g := gb416) (o := .cells #[.slice none 0 0, .slice none 0 0, .slice none 0 0] 34 (0, 0)) (laK BK416.out) hg (Kd.R_ne HO_418002.out BK416.out (by decide))); have n3_ := Aside0.mk (blk_grown (g := gb417) (o := .cells #[.slice Ao11 y418.length co11, .slice Ao14 y421.length co14, u418002] 34 (0, 0)) (laK BK417.out) hg (Kd.R_ne HO_418002.out BK417.out (by decide))); have n4_ := Aside0.mk (hb); have n5_ := Aside0.mk (ho); clear HO_418000; clear HO_418001; clear BK416; clear BK417; clear HB; clear HO_418002; have HO_418000 := n0_; have HO_418001 := n1_; have BK416 := n2_; have BK417 := n3_; have HB := n4_; have HO426 := n5_; clear n0_ n1_ n2_ n3_ n4_ n5_; clear ho hb hg hat; obtain ⟨Ao22, co22, eo22⟩ := Kd.R_slice HO426.out; subst eo22; have hcz23_0 : w21.cell? ⟨gb417, 0, none⟩ = some (.slice Ao11 y418.length co11) := (blk_cell BK417.out 0).trans rfl; have hcz23_1 : w21.cell? ⟨gb417, 1, none⟩ = some (.slice Ao14 y421.length co14) := (blk_cell BK417.out 1).trans rfl; have hcz23_2 : w21.cell? ⟨gb417, 2, none⟩ = some (u418002) := (blk_cell BK417.out 2).trans rfl; have hfz23_0 := blk_frozen BK417.out 0; have hfz23_1 := blk_frozen BK417.out 1; have hfz23_2 := blk_frozen BK417.out 2))
           go_roundg k2
           case measure => have := HK1.out; have := HK2.out; omega
           case rel => exact ⟨(wrap64 (x3_2 + 1)), (y424), (.slice Ao22 y424.length co22), (by first | rfl | (simp; done) | (simp [*]; done)), H', ⟨by have := HK1.out; have := HK2.out; omega⟩, ⟨laR (Kd.R_mono (Kd.R_far (p := ⟨gb417, 2, none⟩) (Kd.R_types HO_418000.out BK417.out (by decide)) (fun _ hk => hk.2) (.slice Ao22 y424.length co22)) (fun _ hk => ⟨hk.1.1, hk.1.2⟩))⟩, ⟨laR (Kd.R_mono (Kd.R_far (p := ⟨gb417, 2, none⟩) (Kd.R_types HO_418001.out BK417.out (by decide)) (fun _ hk => hk.2) (.slice Ao22 y424.length co22)) (fun _ hk => ⟨hk.1.1, hk.1.2⟩))⟩, ⟨laR (Kd.R_mono (Kd.R_far (p := ⟨gb417, 2, none⟩) (Kd.R_types HO426.out BK417.out (by decide)) (fun _ hk => hk.2) (.slice Ao22 y424.length co22)) (fun _ hk => ⟨hk.1.1, hk.1.2⟩))⟩, ⟨by (with_reducible repeat (first | refine blk_drewN ?_ _ | refine blk_drew ?_ | refine blk_alloc ?_ _)); refine blk_far ?_ NB416_417.out _; (with_reducible repeat (first | refine blk_drewN ?_ _ | refine blk_drew ?_ | refine blk_alloc ?_ _)); exact BK416.out⟩, ⟨by (with_reducible repeat (first | refine blk_drewN ?_ _ | refine blk_drew ?_ | refine blk_alloc ?_ _)); refine blk_put (cs := #[.slice Ao11 y418.length co11, .slice Ao14 y421.length co14, u418002]) ?_ 2 _ rfl; (with_reducible repeat (first | refine blk_drewN ?_ _ | refine blk_drew ?_ | refine blk_alloc ?_ _)); exact BK417.out⟩, ⟨laB HB.out⟩⟩
          ·rw [if_neg c18] at H
           exact absurd H (by simp)
         ·rw [if_neg c17] at H
          have c17b0 : (x2_1 == x3_2) = false := beq_eq_false_iff_ne.mpr c17
          have c17b1 : (x2_1 != x3_2) = true := bne_iff_ne.mpr c17
          by_cases c24 : x418002_2.length < 17592186044416
          ·rw [if_pos c24] at H
           have LMc24 := Aside0.mk c24
           clear c24
           obtain ⟨y427, hy427⟩ : ∃ y_ : List Int, y_ = (x418002_2 ++ [1]) := ⟨_, rfl⟩
           replace H : (spec_UnitCost.l1 k2 x2_1 (wrap64 (x3_2 + 1)) y418 y421 y427) = some (r1, r2, r3) := by first | (rw [hy427]; with_reducible exact H) | (have H2_ := (Option.bind_some _ _).symm.trans H; rw [hy427]; with_reducible exact H2_) | (have H2_ := (Option.bind_some _ _).symm.trans H; with_reducible exact H2_) | with_reducible exact H | (rw [hy427]; exact H) | exact H
           have Ny427 := Aside0.mk hy427
           clear hy427
           have H' := Aside0.mk H
           clear H
           have hnb25 := NB417_416.out
           have hnc25 := NB416_417.out
           have hcz26_0 : wr.cell? ⟨gb417, 0, none⟩ = some (.slice Ao11 y418.length co11) := (blk_cell BK417.out 0).trans rfl
           have hcz26_1 : wr.cell? ⟨gb417, 1, none⟩ = some (.slice Ao14 y421.length co14) := (blk_cell BK417.out 1).trans rfl
           have hcz26_2 : wr.cell? ⟨gb417, 2, none⟩ = some (u418002) := (blk_cell BK417.out 2).trans rfl
           have hfz26_0 := blk_frozen BK417.out 0
           have hfz26_1 := blk_frozen BK417.out 1
           have hfz26_2 := blk_frozen BK417.out 2
           go_wp2_with (first | ((with_reducible refine gate_builtin (b := .append) (xs := #[.tmp 28, .tmp 30]) rfl ?_); at_builtin; refine Kd.R_append (Kd.int .i64) (w0 := w) w.heap.size rfl (.tmp 28) (.tmp 30) 26 3 (.int .i64 0) 8 rfl Try.underlying26 info3 rfl (by decide) (by omega) u418002 x418002_2 1 [.int .i64 1] (fun k_ => some k_ ≠ (.slice Ao11 y418.length co11 : Value).ownBlock ∧ some k_ ≠ (.slice Ao14 y421.length co14 : Value).ownBlock) (fun _ => False) rfl rfl ?aP (fun _ hk => hk.elim) ?aF ?aO ?aB ?aS ?aL ?_; (case aP => exact rfl); (case aB => exact (laB HB.out)); (case aF => exact (fun k_ hk => ⟨Kd.fresh' (Kd.R_lt (laR HO_418000.out)) k_ hk, Kd.fresh' (Kd.R_lt (laR HO_418001.out)) k_ hk⟩)); (case aO => exact (laR HO_418002.out)); (case aS => exact (below_size (laB HB.out))); (case aL => have := LMc24.out; omega); intro v428 w27 ho hb hg hat; rw [← Ny427.out] at ho; have n0_ := Aside0.mk (Kd.R_after (ok := (fun k_ => some k_ ≠ (.slice Ao14 y421.length co14 : Value).ownBlock)) (laR HO_418000.out) hg hat); have n1_ := Aside0.mk (Kd.R_after (ok := (fun k_ => some k_ ≠ (.slice Ao11 y418.length co11 : Value).ownBlock)) (laR HO_418001.out) hg hat); have n2_ := Aside0.mk (blk_grown (g := gb416) (o := .cells #[.slice none 0 0, .slice none 0 0, .slice none 0 0] 34 (0, 0)) (laK BK416.out) hg (Kd.R_ne HO_418002.out BK416.out (by decide))); have n3_ := Aside0.mk (blk_grown (g := gb417) (o := .cells #[.slice Ao11 y418.length co11, .slice Ao14 y421.length co14, u418002] 34 (0, 0)) (laK BK417.out) hg (Kd.R_ne HO_418002.out BK417.out (by decide))); have n4_ := Aside0.mk (hb); have n5_ := Aside0.mk (ho); clear HO_418000; clear HO_418001; clear BK416; clear BK417; clear HB; clear HO_418002; have HO_418000 := n0_; have HO_418001 := n1_; have BK416 := n2_; have BK417 := n3_; have HB := n4_; have HO429 := n5_; clear n0_ n1_ n2_ n3_ n4_ n5_; clear ho hb hg hat; obtain ⟨Ao28, co28, eo28⟩ := Kd.R_slice HO429.out; subst eo28; have hcz29_0 : w27.cell? ⟨gb417, 0, none⟩ = some (.slice Ao11 y418.length co11) := (blk_cell BK417.out 0).trans rfl; have hcz29_1 : w27.cell? ⟨gb417, 1, none⟩ = some (.slice Ao14 y421.length co14) := (blk_cell BK417.out 1).trans rfl; have hcz29_2 : w27.cell? ⟨gb417, 2, none⟩ = some (u418002) := (blk_cell BK417.out 2).trans rfl; have hfz29_0 := blk_frozen BK417.out 0; have hfz29_1 := blk_frozen BK417.out 1; have hfz29_2 := blk_frozen BK417.out 2))
           go_roundg k2
           case measure => have := HK1.out; have := HK2.out; omega
           case rel => exact ⟨(wrap64 (x3_2 + 1)), (y427), (.slice Ao28 y427.length co28), (by first | rfl | (simp; done) | (simp [*]; done)), H', ⟨by have := HK1.out; have := HK2.out; omega⟩, ⟨laR (Kd.R_mono (Kd.R_far (p := ⟨gb417, 2, none⟩) (Kd.R_types HO_418000.out BK417.out (by decide)) (fun _ hk => hk.2) (.slice Ao28 y427.length co28)) (fun _ hk => ⟨hk.1.1, hk.1.2⟩))⟩, ⟨laR (Kd.R_mono (Kd.R_far (p := ⟨gb417, 2, none⟩) (Kd.R_types HO_418001.out BK417.out (by decide)) (fun _ hk => hk.2) (.slice Ao28 y427.length co28)) (fun _ hk => ⟨hk.1.1, hk.1.2⟩))⟩, ⟨laR (Kd.R_mono (Kd.R_far (p := ⟨gb417, 2, none⟩) (Kd.R_types HO429.out BK417.out (by decide)) (fun _ hk => hk.2) (.slice Ao28 y427.length co28)) (fun _ hk => ⟨hk.1.1, hk.1.2⟩))⟩, ⟨by (with_reducible repeat (first | refine blk_drewN ?_ _ | refine blk_drew ?_ | refine blk_alloc ?_ _)); refine blk_far ?_ NB416_417.out _; (with_reducible repeat (first | refine blk_drewN ?_ _ | refine blk_drew ?_ | refine blk_alloc ?_ _)); exact BK416.out⟩, ⟨by (with_reducible repeat (first | refine blk_drewN ?_ _ | refine blk_drew ?_ | refine blk_alloc ?_ _)); refine blk_put (cs := #[.slice Ao11 y418.length co11, .slice Ao14 y421.length co14, u418002]) ?_ 2 _ rfl; (with_reducible repeat (first | refine blk_drewN ?_ _ | refine blk_drew ?_ | refine blk_alloc ?_ _)); exact BK417.out⟩, ⟨laB HB.out⟩⟩
          ·rw [if_neg c24] at H
           exact absurd H (by simp)
        ·rw [if_neg c16] at H
         have c16b0 : decide (x3_2 < 6) = false := decide_eq_false c16
         clear c16
         have H' := Aside0.mk H
         clear H
         go_wp2
         go_roundg k2
         case measure => have := HK1.out; have := HK2.out; omega
         case rel => exact ⟨(wrap64 (x2_1 + 1)), (y418), (y421), (x418002_2), (.slice Ao11 y418.length co11), (.slice Ao14 y421.length co14), (u418002), (by first | rfl | (simp; done) | (simp [*]; done)), H', ⟨by have := HK1.out; have := HK2.out; omega⟩, ⟨laR HO_418000.out⟩, ⟨laR HO_418001.out⟩, ⟨laR HO_418002.out⟩, ⟨laK BK416.out⟩, ⟨laK BK417.out⟩, ⟨laB HB.out⟩⟩
     ·rw [if_neg c7] at H
      exact absurd H (by simp)
    ·rw [if_neg c6] at H
     exact absurd H (by simp)
   ·rw [if_neg c5] at H
    have c5b0 : decide (x2_1 < 6) = false := decide_eq_false c5
    clear c5
    simp only [Option.some.injEq, Prod.mk.injEq] at H
    obtain ⟨rfl, rfl, rfl⟩ := H
    have hnb30 := NB417_416.out
    have hnc30 := NB416_417.out
    have hcz31_0 : wr.cell? ⟨gb417, 0, none⟩ = some (u418000) := (blk_cell BK417.out 0).trans rfl
    have hcz31_1 : wr.cell? ⟨gb417, 1, none⟩ = some (u418001) := (blk_cell BK417.out 1).trans rfl
    have hcz31_2 : wr.cell? ⟨gb417, 2, none⟩ = some (u418002) := (blk_cell BK417.out 2).trans rfl
    have hfz31_0 := blk_frozen BK417.out 0
    have hfz31_1 := blk_frozen BK417.out 1
    have hfz31_2 := blk_frozen BK417.out 2
    obtain ⟨Ao32, co32, eo32⟩ := Kd.R_slice HO_418000.out
    subst eo32
    have hcz33_0 : wr.cell? ⟨gb416, 0, none⟩ = some (.slice none 0 0) := (blk_cell BK416.out 0).trans rfl
    have hcz33_1 : wr.cell? ⟨gb416, 1, none⟩ = some (.slice none 0 0) := (blk_cell BK416.out 1).trans rfl
    have hcz33_2 : wr.cell? ⟨gb416, 2, none⟩ = some (.slice none 0 0) := (blk_cell BK416.out 2).trans rfl
    have hfz33_0 := blk_frozen BK416.out 0
    have hfz33_1 := blk_frozen BK416.out 1
    have hfz33_2 := blk_frozen BK416.out 2
    obtain ⟨Ao34, co34, eo34⟩ := Kd.R_slice HO_418001.out
    subst eo34
    obtain ⟨Ao35, co35, eo35⟩ := Kd.R_slice HO_418002.out
    subst eo35
    go_wp2
    refine bodyPost_ret (results_cell_row rfl _ _ gb416 34 #[.slice Ao32 x418000_1.length co32, .slice Ao34 x418001_1.length co34, .slice Ao35 x418002_1.length co35] (0, 0) _ rfl (by (with_reducible repeat (first | refine blk_drewN ?_ _ | refine blk_drew ?_ | refine blk_alloc ?_ _)); refine blk_put (cs := #[.slice Ao32 x418000_1.length co32, .slice Ao34 x418001_1.length co34, .slice none 0 0]) ?_ 2 _ rfl; (with_reducible repeat (first | refine blk_drewN ?_ _ | refine blk_drew ?_ | refine blk_alloc ?_ _)); refine blk_put (cs := #[.slice Ao32 x418000_1.length co32, .slice none 0 0, .slice none 0 0]) ?_ 1 _ rfl; (with_reducible repeat (first | refine blk_drewN ?_ _ | refine blk_drew ?_ | refine blk_alloc ?_ _)); refine blk_put (cs := #[.slice none 0 0, .slice none 0 0, .slice none 0 0]) ?_ 0 _ rfl; (with_reducible repeat (first | refine blk_drewN ?_ _ | refine blk_drew ?_ | refine blk_alloc ?_ _)); exact BK416.out) Try.underlying34 rfl (by kernel_rfl)) rfl ?_
    exact ⟨_, _, _, by first | rfl | (simp [errW_none, errW_some] <;> rfl) | (simp [*, errW_none, errW_some] <;> rfl), by (with_reducible repeat (first | apply Kd.R_alloc | apply Kd.R_drewN | apply Kd.R_drew)); exact Kd.R_mono (Kd.R_far (p := ⟨gb416, 2, none⟩) (Kd.R_far (p := ⟨gb416, 1, none⟩) (Kd.R_far (p := ⟨gb416, 0, none⟩) (Kd.R_types HO_418000.out BK416.out (by decide)) (fun _ hk => hk.2) (.slice Ao32 x418000_1.length co32)) (fun _ hk => hk.2) (.slice Ao34 x418001_1.length co34)) (fun _ hk => hk.2) (.slice Ao35 x418002_1.length co35)) (fun _ hk => ⟨hk.1.1, hk.1.2⟩), by (with_reducible repeat (first | apply Kd.R_alloc | apply Kd.R_drewN | apply Kd.R_drew)); exact Kd.R_mono (Kd.R_far (p := ⟨gb416, 2, none⟩) (Kd.R_far (p := ⟨gb416, 1, none⟩) (Kd.R_far (p := ⟨gb416, 0, none⟩) (Kd.R_types HO_418001.out BK416.out (by decide)) (fun _ hk => hk.2) (.slice Ao32 x418000_1.length co32)) (fun _ hk => hk.2) (.slice Ao34 x418001_1.length co34)) (fun _ hk => hk.2) (.slice Ao35 x418002_1.length co35)) (fun _ hk => ⟨hk.1.1, hk.1.2⟩), by (with_reducible repeat (first | apply Kd.R_alloc | apply Kd.R_drewN | apply Kd.R_drew)); exact Kd.R_mono (Kd.R_far (p := ⟨gb416, 2, none⟩) (Kd.R_far (p := ⟨gb416, 1, none⟩) (Kd.R_far (p := ⟨gb416, 0, none⟩) (Kd.R_types HO_418002.out BK416.out (by decide)) (fun _ hk => hk.2) (.slice Ao32 x418000_1.length co32)) (fun _ hk => hk.2) (.slice Ao34 x418001_1.length co34)) (fun _ hk => hk.2) (.slice Ao35 x418002_1.length co35)) (fun _ hk => ⟨hk.1.1, hk.1.2⟩), laB HB.out⟩



/-! ### spec_l7Cost: function 96 -/
mutual
def spec_l7Cost.l0 : Nat → Int → List Int → Int → Int → List Int → List Int → List Int → Option (List Int × List Int × List Int × Int × Int)
 | 0, _, _, _, _, _, _, _ => none
 | k + 1, x4, x1000, x1001, x1002, x441000, x441001, x441002 => if x4 < (x441002.length : Int) then (if 0 ≤ x4 then (spec_l7Cost.l0 k (wrap64 (x4 + 1)) x1000 x1001 x1002 x441000 x441001 (x441002.set (x4 : Int).toNat (wrap64 ((rd x441002 x4) * 3)))) else (none)) else (some (x441000, x441001, x441002, x1001, x1002))
def spec_l7Cost.l1 : Nat → Int → List Int → Int → Int → List Int → List Int → List Int → Option (List Int × List Int × List Int × Int × Int)
 | 0, _, _, _, _, _, _, _ => none
 | k + 1, x5, x1000, x1001, x1002, x441000, x441001, x441002 => if x5 < 6 then ((spec_l1Below.f x1000 x1001 x1002 7).bind fun bt446 => (if 0 ≤ x5 then (if x5 < (x441000.length : Int) then ((spec_l1Below.f x1000 bt446.2.1 bt446.2.2 7).bind fun bt450 => (if x5 < (x441001.length : Int) then (spec_l7Cost.l2 k x5 0 x1000 bt450.2.1 bt450.2.2 (x441000.set (x5 : Int).toNat bt446.1) (x441001.set (x5 : Int).toNat bt450.1) x441002) else (none))) else (none)) else (none))) else (some (x441000, x441001, x441002, x1001, x1002))
def spec_l7Cost.l2 : Nat → Int → Int → List Int → Int → Int → List Int → List Int → List Int → Option (List Int × List Int × List Int × Int × Int)
 | 0, _, _, _, _, _, _, _, _ => none
 | k + 1, x5, x6, x1000, x1001, x1002, x441000, x441001, x441002 => if x6 < 6 then (if x5 = x6 then (spec_l7Cost.l2 k x5 (wrap64 (x6 + 1)) x1000 x1001 x1002 x441000 x441001 x441002) else ((spec_l1PickInt.f x1000 x1001 x1002 (([0, 1, 4, 9, 1000] : List Int))).bind fun bt457 => (if 0 ≤ (wrap64 ((wrap64 (x5 * 6)) + x6)) then (if (wrap64 ((wrap64 (x5 * 6)) + x6)) < (x441002.length : Int) then (spec_l7Cost.l2 k x5 (wrap64 (x6 + 1)) x1000 bt457.2.1 bt457.2.2 x441000 x441001 (x441002.set ((wrap64 ((wrap64 (x5 * 6)) + x6)) : Int).toNat bt457.1)) else (none)) else (none)))) else (spec_l7Cost.l1 k (wrap64 (x5 + 1)) x1000 x1001 x1002 x441000 x441001 x441002)
end
def spec_l7Cost.f (k : Nat) (s0_0 : List Int) (s0_1 : Int) (s0_2 : Int) : Option (List Int × List Int × List Int × Int × Int) := (spec_UnitCost.f k).bind fun bt431 => ((spec_l1Below.f s0_0 s0_1 s0_2 4).bind fun bt441 => (if bt441.1 = 0 then (some (bt431.1, bt431.2.1, bt431.2.2, bt441.2.1, bt441.2.2)) else (if bt441.1 = 1 then (spec_l7Cost.l0 k 0 s0_0 bt441.2.1 bt441.2.2 bt431.1 bt431.2.1 bt431.2.2) else (spec_l7Cost.l1 k 0 s0_0 bt441.2.1 bt441.2.2 bt431.1 bt431.2.1 bt431.2.2))))
theorem spec_l7Cost.mono_l : ∀ k, (∀ y0 y1 y2 y3 y4 y5 y6, LeO (spec_l7Cost.l0 k y0 y1 y2 y3 y4 y5 y6) (spec_l7Cost.l0 (k + 1) y0 y1 y2 y3 y4 y5 y6)) ∧ (∀ y0 y1 y2 y3 y4 y5 y6, LeO (spec_l7Cost.l1 k y0 y1 y2 y3 y4 y5 y6) (spec_l7Cost.l1 (k + 1) y0 y1 y2 y3 y4 y5 y6)) ∧ (∀ y0 y1 y2 y3 y4 y5 y6 y7, LeO (spec_l7Cost.l2 k y0 y1 y2 y3 y4 y5 y6 y7) (spec_l7Cost.l2 (k + 1) y0 y1 y2 y3 y4 y5 y6 y7))
 | 0 => ⟨fun _ _ _ _ _ _ _ r h => by simp [spec_l7Cost.l0] at h, fun _ _ _ _ _ _ _ r h => by simp [spec_l7Cost.l1] at h, fun _ _ _ _ _ _ _ _ r h => by simp [spec_l7Cost.l2] at h⟩
 | k + 1 => by
  obtain ⟨ih0, ih1, ih2⟩ := spec_l7Cost.mono_l k
  refine ⟨?_, ?_, ?_⟩
  ·intro y0 y1 y2 y3 y4 y5 y6
   unfold spec_l7Cost.l0
   repeat' first
   | (with_reducible exact ih0 _ _ _ _ _ _ _)
   | (with_reducible exact ih1 _ _ _ _ _ _ _)
   | (with_reducible exact ih2 _ _ _ _ _ _ _ _)
   | (with_reducible exact spec_UnitCost.mono _)
   | (with_reducible exact LeO.refl _)
   | (with_reducible exact LeO.none _)
   | (with_reducible refine LeO.ite ?_ ?_)
   | (with_reducible refine LeO.bind ?_ (fun _ => ?_))
   | exact ih0 _ _ _ _ _ _ _
   | exact ih1 _ _ _ _ _ _ _
   | exact ih2 _ _ _ _ _ _ _ _
   | exact spec_UnitCost.mono _
   | exact LeO.none _
   | refine LeO.ite ?_ ?_
   | refine LeO.bind ?_ (fun _ => ?_)
  ·intro y0 y1 y2 y3 y4 y5 y6
   unfold spec_l7Cost.l1
   repeat' first
   | (with_reducible exact ih0 _ _ _ _ _ _ _)
   | (with_reducible exact ih1 _ _ _ _ _ _ _)
   | (with_reducible exact ih2 _ _ _ _ _ _ _ _)
   | (with_reducible exact spec_UnitCost.mono _)
   | (with_reducible exact LeO.refl _)
   | (with_reducible exact LeO.none _)
   | (with_reducible refine LeO.ite ?_ ?_)
   | (with_reducible refine LeO.bind ?_ (fun _ => ?_))
   | exact ih0 _ _ _ _ _ _ _
   | exact ih1 _ _ _ _ _ _ _
   | exact ih2 _ _ _ _ _ _ _ _
   | exact spec_UnitCost.mono _
   | exact LeO.none _
   | refine LeO.ite ?_ ?_
   | refine LeO.bind ?_ (fun _ => ?_)
  ·intro y0 y1 y2 y3 y4 y5 y6 y7
   unfold spec_l7Cost.l2
   repeat' first
   | (with_reducible exact ih0 _ _ _ _ _ _ _)
   | (with_reducible exact ih1 _ _ _ _ _ _ _)
   | (with_reducible exact ih2 _ _ _ _ _ _ _ _)
   | (with_reducible exact spec_UnitCost.mono _)
   | (with_reducible exact LeO.refl _)
   | (with_reducible exact LeO.none _)
   | (with_reducible refine LeO.ite ?_ ?_)
   | (with_reducible refine LeO.bind ?_ (fun _ => ?_))
   | exact ih0 _ _ _ _ _ _ _
   | exact ih1 _ _ _ _ _ _ _
   | exact ih2 _ _ _ _ _ _ _ _
   | exact spec_UnitCost.mono _
   | exact LeO.none _
   | refine LeO.ite ?_ ?_
   | refine LeO.bind ?_ (fun _ => ?_)
theorem spec_l7Cost.mono : ∀ a0 a1 a2 k, LeO (spec_l7Cost.f k a0 a1 a2) (spec_l7Cost.f (k + 1) a0 a1 a2) := by
 intro a0 a1 a2 k
 obtain ⟨ih0, ih1, ih2⟩ := spec_l7Cost.mono_l k
 unfold spec_l7Cost.f
 repeat' first
   | (with_reducible exact ih0 _ _ _ _ _ _ _)
   | (with_reducible exact ih1 _ _ _ _ _ _ _)
   | (with_reducible exact ih2 _ _ _ _ _ _ _ _)
   | (with_reducible exact spec_UnitCost.mono _)
   | (with_reducible exact LeO.refl _)
   | (with_reducible exact LeO.none _)
   | (with_reducible refine LeO.ite ?_ ?_)
   | (with_reducible refine LeO.bind ?_ (fun _ => ?_))
   | exact ih0 _ _ _ _ _ _ _
   | exact ih1 _ _ _ _ _ _ _
   | exact ih2 _ _ _ _ _ _ _ _
   | exact spec_UnitCost.mono _
   | exact LeO.none _
   | refine LeO.ite ?_ ?_
   | refine LeO.bind ?_ (fun _ => ?_)
def spec_l7Cost.T9 : Bool × List (List Nat × List Nat) := (true, [([], []), ([0], [0]), ([], []), ([], []), ([3], [3]), ([], []), ([4, 5], [4, 5]), ([6], [6]), ([7], [7]), ([1, 2, 0, 1, 2, 3, 4, 5, 6, 7, 8], [1, 2]), ([9, 8, 0, 1, 2, 3, 4, 5, 6, 7, 8], [8, 9])])
def spec_l7Cost.B9 : List Nat := [0, 1, 0, 0, 8, 0, 56, 120, 248, 511, 1023]
theorem spec_l7Cost.tab9 : rtab .any (opsOf Try.f96 9) = spec_l7Cost.T9 := by kernel_rfl
theorem spec_l7Cost.bits9 : waitsOk spec_l7Cost.T9.2 spec_l7Cost.B9 = true := by kernel_rfl
def spec_l7Cost.T20 : Bool × List (List Nat × List Nat) := (true, [([], []), ([0], [0]), ([], []), ([2], [2]), ([], []), ([3, 4], [3, 4]), ([], []), ([], []), ([6, 7], [6, 7]), ([1, 5, 0, 1, 2, 3, 4, 5, 6, 7, 8], [1, 5]), ([9, 8, 8, 0, 1, 2, 3, 4, 5, 6, 7, 8], [8, 9])])
def spec_l7Cost.B20 : List Nat := [0, 1, 0, 4, 0, 28, 0, 0, 192, 511, 1023]
theorem spec_l7Cost.tab20 : rtab .any (opsOf Try.f96 20) = spec_l7Cost.T20 := by kernel_rfl
theorem spec_l7Cost.bits20 : waitsOk spec_l7Cost.T20.2 spec_l7Cost.B20 = true := by kernel_rfl
set_option maxHeartbeats 8000000 in
set_option maxRecDepth 100000 in
theorem spec_l7Cost.calls (k : Nat) (g : Nat) (s0_0 : List Int) (s0_1 : Int) (s0_2 : Int) (r1 : List Int) (r2 : List Int) (r3 : List Int) (r4 : Int) (r5 : Int) (w0 w : World) (hI : IsS104 w0 w g s0_0 s0_1 s0_2) (hB : Below w0.heap.size w0 w) (h : spec_l7Cost.f k s0_0 s0_1 s0_2 = some (r1, r2, r3, r4, r5)) :
  Calls Try.prog 96 #[.pointer (some ⟨g, 0, none⟩)] w fun e w' => ∃ v0_ v1_ v2_ : Value, e = .returned (.agg #[v0_, v1_, v2_]) ∧ Kd.R (Kd.int .i64) 3 w' w.heap.size (fun k_ => some k_ ≠ (v1_ : Value).ownBlock ∧ some k_ ≠ (v2_ : Value).ownBlock) v0_ r1 ∧ Kd.R (Kd.int .i64) 3 w' w.heap.size (fun k_ => some k_ ≠ (v0_ : Value).ownBlock ∧ some k_ ≠ (v2_ : Value).ownBlock) v1_ r2 ∧ Kd.R (Kd.int .i64) 3 w' w.heap.size (fun k_ => some k_ ≠ (v0_ : Value).ownBlock ∧ some k_ ≠ (v1_ : Value).ownBlock) v2_ r3 ∧ IsS104 w0 w' g s0_0 r4 r5 ∧ Below w0.heap.size w0 w' ∧ KeepBut w w' g none := by
 have hu34 := Try.underlying34
 have HI0 := Aside0.mk hI
 have HK := Aside0.mk (KeepBut.refl w g none)
 have HL := Aside0.mk hB.size
 clear hI
 have HW0 := Aside0.mk hB.size
 have HB := Aside0.mk hB
 clear hB
 have H : ((spec_UnitCost.f k).bind fun bt431 => ((spec_l1Below.f s0_0 s0_1 s0_2 4).bind fun bt441 => (if bt441.1 = 0 then (some (bt431.1, bt431.2.1, bt431.2.2, bt441.2.1, bt441.2.2)) else (if bt441.1 = 1 then (spec_l7Cost.l0 k 0 s0_0 bt441.2.1 bt441.2.2 bt431.1 bt431.2.1 bt431.2.2) else (spec_l7Cost.l1 k 0 s0_0 bt441.2.1 bt441.2.2 bt431.1 bt431.2.1 bt431.2.2))))) = some (r1, r2, r3, r4, r5) := h
 clear h
 replace H := Option.bind_eq_some_iff.mp H
 obtain ⟨⟨t431, t434, t437⟩, A20, H⟩ := H
 have A2 := Aside0.mk A20
 clear A20
 replace H := Option.bind_eq_some_iff.mp H
 obtain ⟨⟨t441, t442, t443⟩, A30, H⟩ := H
 have A3 := Aside0.mk A30
 clear A30
 by_cases c4 : t441 = 0
 ·rw [if_pos c4] at H
  have c4b0 : (t441 == 0) = true := beq_iff_eq.mpr c4
  have c4b1 : (t441 != 0) = false := bne_eq_false_iff_eq.mpr c4
  clear c4
  simp only [Option.some.injEq, Prod.mk.injEq] at H
  obtain ⟨rfl, rfl, rfl, rfl, rfl⟩ := H
  go_enter Try.func96, Try.ntmps96
  go_wp2_with (first | ((with_reducible refine gate_dst (N := 2) rfl ?_); refine box_event ?hg (N := 2) ?hd (cs := #[.slice none 0 0, .slice none 0 0, .slice none 0 0]) (t := 34) ?hr ?_; (case hd => rfl); (case hg => rfl); (case hr => first | (go_simp; done) | (go_simp; rfl)); intro gb430 hg w5 hbox hb; replace HB := Aside0.mk (below_step (by repeat (first | (with_reducible first | exact HB.out | apply below_alloc | apply pw_below_drewN | apply below_drew1 | refine below_set ?_ (IsS104.ge HI0.out)) | exact HB.out)) hb); have BK430 := Aside0.mk (hbox); have GW430 := Aside0.mk ((by rw [hg]; exact (keep_size (w := w) (g := g) (row := none) (by repeat (first | (with_reducible first | exact HK.out | apply KeepBut.set_ | apply keep_drewN | apply keep_drew | apply keep_alloc) | exact HK.out))) : w.heap.size ≤ gb430)); have GE430 := Aside0.mk ((Nat.le_trans HW0.out (by rw [hg]; exact (keep_size (w := w) (g := g) (row := none) (by repeat (first | (with_reducible first | exact HK.out | apply KeepBut.set_ | apply keep_drewN | apply keep_drew | apply keep_alloc) | exact HK.out))) : w.heap.size ≤ gb430) : w0.heap.size ≤ gb430)); replace HK := Aside0.mk (KeepBut.trans (by repeat (first | (with_reducible first | exact HK.out | apply KeepBut.set_ | apply keep_drewN | apply keep_drew | apply keep_alloc) | exact HK.out)) (KeepBut.of_below hb g none) (.inl rfl)); have NB0_430 := Aside0.mk ((by rw [hg]; exact Nat.ne_of_lt (IsS104.lt (show IsS104 w0 _ g s0_0 s0_1 s0_2 from by repeat (first | (with_reducible first | exact HI0.out | apply IsS104.alloc | apply IsS104.drewN | apply IsS104.drew | apply IsS104.set_1 | apply IsS104.set_2) | exact HI0.out))) : g ≠ gb430)); have NB430_0 := Aside0.mk ((by rw [hg]; exact Nat.ne_of_gt (IsS104.lt (show IsS104 w0 _ g s0_0 s0_1 s0_2 from by repeat (first | (with_reducible first | exact HI0.out | apply IsS104.alloc | apply IsS104.drewN | apply IsS104.drew | apply IsS104.set_1 | apply IsS104.set_2) | exact HI0.out))) : gb430 ≠ g)); replace HI0 := Aside0.mk (IsS104.below (by repeat (first | (with_reducible first | exact HI0.out | apply IsS104.alloc | apply IsS104.drewN | apply IsS104.drew | apply IsS104.set_1 | apply IsS104.set_2) | exact HI0.out)) hb); clear hb hbox hg) | ((with_reducible refine gate_callee (f := 21) rfl ?_); refine goesL_ (some 7) rfl rfl Try.func21 (by kernel_rfl) rfl #[] rfl (by (try simp only [List.map_toArray, List.map_cons, List.map_nil]); first | done | rfl | (simp only [List.length_drop, List.length_take]; rfl)) ?_; (with_reducible refine (spec_UnitCost.calls k  t431 t434 t437 _ A2.out).mono ?_); rintro e w6 ⟨v432, v435, v438, rfl, ho0, ho1, ho2, hb⟩; refine ⟨_, rfl, ?_⟩; have HO433 := Aside0.mk (Kd.R_lower ho0 (keep_size (w := w) (g := g) (row := none) (by repeat (first | (with_reducible first | exact HK.out | apply KeepBut.set_ | apply keep_drewN | apply keep_drew | apply keep_alloc | refine keep_far ?_ GW430.out _) | exact HK.out)))); have HO436 := Aside0.mk (Kd.R_lower ho1 (keep_size (w := w) (g := g) (row := none) (by repeat (first | (with_reducible first | exact HK.out | apply KeepBut.set_ | apply keep_drewN | apply keep_drew | apply keep_alloc | refine keep_far ?_ GW430.out _) | exact HK.out)))); have HO439 := Aside0.mk (Kd.R_lower ho2 (keep_size (w := w) (g := g) (row := none) (by repeat (first | (with_reducible first | exact HK.out | apply KeepBut.set_ | apply keep_drewN | apply keep_drew | apply keep_alloc | refine keep_far ?_ GW430.out _) | exact HK.out)))); replace BK430 := Aside0.mk (laKb BK430.out hb); replace HK := Aside0.mk (KeepBut.trans (by repeat (first | (with_reducible first | exact HK.out | apply KeepBut.set_ | apply keep_drewN | apply keep_drew | apply keep_alloc | refine keep_far ?_ GW430.out _) | exact HK.out)) (KeepBut.of_below hb g none) (.inl rfl)); replace HB := Aside0.mk (below_step (by repeat (first | (with_reducible first | exact HB.out | apply below_alloc | apply pw_below_drewN | apply below_drew1 | refine below_set ?_ (IsS104.ge HI0.out) | refine below_set ?_ GE430.out) | exact HB.out)) hb); replace HI0 := Aside0.mk (IsS104.below (by repeat (first | (with_reducible first | exact HI0.out | apply IsS104.alloc | apply IsS104.drewN | apply IsS104.drew | apply IsS104.set_1 | apply IsS104.set_2 | refine IsS104.far ?_ NB0_430.out _) | exact HI0.out)) hb); (try clear hb); (try clear hb2); (try clear hk); (try clear hi); (try clear ho0); (try clear ho1); (try clear ho2)) | ((with_reducible refine gate_dst (N := 3) rfl ?_); refine box_event ?hg (N := 3) ?hd (cs := #[.slice none 0 0, .slice none 0 0, .slice none 0 0]) (t := 34) ?hr ?_; (case hd => rfl); (case hg => rfl); (case hr => first | (go_simp; done) | (go_simp; rfl)); intro gb440 hg w7 hbox hb; replace HO433 := Aside0.mk (laRb HO433.out hb); replace HO436 := Aside0.mk (laRb HO436.out hb); replace HO439 := Aside0.mk (laRb HO439.out hb); replace HB := Aside0.mk (below_step (by repeat (first | (with_reducible first | exact HB.out | apply below_alloc | apply pw_below_drewN | apply below_drew1 | refine below_set ?_ (IsS104.ge HI0.out) | refine below_set ?_ GE430.out) | exact HB.out)) hb); have BK440 := Aside0.mk (hbox); have GW440 := Aside0.mk ((by rw [hg]; exact (keep_size (w := w) (g := g) (row := none) (by repeat (first | (with_reducible first | exact HK.out | apply KeepBut.set_ | apply keep_drewN | apply keep_drew | apply keep_alloc | refine keep_far ?_ GW430.out _) | exact HK.out))) : w.heap.size ≤ gb440)); have GE440 := Aside0.mk ((Nat.le_trans HW0.out (by rw [hg]; exact (keep_size (w := w) (g := g) (row := none) (by repeat (first | (with_reducible first | exact HK.out | apply KeepBut.set_ | apply keep_drewN | apply keep_drew | apply keep_alloc | refine keep_far ?_ GW430.out _) | exact HK.out))) : w.heap.size ≤ gb440) : w0.heap.size ≤ gb440)); replace HK := Aside0.mk (KeepBut.trans (by repeat (first | (with_reducible first | exact HK.out | apply KeepBut.set_ | apply keep_drewN | apply keep_drew | apply keep_alloc | refine keep_far ?_ GW430.out _) | exact HK.out)) (KeepBut.of_below hb g none) (.inl rfl)); have NB430_440 := Aside0.mk ((by rw [hg]; exact Nat.ne_of_lt (blk_lt (g := gb430) (o := .cells #[.slice none 0 0, .slice none 0 0, .slice none 0 0] 34 (0, 0)) (laK BK430.out)) : gb430 ≠ gb440)); have NB440_430 := Aside0.mk ((by rw [hg]; exact Nat.ne_of_gt (blk_lt (g := gb430) (o := .cells #[.slice none 0 0, .slice none 0 0, .slice none 0 0] 34 (0, 0)) (laK BK430.out)) : gb440 ≠ gb430)); replace BK430 := Aside0.mk (laKb BK430.out hb); have NB0_440 := Aside0.mk ((by rw [hg]; exact Nat.ne_of_lt (IsS104.lt (show IsS104 w0 _ g s0_0 s0_1 s0_2 from by repeat (first | (with_reducible first | exact HI0.out | apply IsS104.alloc | apply IsS104.drewN | apply IsS104.drew | apply IsS104.set_1 | apply IsS104.set_2 | refine IsS104.far ?_ NB0_430.out _) | exact HI0.out))) : g ≠ gb440)); have NB440_0 := Aside0.mk ((by rw [hg]; exact Nat.ne_of_gt (IsS104.lt (show IsS104 w0 _ g s0_0 s0_1 s0_2 from by repeat (first | (with_reducible first | exact HI0.out | apply IsS104.alloc | apply IsS104.drewN | apply IsS104.drew | apply IsS104.set_1 | apply IsS104.set_2 | refine IsS104.far ?_ NB0_430.out _) | exact HI0.out))) : gb440 ≠ g)); replace HI0 := Aside0.mk (IsS104.below (by repeat (first | (with_reducible first | exact HI0.out | apply IsS104.alloc | apply IsS104.drewN | apply IsS104.drew | apply IsS104.set_1 | apply IsS104.set_2 | refine IsS104.far ?_ NB0_430.out _) | exact HI0.out)) hb); clear hb hbox hg; obtain ⟨Ao8, co8, eo8⟩ := Kd.R_slice HO433.out; subst eo8; have hnb9 := NB440_430.out; have hnc9 := NB430_440.out; have hnb10 := NB440_0.out; have hnc10 := NB0_440.out; have hcz11_0 : w7.cell? ⟨gb440, 0, none⟩ = some (.slice none 0 0) := (blk_cell BK440.out 0).trans rfl; have hcz11_1 : w7.cell? ⟨gb440, 1, none⟩ = some (.slice none 0 0) := (blk_cell BK440.out 1).trans rfl; have hcz11_2 : w7.cell? ⟨gb440, 2, none⟩ = some (.slice none 0 0) := (blk_cell BK440.out 2).trans rfl; have hfz11_0 := blk_frozen BK440.out 0; have hfz11_1 := blk_frozen BK440.out 1; have hfz11_2 := blk_frozen BK440.out 2; obtain ⟨Ao12, co12, eo12⟩ := Kd.R_slice HO436.out; subst eo12; obtain ⟨Ao13, co13, eo13⟩ := Kd.R_slice HO439.out; subst eo13) | ((with_reducible refine gate_callee (f := 87) rfl ?_); refine goesL_ (some 9) rfl rfl Try.func87 (by kernel_rfl) rfl #[.pointer (some ⟨g, 0, none⟩), .int .i64 4] rfl (by (try simp only [List.map_toArray, List.map_cons, List.map_nil]); first | done | rfl | (simp only [List.length_drop, List.length_take]; rfl)) ?_; (with_reducible refine (spec_l1Below.calls g s0_0 s0_1 s0_2 4 t441 t442 t443 w0 _ ?side1 ?side2 A3.out).mono ?_); (case side1 => repeat (first | (with_reducible first | exact HI0.out | apply IsS104.alloc | apply IsS104.drewN | apply IsS104.drew | apply IsS104.set_1 | apply IsS104.set_2 | refine IsS104.far ?_ NB0_430.out _ | refine IsS104.far ?_ NB0_440.out _) | exact HI0.out)); (case side2 => repeat (first | (with_reducible first | exact HB.out | apply below_alloc | apply pw_below_drewN | apply below_drew1 | refine below_set ?_ (IsS104.ge HI0.out) | refine below_set ?_ GE430.out | refine below_set ?_ GE440.out) | exact HB.out)); rintro e w14 ⟨rfl, hi, hb, hk⟩; refine ⟨_, rfl, ?_⟩; replace BK430 := Aside0.mk (KeepBut.blk hk (g' := gb430) (o := .cells #[.slice none 0 0, .slice none 0 0, .slice none 0 0] 34 (0, 0)) (by (with_reducible repeat (first | refine blk_drewN ?_ _ | refine blk_drew ?_ | refine blk_alloc ?_ _)); refine blk_far ?_ NB430_440.out _; (with_reducible repeat (first | refine blk_drewN ?_ _ | refine blk_drew ?_ | refine blk_alloc ?_ _)); refine blk_far ?_ NB430_440.out _; (with_reducible repeat (first | refine blk_drewN ?_ _ | refine blk_drew ?_ | refine blk_alloc ?_ _)); refine blk_far ?_ NB430_440.out _; (with_reducible repeat (first | refine blk_drewN ?_ _ | refine blk_drew ?_ | refine blk_alloc ?_ _)); exact BK430.out) NB430_0.out (by simp)); replace HO433 := Aside0.mk (Kd.R_mono (Kd.R_keep (IsS104.apart (show IsS104 w0 _ g s0_0 s0_1 s0_2 from by repeat (first | (with_reducible first | exact HI0.out | apply IsS104.alloc | apply IsS104.drewN | apply IsS104.drew | apply IsS104.set_1 | apply IsS104.set_2 | refine IsS104.far ?_ NB0_430.out _ | refine IsS104.far ?_ NB0_440.out _) | exact HI0.out)) (laR ((Kd.R_mono (Kd.R_far (p := ⟨gb440, 2, none⟩) (Kd.R_far (p := ⟨gb440, 1, none⟩) (Kd.R_far (p := ⟨gb440, 0, none⟩) (Kd.R_types HO433.out BK440.out (by decide)) (fun _ hk => hk.2) (.slice Ao8 t431.length co8)) (fun _ hk => hk.2) (.slice Ao12 t434.length co12)) (fun _ hk => hk.2) (.slice Ao13 t437.length co13)) (fun _ h_ => h_.1)))) (by decide)) hk (fun _ h => h.2)) (fun _ h => h.1)); replace HO436 := Aside0.mk (Kd.R_mono (Kd.R_keep (IsS104.apart (show IsS104 w0 _ g s0_0 s0_1 s0_2 from by repeat (first | (with_reducible first | exact HI0.out | apply IsS104.alloc | apply IsS104.drewN | apply IsS104.drew | apply IsS104.set_1 | apply IsS104.set_2 | refine IsS104.far ?_ NB0_430.out _ | refine IsS104.far ?_ NB0_440.out _) | exact HI0.out)) (laR ((Kd.R_mono (Kd.R_far (p := ⟨gb440, 2, none⟩) (Kd.R_far (p := ⟨gb440, 1, none⟩) (Kd.R_far (p := ⟨gb440, 0, none⟩) (Kd.R_types HO436.out BK440.out (by decide)) (fun _ hk => hk.2) (.slice Ao8 t431.length co8)) (fun _ hk => hk.2) (.slice Ao12 t434.length co12)) (fun _ hk => hk.2) (.slice Ao13 t437.length co13)) (fun _ h_ => h_.1)))) (by decide)) hk (fun _ h => h.2)) (fun _ h => h.1)); replace HO439 := Aside0.mk (Kd.R_mono (Kd.R_keep (IsS104.apart (show IsS104 w0 _ g s0_0 s0_1 s0_2 from by repeat (first | (with_reducible first | exact HI0.out | apply IsS104.alloc | apply IsS104.drewN | apply IsS104.drew | apply IsS104.set_1 | apply IsS104.set_2 | refine IsS104.far ?_ NB0_430.out _ | refine IsS104.far ?_ NB0_440.out _) | exact HI0.out)) (laR ((Kd.R_mono (Kd.R_far (p := ⟨gb440, 2, none⟩) (Kd.R_far (p := ⟨gb440, 1, none⟩) (Kd.R_far (p := ⟨gb440, 0, none⟩) (Kd.R_types HO439.out BK440.out (by decide)) (fun _ hk => hk.2) (.slice Ao8 t431.length co8)) (fun _ hk => hk.2) (.slice Ao12 t434.length co12)) (fun _ hk => hk.2) (.slice Ao13 t437.length co13)) (fun _ h_ => h_.1)))) (by decide)) hk (fun _ h => h.2)) (fun _ h => h.1)); replace BK440 := Aside0.mk (KeepBut.blk hk (g' := gb440) (o := .cells #[.slice Ao8 t431.length co8, .slice Ao12 t434.length co12, .slice Ao13 t437.length co13] 34 (0, 0)) (by (with_reducible repeat (first | refine blk_drewN ?_ _ | refine blk_drew ?_ | refine blk_alloc ?_ _)); refine blk_put (cs := #[.slice Ao8 t431.length co8, .slice Ao12 t434.length co12, .slice none 0 0]) ?_ 2 _ rfl; (with_reducible repeat (first | refine blk_drewN ?_ _ | refine blk_drew ?_ | refine blk_alloc ?_ _)); refine blk_put (cs := #[.slice Ao8 t431.length co8, .slice none 0 0, .slice none 0 0]) ?_ 1 _ rfl; (with_reducible repeat (first | refine blk_drewN ?_ _ | refine blk_drew ?_ | refine blk_alloc ?_ _)); refine blk_put (cs := #[.slice none 0 0, .slice none 0 0, .slice none 0 0]) ?_ 0 _ rfl; (with_reducible repeat (first | refine blk_drewN ?_ _ | refine blk_drew ?_ | refine blk_alloc ?_ _)); exact BK440.out) NB440_0.out (by simp)); replace HK := Aside0.mk (KeepBut.trans (by repeat (first | (with_reducible first | exact HK.out | apply KeepBut.set_ | apply keep_drewN | apply keep_drew | apply keep_alloc | refine keep_far ?_ GW430.out _ | refine keep_far ?_ GW440.out _) | exact HK.out)) hk (.inl rfl)); replace HB := Aside0.mk (hb); replace HI0 := Aside0.mk (hi); (try clear hb); (try clear hb2); (try clear hk); (try clear hi); have hcz15_0 : w14.cell? ⟨gb440, 0, none⟩ = some (.slice Ao8 t431.length co8) := (blk_cell BK440.out 0).trans rfl; have hcz15_1 : w14.cell? ⟨gb440, 1, none⟩ = some (.slice Ao12 t434.length co12) := (blk_cell BK440.out 1).trans rfl; have hcz15_2 : w14.cell? ⟨gb440, 2, none⟩ = some (.slice Ao13 t437.length co13) := (blk_cell BK440.out 2).trans rfl; have hfz15_0 := blk_frozen BK440.out 0; have hfz15_1 := blk_frozen BK440.out 1; have hfz15_2 := blk_frozen BK440.out 2; have hnb16 := NB430_0.out; have hnc16 := NB0_430.out; have hcz17_0 : w14.cell? ⟨gb430, 0, none⟩ = some (.slice none 0 0) := (blk_cell BK430.out 0).trans rfl; have hcz17_1 : w14.cell? ⟨gb430, 1, none⟩ = some (.slice none 0 0) := (blk_cell BK430.out 1).trans rfl; have hcz17_2 : w14.cell? ⟨gb430, 2, none⟩ = some (.slice none 0 0) := (blk_cell BK430.out 2).trans rfl; have hfz17_0 := blk_frozen BK430.out 0; have hfz17_1 := blk_frozen BK430.out 1; have hfz17_2 := blk_frozen BK430.out 2))
  refine bodyPost_ret (results_cell_row rfl _ _ gb430 34 #[.slice Ao8 t431.length co8, .slice Ao12 t434.length co12, .slice Ao13 t437.length co13] (0, 0) _ rfl (by (with_reducible repeat (first | refine blk_drewN ?_ _ | refine blk_drew ?_ | refine blk_alloc ?_ _)); refine blk_put (cs := #[.slice Ao8 t431.length co8, .slice Ao12 t434.length co12, .slice none 0 0]) ?_ 2 _ rfl; (with_reducible repeat (first | refine blk_drewN ?_ _ | refine blk_drew ?_ | refine blk_alloc ?_ _)); refine blk_put (cs := #[.slice Ao8 t431.length co8, .slice none 0 0, .slice none 0 0]) ?_ 1 _ rfl; (with_reducible repeat (first | refine blk_drewN ?_ _ | refine blk_drew ?_ | refine blk_alloc ?_ _)); refine blk_put (cs := #[.slice none 0 0, .slice none 0 0, .slice none 0 0]) ?_ 0 _ rfl; (with_reducible repeat (first | refine blk_drewN ?_ _ | refine blk_drew ?_ | refine blk_alloc ?_ _)); exact BK430.out) Try.underlying34 rfl (by kernel_rfl)) rfl ?_
  exact ⟨_, _, _, by first | rfl | (simp [errW_none, errW_some] <;> rfl) | (simp [*, errW_none, errW_some] <;> rfl), by (with_reducible repeat (first | apply Kd.R_alloc | apply Kd.R_drewN | apply Kd.R_drew)); exact Kd.R_mono (Kd.R_far (p := ⟨gb430, 2, none⟩) (Kd.R_far (p := ⟨gb430, 1, none⟩) (Kd.R_far (p := ⟨gb430, 0, none⟩) (Kd.R_types HO433.out BK430.out (by decide)) (fun _ hk => hk.2) (.slice Ao8 t431.length co8)) (fun _ hk => hk.2) (.slice Ao12 t434.length co12)) (fun _ hk => hk.2) (.slice Ao13 t437.length co13)) (fun _ hk => ⟨hk.1.1, hk.1.2⟩), by (with_reducible repeat (first | apply Kd.R_alloc | apply Kd.R_drewN | apply Kd.R_drew)); exact Kd.R_mono (Kd.R_far (p := ⟨gb430, 2, none⟩) (Kd.R_far (p := ⟨gb430, 1, none⟩) (Kd.R_far (p := ⟨gb430, 0, none⟩) (Kd.R_types HO436.out BK430.out (by decide)) (fun _ hk => hk.2) (.slice Ao8 t431.length co8)) (fun _ hk => hk.2) (.slice Ao12 t434.length co12)) (fun _ hk => hk.2) (.slice Ao13 t437.length co13)) (fun _ hk => ⟨hk.1.1, hk.1.2⟩), by (with_reducible repeat (first | apply Kd.R_alloc | apply Kd.R_drewN | apply Kd.R_drew)); exact Kd.R_mono (Kd.R_far (p := ⟨gb430, 2, none⟩) (Kd.R_far (p := ⟨gb430, 1, none⟩) (Kd.R_far (p := ⟨gb430, 0, none⟩) (Kd.R_types HO439.out BK430.out (by decide)) (fun _ hk => hk.2) (.slice Ao8 t431.length co8)) (fun _ hk => hk.2) (.slice Ao12 t434.length co12)) (fun _ hk => hk.2) (.slice Ao13 t437.length co13)) (fun _ hk => ⟨hk.1.1, hk.1.2⟩), by repeat (first | (with_reducible first | exact HI0.out | apply IsS104.alloc | apply IsS104.drewN | apply IsS104.drew | apply IsS104.set_1 | apply IsS104.set_2 | refine IsS104.far ?_ NB0_430.out _ | refine IsS104.far ?_ NB0_440.out _) | exact HI0.out), by repeat (first | (with_reducible first | exact HB.out | apply below_alloc | apply pw_below_drewN | apply below_drew1 | refine below_set ?_ (IsS104.ge HI0.out) | refine below_set ?_ GE430.out | refine below_set ?_ GE440.out) | exact HB.out), by repeat (first | (with_reducible first | exact HK.out | apply KeepBut.set_ | apply keep_drewN | apply keep_drew | apply keep_alloc | refine keep_far ?_ GW430.out _ | refine keep_far ?_ GW440.out _) | exact HK.out)⟩
 ·rw [if_neg c4] at H
  have c4b0 : (t441 == 0) = false := beq_eq_false_iff_ne.mpr c4
  have c4b1 : (t441 != 0) = true := bne_iff_ne.mpr c4
  by_cases c18 : t441 = 1
  ·rw [if_pos c18] at H
   have c18b0 : (t441 == 1) = true := beq_iff_eq.mpr c18
   have c18b1 : (t441 != 1) = false := bne_eq_false_iff_eq.mpr c18
   clear c18
   have H' := Aside0.mk H
   clear H
   go_enter Try.func96, Try.ntmps96
   go_wp2_with (first | ((with_reducible refine gate_dst (N := 2) rfl ?_); refine box_event ?hg (N := 2) ?hd (cs := #[.slice none 0 0, .slice none 0 0, .slice none 0 0]) (t := 34) ?hr ?_; (case hd => rfl); (case hg => rfl); (case hr => first | (go_simp; done) | (go_simp; rfl)); intro gb430 hg w19 hbox hb; replace HB := Aside0.mk (below_step (by repeat (first | (with_reducible first | exact HB.out | apply below_alloc | apply pw_below_drewN | apply below_drew1 | refine below_set ?_ (IsS104.ge HI0.out)) | exact HB.out)) hb); have BK430 := Aside0.mk (hbox); have GW430 := Aside0.mk ((by rw [hg]; exact (keep_size (w := w) (g := g) (row := none) (by repeat (first | (with_reducible first | exact HK.out | apply KeepBut.set_ | apply keep_drewN | apply keep_drew | apply keep_alloc) | exact HK.out))) : w.heap.size ≤ gb430)); have GE430 := Aside0.mk ((Nat.le_trans HW0.out (by rw [hg]; exact (keep_size (w := w) (g := g) (row := none) (by repeat (first | (with_reducible first | exact HK.out | apply KeepBut.set_ | apply keep_drewN | apply keep_drew | apply keep_alloc) | exact HK.out))) : w.heap.size ≤ gb430) : w0.heap.size ≤ gb430)); replace HK := Aside0.mk (KeepBut.trans (by repeat (first | (with_reducible first | exact HK.out | apply KeepBut.set_ | apply keep_drewN | apply keep_drew | apply keep_alloc) | exact HK.out)) (KeepBut.of_below hb g none) (.inl rfl)); have NB0_430 := Aside0.mk ((by rw [hg]; exact Nat.ne_of_lt (IsS104.lt (show IsS104 w0 _ g s0_0 s0_1 s0_2 from by repeat (first | (with_reducible first | exact HI0.out | apply IsS104.alloc | apply IsS104.drewN | apply IsS104.drew | apply IsS104.set_1 | apply IsS104.set_2) | exact HI0.out))) : g ≠ gb430)); have NB430_0 := Aside0.mk ((by rw [hg]; exact Nat.ne_of_gt (IsS104.lt (show IsS104 w0 _ g s0_0 s0_1 s0_2 from by repeat (first | (with_reducible first | exact HI0.out | apply IsS104.alloc | apply IsS104.drewN | apply IsS104.drew | apply IsS104.set_1 | apply IsS104.set_2) | exact HI0.out))) : gb430 ≠ g)); replace HI0 := Aside0.mk (IsS104.below (by repeat (first | (with_reducible first | exact HI0.out | apply IsS104.alloc | apply IsS104.drewN | apply IsS104.drew | apply IsS104.set_1 | apply IsS104.set_2) | exact HI0.out)) hb); clear hb hbox hg) | ((with_reducible refine gate_callee (f := 21) rfl ?_); refine goesL_ (some 7) rfl rfl Try.func21 (by kernel_rfl) rfl #[] rfl (by (try simp only [List.map_toArray, List.map_cons, List.map_nil]); first | done | rfl | (simp only [List.length_drop, List.length_take]; rfl)) ?_; (with_reducible refine (spec_UnitCost.calls k  t431 t434 t437 _ A2.out).mono ?_); rintro e w20 ⟨v432, v435, v438, rfl, ho0, ho1, ho2, hb⟩; refine ⟨_, rfl, ?_⟩; have HO433 := Aside0.mk (Kd.R_lower ho0 (keep_size (w := w) (g := g) (row := none) (by repeat (first | (with_reducible first | exact HK.out | apply KeepBut.set_ | apply keep_drewN | apply keep_drew | apply keep_alloc | refine keep_far ?_ GW430.out _) | exact HK.out)))); have HO436 := Aside0.mk (Kd.R_lower ho1 (keep_size (w := w) (g := g) (row := none) (by repeat (first | (with_reducible first | exact HK.out | apply KeepBut.set_ | apply keep_drewN | apply keep_drew | apply keep_alloc | refine keep_far ?_ GW430.out _) | exact HK.out)))); have HO439 := Aside0.mk (Kd.R_lower ho2 (keep_size (w := w) (g := g) (row := none) (by repeat (first | (with_reducible first | exact HK.out | apply KeepBut.set_ | apply keep_drewN | apply keep_drew | apply keep_alloc | refine keep_far ?_ GW430.out _) | exact HK.out)))); replace BK430 := Aside0.mk (laKb BK430.out hb); replace HK := Aside0.mk (KeepBut.trans (by repeat (first | (with_reducible first | exact HK.out | apply KeepBut.set_ | apply keep_drewN | apply keep_drew | apply keep_alloc | refine keep_far ?_ GW430.out _) | exact HK.out)) (KeepBut.of_below hb g none) (.inl rfl)); replace HB := Aside0.mk (below_step (by repeat (first | (with_reducible first | exact HB.out | apply below_alloc | apply pw_below_drewN | apply below_drew1 | refine below_set ?_ (IsS104.ge HI0.out) | refine below_set ?_ GE430.out) | exact HB.out)) hb); replace HI0 := Aside0.mk (IsS104.below (by repeat (first | (with_reducible first | exact HI0.out | apply IsS104.alloc | apply IsS104.drewN | apply IsS104.drew | apply IsS104.set_1 | apply IsS104.set_2 | refine IsS104.far ?_ NB0_430.out _) | exact HI0.out)) hb); (try clear hb); (try clear hb2); (try clear hk); (try clear hi); (try clear ho0); (try clear ho1); (try clear ho2)) | ((with_reducible refine gate_dst (N := 3) rfl ?_); refine box_event ?hg (N := 3) ?hd (cs := #[.slice none 0 0, .slice none 0 0, .slice none 0 0]) (t := 34) ?hr ?_; (case hd => rfl); (case hg => rfl); (case hr => first | (go_simp; done) | (go_simp; rfl)); intro gb440 hg w21 hbox hb; replace HO433 := Aside0.mk (laRb HO433.out hb); replace HO436 := Aside0.mk (laRb HO436.out hb); replace HO439 := Aside0.mk (laRb HO439.out hb); replace HB := Aside0.mk (below_step (by repeat (first | (with_reducible first | exact HB.out | apply below_alloc | apply pw_below_drewN | apply below_drew1 | refine below_set ?_ (IsS104.ge HI0.out) | refine below_set ?_ GE430.out) | exact HB.out)) hb); have BK440 := Aside0.mk (hbox); have GW440 := Aside0.mk ((by rw [hg]; exact (keep_size (w := w) (g := g) (row := none) (by repeat (first | (with_reducible first | exact HK.out | apply KeepBut.set_ | apply keep_drewN | apply keep_drew | apply keep_alloc | refine keep_far ?_ GW430.out _) | exact HK.out))) : w.heap.size ≤ gb440)); have GE440 := Aside0.mk ((Nat.le_trans HW0.out (by rw [hg]; exact (keep_size (w := w) (g := g) (row := none) (by repeat (first | (with_reducible first | exact HK.out | apply KeepBut.set_ | apply keep_drewN | apply keep_drew | apply keep_alloc | refine keep_far ?_ GW430.out _) | exact HK.out))) : w.heap.size ≤ gb440) : w0.heap.size ≤ gb440)); replace HK := Aside0.mk (KeepBut.trans (by repeat (first | (with_reducible first | exact HK.out | apply KeepBut.set_ | apply keep_drewN | apply keep_drew | apply keep_alloc | refine keep_far ?_ GW430.out _) | exact HK.out)) (KeepBut.of_below hb g none) (.inl rfl)); have NB430_440 := Aside0.mk ((by rw [hg]; exact Nat.ne_of_lt (blk_lt (g := gb430) (o := .cells #[.slice none 0 0, .slice none 0 0, .slice none 0 0] 34 (0, 0)) (laK BK430.out)) : gb430 ≠ gb440)); have NB440_430 := Aside0.mk ((by rw [hg]; exact Nat.ne_of_gt (blk_lt (g := gb430) (o := .cells #[.slice none 0 0, .slice none 0 0, .slice none 0 0] 34 (0, 0)) (laK BK430.out)) : gb440 ≠ gb430)); replace BK430 := Aside0.mk (laKb BK430.out hb); have NB0_440 := Aside0.mk ((by rw [hg]; exact Nat.ne_of_lt (IsS104.lt (show IsS104 w0 _ g s0_0 s0_1 s0_2 from by repeat (first | (with_reducible first | exact HI0.out | apply IsS104.alloc | apply IsS104.drewN | apply IsS104.drew | apply IsS104.set_1 | apply IsS104.set_2 | refine IsS104.far ?_ NB0_430.out _) | exact HI0.out))) : g ≠ gb440)); have NB440_0 := Aside0.mk ((by rw [hg]; exact Nat.ne_of_gt (IsS104.lt (show IsS104 w0 _ g s0_0 s0_1 s0_2 from by repeat (first | (with_reducible first | exact HI0.out | apply IsS104.alloc | apply IsS104.drewN | apply IsS104.drew | apply IsS104.set_1 | apply IsS104.set_2 | refine IsS104.far ?_ NB0_430.out _) | exact HI0.out))) : gb440 ≠ g)); replace HI0 := Aside0.mk (IsS104.below (by repeat (first | (with_reducible first | exact HI0.out | apply IsS104.alloc | apply IsS104.drewN | apply IsS104.drew | apply IsS104.set_1 | apply IsS104.set_2 | refine IsS104.far ?_ NB0_430.out _) | exact HI0.out)) hb); clear hb hbox hg; obtain ⟨Ao22, co22, eo22⟩ := Kd.R_slice HO433.out; subst eo22; have hnb23 := NB440_430.out; have hnc23 := NB430_440.out; have hnb24 := NB440_0.out; have hnc24 := NB0_440.out; have hcz25_0 : w21.cell? ⟨gb440, 0, none⟩ = some (.slice none 0 0) := (blk_cell BK440.out 0).trans rfl; have hcz25_1 : w21.cell? ⟨gb440, 1, none⟩ = some (.slice none 0 0) := (blk_cell BK440.out 1).trans rfl; have hcz25_2 : w21.cell? ⟨gb440, 2, none⟩ = some (.slice none 0 0) := (blk_cell BK440.out 2).trans rfl; have hfz25_0 := blk_frozen BK440.out 0; have hfz25_1 := blk_frozen BK440.out 1; have hfz25_2 := blk_frozen BK440.out 2; obtain ⟨Ao26, co26, eo26⟩ := Kd.R_slice HO436.out; subst eo26; obtain ⟨Ao27, co27, eo27⟩ := Kd.R_slice HO439.out; subst eo27) | ((with_reducible refine gate_callee (f := 87) rfl ?_); refine goesL_ (some 9) rfl rfl Try.func87 (by kernel_rfl) rfl #[.pointer (some ⟨g, 0, none⟩), .int .i64 4] rfl (by (try simp only [List.map_toArray, List.map_cons, List.map_nil]); first | done | rfl | (simp only [List.length_drop, List.length_take]; rfl)) ?_; (with_reducible refine (spec_l1Below.calls g s0_0 s0_1 s0_2 4 t441 t442 t443 w0 _ ?side1 ?side2 A3.out).mono ?_); (case side1 => repeat (first | (with_reducible first | exact HI0.out | apply IsS104.alloc | apply IsS104.drewN | apply IsS104.drew | apply IsS104.set_1 | apply IsS104.set_2 | refine IsS104.far ?_ NB0_430.out _ | refine IsS104.far ?_ NB0_440.out _) | exact HI0.out)); (case side2 => repeat (first | (with_reducible first | exact HB.out | apply below_alloc | apply pw_below_drewN | apply below_drew1 | refine below_set ?_ (IsS104.ge HI0.out) | refine below_set ?_ GE430.out | refine below_set ?_ GE440.out) | exact HB.out)); rintro e w28 ⟨rfl, hi, hb, hk⟩; refine ⟨_, rfl, ?_⟩; replace BK430 := Aside0.mk (KeepBut.blk hk (g' := gb430) (o := .cells #[.slice none 0 0, .slice none 0 0, .slice none 0 0] 34 (0, 0)) (by (with_reducible repeat (first | refine blk_drewN ?_ _ | refine blk_drew ?_ | refine blk_alloc ?_ _)); refine blk_far ?_ NB430_440.out _; (with_reducible repeat (first | refine blk_drewN ?_ _ | refine blk_drew ?_ | refine blk_alloc ?_ _)); refine blk_far ?_ NB430_440.out _; (with_reducible repeat (first | refine blk_drewN ?_ _ | refine blk_drew ?_ | refine blk_alloc ?_ _)); refine blk_far ?_ NB430_440.out _; (with_reducible repeat (first | refine blk_drewN ?_ _ | refine blk_drew ?_ | refine blk_alloc ?_ _)); exact BK430.out) NB430_0.out (by simp)); replace HO433 := Aside0.mk (Kd.R_mono (Kd.R_keep (IsS104.apart (show IsS104 w0 _ g s0_0 s0_1 s0_2 from by repeat (first | (with_reducible first | exact HI0.out | apply IsS104.alloc | apply IsS104.drewN | apply IsS104.drew | apply IsS104.set_1 | apply IsS104.set_2 | refine IsS104.far ?_ NB0_430.out _ | refine IsS104.far ?_ NB0_440.out _) | exact HI0.out)) (laR ((Kd.R_mono (Kd.R_far (p := ⟨gb440, 2, none⟩) (Kd.R_far (p := ⟨gb440, 1, none⟩) (Kd.R_far (p := ⟨gb440, 0, none⟩) (Kd.R_types HO433.out BK440.out (by decide)) (fun _ hk => hk.2) (.slice Ao22 t431.length co22)) (fun _ hk => hk.2) (.slice Ao26 t434.length co26)) (fun _ hk => hk.2) (.slice Ao27 t437.length co27)) (fun _ h_ => h_.1)))) (by decide)) hk (fun _ h => h.2)) (fun _ h => h.1)); replace HO436 := Aside0.mk (Kd.R_mono (Kd.R_keep (IsS104.apart (show IsS104 w0 _ g s0_0 s0_1 s0_2 from by repeat (first | (with_reducible first | exact HI0.out | apply IsS104.alloc | apply IsS104.drewN | apply IsS104.drew | apply IsS104.set_1 | apply IsS104.set_2 | refine IsS104.far ?_ NB0_430.out _ | refine IsS104.far ?_ NB0_440.out _) | exact HI0.out)) (laR ((Kd.R_mono (Kd.R_far (p := ⟨gb440, 2, none⟩) (Kd.R_far (p := ⟨gb440, 1, none⟩) (Kd.R_far (p := ⟨gb440, 0, none⟩) (Kd.R_types HO436.out BK440.out (by decide)) (fun _ hk => hk.2) (.slice Ao22 t431.length co22)) (fun _ hk => hk.2) (.slice Ao26 t434.length co26)) (fun _ hk => hk.2) (.slice Ao27 t437.length co27)) (fun _ h_ => h_.1)))) (by decide)) hk (fun _ h => h.2)) (fun _ h => h.1)); replace HO439 := Aside0.mk (Kd.R_mono (Kd.R_keep (IsS104.apart (show IsS104 w0 _ g s0_0 s0_1 s0_2 from by repeat (first | (with_reducible first | exact HI0.out | apply IsS104.alloc | apply IsS104.drewN | apply IsS104.drew | apply IsS104.set_1 | apply IsS104.set_2 | refine IsS104.far ?_ NB0_430.out _ | refine IsS104.far ?_ NB0_440.out _) | exact HI0.out)) (laR ((Kd.R_mono (Kd.R_far (p := ⟨gb440, 2, none⟩) (Kd.R_far (p := ⟨gb440, 1, none⟩) (Kd.R_far (p := ⟨gb440, 0, none⟩) (Kd.R_types HO439.out BK440.out (by decide)) (fun _ hk => hk.2) (.slice Ao22 t431.length co22)) (fun _ hk => hk.2) (.slice Ao26 t434.length co26)) (fun _ hk => hk.2) (.slice Ao27 t437.length co27)) (fun _ h_ => h_.1)))) (by decide)) hk (fun _ h => h.2)) (fun _ h => h.1)); replace BK440 := Aside0.mk (KeepBut.blk hk (g' := gb440) (o := .cells #[.slice Ao22 t431.length co22, .slice Ao26 t434.length co26, .slice Ao27 t437.length co27] 34 (0, 0)) (by (with_reducible repeat (first | refine blk_drewN ?_ _ | refine blk_drew ?_ | refine blk_alloc ?_ _)); refine blk_put (cs := #[.slice Ao22 t431.length co22, .slice Ao26 t434.length co26, .slice none 0 0]) ?_ 2 _ rfl; (with_reducible repeat (first | refine blk_drewN ?_ _ | refine blk_drew ?_ | refine blk_alloc ?_ _)); refine blk_put (cs := #[.slice Ao22 t431.length co22, .slice none 0 0, .slice none 0 0]) ?_ 1 _ rfl; (with_reducible repeat (first | refine blk_drewN ?_ _ | refine blk_drew ?_ | refine blk_alloc ?_ _)); refine blk_put (cs := #[.slice none 0 0, .slice none 0 0, .slice none 0 0]) ?_ 0 _ rfl; (with_reducible repeat (first | refine blk_drewN ?_ _ | refine blk_drew ?_ | refine blk_alloc ?_ _)); exact BK440.out) NB440_0.out (by simp)); replace HK := Aside0.mk (KeepBut.trans (by repeat (first | (with_reducible first | exact HK.out | apply KeepBut.set_ | apply keep_drewN | apply keep_drew | apply keep_alloc | refine keep_far ?_ GW430.out _ | refine keep_far ?_ GW440.out _) | exact HK.out)) hk (.inl rfl)); replace HB := Aside0.mk (hb); replace HI0 := Aside0.mk (hi); (try clear hb); (try clear hb2); (try clear hk); (try clear hi)))
   go_loopg [4] k (fun kq v4 w' => ∃ (x4_1 : Int) (x441000_1 : List Int) (x441001_1 : List Int) (x441002_1 : List Int) (u441000 : Value) (u441001 : Value) (u441002 : Value), v4 = .int .i64 x4_1 ∧ Aside0 (spec_l7Cost.l0 kq x4_1 s0_0 t442 t443 x441000_1 x441001_1 x441002_1 = some (r1, r2, r3, r4, r5)) ∧ Aside0 (kq ≤ k) ∧ Aside0 (Kd.R (Kd.int .i64) 3 w' w.heap.size (fun k_ => some k_ ≠ (u441001 : Value).ownBlock ∧ some k_ ≠ (u441002 : Value).ownBlock) u441000 x441000_1) ∧ Aside0 (Kd.R (Kd.int .i64) 3 w' w.heap.size (fun k_ => some k_ ≠ (u441000 : Value).ownBlock ∧ some k_ ≠ (u441002 : Value).ownBlock) u441001 x441001_1) ∧ Aside0 (Kd.R (Kd.int .i64) 3 w' w.heap.size (fun k_ => some k_ ≠ (u441000 : Value).ownBlock ∧ some k_ ≠ (u441001 : Value).ownBlock) u441002 x441002_1) ∧ Aside0 (w'.heap[gb430]? = some (.cells #[(.slice none 0 0), (.slice none 0 0), (.slice none 0 0)] 34 (0, 0))) ∧ Aside0 (w'.heap[gb440]? = some (.cells #[u441000, u441001, u441002] 34 (0, 0))) ∧ Aside0 (IsS104 w0 w' g s0_0 t442 t443) ∧ Aside0 (KeepBut w w' g none) ∧ Aside0 (Below w0.heap.size w0 w'))
   case atStart => exact ⟨(0), (t431), (t434), (t437), (.slice Ao22 t431.length co22), (.slice Ao26 t434.length co26), (.slice Ao27 t437.length co27), (by first | rfl | (simp; done) | (simp [*]; done)), H', ⟨Nat.le_refl _⟩, ⟨laR HO433.out⟩, ⟨laR HO436.out⟩, ⟨laR HO439.out⟩, ⟨laK BK430.out⟩, ⟨laK BK440.out⟩, ⟨by repeat (first | (with_reducible first | exact HI0.out | apply IsS104.alloc | apply IsS104.drewN | apply IsS104.drew | apply IsS104.set_1 | apply IsS104.set_2 | refine IsS104.far ?_ NB0_430.out _ | refine IsS104.far ?_ NB0_440.out _) | exact HI0.out)⟩, ⟨by repeat (first | (with_reducible first | exact HK.out | apply KeepBut.set_ | apply keep_drewN | apply keep_drew | apply keep_alloc | refine keep_far ?_ GW430.out _ | refine keep_far ?_ GW440.out _) | exact HK.out)⟩, ⟨by repeat (first | (with_reducible first | exact HB.out | apply below_alloc | apply pw_below_drewN | apply below_drew1 | refine below_set ?_ (IsS104.ge HI0.out) | refine below_set ?_ GE430.out | refine below_set ?_ GE440.out) | exact HB.out)⟩⟩
   case round =>
    clear H'
    try clear c1
    try clear c2
    try clear p2
    try clear c4
    try clear c4b0
    try clear c4b1
    try clear c8
    try clear c9
    try clear c10
    try clear c16
    try clear c18
    try clear c18b0
    try clear c18b1
    try clear c21
    try clear c23
    try clear c24
    try clear hcz11_0
    try clear hcz11_1
    try clear hcz11_2
    try clear hcz15_0
    try clear hcz15_1
    try clear hcz15_2
    try clear hcz17_0
    try clear hcz17_1
    try clear hcz17_2
    try clear hcz25_0
    try clear hcz25_1
    try clear hcz25_2
    try clear hfz11_0
    try clear hfz11_1
    try clear hfz11_2
    try clear hfz15_0
    try clear hfz15_1
    try clear hfz15_2
    try clear hfz17_0
    try clear hfz17_1
    try clear hfz17_2
    try clear hfz25_0
    try clear hfz25_1
    try clear hfz25_2
    obtain ⟨x4_1, x441000_1, x441001_1, x441002_1, u441000, u441001, u441002, rfl, HA, HK1, HO_441000, HO_441001, HO_441002, BK430, BK440, HI0, HK, HB⟩ := hrel
    cases gk with
    | zero => exact absurd HA.out (by simp [spec_l7Cost.l0])
    | succ k1 =>
     have H := HA.out
     clear HA
     simp only [spec_l7Cost.l0] at H
     by_cases c29 : x4_1 < (x441002_1.length : Int)
     ·rw [if_pos c29] at H
      have c29b0 : decide (x4_1 < (x441002_1.length : Int)) = true := decide_eq_true c29
      clear c29
      by_cases c30 : 0 ≤ x4_1
      ·rw [if_pos c30] at H
       have c30b0 : decide (0 ≤ x4_1) = true := decide_eq_true c30
       clear c30
       obtain ⟨y445, hy445⟩ : ∃ y_ : List Int, y_ = (x441002_1.set (x4_1 : Int).toNat (wrap64 ((rd x441002_1 x4_1) * 3))) := ⟨_, rfl⟩
       replace H : (spec_l7Cost.l0 k1 (wrap64 (x4_1 + 1)) s0_0 t442 t443 x441000_1 x441001_1 y445) = some (r1, r2, r3, r4, r5) := by first | (rw [hy445]; with_reducible exact H) | (have H2_ := (Option.bind_some _ _).symm.trans H; rw [hy445]; with_reducible exact H2_) | (have H2_ := (Option.bind_some _ _).symm.trans H; with_reducible exact H2_) | with_reducible exact H | (rw [hy445]; exact H) | exact H
       have Ny445 := Aside0.mk hy445
       clear hy445
       have H' := Aside0.mk H
       clear H
       have hnb32 := NB440_430.out
       have hnc32 := NB430_440.out
       have hnb33 := NB440_0.out
       have hnc33 := NB0_440.out
       have hcz34_0 : wr.cell? ⟨gb440, 0, none⟩ = some (u441000) := (blk_cell BK440.out 0).trans rfl
       have hcz34_1 : wr.cell? ⟨gb440, 1, none⟩ = some (u441001) := (blk_cell BK440.out 1).trans rfl
       have hcz34_2 : wr.cell? ⟨gb440, 2, none⟩ = some (u441002) := (blk_cell BK440.out 2).trans rfl
       have hfz34_0 := blk_frozen BK440.out 0
       have hfz34_1 := blk_frozen BK440.out 1
       have hfz34_2 := blk_frozen BK440.out 2
       obtain ⟨Ao35, co35, eo35⟩ := Kd.R_slice HO_441002.out
       subst eo35
       try go_wp2
       replace HO_441000 := Aside0.mk (Kd.R_drew HO_441000.out)
       replace HO_441001 := Aside0.mk (Kd.R_drew HO_441001.out)
       replace HO_441002 := Aside0.mk (Kd.R_drew HO_441002.out)
       replace BK430 := Aside0.mk (blk_drew BK430.out)
       replace BK440 := Aside0.mk (blk_drew BK440.out)
       replace HI0 := Aside0.mk (IsS104.drew HI0.out)
       replace HK := Aside0.mk (keep_drew HK.out)
       replace HB := Aside0.mk (below_drew1 HB.out)
       have p444 : 0 ≤ (x4_1 : Int) := of_decide_eq_true (by first | (with_reducible assumption) | assumption)
       have q444 : x4_1 < (x441002_1.length : Int) := of_decide_eq_true (by first | (with_reducible assumption) | assumption)
       obtain ⟨ad444, e444, hx444_0⟩ := Kd.at_int (Kd.R_reads' HO_441002.out).2.2 x4_1 p444 q444
       cases e444
       replace p444 := eq_true p444
       replace q444 := eq_true q444
       have p31 : 0 ≤ (x4_1 : Int) := of_decide_eq_true (by first | (with_reducible assumption) | assumption)
       have q31 : (x4_1 : Int) < ((x441002_1.length : Int) : Int) := of_decide_eq_true (by first | (with_reducible assumption) | assumption)
       obtain ⟨go31, co31, eo31, gb31, gl31, cl31, HG31⟩ := Kd.R_form HO_441002.out (by omega)
       (first | cases eo31 | (injection eo31 with ea_ en_ ec_; (first | subst ea_ | (injection ea_ with ea_; subst ea_)); subst ec_; clear en_))
       have GB31 := Aside0.mk gb31
       have GG31 := Aside0.mk HG31
       clear gb31 gl31 HG31
       (first | simp only [add_plain] at hx444_0 | skip)
       obtain ⟨hx31_0, hf31_0⟩ := Kd.R_celln 0 HO_441002.out (x4_1 : Int) p31 q31
       replace p31 := eq_true p31
       replace q31 := eq_true q31
       have HN0_go31 := Aside0.mk (show g ≠ go31 from by have h_ := IsS104.own_ne HI0.out HO_441002.out (by decide); intro e_; exact h_ (by rw [e_]; rfl))
       have HP37 := Kd.R_putn HO_441002.out (x4_1 : Int) (wrap64 ((rd x441002_1 x4_1) * 3))
       rw [← Ny445.out] at HP37
       have HQ37 := Aside0.mk HP37
       clear HP37
       refine start_ (n := 11) (S := fun w' => w'.cell? ⟨gb440, 0, none⟩ = some (u441000) ∧ w'.cell? ⟨gb440, 1, none⟩ = some (u441001) ∧ w'.cell? ⟨gb440, 2, none⟩ = some (.slice (some ⟨go31, 0, none⟩) x441002_1.length co35) ∧ w'.cell? ⟨go31, (x4_1).toNat, none⟩ = some (.int .i64 (rd x441002_1 x4_1))) (ds := [10]) #[false, false, false, false, false, false, false, false, false, false, false] (by kernel_rfl) rfl rfl ⟨(blk_cell BK440.out 0).trans rfl, (blk_cell BK440.out 1).trans rfl, (blk_cell BK440.out 2).trans rfl, hx444_0⟩ (fun hHeld => ?_); refine with_tabW spec_l7Cost.tab9 spec_l7Cost.bits9 (fun HT_ HW_ => ?_)
       generalize wr.drew = w36 at HO_441000 HO_441001 HO_441002 BK430 BK440 HI0 HK HB GG31 HQ37 hf31_0 hx31_0 hx444_0 hHeld ⊢
       refine pure_ (i := 0) (N := some 22) (v := ?_) (a' := ?_) #[true, false, false, false, false, false, false, false, false, false, false] rfl rfl (any_of HT_.out (by kernel_rfl)) (fun _ _ _ h => h) (Or.inl ⟨by rfl, ?_⟩) ?_ ?_
       rotate_left
       ·intro w'
        go_simp
        with_reducible rfl
       rotate_left
       ·simp only [Act.put, List.setIfInBounds_toArray, List.set_cons_zero, List.set_cons_succ, i64_w, i32_w]
        rfl
       refine pure_ (i := 2) (N := some 24) (v := ?_) (a' := ?_) #[true, false, true, false, false, false, false, false, false, false, false] rfl rfl (any_of HT_.out (by kernel_rfl)) (fun _ _ _ h => h) (Or.inl ⟨by rfl, ?_⟩) ?_ ?_
       rotate_left
       ·intro w'
        go_simp
        with_reducible rfl
       rotate_left
       ·simp only [Act.put, List.setIfInBounds_toArray, List.set_cons_zero, List.set_cons_succ, i64_w, i32_w]
        rfl
       refine pure_ (i := 3) (N := some 25) (v := ?_) (a' := ?_) #[true, false, true, true, false, false, false, false, false, false, false] rfl rfl (any_of HT_.out (by kernel_rfl)) (fun _ _ _ h => h) (Or.inl ⟨by rfl, ?_⟩) ?_ ?_
       rotate_left
       ·intro w'
        go_simp
        with_reducible rfl
       rotate_left
       ·simp only [Act.put, List.setIfInBounds_toArray, List.set_cons_zero, List.set_cons_succ, i64_w, i32_w]
        rfl
       refine pure_ (i := 5) (N := some 27) (v := ?_) (a' := ?_) #[true, false, true, true, false, true, false, false, false, false, false] rfl rfl (any_of HT_.out (by kernel_rfl)) (fun _ _ _ h => h) (Or.inl ⟨by rfl, ?_⟩) ?_ ?_
       rotate_left
       ·intro w'
        go_simp
        with_reducible rfl
       rotate_left
       ·simp only [Act.put, List.setIfInBounds_toArray, List.set_cons_zero, List.set_cons_succ, i64_w, i32_w]
        rfl
       refine take_ (i := 1) (N := some 23) (v := ?_) (a' := ?_) #[true, true, true, true, false, true, false, false, false, false, false] rfl rfl (take_ofW HT_.out HW_.out (by kernel_rfl)) (fun _ _ _ h => h) (Or.inl ⟨by rfl, ?_⟩) hHeld ?_ ?_
       rotate_left
       ·rintro w' ⟨s0, s1, s2, s3⟩
        go_simp
        with_reducible rfl
       rotate_left
       ·simp only [Act.put, List.setIfInBounds_toArray, List.set_cons_zero, List.set_cons_succ, i64_w, i32_w]
        rfl
       refine take_ (i := 4) (N := some 26) (v := ?_) (a' := ?_) #[true, true, true, true, true, true, false, false, false, false, false] rfl rfl (take_ofW HT_.out HW_.out (by kernel_rfl)) (fun _ _ _ h => h) (Or.inl ⟨by rfl, ?_⟩) hHeld ?_ ?_
       rotate_left
       ·rintro w' ⟨s0, s1, s2, s3⟩
        go_simp
        with_reducible rfl
       rotate_left
       ·simp only [Act.put, List.setIfInBounds_toArray, List.set_cons_zero, List.set_cons_succ, i64_w, i32_w]
        rfl
       refine pure_ (i := 6) (N := some 28) (v := ?_) (a' := ?_) #[true, true, true, true, true, true, true, false, false, false, false] rfl rfl (any_of HT_.out (by kernel_rfl)) (fun _ _ _ h => h) (Or.inl ⟨by rfl, ?_⟩) ?_ ?_
       rotate_left
       ·intro w'
        go_simp
        with_reducible rfl
       rotate_left
       ·simp only [Act.put, List.setIfInBounds_toArray, List.set_cons_zero, List.set_cons_succ, i64_w, i32_w]
        rfl
       refine take_ (i := 7) (N := some 29) (v := ?_) (a' := ?_) #[true, true, true, true, true, true, true, true, false, false, false] rfl rfl (take_ofW HT_.out HW_.out (by kernel_rfl)) (fun _ _ _ h => h) (Or.inl ⟨by rfl, ?_⟩) hHeld ?_ ?_
       rotate_left
       ·rintro w' ⟨s0, s1, s2, s3⟩
        go_simp
        with_reducible rfl
       rotate_left
       ·simp only [Act.put, List.setIfInBounds_toArray, List.set_cons_zero, List.set_cons_succ, i64_w, i32_w]
        rfl
       refine pure_ (i := 8) (N := some 30) (v := ?_) (a' := ?_) #[true, true, true, true, true, true, true, true, true, false, false] rfl rfl (any_of HT_.out (by kernel_rfl)) (fun _ _ _ h => h) (Or.inl ⟨by rfl, ?_⟩) ?_ ?_
       rotate_left
       ·intro w'
        go_simp
        with_reducible rfl
       rotate_left
       ·simp only [Act.put, List.setIfInBounds_toArray, List.set_cons_zero, List.set_cons_succ, i64_w, i32_w]
        rfl
       refine pure_ (i := 9) (N := some 31) (v := ?_) (a' := ?_) #[true, true, true, true, true, true, true, true, true, true, false] rfl rfl (any_of HT_.out (by kernel_rfl)) (fun _ _ _ h => h) (Or.inl ⟨by rfl, ?_⟩) ?_ ?_
       rotate_left
       ·intro w'
        go_simp
        with_reducible rfl
       rotate_left
       ·simp only [Act.put, List.setIfInBounds_toArray, List.set_cons_zero, List.set_cons_succ, i64_w, i32_w]
        rfl
       refine last_ (i := 10) (N := none) #[true, true, true, true, true, true, true, true, true, true, true] rfl rfl (one_of HT_.out (by kernel_rfl)) (by decide) (fun K hK => ?_)
       refine skip_ (w1 := ?_) (by rfl) rfl ?_ ?_
       rotate_left
       ·go_simp
        rfl
       refine hK.out _ _ ?_
       clear hK K
       refine done_ (done_of HT_.out (by kernel_rfl)) ?_
       try go_wp2
       go_roundg k1
       case measure => have := HK1.out; omega
       case rel => exact ⟨(wrap64 (x4_1 + 1)), (x441000_1), (x441001_1), (y445), (u441000), (u441001), (.slice (some ⟨go31, 0, none⟩) x441002_1.length co35), (by first | rfl | (simp; done) | (simp [*]; done)), H', ⟨by have := HK1.out; omega⟩, ⟨laR (Kd.R_mono (Kd.R_far (p := ⟨go31, (x4_1 : Int).toNat, none⟩) (Kd.R_mono HO_441000.out (fun k_ hk => (⟨hk, fun e_ => hk.2 (by rw [e_]; rfl)⟩ : _ ∧ k_ ≠ go31))) (fun _ hk => hk.2) (.int .i64 (wrap64 ((rd x441002_1 x4_1) * 3)))) (fun _ hk => ⟨hk.1.1, hk.1.2⟩))⟩, ⟨laR (Kd.R_mono (Kd.R_far (p := ⟨go31, (x4_1 : Int).toNat, none⟩) (Kd.R_mono HO_441001.out (fun k_ hk => (⟨hk, fun e_ => hk.2 (by rw [e_]; rfl)⟩ : _ ∧ k_ ≠ go31))) (fun _ hk => hk.2) (.int .i64 (wrap64 ((rd x441002_1 x4_1) * 3)))) (fun _ hk => ⟨hk.1.1, hk.1.2⟩))⟩, ⟨laR HQ37.out⟩, ⟨by (with_reducible repeat (first | refine blk_drewN ?_ _ | refine blk_drew ?_ | refine blk_alloc ?_ _)); refine blk_far ?_ (by have h_ := Kd.R_ne HO_441002.out BK430.out (by decide); intro e_; exact h_ (by rw [e_]; rfl)) _; (with_reducible repeat (first | refine blk_drewN ?_ _ | refine blk_drew ?_ | refine blk_alloc ?_ _)); exact BK430.out⟩, ⟨by (with_reducible repeat (first | refine blk_drewN ?_ _ | refine blk_drew ?_ | refine blk_alloc ?_ _)); refine blk_far ?_ (by have h_ := Kd.R_ne HO_441002.out BK440.out (by decide); intro e_; exact h_ (by rw [e_]; rfl)) _; (with_reducible repeat (first | refine blk_drewN ?_ _ | refine blk_drew ?_ | refine blk_alloc ?_ _)); exact BK440.out⟩, ⟨by repeat (first | (with_reducible first | exact HI0.out | apply IsS104.alloc | apply IsS104.drewN | apply IsS104.drew | apply IsS104.set_1 | apply IsS104.set_2 | refine IsS104.far ?_ HN0_go31.out _ | refine IsS104.far ?_ NB0_430.out _ | refine IsS104.far ?_ NB0_440.out _) | exact HI0.out)⟩, ⟨by repeat (first | (with_reducible first | exact HK.out | apply KeepBut.set_ | apply keep_drewN | apply keep_drew | apply keep_alloc | refine keep_far ?_ GB31.out _ | refine keep_far ?_ GW430.out _ | refine keep_far ?_ GW440.out _) | exact HK.out)⟩, ⟨by repeat (first | (with_reducible first | exact HB.out | apply below_alloc | apply pw_below_drewN | apply below_drew1 | refine below_set ?_ (Nat.le_trans HL.out GB31.out) | refine below_set ?_ (IsS104.ge HI0.out) | refine below_set ?_ GE430.out | refine below_set ?_ GE440.out) | exact HB.out)⟩⟩
      ·rw [if_neg c30] at H
       exact absurd H (by simp)
     ·rw [if_neg c29] at H
      have c29b0 : decide (x4_1 < (x441002_1.length : Int)) = false := decide_eq_false c29
      clear c29
      simp only [Option.some.injEq, Prod.mk.injEq] at H
      obtain ⟨rfl, rfl, rfl, rfl, rfl⟩ := H
      have hnb38 := NB440_430.out
      have hnc38 := NB430_440.out
      have hnb39 := NB440_0.out
      have hnc39 := NB0_440.out
      have hcz40_0 : wr.cell? ⟨gb440, 0, none⟩ = some (u441000) := (blk_cell BK440.out 0).trans rfl
      have hcz40_1 : wr.cell? ⟨gb440, 1, none⟩ = some (u441001) := (blk_cell BK440.out 1).trans rfl
      have hcz40_2 : wr.cell? ⟨gb440, 2, none⟩ = some (u441002) := (blk_cell BK440.out 2).trans rfl
      have hfz40_0 := blk_frozen BK440.out 0
      have hfz40_1 := blk_frozen BK440.out 1
      have hfz40_2 := blk_frozen BK440.out 2
      obtain ⟨Ao41, co41, eo41⟩ := Kd.R_slice HO_441002.out
      subst eo41
      obtain ⟨Ao42, co42, eo42⟩ := Kd.R_slice HO_441000.out
      subst eo42
      have hnb43 := NB430_0.out
      have hnc43 := NB0_430.out
      have hcz44_0 : wr.cell? ⟨gb430, 0, none⟩ = some (.slice none 0 0) := (blk_cell BK430.out 0).trans rfl
      have hcz44_1 : wr.cell? ⟨gb430, 1, none⟩ = some (.slice none 0 0) := (blk_cell BK430.out 1).trans rfl
      have hcz44_2 : wr.cell? ⟨gb430, 2, none⟩ = some (.slice none 0 0) := (blk_cell BK430.out 2).trans rfl
      have hfz44_0 := blk_frozen BK430.out 0
      have hfz44_1 := blk_frozen BK430.out 1
      have hfz44_2 := blk_frozen BK430.out 2
      obtain ⟨Ao45, co45, eo45⟩ := Kd.R_slice HO_441001.out
      subst eo45
      go_wp2
      refine bodyPost_ret (results_cell_row rfl _ _ gb430 34 #[.slice Ao42 x441000_1.length co42, .slice Ao45 x441001_1.length co45, .slice Ao41 x441002_1.length co41] (0, 0) _ rfl (by (with_reducible repeat (first | refine blk_drewN ?_ _ | refine blk_drew ?_ | refine blk_alloc ?_ _)); refine blk_put (cs := #[.slice Ao42 x441000_1.length co42, .slice Ao45 x441001_1.length co45, .slice none 0 0]) ?_ 2 _ rfl; (with_reducible repeat (first | refine blk_drewN ?_ _ | refine blk_drew ?_ | refine blk_alloc ?_ _)); refine blk_put (cs := #[.slice Ao42 x441000_1.length co42, .slice none 0 0, .slice none 0 0]) ?_ 1 _ rfl; (with_reducible repeat (first | refine blk_drewN ?_ _ | refine blk_drew ?_ | refine blk_alloc ?_ _)); refine blk_put (cs := #[.slice none 0 0, .slice none 0 0, .slice none 0 0]) ?_ 0 _ rfl; (with_reducible repeat (first | refine blk_drewN ?_ _ | refine blk_drew ?_ | refine blk_alloc ?_ _)); exact BK430.out) Try.underlying34 rfl (by kernel_rfl)) rfl ?_
      exact ⟨_, _, _, by first | rfl | (simp [errW_none, errW_some] <;> rfl) | (simp [*, errW_none, errW_some] <;> rfl), by (with_reducible repeat (first | apply Kd.R_alloc | apply Kd.R_drewN | apply Kd.R_drew)); exact Kd.R_mono (Kd.R_far (p := ⟨gb430, 2, none⟩) (Kd.R_far (p := ⟨gb430, 1, none⟩) (Kd.R_far (p := ⟨gb430, 0, none⟩) (Kd.R_types HO_441000.out BK430.out (by decide)) (fun _ hk => hk.2) (.slice Ao42 x441000_1.length co42)) (fun _ hk => hk.2) (.slice Ao45 x441001_1.length co45)) (fun _ hk => hk.2) (.slice Ao41 x441002_1.length co41)) (fun _ hk => ⟨hk.1.1, hk.1.2⟩), by (with_reducible repeat (first | apply Kd.R_alloc | apply Kd.R_drewN | apply Kd.R_drew)); exact Kd.R_mono (Kd.R_far (p := ⟨gb430, 2, none⟩) (Kd.R_far (p := ⟨gb430, 1, none⟩) (Kd.R_far (p := ⟨gb430, 0, none⟩) (Kd.R_types HO_441001.out BK430.out (by decide)) (fun _ hk => hk.2) (.slice Ao42 x441000_1.length co42)) (fun _ hk => hk.2) (.slice Ao45 x441001_1.length co45)) (fun _ hk => hk.2) (.slice Ao41 x441002_1.length co41)) (fun _ hk => ⟨hk.1.1, hk.1.2⟩), by (with_reducible repeat (first | apply Kd.R_alloc | apply Kd.R_drewN | apply Kd.R_drew)); exact Kd.R_mono (Kd.R_far (p := ⟨gb430, 2, none⟩) (Kd.R_far (p := ⟨gb430, 1, none⟩) (Kd.R_far (p := ⟨gb430, 0, none⟩) (Kd.R_types HO_441002.out BK430.out (by decide)) (fun _ hk => hk.2) (.slice Ao42 x441000_1.length co42)) (fun _ hk => hk.2) (.slice Ao45 x441001_1.length co45)) (fun _ hk => hk.2) (.slice Ao41 x441002_1.length co41)) (fun _ hk => ⟨hk.1.1, hk.1.2⟩), by repeat (first | (with_reducible first | exact HI0.out | apply IsS104.alloc | apply IsS104.drewN | apply IsS104.drew | apply IsS104.set_1 | apply IsS104.set_2 | refine IsS104.far ?_ NB0_430.out _ | refine IsS104.far ?_ NB0_440.out _) | exact HI0.out), by repeat (first | (with_reducible first | exact HB.out | apply below_alloc | apply pw_below_drewN | apply below_drew1 | refine below_set ?_ (IsS104.ge HI0.out) | refine below_set ?_ GE430.out | refine below_set ?_ GE440.out) | exact HB.out), by repeat (first | (with_reducible first | exact HK.out | apply KeepBut.set_ | apply keep_drewN | apply keep_drew | apply keep_alloc | refine keep_far ?_ GW430.out _ | refine keep_far ?_ GW440.out _) | exact HK.out)⟩
  ·rw [if_neg c18] at H
   have c18b0 : (t441 == 1) = false := beq_eq_false_iff_ne.mpr c18
   have c18b1 : (t441 != 1) = true := bne_iff_ne.mpr c18
   have H' := Aside0.mk H
   clear H
   go_enter Try.func96, Try.ntmps96
   go_wp2_with (first | ((with_reducible refine gate_dst (N := 2) rfl ?_); refine box_event ?hg (N := 2) ?hd (cs := #[.slice none 0 0, .slice none 0 0, .slice none 0 0]) (t := 34) ?hr ?_; (case hd => rfl); (case hg => rfl); (case hr => first | (go_simp; done) | (go_simp; rfl)); intro gb430 hg w46 hbox hb; replace HB := Aside0.mk (below_step (by repeat (first | (with_reducible first | exact HB.out | apply below_alloc | apply pw_below_drewN | apply below_drew1 | refine below_set ?_ (IsS104.ge HI0.out)) | exact HB.out)) hb); have BK430 := Aside0.mk (hbox); have GW430 := Aside0.mk ((by rw [hg]; exact (keep_size (w := w) (g := g) (row := none) (by repeat (first | (with_reducible first | exact HK.out | apply KeepBut.set_ | apply keep_drewN | apply keep_drew | apply keep_alloc) | exact HK.out))) : w.heap.size ≤ gb430)); have GE430 := Aside0.mk ((Nat.le_trans HW0.out (by rw [hg]; exact (keep_size (w := w) (g := g) (row := none) (by repeat (first | (with_reducible first | exact HK.out | apply KeepBut.set_ | apply keep_drewN | apply keep_drew | apply keep_alloc) | exact HK.out))) : w.heap.size ≤ gb430) : w0.heap.size ≤ gb430)); replace HK := Aside0.mk (KeepBut.trans (by repeat (first | (with_reducible first | exact HK.out | apply KeepBut.set_ | apply keep_drewN | apply keep_drew | apply keep_alloc) | exact HK.out)) (KeepBut.of_below hb g none) (.inl rfl)); have NB0_430 := Aside0.mk ((by rw [hg]; exact Nat.ne_of_lt (IsS104.lt (show IsS104 w0 _ g s0_0 s0_1 s0_2 from by repeat (first | (with_reducible first | exact HI0.out | apply IsS104.alloc | apply IsS104.drewN | apply IsS104.drew | apply IsS104.set_1 | apply IsS104.set_2) | exact HI0.out))) : g ≠ gb430)); have NB430_0 := Aside0.mk ((by rw [hg]; exact Nat.ne_of_gt (IsS104.lt (show IsS104 w0 _ g s0_0 s0_1 s0_2 from by repeat (first | (with_reducible first | exact HI0.out | apply IsS104.alloc | apply IsS104.drewN | apply IsS104.drew | apply IsS104.set_1 | apply IsS104.set_2) | exact HI0.out))) : gb430 ≠ g)); replace HI0 := Aside0.mk (IsS104.below (by repeat (first | (with_reducible first | exact HI0.out | apply IsS104.alloc | apply IsS104.drewN | apply IsS104.drew | apply IsS104.set_1 | apply IsS104.set_2) | exact HI0.out)) hb); clear hb hbox hg) | ((with_reducible refine gate_callee (f := 21) rfl ?_); refine goesL_ (some 7) rfl rfl Try.func21 (by kernel_rfl) rfl #[] rfl (by (try simp only [List.map_toArray, List.map_cons, List.map_nil]); first | done | rfl | (simp only [List.length_drop, List.length_take]; rfl)) ?_; (with_reducible refine (spec_UnitCost.calls k  t431 t434 t437 _ A2.out).mono ?_); rintro e w47 ⟨v432, v435, v438, rfl, ho0, ho1, ho2, hb⟩; refine ⟨_, rfl, ?_⟩; have HO433 := Aside0.mk (Kd.R_lower ho0 (keep_size (w := w) (g := g) (row := none) (by repeat (first | (with_reducible first | exact HK.out | apply KeepBut.set_ | apply keep_drewN | apply keep_drew | apply keep_alloc | refine keep_far ?_ GW430.out _) | exact HK.out)))); have HO436 := Aside0.mk (Kd.R_lower ho1 (keep_size (w := w) (g := g) (row := none) (by repeat (first | (with_reducible first | exact HK.out | apply KeepBut.set_ | apply keep_drewN | apply keep_drew | apply keep_alloc | refine keep_far ?_ GW430.out _) | exact HK.out)))); have HO439 := Aside0.mk (Kd.R_lower ho2 (keep_size (w := w) (g := g) (row := none) (by repeat (first | (with_reducible first | exact HK.out | apply KeepBut.set_ | apply keep_drewN | apply keep_drew | apply keep_alloc | refine keep_far ?_ GW430.out _) | exact HK.out)))); replace BK430 := Aside0.mk (laKb BK430.out hb); replace HK := Aside0.mk (KeepBut.trans (by repeat (first | (with_reducible first | exact HK.out | apply KeepBut.set_ | apply keep_drewN | apply keep_drew | apply keep_alloc | refine keep_far ?_ GW430.out _) | exact HK.out)) (KeepBut.of_below hb g none) (.inl rfl)); replace HB := Aside0.mk (below_step (by repeat (first | (with_reducible first | exact HB.out | apply below_alloc | apply pw_below_drewN | apply below_drew1 | refine below_set ?_ (IsS104.ge HI0.out) | refine below_set ?_ GE430.out) | exact HB.out)) hb); replace HI0 := Aside0.mk (IsS104.below (by repeat (first | (with_reducible first | exact HI0.out | apply IsS104.alloc | apply IsS104.drewN | apply IsS104.drew | apply IsS104.set_1 | apply IsS104.set_2 | refine IsS104.far ?_ NB0_430.out _) | exact HI0.out)) hb); (try clear hb); (try clear hb2); (try clear hk); (try clear hi); (try clear ho0); (try clear ho1); (try clear ho2)) | ((with_reducible refine gate_dst (N := 3) rfl ?_); refine box_event ?hg (N := 3) ?hd (cs := #[.slice none 0 0, .slice none 0 0, .slice none 0 0]) (t := 34) ?hr ?_; (case hd => rfl); (case hg => rfl); (case hr => first | (go_simp; done) | (go_simp; rfl)); intro gb440 hg w48 hbox hb; replace HO433 := Aside0.mk (laRb HO433.out hb); replace HO436 := Aside0.mk (laRb HO436.out hb); replace HO439 := Aside0.mk (laRb HO439.out hb); replace HB := Aside0.mk (below_step (by repeat (first | (with_reducible first | exact HB.out | apply below_alloc | apply pw_below_drewN | apply below_drew1 | refine below_set ?_ (IsS104.ge HI0.out) | refine below_set ?_ GE430.out) | exact HB.out)) hb); have BK440 := Aside0.mk (hbox); have GW440 := Aside0.mk ((by rw [hg]; exact (keep_size (w := w) (g := g) (row := none) (by repeat (first | (with_reducible first | exact HK.out | apply KeepBut.set_ | apply keep_drewN | apply keep_drew | apply keep_alloc | refine keep_far ?_ GW430.out _) | exact HK.out))) : w.heap.size ≤ gb440)); have GE440 := Aside0.mk ((Nat.le_trans HW0.out (by rw [hg]; exact (keep_size (w := w) (g := g) (row := none) (by repeat (first | (with_reducible first | exact HK.out | apply KeepBut.set_ | apply keep_drewN | apply keep_drew | apply keep_alloc | refine keep_far ?_ GW430.out _) | exact HK.out))) : w.heap.size ≤ gb440) : w0.heap.size ≤ gb440)); replace HK := Aside0.mk (KeepBut.trans (by repeat (first | (with_reducible first | exact HK.out | apply KeepBut.set_ | apply keep_drewN | apply keep_drew | apply keep_alloc | refine keep_far ?_ GW430.out _) | exact HK.out)) (KeepBut.of_below hb g none) (.inl rfl)); have NB430_440 := Aside0.mk ((by rw [hg]; exact Nat.ne_of_lt (blk_lt (g := gb430) (o := .cells #[.slice none 0 0, .slice none 0 0, .slice none 0 0] 34 (0, 0)) (laK BK430.out)) : gb430 ≠ gb440)); have NB440_430 := Aside0.mk ((by rw [hg]; exact Nat.ne_of_gt (blk_lt (g := gb430) (o := .cells #[.slice none 0 0, .slice none 0 0, .slice none 0 0] 34 (0, 0)) (laK BK430.out)) : gb440 ≠ gb430)); replace BK430 := Aside0.mk (laKb BK430.out hb); have NB0_440 := Aside0.mk ((by rw [hg]; exact Nat.ne_of_lt (IsS104.lt (show IsS104 w0 _ g s0_0 s0_1 s0_2 from by repeat (first | (with_reducible first | exact HI0.out | apply IsS104.alloc | apply IsS104.drewN | apply IsS104.drew | apply IsS104.set_1 | apply IsS104.set_2 | refine IsS104.far ?_ NB0_430.out _) | exact HI0.out))) : g ≠ gb440)); have NB440_0 := Aside0.mk ((by rw [hg]; exact Nat.ne_of_gt (IsS104.lt (show IsS104 w0 _ g s0_0 s0_1 s0_2 from by repeat (first | (with_reducible first | exact HI0.out | apply IsS104.alloc | apply IsS104.drewN | apply IsS104.drew | apply IsS104.set_1 | apply IsS104.set_2 | refine IsS104.far ?_ NB0_430.out _) | exact HI0.out))) : gb440 ≠ g)); replace HI0 := Aside0.mk (IsS104.below (by repeat (first | (with_reducible first | exact HI0.out | apply IsS104.alloc | apply IsS104.drewN | apply IsS104.drew | apply IsS104.set_1 | apply IsS104.set_2 | refine IsS104.far ?_ NB0_430.out _) | exact HI0.out)) hb); clear hb hbox hg; obtain ⟨Ao49, co49, eo49⟩ := Kd.R_slice HO433.out; subst eo49; have hnb50 := NB440_430.out; have hnc50 := NB430_440.out; have hnb51 := NB440_0.out; have hnc51 := NB0_440.out; have hcz52_0 : w48.cell? ⟨gb440, 0, none⟩ = some (.slice none 0 0) := (blk_cell BK440.out 0).trans rfl; have hcz52_1 : w48.cell? ⟨gb440, 1, none⟩ = some (.slice none 0 0) := (blk_cell BK440.out 1).trans rfl; have hcz52_2 : w48.cell? ⟨gb440, 2, none⟩ = some (.slice none 0 0) := (blk_cell BK440.out 2).trans rfl; have hfz52_0 := blk_frozen BK440.out 0; have hfz52_1 := blk_frozen BK440.out 1; have hfz52_2 := blk_frozen BK440.out 2; obtain ⟨Ao53, co53, eo53⟩ := Kd.R_slice HO436.out; subst eo53; obtain ⟨Ao54, co54, eo54⟩ := Kd.R_slice HO439.out; subst eo54) | ((with_reducible refine gate_callee (f := 87) rfl ?_); refine goesL_ (some 9) rfl rfl Try.func87 (by kernel_rfl) rfl #[.pointer (some ⟨g, 0, none⟩), .int .i64 4] rfl (by (try simp only [List.map_toArray, List.map_cons, List.map_nil]); first | done | rfl | (simp only [List.length_drop, List.length_take]; rfl)) ?_; (with_reducible refine (spec_l1Below.calls g s0_0 s0_1 s0_2 4 t441 t442 t443 w0 _ ?side1 ?side2 A3.out).mono ?_); (case side1 => repeat (first | (with_reducible first | exact HI0.out | apply IsS104.alloc | apply IsS104.drewN | apply IsS104.drew | apply IsS104.set_1 | apply IsS104.set_2 | refine IsS104.far ?_ NB0_430.out _ | refine IsS104.far ?_ NB0_440.out _) | exact HI0.out)); (case side2 => repeat (first | (with_reducible first | exact HB.out | apply below_alloc | apply pw_below_drewN | apply below_drew1 | refine below_set ?_ (IsS104.ge HI0.out) | refine below_set ?_ GE430.out | refine below_set ?_ GE440.out) | exact HB.out)); rintro e w55 ⟨rfl, hi, hb, hk⟩; refine ⟨_, rfl, ?_⟩; replace BK430 := Aside0.mk (KeepBut.blk hk (g' := gb430) (o := .cells #[.slice none 0 0, .slice none 0 0, .slice none 0 0] 34 (0, 0)) (by (with_reducible repeat (first | refine blk_drewN ?_ _ | refine blk_drew ?_ | refine blk_alloc ?_ _)); refine blk_far ?_ NB430_440.out _; (with_reducible repeat (first | refine blk_drewN ?_ _ | refine blk_drew ?_ | refine blk_alloc ?_ _)); refine blk_far ?_ NB430_440.out _; (with_reducible repeat (first | refine blk_drewN ?_ _ | refine blk_drew ?_ | refine blk_alloc ?_ _)); refine blk_far ?_ NB430_440.out _; (with_reducible repeat (first | refine blk_drewN ?_ _ | refine blk_drew ?_ | refine blk_alloc ?_ _)); exact BK430.out) NB430_0.out (by simp)); replace HO433 := Aside0.mk (Kd.R_mono (Kd.R_keep (IsS104.apart (show IsS104 w0 _ g s0_0 s0_1 s0_2 from by repeat (first | (with_reducible first | exact HI0.out | apply IsS104.alloc | apply IsS104.drewN | apply IsS104.drew | apply IsS104.set_1 | apply IsS104.set_2 | refine IsS104.far ?_ NB0_430.out _ | refine IsS104.far ?_ NB0_440.out _) | exact HI0.out)) (laR ((Kd.R_mono (Kd.R_far (p := ⟨gb440, 2, none⟩) (Kd.R_far (p := ⟨gb440, 1, none⟩) (Kd.R_far (p := ⟨gb440, 0, none⟩) (Kd.R_types HO433.out BK440.out (by decide)) (fun _ hk => hk.2) (.slice Ao49 t431.length co49)) (fun _ hk => hk.2) (.slice Ao53 t434.length co53)) (fun _ hk => hk.2) (.slice Ao54 t437.length co54)) (fun _ h_ => h_.1)))) (by decide)) hk (fun _ h => h.2)) (fun _ h => h.1)); replace HO436 := Aside0.mk (Kd.R_mono (Kd.R_keep (IsS104.apart (show IsS104 w0 _ g s0_0 s0_1 s0_2 from by repeat (first | (with_reducible first | exact HI0.out | apply IsS104.alloc | apply IsS104.drewN | apply IsS104.drew | apply IsS104.set_1 | apply IsS104.set_2 | refine IsS104.far ?_ NB0_430.out _ | refine IsS104.far ?_ NB0_440.out _) | exact HI0.out)) (laR ((Kd.R_mono (Kd.R_far (p := ⟨gb440, 2, none⟩) (Kd.R_far (p := ⟨gb440, 1, none⟩) (Kd.R_far (p := ⟨gb440, 0, none⟩) (Kd.R_types HO436.out BK440.out (by decide)) (fun _ hk => hk.2) (.slice Ao49 t431.length co49)) (fun _ hk => hk.2) (.slice Ao53 t434.length co53)) (fun _ hk => hk.2) (.slice Ao54 t437.length co54)) (fun _ h_ => h_.1)))) (by decide)) hk (fun _ h => h.2)) (fun _ h => h.1)); replace HO439 := Aside0.mk (Kd.R_mono (Kd.R_keep (IsS104.apart (show IsS104 w0 _ g s0_0 s0_1 s0_2 from by repeat (first | (with_reducible first | exact HI0.out | apply IsS104.alloc | apply IsS104.drewN | apply IsS104.drew | apply IsS104.set_1 | apply IsS104.set_2 | refine IsS104.far ?_ NB0_430.out _ | refine IsS104.far ?_ NB0_440.out _) | exact HI0.out)) (laR ((Kd.R_mono (Kd.R_far (p := ⟨gb440, 2, none⟩) (Kd.R_far (p := ⟨gb440, 1, none⟩) (Kd.R_far (p := ⟨gb440, 0, none⟩) (Kd.R_types HO439.out BK440.out (by decide)) (fun _ hk => hk.2) (.slice Ao49 t431.length co49)) (fun _ hk => hk.2) (.slice Ao53 t434.length co53)) (fun _ hk => hk.2) (.slice Ao54 t437.length co54)) (fun _ h_ => h_.1)))) (by decide)) hk (fun _ h => h.2)) (fun _ h => h.1)); replace BK440 := Aside0.mk (KeepBut.blk hk (g' := gb440) (o := .cells #[.slice Ao49 t431.length co49, .slice Ao53 t434.length co53, .slice Ao54 t437.length co54] 34 (0, 0)) (by (with_reducible repeat (first | refine blk_drewN ?_ _ | refine blk_drew ?_ | refine blk_alloc ?_ _)); refine blk_put (cs := #[.slice Ao49 t431.length co49, .slice Ao53 t434.length co53, .slice none 0 0]) ?_ 2 _ rfl; (with_reducible repeat (first | refine blk_drewN ?_ _ | refine blk_drew ?_ | refine blk_alloc ?_ _)); refine blk_put (cs := #[.slice Ao49 t431.length co49, .slice none 0 0, .slice none 0 0]) ?_ 1 _ rfl; (with_reducible repeat (first | refine blk_drewN ?_ _ | refine blk_drew ?_ | refine blk_alloc ?_ _)); refine blk_put (cs := #[.slice none 0 0, .slice none 0 0, .slice none 0 0]) ?_ 0 _ rfl; (with_reducible repeat (first | refine blk_drewN ?_ _ | refine blk_drew ?_ | refine blk_alloc ?_ _)); exact BK440.out) NB440_0.out (by simp)); replace HK := Aside0.mk (KeepBut.trans (by repeat (first | (with_reducible first | exact HK.out | apply KeepBut.set_ | apply keep_drewN | apply keep_drew | apply keep_alloc | refine keep_far ?_ GW430.out _ | refine keep_far ?_ GW440.out _) | exact HK.out)) hk (.inl rfl)); replace HB := Aside0.mk (hb); replace HI0 := Aside0.mk (hi); (try clear hb); (try clear hb2); (try clear hk); (try clear hi)))
   go_loopg [5] k (fun kq v5 w' => ∃ (x5_1 : Int) (x1001_1 : Int) (x1002_1 : Int) (x441000_1 : List Int) (x441001_1 : List Int) (x441002_1 : List Int) (u441000 : Value) (u441001 : Value) (u441002 : Value), v5 = .int .i64 x5_1 ∧ Aside0 (spec_l7Cost.l1 kq x5_1 s0_0 x1001_1 x1002_1 x441000_1 x441001_1 x441002_1 = some (r1, r2, r3, r4, r5)) ∧ Aside0 (kq ≤ k) ∧ Aside0 (Kd.R (Kd.int .i64) 3 w' w.heap.size (fun k_ => some k_ ≠ (u441001 : Value).ownBlock ∧ some k_ ≠ (u441002 : Value).ownBlock) u441000 x441000_1) ∧ Aside0 (Kd.R (Kd.int .i64) 3 w' w.heap.size (fun k_ => some k_ ≠ (u441000 : Value).ownBlock ∧ some k_ ≠ (u441002 : Value).ownBlock) u441001 x441001_1) ∧ Aside0 (Kd.R (Kd.int .i64) 3 w' w.heap.size (fun k_ => some k_ ≠ (u441000 : Value).ownBlock ∧ some k_ ≠ (u441001 : Value).ownBlock) u441002 x441002_1) ∧ Aside0 (w'.heap[gb430]? = some (.cells #[(.slice none 0 0), (.slice none 0 0), (.slice none 0 0)] 34 (0, 0))) ∧ Aside0 (w'.heap[gb440]? = some (.cells #[u441000, u441001, u441002] 34 (0, 0))) ∧ Aside0 (IsS104 w0 w' g s0_0 x1001_1 x1002_1) ∧ Aside0 (KeepBut w w' g none) ∧ Aside0 (Below w0.heap.size w0 w'))
   case atStart => exact ⟨(0), (t442), (t443), (t431), (t434), (t437), (.slice Ao49 t431.length co49), (.slice Ao53 t434.length co53), (.slice Ao54 t437.length co54), (by first | rfl | (simp; done) | (simp [*]; done)), H', ⟨Nat.le_refl _⟩, ⟨laR HO433.out⟩, ⟨laR HO436.out⟩, ⟨laR HO439.out⟩, ⟨laK BK430.out⟩, ⟨laK BK440.out⟩, ⟨by repeat (first | (with_reducible first | exact HI0.out | apply IsS104.alloc | apply IsS104.drewN | apply IsS104.drew | apply IsS104.set_1 | apply IsS104.set_2 | refine IsS104.far ?_ NB0_430.out _ | refine IsS104.far ?_ NB0_440.out _) | exact HI0.out)⟩, ⟨by repeat (first | (with_reducible first | exact HK.out | apply KeepBut.set_ | apply keep_drewN | apply keep_drew | apply keep_alloc | refine keep_far ?_ GW430.out _ | refine keep_far ?_ GW440.out _) | exact HK.out)⟩, ⟨by repeat (first | (with_reducible first | exact HB.out | apply below_alloc | apply pw_below_drewN | apply below_drew1 | refine below_set ?_ (IsS104.ge HI0.out) | refine below_set ?_ GE430.out | refine below_set ?_ GE440.out) | exact HB.out)⟩⟩
   case round =>
    clear H'
    try clear c1
    try clear c2
    try clear p2
    try clear c3
    try clear p3
    try clear q3
    try clear hx3
    try clear hf3
    try clear c4
    try clear c4b0
    try clear c4b1
    try clear p4
    try clear q4
    try clear hx4
    try clear c5
    try clear p6
    try clear c8
    try clear c9
    try clear c10
    try clear c16
    try clear c18
    try clear c18b0
    try clear c18b1
    try clear c21
    try clear c23
    try clear c24
    try clear c29
    try clear c29b0
    try clear c30
    try clear c30b0
    try clear p31
    try clear q31
    try clear hx31
    try clear hf31
    try clear c32
    try clear c33
    try clear c38
    try clear c39
    try clear c43
    try clear p44
    try clear q44
    try clear hx44
    try clear c50
    try clear c51
    try clear hcz11_0
    try clear hcz11_1
    try clear hcz11_2
    try clear hcz15_0
    try clear hcz15_1
    try clear hcz15_2
    try clear hcz17_0
    try clear hcz17_1
    try clear hcz17_2
    try clear hcz25_0
    try clear hcz25_1
    try clear hcz25_2
    try clear hcz34_0
    try clear hcz34_1
    try clear hcz34_2
    try clear hcz40_0
    try clear hcz40_1
    try clear hcz40_2
    try clear hcz44_0
    try clear hcz44_1
    try clear hcz44_2
    try clear hcz52_0
    try clear hcz52_1
    try clear hcz52_2
    try clear hfz11_0
    try clear hfz11_1
    try clear hfz11_2
    try clear hfz15_0
    try clear hfz15_1
    try clear hfz15_2
    try clear hfz17_0
    try clear hfz17_1
    try clear hfz17_2
    try clear hfz25_0
    try clear hfz25_1
    try clear hfz25_2
    try clear hfz34_0
    try clear hfz34_1
    try clear hfz34_2
    try clear hfz40_0
    try clear hfz40_1
    try clear hfz40_2
    try clear hfz44_0
    try clear hfz44_1
    try clear hfz44_2
    try clear hfz52_0
    try clear hfz52_1
    try clear hfz52_2
    try clear hx31_0
    try clear hx444_0
    try clear p2
    try clear p31
    try clear p444
    try clear q31
    try clear q444
    obtain ⟨x5_1, x1001_1, x1002_1, x441000_1, x441001_1, x441002_1, u441000, u441001, u441002, rfl, HA, HK1, HO_441000, HO_441001, HO_441002, BK430, BK440, HI0, HK, HB⟩ := hrel
    cases gk with
    | zero => exact absurd HA.out (by simp [spec_l7Cost.l1])
    | succ k1 =>
     have H := HA.out
     clear HA
     simp only [spec_l7Cost.l1] at H
     by_cases c56 : x5_1 < 6
     ·rw [if_pos c56] at H
      have c56b0 : decide (x5_1 < 6) = true := decide_eq_true c56
      clear c56
      replace H := Option.bind_eq_some_iff.mp H
      obtain ⟨⟨t446, t447, t448⟩, A570, H⟩ := H
      have A57 := Aside0.mk A570
      clear A570
      by_cases c58 : 0 ≤ x5_1
      ·rw [if_pos c58] at H
       have c58b0 : decide (0 ≤ x5_1) = true := decide_eq_true c58
       clear c58
       by_cases c59 : x5_1 < (x441000_1.length : Int)
       ·rw [if_pos c59] at H
        have c59b0 : decide (x5_1 < (x441000_1.length : Int)) = true := decide_eq_true c59
        clear c59
        obtain ⟨y449, hy449⟩ : ∃ y_ : List Int, y_ = (x441000_1.set (x5_1 : Int).toNat t446) := ⟨_, rfl⟩
        replace H : ((spec_l1Below.f s0_0 t447 t448 7).bind fun bt450 => (if x5_1 < (x441001_1.length : Int) then (spec_l7Cost.l2 k1 x5_1 0 s0_0 bt450.2.1 bt450.2.2 y449 (x441001_1.set (x5_1 : Int).toNat bt450.1) x441002_1) else (none))) = some (r1, r2, r3, r4, r5) := by first | (rw [hy449]; with_reducible exact H) | (have H2_ := (Option.bind_some _ _).symm.trans H; rw [hy449]; with_reducible exact H2_) | (have H2_ := (Option.bind_some _ _).symm.trans H; with_reducible exact H2_) | with_reducible exact H | (rw [hy449]; exact H) | exact H
        have Ny449 := Aside0.mk hy449
        clear hy449
        replace H := Option.bind_eq_some_iff.mp H
        obtain ⟨⟨t450, t451, t452⟩, A610, H⟩ := H
        have A61 := Aside0.mk A610
        clear A610
        by_cases c62 : x5_1 < (x441001_1.length : Int)
        ·rw [if_pos c62] at H
         have c62b0 : decide (x5_1 < (x441001_1.length : Int)) = true := decide_eq_true c62
         clear c62
         obtain ⟨y453, hy453⟩ : ∃ y_ : List Int, y_ = (x441001_1.set (x5_1 : Int).toNat t450) := ⟨_, rfl⟩
         replace H : (spec_l7Cost.l2 k1 x5_1 0 s0_0 t451 t452 y449 y453 x441002_1) = some (r1, r2, r3, r4, r5) := by first | (rw [hy453]; with_reducible exact H) | (have H2_ := (Option.bind_some _ _).symm.trans H; rw [hy453]; with_reducible exact H2_) | (have H2_ := (Option.bind_some _ _).symm.trans H; with_reducible exact H2_) | with_reducible exact H | (rw [hy453]; exact H) | exact H
         have Ny453 := Aside0.mk hy453
         clear hy453
         have H' := Aside0.mk H
         clear H
         try go_wp2
         replace HO_441000 := Aside0.mk (Kd.R_drew HO_441000.out)
         replace HO_441001 := Aside0.mk (Kd.R_drew HO_441001.out)
         replace HO_441002 := Aside0.mk (Kd.R_drew HO_441002.out)
         replace BK430 := Aside0.mk (blk_drew BK430.out)
         replace BK440 := Aside0.mk (blk_drew BK440.out)
         replace HI0 := Aside0.mk (IsS104.drew HI0.out)
         replace HK := Aside0.mk (keep_drew HK.out)
         replace HB := Aside0.mk (below_drew1 HB.out)
         refine start_ (n := 7) (S := fun w' => w'.cell? ⟨gb440, 0, none⟩ = some (u441000) ∧ w'.cell? ⟨gb440, 1, none⟩ = some (u441001) ∧ w'.cell? ⟨gb440, 2, none⟩ = some (u441002)) (ds := [6]) #[false, false, false, false, false, false, false] (by kernel_rfl) rfl rfl ⟨(blk_cell BK440.out 0).trans rfl, (blk_cell BK440.out 1).trans rfl, (blk_cell BK440.out 2).trans rfl⟩ (fun hHeld => ?_)
         generalize wr.drew = w64 at HO_441000 HO_441001 HO_441002 BK430 BK440 HI0 HK HB hHeld ⊢
         refine pure_ (i := 0) (N := some 37) (v := ?_) (a' := ?_) #[true, false, false, false, false, false, false] rfl rfl (by kernel_rfl) (fun _ _ _ h => h) (Or.inl ⟨by rfl, ?_⟩) ?_ ?_
         rotate_left
         ·intro w'
          go_simp
          with_reducible rfl
         rotate_left
         ·simp only [Act.put, List.setIfInBounds_toArray, List.set_cons_zero, List.set_cons_succ, i64_w, i32_w]
          rfl
         refine pure_ (i := 2) (N := some 39) (v := ?_) (a' := ?_) #[true, false, true, false, false, false, false] rfl rfl (by kernel_rfl) (fun _ _ _ h => h) (Or.inl ⟨by rfl, ?_⟩) ?_ ?_
         rotate_left
         ·intro w'
          go_simp
          with_reducible rfl
         rotate_left
         ·simp only [Act.put, List.setIfInBounds_toArray, List.set_cons_zero, List.set_cons_succ, i64_w, i32_w]
          rfl
         refine pure_ (i := 3) (N := some 40) (v := ?_) (a' := ?_) #[true, false, true, true, false, false, false] rfl rfl (by kernel_rfl) (fun _ _ _ h => h) (Or.inl ⟨by rfl, ?_⟩) ?_ ?_
         rotate_left
         ·intro w'
          go_simp
          with_reducible rfl
         rotate_left
         ·simp only [Act.put, List.setIfInBounds_toArray, List.set_cons_zero, List.set_cons_succ, i64_w, i32_w]
          rfl
         refine take_ (i := 1) (N := some 38) (v := ?_) (a' := ?_) #[true, true, true, true, false, false, false] rfl rfl (by kernel_rfl) (fun _ _ _ h => h) (Or.inl ⟨by rfl, ?_⟩) hHeld ?_ ?_
         rotate_left
         ·rintro w' ⟨s0, s1, s2⟩
          go_simp
          with_reducible rfl
         rotate_left
         ·simp only [Act.put, List.setIfInBounds_toArray, List.set_cons_zero, List.set_cons_succ, i64_w, i32_w]
          rfl
         refine one_ (i := 4) (N := some 41) #[true, true, true, true, true, false, false] rfl rfl (by kernel_rfl) (by decide) (fun K hK => ?_)
         refine goes_ Try.func87 (by kernel_rfl) rfl #[.pointer (some ⟨g, 0, none⟩), .int .i64 7] (by rfl) rfl rfl (by (try simp only [List.map_toArray, List.map_cons, List.map_nil]); first | done | rfl | (simp only [List.length_drop, List.length_take]; rfl)) ?_
         with_reducible refine (spec_l1Below.calls g s0_0 x1001_1 x1002_1 7 t446 t447 t448 w0 _ ?side1 ?side2 A57.out).mono ?_
         (case side1 => repeat (first | (with_reducible first | exact HI0.out | apply IsS104.alloc | apply IsS104.drewN | apply IsS104.drew | apply IsS104.set_1 | apply IsS104.set_2 | refine IsS104.far ?_ NB0_430.out _ | refine IsS104.far ?_ NB0_440.out _) | exact HI0.out))
         (case side2 => repeat (first | (with_reducible first | exact HB.out | apply below_alloc | apply pw_below_drewN | apply below_drew1 | refine below_set ?_ (IsS104.ge HI0.out) | refine below_set ?_ GE430.out | refine below_set ?_ GE440.out) | exact HB.out))
         rintro e w65 ⟨rfl, hi, hb, hk⟩
         refine ⟨_, rfl, ?_⟩
         replace HO_441000 := Aside0.mk (Kd.R_mono (Kd.R_keep (IsS104.apart (show IsS104 w0 _ g s0_0 x1001_1 x1002_1 from by repeat (first | (with_reducible first | exact HI0.out | apply IsS104.alloc | apply IsS104.drewN | apply IsS104.drew | apply IsS104.set_1 | apply IsS104.set_2 | refine IsS104.far ?_ NB0_430.out _ | refine IsS104.far ?_ NB0_440.out _) | exact HI0.out)) (laR HO_441000.out) (by decide)) hk (fun _ h => h.2)) (fun _ h => h.1))
         replace HO_441001 := Aside0.mk (Kd.R_mono (Kd.R_keep (IsS104.apart (show IsS104 w0 _ g s0_0 x1001_1 x1002_1 from by repeat (first | (with_reducible first | exact HI0.out | apply IsS104.alloc | apply IsS104.drewN | apply IsS104.drew | apply IsS104.set_1 | apply IsS104.set_2 | refine IsS104.far ?_ NB0_430.out _ | refine IsS104.far ?_ NB0_440.out _) | exact HI0.out)) (laR HO_441001.out) (by decide)) hk (fun _ h => h.2)) (fun _ h => h.1))
         replace HO_441002 := Aside0.mk (Kd.R_mono (Kd.R_keep (IsS104.apart (show IsS104 w0 _ g s0_0 x1001_1 x1002_1 from by repeat (first | (with_reducible first | exact HI0.out | apply IsS104.alloc | apply IsS104.drewN | apply IsS104.drew | apply IsS104.set_1 | apply IsS104.set_2 | refine IsS104.far ?_ NB0_430.out _ | refine IsS104.far ?_ NB0_440.out _) | exact HI0.out)) (laR HO_441002.out) (by decide)) hk (fun _ h => h.2)) (fun _ h => h.1))
         replace BK430 := Aside0.mk (KeepBut.blk hk (g' := gb430) (o := .cells #[.slice none 0 0, .slice none 0 0, .slice none 0 0] 34 (0, 0)) (laK BK430.out) NB430_0.out (by simp))
         replace BK440 := Aside0.mk (KeepBut.blk hk (g' := gb440) (o := .cells #[u441000, u441001, u441002] 34 (0, 0)) (laK BK440.out) NB440_0.out (by simp))
         replace HK := Aside0.mk (KeepBut.trans (by repeat (first | (with_reducible first | exact HK.out | apply KeepBut.set_ | apply keep_drewN | apply keep_drew | apply keep_alloc | refine keep_far ?_ GW430.out _ | refine keep_far ?_ GW440.out _) | exact HK.out)) hk (.inl rfl))
         replace HB := Aside0.mk (hb)
         replace HI0 := Aside0.mk (hi)
         (try clear hb)
         (try clear hb2)
         (try clear hk)
         (try clear hi)
         have p60 : 0 ≤ (x5_1 : Int) := of_decide_eq_true (by first | (with_reducible assumption) | assumption)
         have q60 : (x5_1 : Int) < ((x441000_1.length : Int) : Int) := of_decide_eq_true (by first | (with_reducible assumption) | assumption)
         obtain ⟨go60, co60, eo60, gb60, gl60, cl60, HG60⟩ := Kd.R_form HO_441000.out (by omega)
         (first | cases eo60 | (injection eo60 with ea_ en_ ec_; (first | subst ea_ | (injection ea_ with ea_; subst ea_)); subst ec_; clear en_))
         have GB60 := Aside0.mk gb60
         have GG60 := Aside0.mk HG60
         clear gb60 gl60 HG60
         obtain ⟨hx60_0, hf60_0⟩ := Kd.R_celln 0 HO_441000.out (x5_1 : Int) p60 q60
         replace p60 := eq_true p60
         replace q60 := eq_true q60
         have HN0_go60 := Aside0.mk (show g ≠ go60 from by have h_ := IsS104.own_ne HI0.out HO_441000.out (by decide); intro e_; exact h_ (by rw [e_]; rfl))
         have HP66 := Kd.R_putn HO_441000.out (x5_1 : Int) t446
         rw [← Ny449.out] at HP66
         have HQ66 := Aside0.mk HP66
         clear HP66
         refine hK.out _ _ ⟨(blk_cell BK440.out 0).trans rfl, (blk_cell BK440.out 1).trans rfl, (blk_cell BK440.out 2).trans rfl⟩ (fun hHeld => ?_)
         clear hK K
         refine norm_ (a' := ?_) ?_ ?_
         rotate_left
         ·show Act.put _ (some 41) _ = _
          simp only [Act.put, List.setIfInBounds_toArray, List.set_cons_zero, List.set_cons_succ, i64_w, i32_w]
          rfl
         refine pure_ (i := 5) (N := some 42) (v := ?_) (a' := ?_) #[true, true, true, true, true, true, false] rfl rfl (by kernel_rfl) (fun _ _ _ h => h) (Or.inl ⟨by rfl, ?_⟩) ?_ ?_
         rotate_left
         ·intro w'
          go_simp
          with_reducible rfl
         rotate_left
         ·simp only [Act.put, List.setIfInBounds_toArray, List.set_cons_zero, List.set_cons_succ, i64_w, i32_w]
          rfl
         refine last_ (i := 6) (N := none) #[true, true, true, true, true, true, true] rfl rfl (by kernel_rfl) (by decide) (fun K hK => ?_)
         refine skip_ (w1 := ?_) (by rfl) rfl ?_ ?_
         rotate_left
         ·go_simp
          rfl
         refine hK.out _ _ ?_
         clear hK K
         refine done_ (by kernel_rfl) ?_
         try go_wp2
         have n0_ : Aside0 (Kd.R (Kd.int .i64) 3 (w65.setCell ⟨go60, (x5_1 : Int).toNat, none⟩ (.int .i64 t446)) w.heap.size (fun k_ => some k_ ≠ (u441001 : Value).ownBlock ∧ some k_ ≠ (u441002 : Value).ownBlock) (.slice (some ⟨go60, 0, none⟩) x441000_1.length co60) y449) := ⟨laR HQ66.out⟩
         have n1_ : Aside0 (Kd.R (Kd.int .i64) 3 (w65.setCell ⟨go60, (x5_1 : Int).toNat, none⟩ (.int .i64 t446)) w.heap.size (fun k_ => some k_ ≠ (.slice (some ⟨go60, 0, none⟩) x441000_1.length co60 : Value).ownBlock ∧ some k_ ≠ (u441002 : Value).ownBlock) u441001 x441001_1) := ⟨laR (Kd.R_mono (Kd.R_far (p := ⟨go60, (x5_1 : Int).toNat, none⟩) (Kd.R_mono HO_441001.out (fun k_ hk => (⟨hk, fun e_ => hk.1 (by rw [e_]; rfl)⟩ : _ ∧ k_ ≠ go60))) (fun _ hk => hk.2) (.int .i64 t446)) (fun _ hk => ⟨hk.1.1, hk.1.2⟩))⟩
         have n2_ : Aside0 (Kd.R (Kd.int .i64) 3 (w65.setCell ⟨go60, (x5_1 : Int).toNat, none⟩ (.int .i64 t446)) w.heap.size (fun k_ => some k_ ≠ (.slice (some ⟨go60, 0, none⟩) x441000_1.length co60 : Value).ownBlock ∧ some k_ ≠ (u441001 : Value).ownBlock) u441002 x441002_1) := ⟨laR (Kd.R_mono (Kd.R_far (p := ⟨go60, (x5_1 : Int).toNat, none⟩) (Kd.R_mono HO_441002.out (fun k_ hk => (⟨hk, fun e_ => hk.1 (by rw [e_]; rfl)⟩ : _ ∧ k_ ≠ go60))) (fun _ hk => hk.2) (.int .i64 t446)) (fun _ hk => ⟨hk.1.1, hk.1.2⟩))⟩
         have n3_ : Aside0 ((w65.setCell ⟨go60, (x5_1 : Int).toNat, none⟩ (.int .i64 t446)).heap[gb430]? = some (.cells #[.slice none 0 0, .slice none 0 0, .slice none 0 0] 34 (0, 0))) := ⟨by (with_reducible repeat (first | refine blk_drewN ?_ _ | refine blk_drew ?_ | refine blk_alloc ?_ _)); refine blk_far ?_ (by have h_ := Kd.R_ne HO_441000.out BK430.out (by decide); intro e_; exact h_ (by rw [e_]; rfl)) _; (with_reducible repeat (first | refine blk_drewN ?_ _ | refine blk_drew ?_ | refine blk_alloc ?_ _)); exact BK430.out⟩
         have n4_ : Aside0 ((w65.setCell ⟨go60, (x5_1 : Int).toNat, none⟩ (.int .i64 t446)).heap[gb440]? = some (.cells #[.slice (some ⟨go60, 0, none⟩) x441000_1.length co60, u441001, u441002] 34 (0, 0))) := ⟨by (with_reducible repeat (first | refine blk_drewN ?_ _ | refine blk_drew ?_ | refine blk_alloc ?_ _)); refine blk_far ?_ (by have h_ := Kd.R_ne HO_441000.out BK440.out (by decide); intro e_; exact h_ (by rw [e_]; rfl)) _; (with_reducible repeat (first | refine blk_drewN ?_ _ | refine blk_drew ?_ | refine blk_alloc ?_ _)); exact BK440.out⟩
         have n5_ : Aside0 (IsS104 w0 (w65.setCell ⟨go60, (x5_1 : Int).toNat, none⟩ (.int .i64 t446)) g s0_0 t447 t448) := ⟨by repeat (first | (with_reducible first | exact HI0.out | apply IsS104.alloc | apply IsS104.drewN | apply IsS104.drew | apply IsS104.set_1 | apply IsS104.set_2 | refine IsS104.far ?_ HN0_go60.out _ | refine IsS104.far ?_ NB0_430.out _ | refine IsS104.far ?_ NB0_440.out _) | exact HI0.out)⟩
         have n6_ : Aside0 (KeepBut w (w65.setCell ⟨go60, (x5_1 : Int).toNat, none⟩ (.int .i64 t446)) g none) := ⟨by repeat (first | (with_reducible first | exact HK.out | apply KeepBut.set_ | apply keep_drewN | apply keep_drew | apply keep_alloc | refine keep_far ?_ GB60.out _ | refine keep_far ?_ GW430.out _ | refine keep_far ?_ GW440.out _) | exact HK.out)⟩
         have n7_ : Aside0 (Below w0.heap.size w0 (w65.setCell ⟨go60, (x5_1 : Int).toNat, none⟩ (.int .i64 t446))) := ⟨by repeat (first | (with_reducible first | exact HB.out | apply below_alloc | apply pw_below_drewN | apply below_drew1 | refine below_set ?_ (Nat.le_trans HL.out GB60.out) | refine below_set ?_ (IsS104.ge HI0.out) | refine below_set ?_ GE430.out | refine below_set ?_ GE440.out) | exact HB.out)⟩
         (try clear HO_441000)
         (try clear HO_441001)
         (try clear HO_441002)
         (try clear BK430)
         (try clear BK440)
         (try clear HI0)
         (try clear HK)
         (try clear HB)
         generalize (w65.setCell ⟨go60, (x5_1 : Int).toNat, none⟩ (.int .i64 t446)) = w67 at n0_ n1_ n2_ n3_ n4_ n5_ n6_ n7_ ⊢
         have HO_441000 := n0_
         have HO_441001 := n1_
         have HO_441002 := n2_
         have BK430 := n3_
         have BK440 := n4_
         have HI0 := n5_
         have HK := n6_
         have HB := n7_
         clear n0_ n1_ n2_ n3_ n4_ n5_ n6_ n7_
         replace HO_441000 := Aside0.mk (Kd.R_drew HO_441000.out)
         replace HO_441001 := Aside0.mk (Kd.R_drew HO_441001.out)
         replace HO_441002 := Aside0.mk (Kd.R_drew HO_441002.out)
         replace BK430 := Aside0.mk (blk_drew BK430.out)
         replace BK440 := Aside0.mk (blk_drew BK440.out)
         replace HI0 := Aside0.mk (IsS104.drew HI0.out)
         replace HK := Aside0.mk (keep_drew HK.out)
         replace HB := Aside0.mk (below_drew1 HB.out)
         refine start_ (n := 7) (S := fun w' => w'.cell? ⟨gb440, 0, none⟩ = some (.slice (some ⟨go60, 0, none⟩) x441000_1.length co60) ∧ w'.cell? ⟨gb440, 1, none⟩ = some (u441001) ∧ w'.cell? ⟨gb440, 2, none⟩ = some (u441002)) (ds := [6]) #[false, false, false, false, false, false, false] (by kernel_rfl) rfl rfl ⟨(blk_cell BK440.out 0).trans rfl, (blk_cell BK440.out 1).trans rfl, (blk_cell BK440.out 2).trans rfl⟩ (fun hHeld => ?_)
         generalize w67.drew = w68 at HO_441000 HO_441001 HO_441002 BK430 BK440 HI0 HK HB HQ66 hHeld ⊢
         refine pure_ (i := 0) (N := some 43) (v := ?_) (a' := ?_) #[true, false, false, false, false, false, false] rfl rfl (by kernel_rfl) (fun _ _ _ h => h) (Or.inl ⟨by rfl, ?_⟩) ?_ ?_
         rotate_left
         ·intro w'
          go_simp
          with_reducible rfl
         rotate_left
         ·simp only [Act.put, List.setIfInBounds_toArray, List.set_cons_zero, List.set_cons_succ, i64_w, i32_w]
          rfl
         refine pure_ (i := 2) (N := some 45) (v := ?_) (a' := ?_) #[true, false, true, false, false, false, false] rfl rfl (by kernel_rfl) (fun _ _ _ h => h) (Or.inl ⟨by rfl, ?_⟩) ?_ ?_
         rotate_left
         ·intro w'
          go_simp
          with_reducible rfl
         rotate_left
         ·simp only [Act.put, List.setIfInBounds_toArray, List.set_cons_zero, List.set_cons_succ, i64_w, i32_w]
          rfl
         refine pure_ (i := 3) (N := some 46) (v := ?_) (a' := ?_) #[true, false, true, true, false, false, false] rfl rfl (by kernel_rfl) (fun _ _ _ h => h) (Or.inl ⟨by rfl, ?_⟩) ?_ ?_
         rotate_left
         ·intro w'
          go_simp
          with_reducible rfl
         rotate_left
         ·simp only [Act.put, List.setIfInBounds_toArray, List.set_cons_zero, List.set_cons_succ, i64_w, i32_w]
          rfl
         refine take_ (i := 1) (N := some 44) (v := ?_) (a' := ?_) #[true, true, true, true, false, false, false] rfl rfl (by kernel_rfl) (fun _ _ _ h => h) (Or.inl ⟨by rfl, ?_⟩) hHeld ?_ ?_
         rotate_left
         ·rintro w' ⟨s0, s1, s2⟩
          go_simp
          with_reducible rfl
         rotate_left
         ·simp only [Act.put, List.setIfInBounds_toArray, List.set_cons_zero, List.set_cons_succ, i64_w, i32_w]
          rfl
         refine one_ (i := 4) (N := some 47) #[true, true, true, true, true, false, false] rfl rfl (by kernel_rfl) (by decide) (fun K hK => ?_)
         refine goes_ Try.func87 (by kernel_rfl) rfl #[.pointer (some ⟨g, 0, none⟩), .int .i64 7] (by rfl) rfl rfl (by (try simp only [List.map_toArray, List.map_cons, List.map_nil]); first | done | rfl | (simp only [List.length_drop, List.length_take]; rfl)) ?_
         with_reducible refine (spec_l1Below.calls g s0_0 t447 t448 7 t450 t451 t452 w0 _ ?side1 ?side2 A61.out).mono ?_
         (case side1 => repeat (first | (with_reducible first | exact HI0.out | apply IsS104.alloc | apply IsS104.drewN | apply IsS104.drew | apply IsS104.set_1 | apply IsS104.set_2 | refine IsS104.far ?_ NB0_430.out _ | refine IsS104.far ?_ NB0_440.out _) | exact HI0.out))
         (case side2 => repeat (first | (with_reducible first | exact HB.out | apply below_alloc | apply pw_below_drewN | apply below_drew1 | refine below_set ?_ (IsS104.ge HI0.out) | refine below_set ?_ GE430.out | refine below_set ?_ GE440.out) | exact HB.out))
         rintro e w69 ⟨rfl, hi, hb, hk⟩
         refine ⟨_, rfl, ?_⟩
         replace HO_441000 := Aside0.mk (Kd.R_mono (Kd.R_keep (IsS104.apart (show IsS104 w0 _ g s0_0 t447 t448 from by repeat (first | (with_reducible first | exact HI0.out | apply IsS104.alloc | apply IsS104.drewN | apply IsS104.drew | apply IsS104.set_1 | apply IsS104.set_2 | refine IsS104.far ?_ NB0_430.out _ | refine IsS104.far ?_ NB0_440.out _) | exact HI0.out)) (laR HO_441000.out) (by decide)) hk (fun _ h => h.2)) (fun _ h => h.1))
         replace HO_441001 := Aside0.mk (Kd.R_mono (Kd.R_keep (IsS104.apart (show IsS104 w0 _ g s0_0 t447 t448 from by repeat (first | (with_reducible first | exact HI0.out | apply IsS104.alloc | apply IsS104.drewN | apply IsS104.drew | apply IsS104.set_1 | apply IsS104.set_2 | refine IsS104.far ?_ NB0_430.out _ | refine IsS104.far ?_ NB0_440.out _) | exact HI0.out)) (laR HO_441001.out) (by decide)) hk (fun _ h => h.2)) (fun _ h => h.1))
         replace HO_441002 := Aside0.mk (Kd.R_mono (Kd.R_keep (IsS104.apart (show IsS104 w0 _ g s0_0 t447 t448 from by repeat (first | (with_reducible first | exact HI0.out | apply IsS104.alloc | apply IsS104.drewN | apply IsS104.drew | apply IsS104.set_1 | apply IsS104.set_2 | refine IsS104.far ?_ NB0_430.out _ | refine IsS104.far ?_ NB0_440.out _) | exact HI0.out)) (laR HO_441002.out) (by decide)) hk (fun _ h => h.2)) (fun _ h => h.1))
         replace BK430 := Aside0.mk (KeepBut.blk hk (g' := gb430) (o := .cells #[.slice none 0 0, .slice none 0 0, .slice none 0 0] 34 (0, 0)) (laK BK430.out) NB430_0.out (by simp))
         replace BK440 := Aside0.mk (KeepBut.blk hk (g' := gb440) (o := .cells #[.slice (some ⟨go60, 0, none⟩) x441000_1.length co60, u441001, u441002] 34 (0, 0)) (laK BK440.out) NB440_0.out (by simp))
         replace HK := Aside0.mk (KeepBut.trans (by repeat (first | (with_reducible first | exact HK.out | apply KeepBut.set_ | apply keep_drewN | apply keep_drew | apply keep_alloc | refine keep_far ?_ GW430.out _ | refine keep_far ?_ GW440.out _) | exact HK.out)) hk (.inl rfl))
         replace HB := Aside0.mk (hb)
         replace HI0 := Aside0.mk (hi)
         (try clear hb)
         (try clear hb2)
         (try clear hk)
         (try clear hi)
         have p63 : 0 ≤ (x5_1 : Int) := of_decide_eq_true (by first | (with_reducible assumption) | assumption)
         have q63 : (x5_1 : Int) < ((x441001_1.length : Int) : Int) := of_decide_eq_true (by first | (with_reducible assumption) | assumption)
         obtain ⟨go63, co63, eo63, gb63, gl63, cl63, HG63⟩ := Kd.R_form HO_441001.out (by omega)
         (first | cases eo63 | (injection eo63 with ea_ en_ ec_; (first | subst ea_ | (injection ea_ with ea_; subst ea_)); subst ec_; clear en_))
         have GB63 := Aside0.mk gb63
         have GG63 := Aside0.mk HG63
         clear gb63 gl63 HG63
         obtain ⟨hx63_0, hf63_0⟩ := Kd.R_celln 0 HO_441001.out (x5_1 : Int) p63 q63
         replace p63 := eq_true p63
         replace q63 := eq_true q63
         have HN0_go63 := Aside0.mk (show g ≠ go63 from by have h_ := IsS104.own_ne HI0.out HO_441001.out (by decide); intro e_; exact h_ (by rw [e_]; rfl))
         have HP70 := Kd.R_putn HO_441001.out (x5_1 : Int) t450
         rw [← Ny453.out] at HP70
         have HQ70 := Aside0.mk HP70
         clear HP70
         refine hK.out _ _ ⟨(blk_cell BK440.out 0).trans rfl, (blk_cell BK440.out 1).trans rfl, (blk_cell BK440.out 2).trans rfl⟩ (fun hHeld => ?_)
         clear hK K
         refine norm_ (a' := ?_) ?_ ?_
         rotate_left
         ·show Act.put _ (some 47) _ = _
          simp only [Act.put, List.setIfInBounds_toArray, List.set_cons_zero, List.set_cons_succ, i64_w, i32_w]
          rfl
         refine pure_ (i := 5) (N := some 48) (v := ?_) (a' := ?_) #[true, true, true, true, true, true, false] rfl rfl (by kernel_rfl) (fun _ _ _ h => h) (Or.inl ⟨by rfl, ?_⟩) ?_ ?_
         rotate_left
         ·intro w'
          go_simp
          with_reducible rfl
         rotate_left
         ·simp only [Act.put, List.setIfInBounds_toArray, List.set_cons_zero, List.set_cons_succ, i64_w, i32_w]
          rfl
         refine last_ (i := 6) (N := none) #[true, true, true, true, true, true, true] rfl rfl (by kernel_rfl) (by decide) (fun K hK => ?_)
         refine skip_ (w1 := ?_) (by rfl) rfl ?_ ?_
         rotate_left
         ·go_simp
          rfl
         refine hK.out _ _ ?_
         clear hK K
         refine done_ (by kernel_rfl) ?_
         try go_wp2
         go_loopg [6] k1 (fun kq v6 w' => ∃ (x6_2 : Int) (x1001_2 : Int) (x1002_2 : Int) (x441000_2 : List Int) (x441001_2 : List Int) (x441002_2 : List Int) (u441000 : Value) (u441001 : Value) (u441002 : Value), v6 = .int .i64 x6_2 ∧ Aside0 (spec_l7Cost.l2 kq x5_1 x6_2 s0_0 x1001_2 x1002_2 x441000_2 x441001_2 x441002_2 = some (r1, r2, r3, r4, r5)) ∧ Aside0 (kq ≤ k1) ∧ Aside0 (Kd.R (Kd.int .i64) 3 w' w.heap.size (fun k_ => some k_ ≠ (u441001 : Value).ownBlock ∧ some k_ ≠ (u441002 : Value).ownBlock) u441000 x441000_2) ∧ Aside0 (Kd.R (Kd.int .i64) 3 w' w.heap.size (fun k_ => some k_ ≠ (u441000 : Value).ownBlock ∧ some k_ ≠ (u441002 : Value).ownBlock) u441001 x441001_2) ∧ Aside0 (Kd.R (Kd.int .i64) 3 w' w.heap.size (fun k_ => some k_ ≠ (u441000 : Value).ownBlock ∧ some k_ ≠ (u441001 : Value).ownBlock) u441002 x441002_2) ∧ Aside0 (w'.heap[gb430]? = some (.cells #[(.slice none 0 0), (.slice none 0 0), (.slice none 0 0)] 34 (0, 0))) ∧ Aside0 (w'.heap[gb440]? = some (.cells #[u441000, u441001, u441002] 34 (0, 0))) ∧ Aside0 (IsS104 w0 w' g s0_0 x1001_2 x1002_2) ∧ Aside0 (KeepBut w w' g none) ∧ Aside0 (Below w0.heap.size w0 w'))
         case atStart => exact ⟨(0), (t451), (t452), (y449), (y453), (x441002_1), (.slice (some ⟨go60, 0, none⟩) x441000_1.length co60), (.slice (some ⟨go63, 0, none⟩) x441001_1.length co63), (u441002), (by first | rfl | (simp; done) | (simp [*]; done)), H', ⟨Nat.le_refl _⟩, ⟨laR (Kd.R_mono (Kd.R_far (p := ⟨go63, (x5_1 : Int).toNat, none⟩) (Kd.R_mono HO_441000.out (fun k_ hk => (⟨hk, fun e_ => hk.1 (by rw [e_]; rfl)⟩ : _ ∧ k_ ≠ go63))) (fun _ hk => hk.2) (.int .i64 t450)) (fun _ hk => ⟨hk.1.1, hk.1.2⟩))⟩, ⟨laR HQ70.out⟩, ⟨laR (Kd.R_mono (Kd.R_far (p := ⟨go63, (x5_1 : Int).toNat, none⟩) (Kd.R_mono HO_441002.out (fun k_ hk => (⟨hk, fun e_ => hk.2 (by rw [e_]; rfl)⟩ : _ ∧ k_ ≠ go63))) (fun _ hk => hk.2) (.int .i64 t450)) (fun _ hk => ⟨hk.1.1, hk.1.2⟩))⟩, ⟨by (with_reducible repeat (first | refine blk_drewN ?_ _ | refine blk_drew ?_ | refine blk_alloc ?_ _)); refine blk_far ?_ (by have h_ := Kd.R_ne HO_441001.out BK430.out (by decide); intro e_; exact h_ (by rw [e_]; rfl)) _; (with_reducible repeat (first | refine blk_drewN ?_ _ | refine blk_drew ?_ | refine blk_alloc ?_ _)); exact BK430.out⟩, ⟨by (with_reducible repeat (first | refine blk_drewN ?_ _ | refine blk_drew ?_ | refine blk_alloc ?_ _)); refine blk_far ?_ (by have h_ := Kd.R_ne HO_441001.out BK440.out (by decide); intro e_; exact h_ (by rw [e_]; rfl)) _; (with_reducible repeat (first | refine blk_drewN ?_ _ | refine blk_drew ?_ | refine blk_alloc ?_ _)); exact BK440.out⟩, ⟨by repeat (first | (with_reducible first | exact HI0.out | apply IsS104.alloc | apply IsS104.drewN | apply IsS104.drew | apply IsS104.set_1 | apply IsS104.set_2 | refine IsS104.far ?_ HN0_go63.out _ | refine IsS104.far ?_ NB0_430.out _ | refine IsS104.far ?_ NB0_440.out _) | exact HI0.out)⟩, ⟨by repeat (first | (with_reducible first | exact HK.out | apply KeepBut.set_ | apply keep_drewN | apply keep_drew | apply keep_alloc | refine keep_far ?_ GB63.out _ | refine keep_far ?_ GW430.out _ | refine keep_far ?_ GW440.out _) | exact HK.out)⟩, ⟨by repeat (first | (with_reducible first | exact HB.out | apply below_alloc | apply pw_below_drewN | apply below_drew1 | refine below_set ?_ (Nat.le_trans HL.out GB63.out) | refine below_set ?_ (IsS104.ge HI0.out) | refine below_set ?_ GE430.out | refine below_set ?_ GE440.out) | exact HB.out)⟩⟩
         case round =>
          clear H'
          try clear c1
          try clear c2
          try clear p2
          try clear c3
          try clear p3
          try clear q3
          try clear hx3
          try clear hf3
          try clear c4
          try clear c4b0
          try clear c4b1
          try clear p4
          try clear q4
          try clear hx4
          try clear c5
          try clear c6
          try clear p6
          try clear q6
          try clear hx6
          try clear hf6
          try clear c8
          try clear c9
          try clear c10
          try clear c16
          try clear c18
          try clear c18b0
          try clear c18b1
          try clear c21
          try clear c23
          try clear c24
          try clear c29
          try clear c29b0
          try clear c30
          try clear c30b0
          try clear p31
          try clear q31
          try clear hx31
          try clear hf31
          try clear c32
          try clear c33
          try clear c38
          try clear c39
          try clear c43
          try clear p44
          try clear q44
          try clear hx44
          try clear c50
          try clear c51
          try clear c56
          try clear c56b0
          try clear c58
          try clear c58b0
          try clear c59
          try clear c59b0
          try clear p60
          try clear q60
          try clear hx60
          try clear hf60
          try clear c62
          try clear c62b0
          try clear p63
          try clear q63
          try clear hx63
          try clear hf63
          try clear p64
          try clear hcz11_0
          try clear hcz11_1
          try clear hcz11_2
          try clear hcz15_0
          try clear hcz15_1
          try clear hcz15_2
          try clear hcz17_0
          try clear hcz17_1
          try clear hcz17_2
          try clear hcz25_0
          try clear hcz25_1
          try clear hcz25_2
          try clear hcz34_0
          try clear hcz34_1
          try clear hcz34_2
          try clear hcz40_0
          try clear hcz40_1
          try clear hcz40_2
          try clear hcz44_0
          try clear hcz44_1
          try clear hcz44_2
          try clear hcz52_0
          try clear hcz52_1
          try clear hcz52_2
          try clear hfz11_0
          try clear hfz11_1
          try clear hfz11_2
          try clear hfz15_0
          try clear hfz15_1
          try clear hfz15_2
          try clear hfz17_0
          try clear hfz17_1
          try clear hfz17_2
          try clear hfz25_0
          try clear hfz25_1
          try clear hfz25_2
          try clear hfz34_0
          try clear hfz34_1
          try clear hfz34_2
          try clear hfz40_0
          try clear hfz40_1
          try clear hfz40_2
          try clear hfz44_0
          try clear hfz44_1
          try clear hfz44_2
          try clear hfz52_0
          try clear hfz52_1
          try clear hfz52_2
          try clear hx31_0
          try clear hx444_0
          try clear hx60_0
          try clear hx63_0
          try clear p2
          try clear p3
          try clear p31
          try clear p4
          try clear p44
          try clear p444
          try clear p6
          try clear p60
          try clear p63
          try clear q3
          try clear q31
          try clear q4
          try clear q44
          try clear q444
          try clear q60
          try clear q63
          obtain ⟨x6_2, x1001_2, x1002_2, x441000_2, x441001_2, x441002_2, u441000, u441001, u441002, rfl, HA, HK2, HO_441000, HO_441001, HO_441002, BK430, BK440, HI0, HK, HB⟩ := hrel
          cases gk with
          | zero => exact absurd HA.out (by simp [spec_l7Cost.l2])
          | succ k2 =>
           have H := HA.out
           clear HA
           simp only [spec_l7Cost.l2] at H
           by_cases c71 : x6_2 < 6
           ·rw [if_pos c71] at H
            have c71b0 : decide (x6_2 < 6) = true := decide_eq_true c71
            clear c71
            by_cases c72 : x5_1 = x6_2
            ·rw [if_pos c72] at H
             have c72b0 : (x5_1 == x6_2) = true := beq_iff_eq.mpr c72
             have c72b1 : (x5_1 != x6_2) = false := bne_eq_false_iff_eq.mpr c72
             clear c72
             have H' := Aside0.mk H
             clear H
             go_wp2
             go_roundg k2
             case measure => have := HK1.out; have := HK2.out; omega
             case rel => exact ⟨(wrap64 (x6_2 + 1)), (x1001_2), (x1002_2), (x441000_2), (x441001_2), (x441002_2), (u441000), (u441001), (u441002), (by first | rfl | (simp; done) | (simp [*]; done)), H', ⟨by have := HK1.out; have := HK2.out; omega⟩, ⟨laR HO_441000.out⟩, ⟨laR HO_441001.out⟩, ⟨laR HO_441002.out⟩, ⟨laK BK430.out⟩, ⟨laK BK440.out⟩, ⟨by repeat (first | (with_reducible first | exact HI0.out | apply IsS104.alloc | apply IsS104.drewN | apply IsS104.drew | apply IsS104.set_1 | apply IsS104.set_2 | refine IsS104.far ?_ NB0_430.out _ | refine IsS104.far ?_ NB0_440.out _) | exact HI0.out)⟩, ⟨by repeat (first | (with_reducible first | exact HK.out | apply KeepBut.set_ | apply keep_drewN | apply keep_drew | apply keep_alloc | refine keep_far ?_ GW430.out _ | refine keep_far ?_ GW440.out _) | exact HK.out)⟩, ⟨by repeat (first | (with_reducible first | exact HB.out | apply below_alloc | apply pw_below_drewN | apply below_drew1 | refine below_set ?_ (IsS104.ge HI0.out) | refine below_set ?_ GE430.out | refine below_set ?_ GE440.out) | exact HB.out)⟩⟩
            ·rw [if_neg c72] at H
             have c72b0 : (x5_1 == x6_2) = false := beq_eq_false_iff_ne.mpr c72
             have c72b1 : (x5_1 != x6_2) = true := bne_iff_ne.mpr c72
             obtain ⟨y454, hy454⟩ : ∃ y_ : List Int, y_ = (([0, 1, 4, 9, 1000] : List Int)) := ⟨_, rfl⟩
             replace H : ((spec_l1PickInt.f s0_0 x1001_2 x1002_2 y454).bind fun bt457 => (if 0 ≤ (wrap64 ((wrap64 (x5_1 * 6)) + x6_2)) then (if (wrap64 ((wrap64 (x5_1 * 6)) + x6_2)) < (x441002_2.length : Int) then (spec_l7Cost.l2 k2 x5_1 (wrap64 (x6_2 + 1)) s0_0 bt457.2.1 bt457.2.2 x441000_2 x441001_2 (x441002_2.set ((wrap64 ((wrap64 (x5_1 * 6)) + x6_2)) : Int).toNat bt457.1)) else (none)) else (none))) = some (r1, r2, r3, r4, r5) := by first | (rw [hy454]; with_reducible exact H) | (have H2_ := (Option.bind_some _ _).symm.trans H; rw [hy454]; with_reducible exact H2_) | (have H2_ := (Option.bind_some _ _).symm.trans H; with_reducible exact H2_) | with_reducible exact H | (rw [hy454]; exact H) | exact H
             have Ny454 := Aside0.mk hy454
             clear hy454
             replace H := Option.bind_eq_some_iff.mp H
             obtain ⟨⟨t457, t458, t459⟩, A730, H⟩ := H
             have A73 := Aside0.mk A730
             clear A730
             obtain ⟨ji74, hji74⟩ : ∃ j_ : Int, (wrap64 ((wrap64 (x5_1 * 6)) + x6_2)) = j_ := ⟨_, rfl⟩
             replace H : (if 0 ≤ (ji74) then (if (ji74) < (x441002_2.length : Int) then (spec_l7Cost.l2 k2 x5_1 (wrap64 (x6_2 + 1)) s0_0 t458 t459 x441000_2 x441001_2 (x441002_2.set ((ji74) : Int).toNat t457)) else (none)) else (none)) = some (r1, r2, r3, r4, r5) := by first | (rw [hji74] at H; exact H) | (simp only [hji74] at H ⊢; exact H)
             (try rw [hji74] at A73)
             have hji74w : (IntKind.i64.wrap ((wrap64 (x5_1 * 6)) + x6_2)) = ji74 := (i64_w _).trans hji74
             by_cases c75 : 0 ≤ (ji74)
             ·rw [if_pos c75] at H
              have c75b0 : decide (0 ≤ (ji74)) = true := decide_eq_true c75
              clear c75
              by_cases c76 : (ji74) < (x441002_2.length : Int)
              ·rw [if_pos c76] at H
               have c76b0 : decide ((ji74) < (x441002_2.length : Int)) = true := decide_eq_true c76
               clear c76
               obtain ⟨y460, hy460⟩ : ∃ y_ : List Int, y_ = (x441002_2.set ((ji74) : Int).toNat t457) := ⟨_, rfl⟩
               replace H : (spec_l7Cost.l2 k2 x5_1 (wrap64 (x6_2 + 1)) s0_0 t458 t459 x441000_2 x441001_2 y460) = some (r1, r2, r3, r4, r5) := by first | (rw [hy460]; with_reducible exact H) | (have H2_ := (Option.bind_some _ _).symm.trans H; rw [hy460]; with_reducible exact H2_) | (have H2_ := (Option.bind_some _ _).symm.trans H; with_reducible exact H2_) | with_reducible exact H | (rw [hy460]; exact H) | exact H
               have Ny460 := Aside0.mk hy460
               clear hy460
               have H' := Aside0.mk H
               clear H
               try go_wp2
               replace HO_441000 := Aside0.mk (Kd.R_drew HO_441000.out)
               replace HO_441001 := Aside0.mk (Kd.R_drew HO_441001.out)
               replace HO_441002 := Aside0.mk (Kd.R_drew HO_441002.out)
               replace BK430 := Aside0.mk (blk_drew BK430.out)
               replace BK440 := Aside0.mk (blk_drew BK440.out)
               replace HI0 := Aside0.mk (IsS104.drew HI0.out)
               replace HK := Aside0.mk (keep_drew HK.out)
               replace HB := Aside0.mk (below_drew1 HB.out)
               refine start_ (n := 11) (S := fun w' => w'.cell? ⟨gb440, 0, none⟩ = some (u441000) ∧ w'.cell? ⟨gb440, 1, none⟩ = some (u441001) ∧ w'.cell? ⟨gb440, 2, none⟩ = some (u441002)) (ds := [10]) #[false, false, false, false, false, false, false, false, false, false, false] (by kernel_rfl) rfl rfl ⟨(blk_cell BK440.out 0).trans rfl, (blk_cell BK440.out 1).trans rfl, (blk_cell BK440.out 2).trans rfl⟩ (fun hHeld => ?_); refine with_tabW spec_l7Cost.tab20 spec_l7Cost.bits20 (fun HT_ HW_ => ?_)
               generalize wr.drew = w78 at HO_441000 HO_441001 HO_441002 BK430 BK440 HI0 HK HB hHeld ⊢
               refine pure_ (i := 0) (N := some 56) (v := ?_) (a' := ?_) #[true, false, false, false, false, false, false, false, false, false, false] rfl rfl (any_of HT_.out (by kernel_rfl)) (fun _ _ _ h => h) (Or.inl ⟨by rfl, ?_⟩) ?_ ?_
               rotate_left
               ·intro w'
                go_simp
                with_reducible rfl
               rotate_left
               ·simp only [Act.put, List.setIfInBounds_toArray, List.set_cons_zero, List.set_cons_succ, i64_w, i32_w]
                rfl
               refine pure_ (i := 2) (N := some 58) (v := ?_) (a' := ?_) #[true, false, true, false, false, false, false, false, false, false, false] rfl rfl (any_of HT_.out (by kernel_rfl)) (fun _ _ _ h => h) (Or.inl ⟨by rfl, ?_⟩) ?_ ?_
               rotate_left
               ·intro w'
                go_simp
                with_reducible rfl
               rotate_left
               ·simp only [Act.put, List.setIfInBounds_toArray, List.set_cons_zero, List.set_cons_succ, i64_w, i32_w]
                rfl
               refine pure_ (i := 3) (N := some 59) (v := ?_) (a' := ?_) #[true, false, true, true, false, false, false, false, false, false, false] rfl rfl (any_of HT_.out (by kernel_rfl)) (fun _ _ _ h => h) (Or.inl ⟨by rfl, ?_⟩) ?_ ?_
               rotate_left
               ·intro w'
                go_simp
                with_reducible rfl
               rotate_left
               ·simp only [Act.put, List.setIfInBounds_toArray, List.set_cons_zero, List.set_cons_succ, i64_w, i32_w]
                rfl
               refine pure_ (i := 4) (N := some 60) (v := ?_) (a' := ?_) #[true, false, true, true, true, false, false, false, false, false, false] rfl rfl (any_of HT_.out (by kernel_rfl)) (fun _ _ _ h => h) (Or.inl ⟨by rfl, ?_⟩) ?_ ?_
               rotate_left
               ·intro w'
                go_simp
                with_reducible rfl
               rotate_left
               ·simp only [Act.put, List.setIfInBounds_toArray, List.set_cons_zero, List.set_cons_succ, i64_w, i32_w]
                rfl
               refine pure_ (i := 5) (N := some 61) (v := ?_) (a' := ?_) #[true, false, true, true, true, true, false, false, false, false, false] rfl rfl (any_of HT_.out (by kernel_rfl)) (fun _ _ _ h => h) (Or.inl ⟨by rfl, ?_⟩) ?_ ?_
               rotate_left
               ·intro w'
                go_simp
                with_reducible rfl
               rotate_left
               ·simp only [Act.put, List.setIfInBounds_toArray, List.set_cons_zero, List.set_cons_succ, i64_w, i32_w]
                rfl
               refine pure_ (i := 6) (N := some 62) (v := ?_) (a' := ?_) #[true, false, true, true, true, true, true, false, false, false, false] rfl rfl (any_of HT_.out (by kernel_rfl)) (fun _ _ _ h => h) (Or.inl ⟨by rfl, ?_⟩) ?_ ?_
               rotate_left
               ·intro w'
                go_simp
                with_reducible rfl
               rotate_left
               ·simp only [Act.put, List.setIfInBounds_toArray, List.set_cons_zero, List.set_cons_succ, i64_w, i32_w]
                rfl
               refine take_ (i := 1) (N := some 57) (v := ?_) (a' := ?_) #[true, true, true, true, true, true, true, false, false, false, false] rfl rfl (take_ofW HT_.out HW_.out (by kernel_rfl)) (fun _ _ _ h => h) (Or.inl ⟨by rfl, ?_⟩) hHeld ?_ ?_
               rotate_left
               ·rintro w' ⟨s0, s1, s2⟩
                go_simp
                with_reducible rfl
               rotate_left
               ·simp only [Act.put, List.setIfInBounds_toArray, List.set_cons_zero, List.set_cons_succ, i64_w, i32_w]
                rfl
               refine one_ (i := 7) (N := some 63) #[true, true, true, true, true, true, true, true, false, false, false] rfl rfl (one_of HT_.out (by kernel_rfl)) (by decide) (fun K hK => ?_)
               refine Kd.R_lit_step (Kd.int .i64) _ 3 ?hg (N := 63) ?hd (xs := ([0, 1, 4, 9, 1000] : List Int)) (inner := [.int .i64 0, .int .i64 1, .int .i64 4, .int .i64 9, .int .i64 1000]) (ok := fun _ => True) (okp := fun _ => True) ?hr ?hp (fun _ hk => hk) trivial (Below.refl _ _) (Nat.le_refl _) (by simp) ?_; (case hd => rfl); (case hg => rfl); (case hr => first | (go_simp; done) | (go_simp; rfl)); (case hp => exact (Reps.one (show Kd.M (Kd.int .i64) _ _ _ 0 [.int .i64 0] from rfl) (Reps.one (show Kd.M (Kd.int .i64) _ _ _ 1 [.int .i64 1] from rfl) (Reps.one (show Kd.M (Kd.int .i64) _ _ _ 4 [.int .i64 4] from rfl) (Reps.one (show Kd.M (Kd.int .i64) _ _ _ 9 [.int .i64 9] from rfl) (Reps.one (show Kd.M (Kd.int .i64) _ _ _ 1000 [.int .i64 1000] from rfl) (Reps.none _ _)))))))
               intro v455 w79 ho80 hb hg_ hnew_
               clear hg_ hnew_
               (first | rw [← Ny454.out] at ho80 | (simp only [Int.reduceToNat] at ho80; rw [← Ny454.out] at ho80))
               have HO456 := Aside0.mk (Kd.R_lower (Kd.R_new' (Kd.R_new' (Kd.R_new' ho80 (Kd.R_lt (laR HO_441000.out))) (Kd.R_lt (laR HO_441001.out))) (Kd.R_lt (laR HO_441002.out))) (keep_size (w := w) (g := g) (row := none) (by repeat (first | (with_reducible first | exact HK.out | apply KeepBut.set_ | apply keep_drewN | apply keep_drew | apply keep_alloc | refine keep_far ?_ GW430.out _ | refine keep_far ?_ GW440.out _) | exact HK.out))))
               replace HO_441000 := Aside0.mk (Kd.R_elder' (laR HO_441000.out) (Kd.R_base ho80) hb)
               replace HO_441001 := Aside0.mk (Kd.R_elder' (laR HO_441001.out) (Kd.R_base ho80) hb)
               replace HO_441002 := Aside0.mk (Kd.R_elder' (laR HO_441002.out) (Kd.R_base ho80) hb)
               replace BK430 := Aside0.mk (laKb BK430.out hb)
               replace BK440 := Aside0.mk (laKb BK440.out hb)
               replace HK := Aside0.mk (KeepBut.trans (by repeat (first | (with_reducible first | exact HK.out | apply KeepBut.set_ | apply keep_drewN | apply keep_drew | apply keep_alloc | refine keep_far ?_ GW430.out _ | refine keep_far ?_ GW440.out _) | exact HK.out)) (KeepBut.of_below hb g none) (.inl rfl))
               replace HB := Aside0.mk (below_step (by repeat (first | (with_reducible first | exact HB.out | apply below_alloc | apply pw_below_drewN | apply below_drew1 | refine below_set ?_ (IsS104.ge HI0.out) | refine below_set ?_ GE430.out | refine below_set ?_ GE440.out) | exact HB.out)) hb)
               replace HI0 := Aside0.mk (IsS104.below (by repeat (first | (with_reducible first | exact HI0.out | apply IsS104.alloc | apply IsS104.drewN | apply IsS104.drew | apply IsS104.set_1 | apply IsS104.set_2 | refine IsS104.far ?_ NB0_430.out _ | refine IsS104.far ?_ NB0_440.out _) | exact HI0.out)) hb)
               clear hb ho80
               obtain ⟨Ao81, co81, eo81⟩ := Kd.R_slice HO456.out
               (first | subst eo81 | (injection eo81 with f1_ f2_ f3_; have f4_ := f1_.symm; have f5_ := f3_.symm; clear f1_ f2_ f3_; subst f4_; subst f5_))
               refine hK.out _ _ ⟨(blk_cell BK440.out 0).trans rfl, (blk_cell BK440.out 1).trans rfl, (blk_cell BK440.out 2).trans rfl⟩ (fun hHeld => ?_)
               clear hK K
               refine norm_ (a' := ?_) ?_ ?_
               rotate_left
               ·show Act.put _ (some 63) _ = _
                simp only [Act.put, List.setIfInBounds_toArray, List.set_cons_zero, List.set_cons_succ, i64_w, i32_w]
                rfl
               refine one_ (i := 8) (N := some 64) #[true, true, true, true, true, true, true, true, true, false, false] rfl rfl (one_of HT_.out (by kernel_rfl)) (by decide) (fun K hK => ?_)
               refine goes_ Try.func89 (by kernel_rfl) rfl #[.pointer (some ⟨g, 0, none⟩), .slice Ao81 y454.length co81] (by rfl) rfl rfl (by (try simp only [List.map_toArray, List.map_cons, List.map_nil]); first | done | rfl | (simp only [List.length_drop, List.length_take]; rfl)) ?_
               with_reducible refine (spec_l1PickInt.calls g s0_0 x1001_2 x1002_2 _ _ y454 t457 t458 t459 w0 _ ?side1 ?side2 ?side3 ?side4 ?side5 A73.out).mono ?_
               (case side1 => repeat (first | (with_reducible first | exact HI0.out | apply IsS104.alloc | apply IsS104.drewN | apply IsS104.drew | apply IsS104.set_1 | apply IsS104.set_2 | refine IsS104.far ?_ NB0_430.out _ | refine IsS104.far ?_ NB0_440.out _) | exact HI0.out))
               (case side2 => repeat (first | (with_reducible first | exact HB.out | apply below_alloc | apply pw_below_drewN | apply below_drew1 | refine below_set ?_ (IsS104.ge HI0.out) | refine below_set ?_ GE430.out | refine below_set ?_ GE440.out) | exact HB.out))
               (case side3 => exact laC (Kd.R_reads' HO456.out).2.2)
               (case side4 => exact (Kd.R_reads' HO456.out).2.1)
               (case side5 => exact far_slice (IsS104.own_ne HI0.out HO456.out (by decide)))
               rintro e w82 ⟨rfl, hi, hb, hk⟩
               refine ⟨_, rfl, ?_⟩
               replace HO_441000 := Aside0.mk (Kd.R_mono (Kd.R_keep (IsS104.apart (show IsS104 w0 _ g s0_0 x1001_2 x1002_2 from by repeat (first | (with_reducible first | exact HI0.out | apply IsS104.alloc | apply IsS104.drewN | apply IsS104.drew | apply IsS104.set_1 | apply IsS104.set_2 | refine IsS104.far ?_ NB0_430.out _ | refine IsS104.far ?_ NB0_440.out _) | exact HI0.out)) (laR HO_441000.out) (by decide)) hk (fun _ h => h.2)) (fun _ h => h.1))
               replace HO_441001 := Aside0.mk (Kd.R_mono (Kd.R_keep (IsS104.apart (show IsS104 w0 _ g s0_0 x1001_2 x1002_2 from by repeat (first | (with_reducible first | exact HI0.out | apply IsS104.alloc | apply IsS104.drewN | apply IsS104.drew | apply IsS104.set_1 | apply IsS104.set_2 | refine IsS104.far ?_ NB0_430.out _ | refine IsS104.far ?_ NB0_440.out _) | exact HI0.out)) (laR HO_441001.out) (by decide)) hk (fun _ h => h.2)) (fun _ h => h.1))
               replace HO_441002 := Aside0.mk (Kd.R_mono (Kd.R_keep (IsS104.apart (show IsS104 w0 _ g s0_0 x1001_2 x1002_2 from by repeat (first | (with_reducible first | exact HI0.out | apply IsS104.alloc | apply IsS104.drewN | apply IsS104.drew | apply IsS104.set_1 | apply IsS104.set_2 | refine IsS104.far ?_ NB0_430.out _ | refine IsS104.far ?_ NB0_440.out _) | exact HI0.out)) (laR HO_441002.out) (by decide)) hk (fun _ h => h.2)) (fun _ h => h.1))
               replace BK430 := Aside0.mk (KeepBut.blk hk (g' := gb430) (o := .cells #[.slice none 0 0, .slice none 0 0, .slice none 0 0] 34 (0, 0)) (laK BK430.out) NB430_0.out (by simp))
               replace BK440 := Aside0.mk (KeepBut.blk hk (g' := gb440) (o := .cells #[u441000, u441001, u441002] 34 (0, 0)) (laK BK440.out) NB440_0.out (by simp))
               replace HO456 := Aside0.mk (Kd.R_mono (Kd.R_keep (IsS104.apart (show IsS104 w0 _ g s0_0 x1001_2 x1002_2 from by repeat (first | (with_reducible first | exact HI0.out | apply IsS104.alloc | apply IsS104.drewN | apply IsS104.drew | apply IsS104.set_1 | apply IsS104.set_2 | refine IsS104.far ?_ NB0_430.out _ | refine IsS104.far ?_ NB0_440.out _) | exact HI0.out)) (laR HO456.out) (by decide)) hk (fun _ h => h.2)) (fun _ h => h.1))
               replace HK := Aside0.mk (KeepBut.trans (by repeat (first | (with_reducible first | exact HK.out | apply KeepBut.set_ | apply keep_drewN | apply keep_drew | apply keep_alloc | refine keep_far ?_ GW430.out _ | refine keep_far ?_ GW440.out _) | exact HK.out)) hk (.inl rfl))
               replace HB := Aside0.mk (hb)
               replace HI0 := Aside0.mk (hi)
               (try clear hb)
               (try clear hb2)
               (try clear hk)
               (try clear hi)
               have p77 : 0 ≤ ((ji74) : Int) := of_decide_eq_true (by first | (with_reducible assumption) | assumption)
               have q77 : ((ji74) : Int) < ((x441002_2.length : Int) : Int) := of_decide_eq_true (by first | (with_reducible assumption) | assumption)
               obtain ⟨go77, co77, eo77, gb77, gl77, cl77, HG77⟩ := Kd.R_form HO_441002.out (by omega)
               (first | cases eo77 | (injection eo77 with ea_ en_ ec_; (first | subst ea_ | (injection ea_ with ea_; subst ea_)); subst ec_; clear en_))
               have GB77 := Aside0.mk gb77
               have GG77 := Aside0.mk HG77
               clear gb77 gl77 HG77
               obtain ⟨hx77_0, hf77_0⟩ := Kd.R_celln 0 HO_441002.out ((ji74) : Int) p77 q77
               replace p77 := eq_true p77
               replace q77 := eq_true q77
               have HN0_go77 := Aside0.mk (show g ≠ go77 from by have h_ := IsS104.own_ne HI0.out HO_441002.out (by decide); intro e_; exact h_ (by rw [e_]; rfl))
               have HP83 := Kd.R_putn HO_441002.out ((ji74) : Int) t457
               rw [← Ny460.out] at HP83
               have HQ83 := Aside0.mk HP83
               clear HP83
               refine hK.out _ _ ⟨(blk_cell BK440.out 0).trans rfl, (blk_cell BK440.out 1).trans rfl, (blk_cell BK440.out 2).trans rfl⟩ (fun hHeld => ?_)
               clear hK K
               refine norm_ (a' := ?_) ?_ ?_
               rotate_left
               ·show Act.put _ (some 64) _ = _
                simp only [Act.put, List.setIfInBounds_toArray, List.set_cons_zero, List.set_cons_succ, i64_w, i32_w]
                rfl
               refine pure_ (i := 9) (N := some 65) (v := ?_) (a' := ?_) #[true, true, true, true, true, true, true, true, true, true, false] rfl rfl (any_of HT_.out (by kernel_rfl)) (fun _ _ _ h => h) (Or.inl ⟨by rfl, ?_⟩) ?_ ?_
               rotate_left
               ·intro w'
                go_simp
                with_reducible rfl
               rotate_left
               ·simp only [Act.put, List.setIfInBounds_toArray, List.set_cons_zero, List.set_cons_succ, i64_w, i32_w]
                rfl
               refine last_ (i := 10) (N := none) #[true, true, true, true, true, true, true, true, true, true, true] rfl rfl (one_of HT_.out (by kernel_rfl)) (by decide) (fun K hK => ?_)
               refine skip_ (w1 := ?_) (by rfl) rfl ?_ ?_
               rotate_left
               ·go_simp
                rfl
               refine hK.out _ _ ?_
               clear hK K
               refine done_ (done_of HT_.out (by kernel_rfl)) ?_
               try go_wp2
               go_roundg k2
               case measure => have := HK1.out; have := HK2.out; omega
               case rel => exact ⟨(wrap64 (x6_2 + 1)), (t458), (t459), (x441000_2), (x441001_2), (y460), (u441000), (u441001), (.slice (some ⟨go77, 0, none⟩) x441002_2.length co77), (by first | rfl | (simp; done) | (simp [*]; done)), H', ⟨by have := HK1.out; have := HK2.out; omega⟩, ⟨laR (Kd.R_mono (Kd.R_far (p := ⟨go77, ((ji74) : Int).toNat, none⟩) (Kd.R_mono HO_441000.out (fun k_ hk => (⟨hk, fun e_ => hk.1.2 (by rw [e_]; rfl)⟩ : _ ∧ k_ ≠ go77))) (fun _ hk => hk.2) (.int .i64 t457)) (fun _ hk => ⟨hk.1.1.1, hk.1.1.2⟩))⟩, ⟨laR (Kd.R_mono (Kd.R_far (p := ⟨go77, ((ji74) : Int).toNat, none⟩) (Kd.R_mono HO_441001.out (fun k_ hk => (⟨hk, fun e_ => hk.1.2 (by rw [e_]; rfl)⟩ : _ ∧ k_ ≠ go77))) (fun _ hk => hk.2) (.int .i64 t457)) (fun _ hk => ⟨hk.1.1.1, hk.1.1.2⟩))⟩, ⟨laR (Kd.R_mono HQ83.out (fun _ hk => ⟨hk.1.1, hk.1.2⟩))⟩, ⟨by (with_reducible repeat (first | refine blk_drewN ?_ _ | refine blk_drew ?_ | refine blk_alloc ?_ _)); refine blk_far ?_ (by have h_ := Kd.R_ne HO_441002.out BK430.out (by decide); intro e_; exact h_ (by rw [e_]; rfl)) _; (with_reducible repeat (first | refine blk_drewN ?_ _ | refine blk_drew ?_ | refine blk_alloc ?_ _)); exact BK430.out⟩, ⟨by (with_reducible repeat (first | refine blk_drewN ?_ _ | refine blk_drew ?_ | refine blk_alloc ?_ _)); refine blk_far ?_ (by have h_ := Kd.R_ne HO_441002.out BK440.out (by decide); intro e_; exact h_ (by rw [e_]; rfl)) _; (with_reducible repeat (first | refine blk_drewN ?_ _ | refine blk_drew ?_ | refine blk_alloc ?_ _)); exact BK440.out⟩, ⟨by repeat (first | (with_reducible first | exact HI0.out | apply IsS104.alloc | apply IsS104.drewN | apply IsS104.drew | apply IsS104.set_1 | apply IsS104.set_2 | refine IsS104.far ?_ HN0_go77.out _ | refine IsS104.far ?_ NB0_430.out _ | refine IsS104.far ?_ NB0_440.out _) | exact HI0.out)⟩, ⟨by repeat (first | (with_reducible first | exact HK.out | apply KeepBut.set_ | apply keep_drewN | apply keep_drew | apply keep_alloc | refine keep_far ?_ GB77.out _ | refine keep_far ?_ GW430.out _ | refine keep_far ?_ GW440.out _) | exact HK.out)⟩, ⟨by repeat (first | (with_reducible first | exact HB.out | apply below_alloc | apply pw_below_drewN | apply below_drew1 | refine below_set ?_ (Nat.le_trans HL.out GB77.out) | refine below_set ?_ (IsS104.ge HI0.out) | refine below_set ?_ GE430.out | refine below_set ?_ GE440.out) | exact HB.out)⟩⟩
              ·rw [if_neg c76] at H
               exact absurd H (by simp)
             ·rw [if_neg c75] at H
              exact absurd H (by simp)
           ·rw [if_neg c71] at H
            have c71b0 : decide (x6_2 < 6) = false := decide_eq_false c71
            clear c71
            have H' := Aside0.mk H
            clear H
            go_wp2
            go_roundg k2
            case measure => have := HK1.out; have := HK2.out; omega
            case rel => exact ⟨(wrap64 (x5_1 + 1)), (x1001_2), (x1002_2), (x441000_2), (x441001_2), (x441002_2), (u441000), (u441001), (u441002), (by first | rfl | (simp; done) | (simp [*]; done)), H', ⟨by have := HK1.out; have := HK2.out; omega⟩, ⟨laR HO_441000.out⟩, ⟨laR HO_441001.out⟩, ⟨laR HO_441002.out⟩, ⟨laK BK430.out⟩, ⟨laK BK440.out⟩, ⟨by repeat (first | (with_reducible first | exact HI0.out | apply IsS104.alloc | apply IsS104.drewN | apply IsS104.drew | apply IsS104.set_1 | apply IsS104.set_2 | refine IsS104.far ?_ NB0_430.out _ | refine IsS104.far ?_ NB0_440.out _) | exact HI0.out)⟩, ⟨by repeat (first | (with_reducible first | exact HK.out | apply KeepBut.set_ | apply keep_drewN | apply keep_drew | apply keep_alloc | refine keep_far ?_ GW430.out _ | refine keep_far ?_ GW440.out _) | exact HK.out)⟩, ⟨by repeat (first | (with_reducible first | exact HB.out | apply below_alloc | apply pw_below_drewN | apply below_drew1 | refine below_set ?_ (IsS104.ge HI0.out) | refine below_set ?_ GE430.out | refine below_set ?_ GE440.out) | exact HB.out)⟩⟩
        ·rw [if_neg c62] at H
         exact absurd H (by simp)
       ·rw [if_neg c59] at H
        exact absurd H (by simp)
      ·rw [if_neg c58] at H
       exact absurd H (by simp)
     ·rw [if_neg c56] at H
      have c56b0 : decide (x5_1 < 6) = false := decide_eq_false c56
      clear c56
      simp only [Option.some.injEq, Prod.mk.injEq] at H
      obtain ⟨rfl, rfl, rfl, rfl, rfl⟩ := H
      have hnb84 := NB440_430.out
      have hnc84 := NB430_440.out
      have hnb85 := NB440_0.out
      have hnc85 := NB0_440.out
      have hcz86_0 : wr.cell? ⟨gb440, 0, none⟩ = some (u441000) := (blk_cell BK440.out 0).trans rfl
      have hcz86_1 : wr.cell? ⟨gb440, 1, none⟩ = some (u441001) := (blk_cell BK440.out 1).trans rfl
      have hcz86_2 : wr.cell? ⟨gb440, 2, none⟩ = some (u441002) := (blk_cell BK440.out 2).trans rfl
      have hfz86_0 := blk_frozen BK440.out 0
      have hfz86_1 := blk_frozen BK440.out 1
      have hfz86_2 := blk_frozen BK440.out 2
      obtain ⟨Ao87, co87, eo87⟩ := Kd.R_slice HO_441000.out
      subst eo87
      have hnb88 := NB430_0.out
      have hnc88 := NB0_430.out
      have hcz89_0 : wr.cell? ⟨gb430, 0, none⟩ = some (.slice none 0 0) := (blk_cell BK430.out 0).trans rfl
      have hcz89_1 : wr.cell? ⟨gb430, 1, none⟩ = some (.slice none 0 0) := (blk_cell BK430.out 1).trans rfl
      have hcz89_2 : wr.cell? ⟨gb430, 2, none⟩ = some (.slice none 0 0) := (blk_cell BK430.out 2).trans rfl
      have hfz89_0 := blk_frozen BK430.out 0
      have hfz89_1 := blk_frozen BK430.out 1
      have hfz89_2 := blk_frozen BK430.out 2
      obtain ⟨Ao90, co90, eo90⟩ := Kd.R_slice HO_441001.out
      subst eo90
      obtain ⟨Ao91, co91, eo91⟩ := Kd.R_slice HO_441002.out
      subst eo91
      go_wp2
      refine bodyPost_ret (results_cell_row rfl _ _ gb430 34 #[.slice Ao87 x441000_1.length co87, .slice Ao90 x441001_1.length co90, .slice Ao91 x441002_1.length co91] (0, 0) _ rfl (by (with_reducible repeat (first | refine blk_drewN ?_ _ | refine blk_drew ?_ | refine blk_alloc ?_ _)); refine blk_put (cs := #[.slice Ao87 x441000_1.length co87, .slice Ao90 x441001_1.length co90, .slice none 0 0]) ?_ 2 _ rfl; (with_reducible repeat (first | refine blk_drewN ?_ _ | refine blk_drew ?_ | refine blk_alloc ?_ _)); refine blk_put (cs := #[.slice Ao87 x441000_1.length co87, .slice none 0 0, .slice none 0 0]) ?_ 1 _ rfl; (with_reducible repeat (first | refine blk_drewN ?_ _ | refine blk_drew ?_ | refine blk_alloc ?_ _)); refine blk_put (cs := #[.slice none 0 0, .slice none 0 0, .slice none 0 0]) ?_ 0 _ rfl; (with_reducible repeat (first | refine blk_drewN ?_ _ | refine blk_drew ?_ | refine blk_alloc ?_ _)); exact BK430.out) Try.underlying34 rfl (by kernel_rfl)) rfl ?_
      exact ⟨_, _, _, by first | rfl | (simp [errW_none, errW_some] <;> rfl) | (simp [*, errW_none, errW_some] <;> rfl), by (with_reducible repeat (first | apply Kd.R_alloc | apply Kd.R_drewN | apply Kd.R_drew)); exact Kd.R_mono (Kd.R_far (p := ⟨gb430, 2, none⟩) (Kd.R_far (p := ⟨gb430, 1, none⟩) (Kd.R_far (p := ⟨gb430, 0, none⟩) (Kd.R_types HO_441000.out BK430.out (by decide)) (fun _ hk => hk.2) (.slice Ao87 x441000_1.length co87)) (fun _ hk => hk.2) (.slice Ao90 x441001_1.length co90)) (fun _ hk => hk.2) (.slice Ao91 x441002_1.length co91)) (fun _ hk => ⟨hk.1.1, hk.1.2⟩), by (with_reducible repeat (first | apply Kd.R_alloc | apply Kd.R_drewN | apply Kd.R_drew)); exact Kd.R_mono (Kd.R_far (p := ⟨gb430, 2, none⟩) (Kd.R_far (p := ⟨gb430, 1, none⟩) (Kd.R_far (p := ⟨gb430, 0, none⟩) (Kd.R_types HO_441001.out BK430.out (by decide)) (fun _ hk => hk.2) (.slice Ao87 x441000_1.length co87)) (fun _ hk => hk.2) (.slice Ao90 x441001_1.length co90)) (fun _ hk => hk.2) (.slice Ao91 x441002_1.length co91)) (fun _ hk => ⟨hk.1.1, hk.1.2⟩), by (with_reducible repeat (first | apply Kd.R_alloc | apply Kd.R_drewN | apply Kd.R_drew)); exact Kd.R_mono (Kd.R_far (p := ⟨gb430, 2, none⟩) (Kd.R_far (p := ⟨gb430, 1, none⟩) (Kd.R_far (p := ⟨gb430, 0, none⟩) (Kd.R_types HO_441002.out BK430.out (by decide)) (fun _ hk => hk.2) (.slice Ao87 x441000_1.length co87)) (fun _ hk => hk.2) (.slice Ao90 x441001_1.length co90)) (fun _ hk => hk.2) (.slice Ao91 x441002_1.length co91)) (fun _ hk => ⟨hk.1.1, hk.1.2⟩), by repeat (first | (with_reducible first | exact HI0.out | apply IsS104.alloc | apply IsS104.drewN | apply IsS104.drew | apply IsS104.set_1 | apply IsS104.set_2 | refine IsS104.far ?_ NB0_430.out _ | refine IsS104.far ?_ NB0_440.out _) | exact HI0.out), by repeat (first | (with_reducible first | exact HB.out | apply below_alloc | apply pw_below_drewN | apply below_drew1 | refine below_set ?_ (IsS104.ge HI0.out) | refine below_set ?_ GE430.out | refine below_set ?_ GE440.out) | exact HB.out), by repeat (first | (with_reducible first | exact HK.out | apply KeepBut.set_ | apply keep_drewN | apply keep_drew | apply keep_alloc | refine keep_far ?_ GW430.out _ | refine keep_far ?_ GW440.out _) | exact HK.out)⟩


end Go.Proofs.Ytekpggmnnfjphaa.P
