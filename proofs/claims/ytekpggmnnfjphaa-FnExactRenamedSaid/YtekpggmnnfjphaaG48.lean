-- Written by this session's program mk.py with the kit's print program, out of the translation; not by hand. Lean checks it.
import Derived.Test.YtekpggmnnfjphaaP0
import Derived.Test.YtekpggmnnfjphaaHand
import Derived.Test.YtekpggmnnfjphaaG115
import Derived.Test.YtekpggmnnfjphaaG35
namespace Go.Proofs.Ytekpggmnnfjphaa.P
open Go.RowKit Go.Proofs.YtekpggmnnfjphaaW.PrintWords Go.Proofs.YtekpggmnnfjphaaW.PrintLast Go.Proofs.YtekpggmnnfjphaaW.PrintMore
attribute [local go_sem] max2_int min2_int max_two min_two max_three min_three max_four min_four   -- for this text's walks alone
set_option linter.unusedVariables false
set_option linter.unusedSimpArgs false


/-! ### laws_eqOpS: function 48 -/
def laws_eqOpS.l0 : Nat → List (S98) → List (S98) → Int → Option (Bool)
 | 0, _, _, _ => none
 | k + 1, x0, x1, x5 => if x5 < (x0.length : Int) then (if 0 ≤ x5 then (if x5 < (x1.length : Int) then ((laws_eqOp.f k ((rd_T98 x0 x5).f0) ((rd_T98 x0 x5).f1) ((rd_T98 x0 x5).f2) ((rd_T98 x0 x5).f3) ((rd_T98 x0 x5).f4) ((rd_T98 x1 x5).f0) ((rd_T98 x1 x5).f1) ((rd_T98 x1 x5).f2) ((rd_T98 x1 x5).f3) ((rd_T98 x1 x5).f4)).bind fun t1212 => (if t1212 = true then (laws_eqOpS.l0 k x0 x1 (wrap64 (x5 + 1))) else (some false))) else (none)) else (none)) else (some true)
def laws_eqOpS.f (k : Nat) (l0 : List (S98)) (l1 : List (S98)) : Option (Bool) := if (l0.length : Int) = (l1.length : Int) then (laws_eqOpS.l0 k l0 l1 0) else (some false)
theorem laws_eqOpS.mono_l : ∀ k, (∀ y0 y1 y2, LeO (laws_eqOpS.l0 k y0 y1 y2) (laws_eqOpS.l0 (k + 1) y0 y1 y2))
 | 0 => fun _ _ _ r h => by simp [laws_eqOpS.l0] at h
 | k + 1 => by
  have ih0 := laws_eqOpS.mono_l k
  ·intro y0 y1 y2
   unfold laws_eqOpS.l0
   repeat' first
   | (with_reducible exact ih0 _ _ _)
   | (with_reducible exact laws_eqOp.mono _ _ _ _ _ _ _ _ _ _ _)
   | (with_reducible exact LeO.refl _)
   | (with_reducible exact LeO.none _)
   | (with_reducible refine LeO.ite ?_ ?_)
   | (with_reducible refine LeO.bind ?_ (fun _ => ?_))
   | exact ih0 _ _ _
   | exact laws_eqOp.mono _ _ _ _ _ _ _ _ _ _ _
   | exact LeO.none _
   | refine LeO.ite ?_ ?_
   | refine LeO.bind ?_ (fun _ => ?_)
theorem laws_eqOpS.mono : ∀ a0 a1 k, LeO (laws_eqOpS.f k a0 a1) (laws_eqOpS.f (k + 1) a0 a1) := by
 intro a0 a1 k
 have ih0 := laws_eqOpS.mono_l k
 unfold laws_eqOpS.f
 repeat' first
   | (with_reducible exact ih0 _ _ _)
   | (with_reducible exact laws_eqOp.mono _ _ _ _ _ _ _ _ _ _ _)
   | (with_reducible exact LeO.refl _)
   | (with_reducible exact LeO.none _)
   | (with_reducible refine LeO.ite ?_ ?_)
   | (with_reducible refine LeO.bind ?_ (fun _ => ?_))
   | exact ih0 _ _ _
   | exact laws_eqOp.mono _ _ _ _ _ _ _ _ _ _ _
   | exact LeO.none _
   | refine LeO.ite ?_ ?_
   | refine LeO.bind ?_ (fun _ => ?_)
def laws_eqOpS.T6 : Bool × List (List Nat × List Nat) := (true, [([], []), ([], []), ([0, 1], [0, 1]), ([2], [2]), ([], []), ([], []), ([4, 5], [4, 5]), ([6], [6]), ([3, 7], [3, 7]), ([8], [8])])
def laws_eqOpS.B6 : List Nat := [0, 0, 3, 7, 0, 0, 48, 112, 255, 511]
theorem laws_eqOpS.tab6 : rtab .any (opsOf Try.f48 6) = laws_eqOpS.T6 := by kernel_rfl
theorem laws_eqOpS.bits6 : waitsOk laws_eqOpS.T6.2 laws_eqOpS.B6 = true := by kernel_rfl
set_option maxHeartbeats 8000000 in
set_option maxRecDepth 100000 in
theorem laws_eqOpS.calls (k : Nat) (A0 : Option Addr) (c0 : Nat) (l0 : List (S98)) (A1 : Option Addr) (c1 : Nat) (l1 : List (S98)) (r : Bool) (w : World) (hr0 : Kd.C k98 w A0 l0.length l0) (hc0 : l0.length ≤ c0) (hr1 : Kd.C k98 w A1 l1.length l1) (hc1 : l1.length ≤ c1) (h : laws_eqOpS.f k l0 l1 = some r) :
  Calls Try.prog 48 #[.slice A0 l0.length c0, .slice A1 l1.length c1] w fun e w' => e = .returned (.bool r) ∧ Below w.heap.size w w' := by
 have hu98 := Try.underlying98
 have HR0 := Aside0.mk hr0
 have HC0 := Aside0.mk hc0
 clear hr0 hc0
 have HR1 := Aside0.mk hr1
 have HC1 := Aside0.mk hc1
 clear hr1 hc1
 have HB := Aside0.mk (Below.refl w.heap.size w)
 have H : (if (l0.length : Int) = (l1.length : Int) then (laws_eqOpS.l0 k l0 l1 0) else (some false)) = some r := h
 clear h
 by_cases c3 : (l0.length : Int) = (l1.length : Int)
 ·rw [if_pos c3] at H
  have c3b0 : ((l0.length : Int) == (l1.length : Int)) = true := beq_iff_eq.mpr c3
  have c3b1 : ((l0.length : Int) != (l1.length : Int)) = false := bne_eq_false_iff_eq.mpr c3
  have c3b2 : (l0.length == l1.length) = true := by first | simpa using c3 | (simp at c3 ⊢; omega)
  clear c3
  have H' := Aside0.mk H
  clear H
  go_enter Try.func48, Try.ntmps48
  go_wp2
  go_loopg [5] k (fun kq v5 w' => ∃ (x5_1 : Int), v5 = .int .i64 x5_1 ∧ Aside0 (laws_eqOpS.l0 kq l0 l1 x5_1 = some r) ∧ Aside0 (kq ≤ k) ∧ Aside0 (Below w.heap.size w w'))
  case atStart => exact ⟨(0), (by first | rfl | (simp; done) | (simp [*]; done)), H', ⟨Nat.le_refl _⟩, ⟨laB HB.out⟩⟩
  case round =>
   clear H'
   try clear c1
   try clear p2
   try clear c3
   try clear c3b0
   try clear c3b1
   try clear c3b2
   obtain ⟨x5_1, rfl, HA, HK1, HB⟩ := hrel
   cases gk with
   | zero => exact absurd HA.out (by simp [laws_eqOpS.l0])
   | succ k1 =>
    have H := HA.out
    clear HA
    simp only [laws_eqOpS.l0] at H
    by_cases c4 : x5_1 < (l0.length : Int)
    ·rw [if_pos c4] at H
     have c4b0 : decide (x5_1 < (l0.length : Int)) = true := decide_eq_true c4
     clear c4
     by_cases c5 : 0 ≤ x5_1
     ·rw [if_pos c5] at H
      have c5b0 : decide (0 ≤ x5_1) = true := decide_eq_true c5
      clear c5
      by_cases c6 : x5_1 < (l1.length : Int)
      ·rw [if_pos c6] at H
       have c6b0 : decide (x5_1 < (l1.length : Int)) = true := decide_eq_true c6
       clear c6
       replace H := Option.bind_eq_some_iff.mp H
       obtain ⟨t1212, A70, H⟩ := H
       have A7 := Aside0.mk A70
       clear A70
       by_cases c8 : t1212 = true
       ·subst c8
        rw [if_pos rfl] at H
        have H' := Aside0.mk H
        clear H
        try go_wp2
        replace HB := Aside0.mk (below_drew1 HB.out)
        have p1210 : 0 ≤ (x5_1 : Int) := of_decide_eq_true (by first | (with_reducible assumption) | assumption)
        have q1210 : x5_1 < (l0.length : Int) := of_decide_eq_true (by first | (with_reducible assumption) | assumption)
        obtain ⟨ad1210, A1210_1, c1210_1, e1210, hx1210_0, hx1210_1, hx1210_2, hx1210_3, hx1210_4, hl1210_1, hi1210_1⟩ := at_T98 HR0.out x5_1 p1210 q1210
        have hw1210_4 := hx1210_4
        have hw1210_3 := hx1210_3
        have hw1210_2 := hx1210_2
        have hw1210_1 := hx1210_1
        have hw1210_0 := hx1210_0
        cases e1210
        replace hx1210_0 := (HB.out.cell (World.block_lt_of_cell? w _ hx1210_0)).trans hx1210_0
        replace hx1210_1 := (HB.out.cell (World.block_lt_of_cell? w _ hx1210_1)).trans hx1210_1
        replace hx1210_2 := (HB.out.cell (World.block_lt_of_cell? w _ hx1210_2)).trans hx1210_2
        replace hx1210_3 := (HB.out.cell (World.block_lt_of_cell? w _ hx1210_3)).trans hx1210_3
        replace hx1210_4 := (HB.out.cell (World.block_lt_of_cell? w _ hx1210_4)).trans hx1210_4
        have HR1210_1 := Aside0.mk hi1210_1
        have HC1210_1 := Aside0.mk hl1210_1
        clear hi1210_1 hl1210_1
        replace p1210 := eq_true p1210
        replace q1210 := eq_true q1210
        have p1211 : 0 ≤ (x5_1 : Int) := of_decide_eq_true (by first | (with_reducible assumption) | assumption)
        have q1211 : x5_1 < (l1.length : Int) := of_decide_eq_true (by first | (with_reducible assumption) | assumption)
        obtain ⟨ad1211, A1211_1, c1211_1, e1211, hx1211_0, hx1211_1, hx1211_2, hx1211_3, hx1211_4, hl1211_1, hi1211_1⟩ := at_T98 HR1.out x5_1 p1211 q1211
        have hw1211_4 := hx1211_4
        have hw1211_3 := hx1211_3
        have hw1211_2 := hx1211_2
        have hw1211_1 := hx1211_1
        have hw1211_0 := hx1211_0
        cases e1211
        replace hx1211_0 := (HB.out.cell (World.block_lt_of_cell? w _ hx1211_0)).trans hx1211_0
        replace hx1211_1 := (HB.out.cell (World.block_lt_of_cell? w _ hx1211_1)).trans hx1211_1
        replace hx1211_2 := (HB.out.cell (World.block_lt_of_cell? w _ hx1211_2)).trans hx1211_2
        replace hx1211_3 := (HB.out.cell (World.block_lt_of_cell? w _ hx1211_3)).trans hx1211_3
        replace hx1211_4 := (HB.out.cell (World.block_lt_of_cell? w _ hx1211_4)).trans hx1211_4
        have HR1211_1 := Aside0.mk hi1211_1
        have HC1211_1 := Aside0.mk hl1211_1
        clear hi1211_1 hl1211_1
        replace p1211 := eq_true p1211
        replace q1211 := eq_true q1211
        refine start_ (n := 10) (S := fun w' => w'.cell? (ad1210.add ((x5_1).toNat * 5)) = some (.int .i64 ((rd_T98 l0 x5_1).f0)) ∧ w'.cell? ⟨(ad1210.add ((x5_1).toNat * 5)).block, (ad1210.add ((x5_1).toNat * 5)).off + 1, none⟩ = some (.slice A1210_1 ((rd_T98 l0 x5_1).f1).length c1210_1) ∧ w'.cell? ⟨(ad1210.add ((x5_1).toNat * 5)).block, (ad1210.add ((x5_1).toNat * 5)).off + 2, none⟩ = some (.int .i64 ((rd_T98 l0 x5_1).f2)) ∧ w'.cell? ⟨(ad1210.add ((x5_1).toNat * 5)).block, (ad1210.add ((x5_1).toNat * 5)).off + 3, none⟩ = some (.int .i64 ((rd_T98 l0 x5_1).f3)) ∧ w'.cell? ⟨(ad1210.add ((x5_1).toNat * 5)).block, (ad1210.add ((x5_1).toNat * 5)).off + 4, none⟩ = some (.int .i64 ((rd_T98 l0 x5_1).f4)) ∧ w'.cell? (ad1211.add ((x5_1).toNat * 5)) = some (.int .i64 ((rd_T98 l1 x5_1).f0)) ∧ w'.cell? ⟨(ad1211.add ((x5_1).toNat * 5)).block, (ad1211.add ((x5_1).toNat * 5)).off + 1, none⟩ = some (.slice A1211_1 ((rd_T98 l1 x5_1).f1).length c1211_1) ∧ w'.cell? ⟨(ad1211.add ((x5_1).toNat * 5)).block, (ad1211.add ((x5_1).toNat * 5)).off + 2, none⟩ = some (.int .i64 ((rd_T98 l1 x5_1).f2)) ∧ w'.cell? ⟨(ad1211.add ((x5_1).toNat * 5)).block, (ad1211.add ((x5_1).toNat * 5)).off + 3, none⟩ = some (.int .i64 ((rd_T98 l1 x5_1).f3)) ∧ w'.cell? ⟨(ad1211.add ((x5_1).toNat * 5)).block, (ad1211.add ((x5_1).toNat * 5)).off + 4, none⟩ = some (.int .i64 ((rd_T98 l1 x5_1).f4))) (ds := []) #[false, false, false, false, false, false, false, false, false, false] (by kernel_rfl) rfl rfl ⟨((HB.out.cell (World.block_lt_of_cell? w _ hw1210_0)).trans hw1210_0), ((HB.out.cell (World.block_lt_of_cell? w _ hw1210_1)).trans hw1210_1), ((HB.out.cell (World.block_lt_of_cell? w _ hw1210_2)).trans hw1210_2), ((HB.out.cell (World.block_lt_of_cell? w _ hw1210_3)).trans hw1210_3), ((HB.out.cell (World.block_lt_of_cell? w _ hw1210_4)).trans hw1210_4), ((HB.out.cell (World.block_lt_of_cell? w _ hw1211_0)).trans hw1211_0), ((HB.out.cell (World.block_lt_of_cell? w _ hw1211_1)).trans hw1211_1), ((HB.out.cell (World.block_lt_of_cell? w _ hw1211_2)).trans hw1211_2), ((HB.out.cell (World.block_lt_of_cell? w _ hw1211_3)).trans hw1211_3), ((HB.out.cell (World.block_lt_of_cell? w _ hw1211_4)).trans hw1211_4)⟩ (fun hHeld => ?_); refine with_tabW laws_eqOpS.tab6 laws_eqOpS.bits6 (fun HT_ HW_ => ?_)
        generalize wr.drew = w9 at HB HR1210_1 HR1211_1 hx1210_0 hx1210_1 hx1210_2 hx1210_3 hx1210_4 hx1211_0 hx1211_1 hx1211_2 hx1211_3 hx1211_4 hHeld ⊢
        refine pure_ (i := 0) (N := some 17) (v := ?_) (a' := ?_) #[true, false, false, false, false, false, false, false, false, false] rfl rfl (any_of HT_.out (by kernel_rfl)) (fun _ _ _ h => h) (Or.inl ⟨by rfl, ?_⟩) ?_ ?_
        rotate_left
        ·intro w'
         go_simp
         with_reducible rfl
        rotate_left
        ·simp only [Act.put, List.setIfInBounds_toArray, List.set_cons_zero, List.set_cons_succ, i64_w, i32_w]
         rfl
        refine pure_ (i := 1) (N := some 18) (v := ?_) (a' := ?_) #[true, true, false, false, false, false, false, false, false, false] rfl rfl (any_of HT_.out (by kernel_rfl)) (fun _ _ _ h => h) (Or.inl ⟨by rfl, ?_⟩) ?_ ?_
        rotate_left
        ·intro w'
         go_simp
         with_reducible rfl
        rotate_left
        ·simp only [Act.put, List.setIfInBounds_toArray, List.set_cons_zero, List.set_cons_succ, i64_w, i32_w]
         rfl
        refine pure_ (i := 2) (N := some 19) (v := ?_) (a' := ?_) #[true, true, true, false, false, false, false, false, false, false] rfl rfl (any_of HT_.out (by kernel_rfl)) (fun _ _ _ h => h) (Or.inl ⟨by rfl, ?_⟩) ?_ ?_
        rotate_left
        ·intro w'
         go_simp
         with_reducible rfl
        rotate_left
        ·simp only [Act.put, List.setIfInBounds_toArray, List.set_cons_zero, List.set_cons_succ, i64_w, i32_w]
         rfl
        refine pure_ (i := 4) (N := some 21) (v := ?_) (a' := ?_) #[true, true, true, false, true, false, false, false, false, false] rfl rfl (any_of HT_.out (by kernel_rfl)) (fun _ _ _ h => h) (Or.inl ⟨by rfl, ?_⟩) ?_ ?_
        rotate_left
        ·intro w'
         go_simp
         with_reducible rfl
        rotate_left
        ·simp only [Act.put, List.setIfInBounds_toArray, List.set_cons_zero, List.set_cons_succ, i64_w, i32_w]
         rfl
        refine pure_ (i := 5) (N := some 22) (v := ?_) (a' := ?_) #[true, true, true, false, true, true, false, false, false, false] rfl rfl (any_of HT_.out (by kernel_rfl)) (fun _ _ _ h => h) (Or.inl ⟨by rfl, ?_⟩) ?_ ?_
        rotate_left
        ·intro w'
         go_simp
         with_reducible rfl
        rotate_left
        ·simp only [Act.put, List.setIfInBounds_toArray, List.set_cons_zero, List.set_cons_succ, i64_w, i32_w]
         rfl
        refine pure_ (i := 6) (N := some 23) (v := ?_) (a' := ?_) #[true, true, true, false, true, true, true, false, false, false] rfl rfl (any_of HT_.out (by kernel_rfl)) (fun _ _ _ h => h) (Or.inl ⟨by rfl, ?_⟩) ?_ ?_
        rotate_left
        ·intro w'
         go_simp
         with_reducible rfl
        rotate_left
        ·simp only [Act.put, List.setIfInBounds_toArray, List.set_cons_zero, List.set_cons_succ, i64_w, i32_w]
         rfl
        refine take_ (i := 3) (N := some 20) (v := ?_) (a' := ?_) #[true, true, true, true, true, true, true, false, false, false] rfl rfl (take_ofW HT_.out HW_.out (by kernel_rfl)) (fun _ _ _ h => h) (Or.inl ⟨by rfl, ?_⟩) hHeld ?_ ?_
        rotate_left
        ·rintro w' ⟨s0, s1, s2, s3, s4, s5, s6, s7, s8, s9⟩
         go_simp
         with_reducible rfl
        rotate_left
        ·simp only [Act.put, List.setIfInBounds_toArray, List.set_cons_zero, List.set_cons_succ, i64_w, i32_w]
         rfl
        refine take_ (i := 7) (N := some 24) (v := ?_) (a' := ?_) #[true, true, true, true, true, true, true, true, false, false] rfl rfl (take_ofW HT_.out HW_.out (by kernel_rfl)) (fun _ _ _ h => h) (Or.inl ⟨by rfl, ?_⟩) hHeld ?_ ?_
        rotate_left
        ·rintro w' ⟨s0, s1, s2, s3, s4, s5, s6, s7, s8, s9⟩
         go_simp
         with_reducible rfl
        rotate_left
        ·simp only [Act.put, List.setIfInBounds_toArray, List.set_cons_zero, List.set_cons_succ, i64_w, i32_w]
         rfl
        refine one_ (i := 8) (N := some 25) #[true, true, true, true, true, true, true, true, true, false] rfl rfl (one_of HT_.out (by kernel_rfl)) (by decide) (fun K hK => ?_)
        refine goes_ Try.func85 (by kernel_rfl) rfl #[.agg #[.int .i64 ((rd_T98 l0 x5_1).f0), .slice A1210_1 ((rd_T98 l0 x5_1).f1).length c1210_1, .int .i64 ((rd_T98 l0 x5_1).f2), .int .i64 ((rd_T98 l0 x5_1).f3), .int .i64 ((rd_T98 l0 x5_1).f4)], .agg #[.int .i64 ((rd_T98 l1 x5_1).f0), .slice A1211_1 ((rd_T98 l1 x5_1).f1).length c1211_1, .int .i64 ((rd_T98 l1 x5_1).f2), .int .i64 ((rd_T98 l1 x5_1).f3), .int .i64 ((rd_T98 l1 x5_1).f4)]] (by rfl) rfl rfl (by (try simp only [List.map_toArray, List.map_cons, List.map_nil]); first | done | rfl | (simp only [List.length_drop, List.length_take]; rfl)) ?_
        with_reducible refine (laws_eqOp.calls k1 ((rd_T98 l0 x5_1).f0) _ _ ((rd_T98 l0 x5_1).f1) ((rd_T98 l0 x5_1).f2) ((rd_T98 l0 x5_1).f3) ((rd_T98 l0 x5_1).f4) ((rd_T98 l1 x5_1).f0) _ _ ((rd_T98 l1 x5_1).f1) ((rd_T98 l1 x5_1).f2) ((rd_T98 l1 x5_1).f3) ((rd_T98 l1 x5_1).f4) true _ ?side1 ?side2 ?side3 ?side4 A7.out).mono ?_
        (case side1 => exact laC (Kd.C_below HR1210_1.out HB.out))
        (case side2 => exact HC1210_1.out)
        (case side3 => exact laC (Kd.C_below HR1211_1.out HB.out))
        (case side4 => exact HC1211_1.out)
        rintro e w10 ⟨rfl, hb⟩
        refine ⟨_, rfl, ?_⟩
        replace HB := Aside0.mk (below_step (laB HB.out) hb)
        (try clear hb)
        (try clear hb2)
        (try clear hk)
        (try clear hi)
        refine hK.out _ _ ⟨((HB.out.cell (World.block_lt_of_cell? w _ hw1210_0)).trans hw1210_0), ((HB.out.cell (World.block_lt_of_cell? w _ hw1210_1)).trans hw1210_1), ((HB.out.cell (World.block_lt_of_cell? w _ hw1210_2)).trans hw1210_2), ((HB.out.cell (World.block_lt_of_cell? w _ hw1210_3)).trans hw1210_3), ((HB.out.cell (World.block_lt_of_cell? w _ hw1210_4)).trans hw1210_4), ((HB.out.cell (World.block_lt_of_cell? w _ hw1211_0)).trans hw1211_0), ((HB.out.cell (World.block_lt_of_cell? w _ hw1211_1)).trans hw1211_1), ((HB.out.cell (World.block_lt_of_cell? w _ hw1211_2)).trans hw1211_2), ((HB.out.cell (World.block_lt_of_cell? w _ hw1211_3)).trans hw1211_3), ((HB.out.cell (World.block_lt_of_cell? w _ hw1211_4)).trans hw1211_4)⟩ (fun hHeld => ?_)
        clear hK K
        refine norm_ (a' := ?_) ?_ ?_
        rotate_left
        ·show Act.put _ (some 25) _ = _
         simp only [Act.put, List.setIfInBounds_toArray, List.set_cons_zero, List.set_cons_succ, i64_w, i32_w]
         rfl
        refine pure_ (i := 9) (N := some 26) (v := ?_) (a' := ?_) #[true, true, true, true, true, true, true, true, true, true] rfl rfl (any_of HT_.out (by kernel_rfl)) (fun _ _ _ h => h) (Or.inl ⟨by rfl, ?_⟩) ?_ ?_
        rotate_left
        ·intro w'
         go_simp
         with_reducible rfl
        rotate_left
        ·simp only [Act.put, List.setIfInBounds_toArray, List.set_cons_zero, List.set_cons_succ, i64_w, i32_w]
         rfl
        refine done_ (done_of HT_.out (by kernel_rfl)) ?_
        try go_wp2
        go_roundg k1
        case measure => have := HK1.out; omega
        case rel => exact ⟨(wrap64 (x5_1 + 1)), (by first | rfl | (simp; done) | (simp [*]; done)), H', ⟨by have := HK1.out; omega⟩, ⟨laB HB.out⟩⟩
       ·replace c8 := Bool.eq_false_iff.mpr c8
        subst c8
        rw [if_neg (show ¬ (false = true) by decide)] at H
        obtain rfl := Option.some.inj H
        try go_wp2
        replace HB := Aside0.mk (below_drew1 HB.out)
        have p1210 : 0 ≤ (x5_1 : Int) := of_decide_eq_true (by first | (with_reducible assumption) | assumption)
        have q1210 : x5_1 < (l0.length : Int) := of_decide_eq_true (by first | (with_reducible assumption) | assumption)
        obtain ⟨ad1210, A1210_1, c1210_1, e1210, hx1210_0, hx1210_1, hx1210_2, hx1210_3, hx1210_4, hl1210_1, hi1210_1⟩ := at_T98 HR0.out x5_1 p1210 q1210
        have hw1210_4 := hx1210_4
        have hw1210_3 := hx1210_3
        have hw1210_2 := hx1210_2
        have hw1210_1 := hx1210_1
        have hw1210_0 := hx1210_0
        cases e1210
        replace hx1210_0 := (HB.out.cell (World.block_lt_of_cell? w _ hx1210_0)).trans hx1210_0
        replace hx1210_1 := (HB.out.cell (World.block_lt_of_cell? w _ hx1210_1)).trans hx1210_1
        replace hx1210_2 := (HB.out.cell (World.block_lt_of_cell? w _ hx1210_2)).trans hx1210_2
        replace hx1210_3 := (HB.out.cell (World.block_lt_of_cell? w _ hx1210_3)).trans hx1210_3
        replace hx1210_4 := (HB.out.cell (World.block_lt_of_cell? w _ hx1210_4)).trans hx1210_4
        have HR1210_1 := Aside0.mk hi1210_1
        have HC1210_1 := Aside0.mk hl1210_1
        clear hi1210_1 hl1210_1
        replace p1210 := eq_true p1210
        replace q1210 := eq_true q1210
        have p1211 : 0 ≤ (x5_1 : Int) := of_decide_eq_true (by first | (with_reducible assumption) | assumption)
        have q1211 : x5_1 < (l1.length : Int) := of_decide_eq_true (by first | (with_reducible assumption) | assumption)
        obtain ⟨ad1211, A1211_1, c1211_1, e1211, hx1211_0, hx1211_1, hx1211_2, hx1211_3, hx1211_4, hl1211_1, hi1211_1⟩ := at_T98 HR1.out x5_1 p1211 q1211
        have hw1211_4 := hx1211_4
        have hw1211_3 := hx1211_3
        have hw1211_2 := hx1211_2
        have hw1211_1 := hx1211_1
        have hw1211_0 := hx1211_0
        cases e1211
        replace hx1211_0 := (HB.out.cell (World.block_lt_of_cell? w _ hx1211_0)).trans hx1211_0
        replace hx1211_1 := (HB.out.cell (World.block_lt_of_cell? w _ hx1211_1)).trans hx1211_1
        replace hx1211_2 := (HB.out.cell (World.block_lt_of_cell? w _ hx1211_2)).trans hx1211_2
        replace hx1211_3 := (HB.out.cell (World.block_lt_of_cell? w _ hx1211_3)).trans hx1211_3
        replace hx1211_4 := (HB.out.cell (World.block_lt_of_cell? w _ hx1211_4)).trans hx1211_4
        have HR1211_1 := Aside0.mk hi1211_1
        have HC1211_1 := Aside0.mk hl1211_1
        clear hi1211_1 hl1211_1
        replace p1211 := eq_true p1211
        replace q1211 := eq_true q1211
        refine start_ (n := 10) (S := fun w' => w'.cell? (ad1210.add ((x5_1).toNat * 5)) = some (.int .i64 ((rd_T98 l0 x5_1).f0)) ∧ w'.cell? ⟨(ad1210.add ((x5_1).toNat * 5)).block, (ad1210.add ((x5_1).toNat * 5)).off + 1, none⟩ = some (.slice A1210_1 ((rd_T98 l0 x5_1).f1).length c1210_1) ∧ w'.cell? ⟨(ad1210.add ((x5_1).toNat * 5)).block, (ad1210.add ((x5_1).toNat * 5)).off + 2, none⟩ = some (.int .i64 ((rd_T98 l0 x5_1).f2)) ∧ w'.cell? ⟨(ad1210.add ((x5_1).toNat * 5)).block, (ad1210.add ((x5_1).toNat * 5)).off + 3, none⟩ = some (.int .i64 ((rd_T98 l0 x5_1).f3)) ∧ w'.cell? ⟨(ad1210.add ((x5_1).toNat * 5)).block, (ad1210.add ((x5_1).toNat * 5)).off + 4, none⟩ = some (.int .i64 ((rd_T98 l0 x5_1).f4)) ∧ w'.cell? (ad1211.add ((x5_1).toNat * 5)) = some (.int .i64 ((rd_T98 l1 x5_1).f0)) ∧ w'.cell? ⟨(ad1211.add ((x5_1).toNat * 5)).block, (ad1211.add ((x5_1).toNat * 5)).off + 1, none⟩ = some (.slice A1211_1 ((rd_T98 l1 x5_1).f1).length c1211_1) ∧ w'.cell? ⟨(ad1211.add ((x5_1).toNat * 5)).block, (ad1211.add ((x5_1).toNat * 5)).off + 2, none⟩ = some (.int .i64 ((rd_T98 l1 x5_1).f2)) ∧ w'.cell? ⟨(ad1211.add ((x5_1).toNat * 5)).block, (ad1211.add ((x5_1).toNat * 5)).off + 3, none⟩ = some (.int .i64 ((rd_T98 l1 x5_1).f3)) ∧ w'.cell? ⟨(ad1211.add ((x5_1).toNat * 5)).block, (ad1211.add ((x5_1).toNat * 5)).off + 4, none⟩ = some (.int .i64 ((rd_T98 l1 x5_1).f4))) (ds := []) #[false, false, false, false, false, false, false, false, false, false] (by kernel_rfl) rfl rfl ⟨((HB.out.cell (World.block_lt_of_cell? w _ hw1210_0)).trans hw1210_0), ((HB.out.cell (World.block_lt_of_cell? w _ hw1210_1)).trans hw1210_1), ((HB.out.cell (World.block_lt_of_cell? w _ hw1210_2)).trans hw1210_2), ((HB.out.cell (World.block_lt_of_cell? w _ hw1210_3)).trans hw1210_3), ((HB.out.cell (World.block_lt_of_cell? w _ hw1210_4)).trans hw1210_4), ((HB.out.cell (World.block_lt_of_cell? w _ hw1211_0)).trans hw1211_0), ((HB.out.cell (World.block_lt_of_cell? w _ hw1211_1)).trans hw1211_1), ((HB.out.cell (World.block_lt_of_cell? w _ hw1211_2)).trans hw1211_2), ((HB.out.cell (World.block_lt_of_cell? w _ hw1211_3)).trans hw1211_3), ((HB.out.cell (World.block_lt_of_cell? w _ hw1211_4)).trans hw1211_4)⟩ (fun hHeld => ?_); refine with_tabW laws_eqOpS.tab6 laws_eqOpS.bits6 (fun HT_ HW_ => ?_)
        generalize wr.drew = w11 at HB HR1210_1 HR1211_1 hx1210_0 hx1210_1 hx1210_2 hx1210_3 hx1210_4 hx1211_0 hx1211_1 hx1211_2 hx1211_3 hx1211_4 hHeld ⊢
        refine pure_ (i := 0) (N := some 17) (v := ?_) (a' := ?_) #[true, false, false, false, false, false, false, false, false, false] rfl rfl (any_of HT_.out (by kernel_rfl)) (fun _ _ _ h => h) (Or.inl ⟨by rfl, ?_⟩) ?_ ?_
        rotate_left
        ·intro w'
         go_simp
         with_reducible rfl
        rotate_left
        ·simp only [Act.put, List.setIfInBounds_toArray, List.set_cons_zero, List.set_cons_succ, i64_w, i32_w]
         rfl
        refine pure_ (i := 1) (N := some 18) (v := ?_) (a' := ?_) #[true, true, false, false, false, false, false, false, false, false] rfl rfl (any_of HT_.out (by kernel_rfl)) (fun _ _ _ h => h) (Or.inl ⟨by rfl, ?_⟩) ?_ ?_
        rotate_left
        ·intro w'
         go_simp
         with_reducible rfl
        rotate_left
        ·simp only [Act.put, List.setIfInBounds_toArray, List.set_cons_zero, List.set_cons_succ, i64_w, i32_w]
         rfl
        refine pure_ (i := 2) (N := some 19) (v := ?_) (a' := ?_) #[true, true, true, false, false, false, false, false, false, false] rfl rfl (any_of HT_.out (by kernel_rfl)) (fun _ _ _ h => h) (Or.inl ⟨by rfl, ?_⟩) ?_ ?_
        rotate_left
        ·intro w'
         go_simp
         with_reducible rfl
        rotate_left
        ·simp only [Act.put, List.setIfInBounds_toArray, List.set_cons_zero, List.set_cons_succ, i64_w, i32_w]
         rfl
        refine pure_ (i := 4) (N := some 21) (v := ?_) (a' := ?_) #[true, true, true, false, true, false, false, false, false, false] rfl rfl (any_of HT_.out (by kernel_rfl)) (fun _ _ _ h => h) (Or.inl ⟨by rfl, ?_⟩) ?_ ?_
        rotate_left
        ·intro w'
         go_simp
         with_reducible rfl
        rotate_left
        ·simp only [Act.put, List.setIfInBounds_toArray, List.set_cons_zero, List.set_cons_succ, i64_w, i32_w]
         rfl
        refine pure_ (i := 5) (N := some 22) (v := ?_) (a' := ?_) #[true, true, true, false, true, true, false, false, false, false] rfl rfl (any_of HT_.out (by kernel_rfl)) (fun _ _ _ h => h) (Or.inl ⟨by rfl, ?_⟩) ?_ ?_
        rotate_left
        ·intro w'
         go_simp
         with_reducible rfl
        rotate_left
        ·simp only [Act.put, List.setIfInBounds_toArray, List.set_cons_zero, List.set_cons_succ, i64_w, i32_w]
         rfl
        refine pure_ (i := 6) (N := some 23) (v := ?_) (a' := ?_) #[true, true, true, false, true, true, true, false, false, false] rfl rfl (any_of HT_.out (by kernel_rfl)) (fun _ _ _ h => h) (Or.inl ⟨by rfl, ?_⟩) ?_ ?_
        rotate_left
        ·intro w'
         go_simp
         with_reducible rfl
        rotate_left
        ·simp only [Act.put, List.setIfInBounds_toArray, List.set_cons_zero, List.set_cons_succ, i64_w, i32_w]
         rfl
        refine take_ (i := 3) (N := some 20) (v := ?_) (a' := ?_) #[true, true, true, true, true, true, true, false, false, false] rfl rfl (take_ofW HT_.out HW_.out (by kernel_rfl)) (fun _ _ _ h => h) (Or.inl ⟨by rfl, ?_⟩) hHeld ?_ ?_
        rotate_left
        ·rintro w' ⟨s0, s1, s2, s3, s4, s5, s6, s7, s8, s9⟩
         go_simp
         with_reducible rfl
        rotate_left
        ·simp only [Act.put, List.setIfInBounds_toArray, List.set_cons_zero, List.set_cons_succ, i64_w, i32_w]
         rfl
        refine take_ (i := 7) (N := some 24) (v := ?_) (a' := ?_) #[true, true, true, true, true, true, true, true, false, false] rfl rfl (take_ofW HT_.out HW_.out (by kernel_rfl)) (fun _ _ _ h => h) (Or.inl ⟨by rfl, ?_⟩) hHeld ?_ ?_
        rotate_left
        ·rintro w' ⟨s0, s1, s2, s3, s4, s5, s6, s7, s8, s9⟩
         go_simp
         with_reducible rfl
        rotate_left
        ·simp only [Act.put, List.setIfInBounds_toArray, List.set_cons_zero, List.set_cons_succ, i64_w, i32_w]
         rfl
        refine one_ (i := 8) (N := some 25) #[true, true, true, true, true, true, true, true, true, false] rfl rfl (one_of HT_.out (by kernel_rfl)) (by decide) (fun K hK => ?_)
        refine goes_ Try.func85 (by kernel_rfl) rfl #[.agg #[.int .i64 ((rd_T98 l0 x5_1).f0), .slice A1210_1 ((rd_T98 l0 x5_1).f1).length c1210_1, .int .i64 ((rd_T98 l0 x5_1).f2), .int .i64 ((rd_T98 l0 x5_1).f3), .int .i64 ((rd_T98 l0 x5_1).f4)], .agg #[.int .i64 ((rd_T98 l1 x5_1).f0), .slice A1211_1 ((rd_T98 l1 x5_1).f1).length c1211_1, .int .i64 ((rd_T98 l1 x5_1).f2), .int .i64 ((rd_T98 l1 x5_1).f3), .int .i64 ((rd_T98 l1 x5_1).f4)]] (by rfl) rfl rfl (by (try simp only [List.map_toArray, List.map_cons, List.map_nil]); first | done | rfl | (simp only [List.length_drop, List.length_take]; rfl)) ?_
        with_reducible refine (laws_eqOp.calls k1 ((rd_T98 l0 x5_1).f0) _ _ ((rd_T98 l0 x5_1).f1) ((rd_T98 l0 x5_1).f2) ((rd_T98 l0 x5_1).f3) ((rd_T98 l0 x5_1).f4) ((rd_T98 l1 x5_1).f0) _ _ ((rd_T98 l1 x5_1).f1) ((rd_T98 l1 x5_1).f2) ((rd_T98 l1 x5_1).f3) ((rd_T98 l1 x5_1).f4) false _ ?side1 ?side2 ?side3 ?side4 A7.out).mono ?_
        (case side1 => exact laC (Kd.C_below HR1210_1.out HB.out))
        (case side2 => exact HC1210_1.out)
        (case side3 => exact laC (Kd.C_below HR1211_1.out HB.out))
        (case side4 => exact HC1211_1.out)
        rintro e w12 ⟨rfl, hb⟩
        refine ⟨_, rfl, ?_⟩
        replace HB := Aside0.mk (below_step (laB HB.out) hb)
        (try clear hb)
        (try clear hb2)
        (try clear hk)
        (try clear hi)
        refine hK.out _ _ ⟨((HB.out.cell (World.block_lt_of_cell? w _ hw1210_0)).trans hw1210_0), ((HB.out.cell (World.block_lt_of_cell? w _ hw1210_1)).trans hw1210_1), ((HB.out.cell (World.block_lt_of_cell? w _ hw1210_2)).trans hw1210_2), ((HB.out.cell (World.block_lt_of_cell? w _ hw1210_3)).trans hw1210_3), ((HB.out.cell (World.block_lt_of_cell? w _ hw1210_4)).trans hw1210_4), ((HB.out.cell (World.block_lt_of_cell? w _ hw1211_0)).trans hw1211_0), ((HB.out.cell (World.block_lt_of_cell? w _ hw1211_1)).trans hw1211_1), ((HB.out.cell (World.block_lt_of_cell? w _ hw1211_2)).trans hw1211_2), ((HB.out.cell (World.block_lt_of_cell? w _ hw1211_3)).trans hw1211_3), ((HB.out.cell (World.block_lt_of_cell? w _ hw1211_4)).trans hw1211_4)⟩ (fun hHeld => ?_)
        clear hK K
        refine norm_ (a' := ?_) ?_ ?_
        rotate_left
        ·show Act.put _ (some 25) _ = _
         simp only [Act.put, List.setIfInBounds_toArray, List.set_cons_zero, List.set_cons_succ, i64_w, i32_w]
         rfl
        refine pure_ (i := 9) (N := some 26) (v := ?_) (a' := ?_) #[true, true, true, true, true, true, true, true, true, true] rfl rfl (any_of HT_.out (by kernel_rfl)) (fun _ _ _ h => h) (Or.inl ⟨by rfl, ?_⟩) ?_ ?_
        rotate_left
        ·intro w'
         go_simp
         with_reducible rfl
        rotate_left
        ·simp only [Act.put, List.setIfInBounds_toArray, List.set_cons_zero, List.set_cons_succ, i64_w, i32_w]
         rfl
        refine done_ (done_of HT_.out (by kernel_rfl)) ?_
        try go_wp2
        go_ret
        exact ⟨by first | rfl | (simp [errW_none, errW_some] <;> rfl) | (simp [*, errW_none, errW_some] <;> rfl), laB HB.out⟩
      ·rw [if_neg c6] at H
       exact absurd H (by simp)
     ·rw [if_neg c5] at H
      exact absurd H (by simp)
    ·rw [if_neg c4] at H
     have c4b0 : decide (x5_1 < (l0.length : Int)) = false := decide_eq_false c4
     clear c4
     obtain rfl := Option.some.inj H
     go_wp2
     go_ret
     exact ⟨by first | rfl | (simp [errW_none, errW_some] <;> rfl) | (simp [*, errW_none, errW_some] <;> rfl), laB HB.out⟩
 ·rw [if_neg c3] at H
  have c3b0 : ((l0.length : Int) == (l1.length : Int)) = false := beq_eq_false_iff_ne.mpr c3
  have c3b1 : ((l0.length : Int) != (l1.length : Int)) = true := bne_iff_ne.mpr c3
  have c3b2 : (l0.length == l1.length) = false := by first | simpa using c3 | (simp at c3 ⊢; omega)
  obtain rfl := Option.some.inj H
  go_enter Try.func48, Try.ntmps48
  go_wp2
  go_ret
  exact ⟨by first | rfl | (simp [errW_none, errW_some] <;> rfl) | (simp [*, errW_none, errW_some] <;> rfl), laB HB.out⟩



/-! ### laws_markOpS: function 49 -/
def laws_markOpS.l0 : Nat → List (S98) → Int → Int → Option (Int × List (S98))
 | 0, _, _, _ => none
 | k + 1, x0, x1, x3 => if x3 < (x0.length : Int) then (if 0 ≤ x3 then ((laws_markIntS.f k (rd_T98 x0 x3).f1 (wrap64 (x1 + 1))).bind fun bt => (laws_markOpS.l0 k (x0.set (x3 : Int).toNat (⟨x1, bt.2, bt.1, wrap64 (bt.1 + 1), wrap64 (wrap64 (bt.1 + 1) + 1)⟩ : S98)) (wrap64 (wrap64 (wrap64 (bt.1 + 1) + 1) + 1)) (wrap64 (x3 + 1)))) else none) else (some (x1, x0))
def laws_markOpS.f (k : Nat) (l0 : List (S98)) (a1 : Int) : Option (Int × List (S98)) := laws_markOpS.l0 k l0 a1 0
theorem laws_markOpS.mono_l : ∀ k, (∀ y0 y1 y2, LeO (laws_markOpS.l0 k y0 y1 y2) (laws_markOpS.l0 (k + 1) y0 y1 y2))
 | 0 => fun _ _ _ r h => by simp [laws_markOpS.l0] at h
 | k + 1 => by
  have ih0 := laws_markOpS.mono_l k
  intro y0 y1 y2
  unfold laws_markOpS.l0
  exact LeO.ite (LeO.ite (LeO.bind (laws_markIntS.mono _ _ k) (fun _ => ih0 _ _ _)) (LeO.refl _)) (LeO.refl _)
theorem laws_markOpS.mono : ∀ a0 a1 k, LeO (laws_markOpS.f k a0 a1) (laws_markOpS.f (k + 1) a0 a1) := by
 intro a0 a1 k
 unfold laws_markOpS.f
 exact laws_markOpS.mono_l k _ _ _
structure laws_markOpS.St (w0 w W : World) (P0_ : Nat → Prop) (g n cap : Nat) (xs : List (S98)) (i : Int) (oki : Nat → Prop) (c : List Value) (vp : Value) (ps : List Int) : Prop where
 h : Kd.H k98 98 W w0.heap.size (fun k_ => (P0_ k_ ∨ w.heap.size ≤ k_)) (.slice (some ⟨g, 0, none⟩) n cap) xs i oki c
 r : Kd.R (Kd.int .i64) 3 W w0.heap.size oki vp ps
 ne : ∀ k, oki k → k ≠ g
 pg : P0_ g ∨ w.heap.size ≤ g
 bg : w0.heap.size ≤ g
 kp : Kept w W (fun k_ => P0_ k_)
 bl : Below w0.heap.size w0 W
theorem laws_markOpS.St.store {w0 w W : World} {P0_ : Nat → Prop} {g n cap : Nat} {xs : List (S98)} {i : Int} {oki : Nat → Prop} {c : List Value} {vp : Value} {ps : List Int} (s : laws_markOpS.St w0 w W P0_ g n cap xs i oki c vp ps) (h0 : 0 ≤ i) (h1 : i < n) (j : Nat) (v : Int) (hj : j < 5) :
  laws_markOpS.St w0 w (W.setCell ⟨g, i.toNat * 5 + j, none⟩ (.int .i64 v)) P0_ g n cap xs i oki (c.take j ++ [.int .i64 v] ++ c.drop (j + 1)) vp ps :=
 ⟨(Kd.H_seg s.h h0 h1 (seg := [.int .i64 v]) (j := j) (by show j + 1 ≤ 5; omega) (fun q hq => by rw [List.mem_singleton.1 hq]; rfl)).1, Kd.R_far s.r (p := ⟨g, i.toNat * 5 + j, none⟩) s.ne _, s.ne, s.pg, s.bg, Kept.setCell s.kp s.pg _, below_set s.bl s.bg⟩
theorem laws_markOpS.St.call {w0 w W W' : World} {P0_ : Nat → Prop} {g n cap : Nat} {xs : List (S98)} {i : Int} {oki : Nat → Prop} {c : List Value} {vp : Value} {ps qs : List Int} {ok2 : Nat → Prop} (s : laws_markOpS.St w0 w W P0_ g n cap xs i oki c vp ps)
  (hr : Kd.R (Kd.int .i64) 3 W' w0.heap.size ok2 vp qs) (hb : Below w0.heap.size w0 W') (hk : Kept W W' (fun k_ => some k_ = vp.ownBlock)) : laws_markOpS.St w0 w W' P0_ g n cap xs i oki c vp qs :=
 ⟨Kd.H_kept s.h hk (fun k _ hn e => hn (s.r.1 k e.symm)), Kd.R_reok rfl hr s.r.1, s.ne, s.pg, s.bg, Kept.then_ s.kp hk (fun k e => s.h.1 k (s.r.1 k e.symm)), hb⟩
theorem laws_markOpS.St.cell {w0 w W : World} {P0_ : Nat → Prop} {g n cap : Nat} {xs : List (S98)} {i : Int} {oki : Nat → Prop} {c : List Value} {vp : Value} {ps : List Int} (s : laws_markOpS.St w0 w W P0_ g n cap xs i oki c vp ps) (h0 : 0 ≤ i) (h1 : i < n) (j : Nat) (u : Value) (hu : c[j]? = some u) :
  W.cell? ⟨g, i.toNat * 5 + j, none⟩ = some u ∧ W.frozen? ⟨g, i.toNat * 5 + j, none⟩ = false := ⟨(Kd.H_at s.h h0 h1).1 j u hu, (Kd.H_at s.h h0 h1).2 j⟩
set_option maxHeartbeats 8000000 in
set_option maxRecDepth 100000 in
theorem laws_markOpS.calls (k : Nat) (P0_ : Nat → Prop) (u9000_ : Value) (l0 : List (S98)) (a1 : Int) (r1 : Int) (r2 : List (S98)) (w0 w : World) (hB : Below w0.heap.size w0 w) (ho0 : Kd.S k98 98 w w0.heap.size P0_ u9000_ l0) (h : laws_markOpS.f k l0 a1 = some (r1, r2)) :
  Calls Try.prog 49 #[u9000_, .int .i64 a1] w fun e w' => e = .returned (.int .i64 r1) ∧ Kd.S k98 98 w' w0.heap.size (fun k_ => (P0_ k_ ∨ w.heap.size ≤ k_)) u9000_ r2 ∧ Below w0.heap.size w0 w' ∧ Kept w w' (fun k_ => P0_ k_) := by
 have HO0 := Aside0.mk (show Kd.S k98 98 w w0.heap.size (fun k_ => (P0_ k_ ∨ w.heap.size ≤ k_)) u9000_ l0 from Kd.S_mono ho0 (fun k_ hk => (.inl hk)))
 have HPG := Aside0.mk ho0.choose_spec.1
 have HK := Aside0.mk (Kept.refl w (fun k_ => P0_ k_))
 have HB := Aside0.mk hB
 clear hB ho0
 have H' := Aside0.mk (show laws_markOpS.l0 k l0 a1 0 = some (r1, r2) from h)
 clear h
 go_enter Try.func49, Try.ntmps49
 go_wp2
 go_loopg [1, 5] k (fun kq v1 v5 w' => ∃ (x0_1 : List (S98)) (x1_1 : Int) (x3_1 : Int), v1 = .int .i64 x1_1 ∧ v5 = .int .i64 x3_1 ∧ Aside0 (laws_markOpS.l0 kq x0_1 x1_1 x3_1 = some (r1, r2)) ∧ Aside0 (kq ≤ k) ∧ Aside0 (Kd.S k98 98 w' w0.heap.size (fun k_ => (P0_ k_ ∨ w.heap.size ≤ k_)) u9000_ x0_1) ∧ Aside0 (Kept w w' (fun k_ => P0_ k_)) ∧ Aside0 (Below w0.heap.size w0 w'))
 case atStart => exact ⟨l0, a1, 0, (by first | rfl | (simp; done) | (simp [*]; done)), (by first | rfl | (simp; done) | (simp [*]; done)), H', ⟨Nat.le_refl _⟩, ⟨laS HO0.out⟩, ⟨by repeat (first | (with_reducible first | exact HK.out | apply Kept.alloc | apply Kept.drewN | apply Kept.drew) | exact HK.out)⟩, ⟨laB HB.out⟩⟩
 case round =>
  clear H' HO0 HK HB
  obtain ⟨x0_1, x1_1, x3_1, rfl, rfl, HA, HK1, HO_0, HK, HB⟩ := hrel
  cases gk with
  | zero => exact absurd HA.out (by simp [laws_markOpS.l0])
  | succ k1 =>
   have H := HA.out
   clear HA
   simp only [laws_markOpS.l0] at H
   by_cases c3 : x3_1 < (x0_1.length : Int)
   ·rw [if_pos c3] at H
    have c3b0 : decide (x3_1 < (x0_1.length : Int)) = true := decide_eq_true c3
    by_cases c4 : 0 ≤ x3_1
    ·rw [if_pos c4] at H
     have c4b0 : decide (0 ≤ x3_1) = true := decide_eq_true c4
     obtain ⟨bt, A60, H⟩ := Option.bind_eq_some_iff.mp H
     obtain ⟨t1, t2⟩ := bt
     have A6 := Aside0.mk A60
     clear A60
     have H' := Aside0.mk H
     clear H
     obtain ⟨go5, co5, rfl, gb5, gl5, cl5, HG5⟩ := Kd.S_form HO_0.out (by omega)
     have hpg : P0_ go5 ∨ w.heap.size ≤ go5 := (Kd.S_R HO_0.out).1 go5 rfl
     obtain ⟨oki, ce5, hcl5, hM5, hcc5, hfr5, hoki, hH5⟩ := Kd.S_elem HO_0.out z98 x3_1 c4 c3
     obtain ⟨vp, rfl, hvp⟩ := k98_openM hM5
     have s0 : laws_markOpS.St w0 w wr P0_ go5 x0_1.length co5 x0_1 x3_1 oki [.int .i64 (rd_T98 x0_1 x3_1).f0, vp, .int .i64 (rd_T98 x0_1 x3_1).f2, .int .i64 (rd_T98 x0_1 x3_1).f3, .int .i64 (rd_T98 x0_1 x3_1).f4] vp (rd_T98 x0_1 x3_1).f1 := ⟨hH5, hvp, fun k hk => (hoki k hk).2, hpg, gb5, HK.out, HB.out⟩
     clear hcl5 hM5 hcc5 hfr5 hoki hH5 hvp hpg gb5 gl5 HG5 HO_0 HK HB
     have C3 := Aside0.mk c3
     have C4 := Aside0.mk c4
     have p5 := eq_true c4
     have q5 := eq_true c3
     clear c3 c4
     have ST0 := Aside0.mk s0
     have hx0 := (s0.cell C4.out C3.out 0 _ rfl).1
     have hf0 := (s0.cell C4.out C3.out 0 _ rfl).2
     (try simp only [Nat.add_zero] at hx0 hf0)
     clear s0
     go_wp2_with (first | ((with_reducible refine gate_store (t := 3) (p := 16) rfl ?_); refine store_event (t := 3) (p := 16) (v := ?vo_w9) (w1 := (wr.setCell ⟨go5, (x3_1 : Int).toNat * 5, none⟩ (.int .i64 x1_1))) ?hg ?ho ?hn ?hr ?_; (case ho => rfl); (case hg => rfl); (case hn => rfl); (case hr => first | (go_simp; done) | (go_simp; rfl)); intro w9 hw; have s_ := laws_markOpS.St.store ST0.out C4.out C3.out 0 (x1_1) (by decide); (try simp only [Nat.add_zero] at s_); rw [← hw] at s_; have ST1 := Aside0.mk s_; clear ST0 hw; have hx1 := (s_.cell C4.out C3.out 1 vp rfl).1; clear s_) | (go_at_call 44; (with_reducible refine (laws_markIntS.calls k1 (fun k_ => some k_ = vp.ownBlock) vp (rd_T98 x0_1 x3_1).f1 (wrap64 (x1_1 + 1)) t1 t2 w0 _ ?side1 ?side2 A6.out).mono ?_); (case side1 => exact laB ST1.out.bl); (case side2 => exact laR (Kd.R_tight rfl ST1.out.r)); rintro e w12 ⟨rfl, hy0, hb, hkp⟩; have s_ := laws_markOpS.St.call (W := w9) ST1.out hy0 hb hkp; have ST2 := Aside0.mk s_; clear ST1 hy0 hb hkp; have hx2 := (s_.cell C4.out C3.out 2 _ rfl).1; have hf2 := (s_.cell C4.out C3.out 2 _ rfl).2; clear s_) | ((with_reducible refine gate_store (t := 3) (p := 30) rfl ?_); refine store_event (t := 3) (p := 30) (v := ?vo_w13) (w1 := (w12.setCell ⟨go5, (x3_1 : Int).toNat * 5 + 2, none⟩ (.int .i64 t1))) ?hg ?ho ?hn ?hr ?_; (case ho => rfl); (case hg => rfl); (case hn => rfl); (case hr => first | (go_simp; done) | (go_simp; rfl)); intro w13 hw; have s_ := laws_markOpS.St.store ST2.out C4.out C3.out 2 (t1) (by decide); (try simp only [Nat.add_zero] at s_); rw [← hw] at s_; have ST3 := Aside0.mk s_; clear ST2 hw; have hx3 := (s_.cell C4.out C3.out 3 _ rfl).1; have hf3 := (s_.cell C4.out C3.out 3 _ rfl).2; clear s_) | ((with_reducible refine gate_store (t := 3) (p := 37) rfl ?_); refine store_event (t := 3) (p := 37) (v := ?vo_w14) (w1 := (w13.setCell ⟨go5, (x3_1 : Int).toNat * 5 + 3, none⟩ (.int .i64 (wrap64 (t1 + 1))))) ?hg ?ho ?hn ?hr ?_; (case ho => rfl); (case hg => rfl); (case hn => rfl); (case hr => first | (go_simp; done) | (go_simp; rfl)); intro w14 hw; have s_ := laws_markOpS.St.store ST3.out C4.out C3.out 3 ((wrap64 (t1 + 1))) (by decide); (try simp only [Nat.add_zero] at s_); rw [← hw] at s_; have ST4 := Aside0.mk s_; clear ST3 hw; have hx4 := (s_.cell C4.out C3.out 4 _ rfl).1; have hf4 := (s_.cell C4.out C3.out 4 _ rfl).2; clear s_) | ((with_reducible refine gate_store (t := 3) (p := 44) rfl ?_); refine store_event (t := 3) (p := 44) (v := ?vo_w15) (w1 := (w14.setCell ⟨go5, (x3_1 : Int).toNat * 5 + 4, none⟩ (.int .i64 (wrap64 (wrap64 (t1 + 1) + 1))))) ?hg ?ho ?hn ?hr ?_; (case ho => rfl); (case hg => rfl); (case hn => rfl); (case hr => first | (go_simp; done) | (go_simp; rfl)); intro w15 hw; have s_ := laws_markOpS.St.store ST4.out C4.out C3.out 4 ((wrap64 (wrap64 (t1 + 1) + 1))) (by decide); (try simp only [Nat.add_zero] at s_); rw [← hw] at s_; have ST5 := Aside0.mk s_; clear ST4 hw; clear s_))
     go_roundg k1
     case measure => have := HK1.out; omega
     case rel =>
      refine ⟨_, _, _, (by first | rfl | (simp; done) | (simp [*]; done)), (by first | rfl | (simp; done) | (simp [*]; done)), H', ⟨by have := HK1.out; omega⟩, ⟨?_⟩, ⟨?_⟩, ⟨?_⟩⟩
      ·(with_reducible repeat (first | apply Kd.S_alloc | apply Kd.S_drewN | apply Kd.S_drew))
       exact Kd.H_back ST5.out.h (k98_mkM _ _ oki _ ST5.out.r) (fun _ hk => hk)
      ·exact ST5.out.kp
      ·exact laB ST5.out.bl
    ·rw [if_neg c4] at H
     exact absurd H (by simp)
   ·rw [if_neg c3] at H
    have c3b0 : decide (x3_1 < (x0_1.length : Int)) = false := decide_eq_false c3
    clear c3
    simp only [Option.some.injEq, Prod.mk.injEq] at H
    obtain ⟨rfl, rfl⟩ := H
    obtain ⟨Ao12, co12, eo12⟩ := Kd.S_slice HO_0.out
    subst eo12
    go_wp2
    go_ret
    exact ⟨by first | rfl | (simp; done) | (simp [*]; done), by (with_reducible repeat (first | apply Kd.S_alloc | apply Kd.S_drewN | apply Kd.S_drew)); exact HO_0.out, laB HB.out, by repeat (first | (with_reducible first | exact HK.out | apply Kept.alloc | apply Kept.drewN | apply Kept.drew) | exact HK.out)⟩



/-! ### laws_heldOpS: function 50 -/
def laws_heldOpS.l0 : Nat → List (S98) → Int → Int → Option (Int)
 | 0, _, _, _ => none
 | k + 1, x0, x1, x5 => if x5 < (x0.length : Int) then (if 0 ≤ x5 then (if ((rd_T98 x0 x5).f0) = x1 then ((laws_heldIntS.f k ((rd_T98 x0 x5).f1) (wrap64 (x1 + 1))).bind fun t1215 => (if t1215 < 0 then (some (-1)) else (if ((rd_T98 x0 x5).f2) = t1215 then (if ((rd_T98 x0 x5).f3) = (wrap64 (t1215 + 1)) then (if ((rd_T98 x0 x5).f4) = (wrap64 ((wrap64 (t1215 + 1)) + 1)) then (laws_heldOpS.l0 k x0 (wrap64 ((wrap64 ((wrap64 (t1215 + 1)) + 1)) + 1)) (wrap64 (x5 + 1))) else (some (-1))) else (some (-1))) else (some (-1))))) else (some (-1))) else (none)) else (some x1)
def laws_heldOpS.f (k : Nat) (l0 : List (S98)) (a1 : Int) : Option (Int) := laws_heldOpS.l0 k l0 a1 0
theorem laws_heldOpS.mono_l : ∀ k, (∀ y0 y1 y2, LeO (laws_heldOpS.l0 k y0 y1 y2) (laws_heldOpS.l0 (k + 1) y0 y1 y2))
 | 0 => fun _ _ _ r h => by simp [laws_heldOpS.l0] at h
 | k + 1 => by
  have ih0 := laws_heldOpS.mono_l k
  ·intro y0 y1 y2
   unfold laws_heldOpS.l0
   repeat' first
   | (with_reducible exact ih0 _ _ _)
   | (with_reducible exact laws_heldIntS.mono _ _ _)
   | (with_reducible exact LeO.refl _)
   | (with_reducible exact LeO.none _)
   | (with_reducible refine LeO.ite ?_ ?_)
   | (with_reducible refine LeO.bind ?_ (fun _ => ?_))
   | exact ih0 _ _ _
   | exact laws_heldIntS.mono _ _ _
   | exact LeO.none _
   | refine LeO.ite ?_ ?_
   | refine LeO.bind ?_ (fun _ => ?_)
theorem laws_heldOpS.mono : ∀ a0 a1 k, LeO (laws_heldOpS.f k a0 a1) (laws_heldOpS.f (k + 1) a0 a1) := by
 intro a0 a1 k
 have ih0 := laws_heldOpS.mono_l k
 unfold laws_heldOpS.f
 repeat' first
   | (with_reducible exact ih0 _ _ _)
   | (with_reducible exact laws_heldIntS.mono _ _ _)
   | (with_reducible exact LeO.refl _)
   | (with_reducible exact LeO.none _)
   | (with_reducible refine LeO.ite ?_ ?_)
   | (with_reducible refine LeO.bind ?_ (fun _ => ?_))
   | exact ih0 _ _ _
   | exact laws_heldIntS.mono _ _ _
   | exact LeO.none _
   | refine LeO.ite ?_ ?_
   | refine LeO.bind ?_ (fun _ => ?_)
set_option maxHeartbeats 8000000 in
set_option maxRecDepth 100000 in
theorem laws_heldOpS.calls (k : Nat) (A0 : Option Addr) (c0 : Nat) (l0 : List (S98)) (a1 : Int) (r : Int) (w : World) (hr0 : Kd.C k98 w A0 l0.length l0) (hc0 : l0.length ≤ c0) (h : laws_heldOpS.f k l0 a1 = some r) :
  Calls Try.prog 50 #[.slice A0 l0.length c0, .int .i64 a1] w fun e w' => e = .returned (.int .i64 r) ∧ Drawn0 w w' := by
 have HR0 := Aside0.mk hr0
 have HC0 := Aside0.mk hc0
 clear hr0 hc0
 have H : (laws_heldOpS.l0 k l0 a1 0) = some r := h
 clear h
 have H' := Aside0.mk H
 clear H
 go_enter Try.func50, Try.ntmps50
 go_wp2
 go_loopg [1, 5] k (fun kq v1 v5 w' => ∃ (x1_1 : Int) (x5_1 : Int), v1 = .int .i64 x1_1 ∧ v5 = .int .i64 x5_1 ∧ Aside0 (laws_heldOpS.l0 kq l0 x1_1 x5_1 = some r) ∧ Aside0 (kq ≤ k) ∧ Drawn0 w w')
 case atStart => exact ⟨(a1), (0), (by first | rfl | (simp; done) | (simp [*]; done)), (by first | rfl | (simp; done) | (simp [*]; done)), H', ⟨Nat.le_refl _⟩, by repeat (first | exact Drawn0.refl _ | apply Drawn0.step)⟩
 case round =>
  clear H'
  try clear p2
  obtain ⟨x1_1, x5_1, rfl, rfl, HA, HK1, ⟨m1, rfl⟩⟩ := hrel
  cases gk with
  | zero => exact absurd HA.out (by simp [laws_heldOpS.l0])
  | succ k1 =>
   have H := HA.out
   clear HA
   simp only [laws_heldOpS.l0] at H
   by_cases c3 : x5_1 < (l0.length : Int)
   ·rw [if_pos c3] at H
    have c3b0 : decide (x5_1 < (l0.length : Int)) = true := decide_eq_true c3
    clear c3
    by_cases c4 : 0 ≤ x5_1
    ·rw [if_pos c4] at H
     have c4b0 : decide (0 ≤ x5_1) = true := decide_eq_true c4
     clear c4
     by_cases c5 : ((rd_T98 l0 x5_1).f0) = x1_1
     ·rw [if_pos c5] at H
      have c5b0 : (((rd_T98 l0 x5_1).f0) == x1_1) = true := beq_iff_eq.mpr c5
      have c5b1 : (((rd_T98 l0 x5_1).f0) != x1_1) = false := bne_eq_false_iff_eq.mpr c5
      clear c5
      replace H := Option.bind_eq_some_iff.mp H
      obtain ⟨t1215, A60, H⟩ := H
      have A6 := Aside0.mk A60
      clear A60
      by_cases c7 : t1215 < 0
      ·rw [if_pos c7] at H
       have c7b0 : decide (t1215 < 0) = true := decide_eq_true c7
       clear c7
       obtain rfl := Option.some.inj H
       have p1213 : 0 ≤ (x5_1 : Int) := of_decide_eq_true (by first | (with_reducible assumption) | assumption)
       have q1213 : x5_1 < (l0.length : Int) := of_decide_eq_true (by first | (with_reducible assumption) | assumption)
       obtain ⟨ad1213, A1213_1, c1213_1, e1213, hx1213_0, hx1213_1, hx1213_2, hx1213_3, hx1213_4, hl1213_1, hi1213_1⟩ := at_T98 HR0.out x5_1 p1213 q1213
       cases e1213
       have HR1213_1 := Aside0.mk hi1213_1
       have HC1213_1 := Aside0.mk hl1213_1
       clear hi1213_1 hl1213_1
       replace p1213 := eq_true p1213
       replace q1213 := eq_true q1213
       have p1214 : 0 ≤ (x5_1 : Int) := of_decide_eq_true (by first | (with_reducible assumption) | assumption)
       have q1214 : x5_1 < (l0.length : Int) := of_decide_eq_true (by first | (with_reducible assumption) | assumption)
       obtain ⟨ad1214, A1214_1, c1214_1, e1214, hx1214_0, hx1214_1, hx1214_2, hx1214_3, hx1214_4, hl1214_1, hi1214_1⟩ := at_T98 HR0.out x5_1 p1214 q1214
       obtain rfl : ad1213 = ad1214 := (by injection e1214)
       have HR1214_1 := Aside0.mk hi1214_1
       have HC1214_1 := Aside0.mk hl1214_1
       clear hi1214_1 hl1214_1
       replace p1214 := eq_true p1214
       replace q1214 := eq_true q1214
       have ea_ := Option.some.inj (hx1213_1.symm.trans hx1214_1)
       injection ea_ with ea_ en_ ec_
       subst ea_
       subst ec_
       clear en_
       go_wp2_with (first | ((with_reducible refine gate_callee (f := 45) rfl ?_); refine goesL_ (some 27) rfl rfl Try.func45 (by kernel_rfl) rfl #[.slice A1213_1 ((rd_T98 l0 x5_1).f1).length c1213_1, .int .i64 (wrap64 (x1_1 + 1))] rfl (by (try simp only [List.map_toArray, List.map_cons, List.map_nil]); first | done | rfl | (simp only [List.length_drop, List.length_take]; rfl)) ?_; (with_reducible refine (laws_heldIntS.calls k1 _ _ ((rd_T98 l0 x5_1).f1) (wrap64 (x1_1 + 1)) t1215 _ ?side1 ?side2 A6.out).mono ?_); (case side1 => repeat (first | exact HR1214_1.out | (with_reducible refine Kd.C_alloc ?_ _) | (with_reducible refine Kd.C_drewN ?_ _) | (with_reducible refine Kd.C_drew ?_))); (case side2 => exact HC1214_1.out); rintro e w' ⟨rfl, ⟨nd, rfl⟩⟩; refine ⟨_, rfl, ?_⟩))
       go_ret
       exact ⟨by first | rfl | (simp; done) | (simp [*]; done), by repeat (first | exact Drawn0.refl _ | apply Drawn0.step)⟩
      ·rw [if_neg c7] at H
       have c7b0 : decide (t1215 < 0) = false := decide_eq_false c7
       clear c7
       by_cases c8 : ((rd_T98 l0 x5_1).f2) = t1215
       ·rw [if_pos c8] at H
        have c8b0 : (((rd_T98 l0 x5_1).f2) == t1215) = true := beq_iff_eq.mpr c8
        have c8b1 : (((rd_T98 l0 x5_1).f2) != t1215) = false := bne_eq_false_iff_eq.mpr c8
        clear c8
        by_cases c9 : ((rd_T98 l0 x5_1).f3) = (wrap64 (t1215 + 1))
        ·rw [if_pos c9] at H
         have c9b0 : (((rd_T98 l0 x5_1).f3) == (wrap64 (t1215 + 1))) = true := beq_iff_eq.mpr c9
         have c9b1 : (((rd_T98 l0 x5_1).f3) != (wrap64 (t1215 + 1))) = false := bne_eq_false_iff_eq.mpr c9
         clear c9
         by_cases c10 : ((rd_T98 l0 x5_1).f4) = (wrap64 ((wrap64 (t1215 + 1)) + 1))
         ·rw [if_pos c10] at H
          have c10b0 : (((rd_T98 l0 x5_1).f4) == (wrap64 ((wrap64 (t1215 + 1)) + 1))) = true := beq_iff_eq.mpr c10
          have c10b1 : (((rd_T98 l0 x5_1).f4) != (wrap64 ((wrap64 (t1215 + 1)) + 1))) = false := bne_eq_false_iff_eq.mpr c10
          clear c10
          have H' := Aside0.mk H
          clear H
          have p1213 : 0 ≤ (x5_1 : Int) := of_decide_eq_true (by first | (with_reducible assumption) | assumption)
          have q1213 : x5_1 < (l0.length : Int) := of_decide_eq_true (by first | (with_reducible assumption) | assumption)
          obtain ⟨ad1213, A1213_1, c1213_1, e1213, hx1213_0, hx1213_1, hx1213_2, hx1213_3, hx1213_4, hl1213_1, hi1213_1⟩ := at_T98 HR0.out x5_1 p1213 q1213
          cases e1213
          have HR1213_1 := Aside0.mk hi1213_1
          have HC1213_1 := Aside0.mk hl1213_1
          clear hi1213_1 hl1213_1
          replace p1213 := eq_true p1213
          replace q1213 := eq_true q1213
          have p1214 : 0 ≤ (x5_1 : Int) := of_decide_eq_true (by first | (with_reducible assumption) | assumption)
          have q1214 : x5_1 < (l0.length : Int) := of_decide_eq_true (by first | (with_reducible assumption) | assumption)
          obtain ⟨ad1214, A1214_1, c1214_1, e1214, hx1214_0, hx1214_1, hx1214_2, hx1214_3, hx1214_4, hl1214_1, hi1214_1⟩ := at_T98 HR0.out x5_1 p1214 q1214
          obtain rfl : ad1213 = ad1214 := (by injection e1214)
          have HR1214_1 := Aside0.mk hi1214_1
          have HC1214_1 := Aside0.mk hl1214_1
          clear hi1214_1 hl1214_1
          replace p1214 := eq_true p1214
          replace q1214 := eq_true q1214
          have ea_ := Option.some.inj (hx1213_1.symm.trans hx1214_1)
          injection ea_ with ea_ en_ ec_
          subst ea_
          subst ec_
          clear en_
          go_wp2_with (first | ((with_reducible refine gate_callee (f := 45) rfl ?_); refine goesL_ (some 27) rfl rfl Try.func45 (by kernel_rfl) rfl #[.slice A1213_1 ((rd_T98 l0 x5_1).f1).length c1213_1, .int .i64 (wrap64 (x1_1 + 1))] rfl (by (try simp only [List.map_toArray, List.map_cons, List.map_nil]); first | done | rfl | (simp only [List.length_drop, List.length_take]; rfl)) ?_; (with_reducible refine (laws_heldIntS.calls k1 _ _ ((rd_T98 l0 x5_1).f1) (wrap64 (x1_1 + 1)) t1215 _ ?side1 ?side2 A6.out).mono ?_); (case side1 => repeat (first | exact HR1214_1.out | (with_reducible refine Kd.C_alloc ?_ _) | (with_reducible refine Kd.C_drewN ?_ _) | (with_reducible refine Kd.C_drew ?_))); (case side2 => exact HC1214_1.out); rintro e w' ⟨rfl, ⟨nd, rfl⟩⟩; refine ⟨_, rfl, ?_⟩; have p1216 : 0 ≤ (x5_1 : Int) := of_decide_eq_true (by first | (with_reducible assumption) | assumption); have q1216 : x5_1 < (l0.length : Int) := of_decide_eq_true (by first | (with_reducible assumption) | assumption); obtain ⟨ad1216, A1216_1, c1216_1, e1216, hx1216_0, hx1216_1, hx1216_2, hx1216_3, hx1216_4, hl1216_1, hi1216_1⟩ := at_T98 HR0.out x5_1 p1216 q1216; obtain rfl : ad1213 = ad1216 := (by injection e1216); have HR1216_1 := Aside0.mk hi1216_1; have HC1216_1 := Aside0.mk hl1216_1; clear hi1216_1 hl1216_1; replace p1216 := eq_true p1216; replace q1216 := eq_true q1216; have ea_ := Option.some.inj (hx1213_1.symm.trans hx1216_1); injection ea_ with ea_ en_ ec_; subst ea_; subst ec_; clear en_; have p1217 : 0 ≤ (x5_1 : Int) := of_decide_eq_true (by first | (with_reducible assumption) | assumption); have q1217 : x5_1 < (l0.length : Int) := of_decide_eq_true (by first | (with_reducible assumption) | assumption); obtain ⟨ad1217, A1217_1, c1217_1, e1217, hx1217_0, hx1217_1, hx1217_2, hx1217_3, hx1217_4, hl1217_1, hi1217_1⟩ := at_T98 HR0.out x5_1 p1217 q1217; obtain rfl : ad1213 = ad1217 := (by injection e1217); have HR1217_1 := Aside0.mk hi1217_1; have HC1217_1 := Aside0.mk hl1217_1; clear hi1217_1 hl1217_1; replace p1217 := eq_true p1217; replace q1217 := eq_true q1217; have ea_ := Option.some.inj (hx1213_1.symm.trans hx1217_1); injection ea_ with ea_ en_ ec_; subst ea_; subst ec_; clear en_; have p1218 : 0 ≤ (x5_1 : Int) := of_decide_eq_true (by first | (with_reducible assumption) | assumption); have q1218 : x5_1 < (l0.length : Int) := of_decide_eq_true (by first | (with_reducible assumption) | assumption); obtain ⟨ad1218, A1218_1, c1218_1, e1218, hx1218_0, hx1218_1, hx1218_2, hx1218_3, hx1218_4, hl1218_1, hi1218_1⟩ := at_T98 HR0.out x5_1 p1218 q1218; obtain rfl : ad1213 = ad1218 := (by injection e1218); have HR1218_1 := Aside0.mk hi1218_1; have HC1218_1 := Aside0.mk hl1218_1; clear hi1218_1 hl1218_1; replace p1218 := eq_true p1218; replace q1218 := eq_true q1218; have ea_ := Option.some.inj (hx1213_1.symm.trans hx1218_1); injection ea_ with ea_ en_ ec_; subst ea_; subst ec_; clear en_))
          go_roundg k1
          case measure => have := HK1.out; omega
          case rel => exact ⟨(wrap64 ((wrap64 ((wrap64 (t1215 + 1)) + 1)) + 1)), (wrap64 (x5_1 + 1)), (by first | rfl | (simp; done) | (simp [*]; done)), (by first | rfl | (simp; done) | (simp [*]; done)), H', ⟨by have := HK1.out; omega⟩, by repeat (first | exact Drawn0.refl _ | apply Drawn0.step)⟩
         ·rw [if_neg c10] at H
          have c10b0 : (((rd_T98 l0 x5_1).f4) == (wrap64 ((wrap64 (t1215 + 1)) + 1))) = false := beq_eq_false_iff_ne.mpr c10
          have c10b1 : (((rd_T98 l0 x5_1).f4) != (wrap64 ((wrap64 (t1215 + 1)) + 1))) = true := bne_iff_ne.mpr c10
          obtain rfl := Option.some.inj H
          have p1213 : 0 ≤ (x5_1 : Int) := of_decide_eq_true (by first | (with_reducible assumption) | assumption)
          have q1213 : x5_1 < (l0.length : Int) := of_decide_eq_true (by first | (with_reducible assumption) | assumption)
          obtain ⟨ad1213, A1213_1, c1213_1, e1213, hx1213_0, hx1213_1, hx1213_2, hx1213_3, hx1213_4, hl1213_1, hi1213_1⟩ := at_T98 HR0.out x5_1 p1213 q1213
          cases e1213
          have HR1213_1 := Aside0.mk hi1213_1
          have HC1213_1 := Aside0.mk hl1213_1
          clear hi1213_1 hl1213_1
          replace p1213 := eq_true p1213
          replace q1213 := eq_true q1213
          have p1214 : 0 ≤ (x5_1 : Int) := of_decide_eq_true (by first | (with_reducible assumption) | assumption)
          have q1214 : x5_1 < (l0.length : Int) := of_decide_eq_true (by first | (with_reducible assumption) | assumption)
          obtain ⟨ad1214, A1214_1, c1214_1, e1214, hx1214_0, hx1214_1, hx1214_2, hx1214_3, hx1214_4, hl1214_1, hi1214_1⟩ := at_T98 HR0.out x5_1 p1214 q1214
          obtain rfl : ad1213 = ad1214 := (by injection e1214)
          have HR1214_1 := Aside0.mk hi1214_1
          have HC1214_1 := Aside0.mk hl1214_1
          clear hi1214_1 hl1214_1
          replace p1214 := eq_true p1214
          replace q1214 := eq_true q1214
          have ea_ := Option.some.inj (hx1213_1.symm.trans hx1214_1)
          injection ea_ with ea_ en_ ec_
          subst ea_
          subst ec_
          clear en_
          go_wp2_with (first | ((with_reducible refine gate_callee (f := 45) rfl ?_); refine goesL_ (some 27) rfl rfl Try.func45 (by kernel_rfl) rfl #[.slice A1213_1 ((rd_T98 l0 x5_1).f1).length c1213_1, .int .i64 (wrap64 (x1_1 + 1))] rfl (by (try simp only [List.map_toArray, List.map_cons, List.map_nil]); first | done | rfl | (simp only [List.length_drop, List.length_take]; rfl)) ?_; (with_reducible refine (laws_heldIntS.calls k1 _ _ ((rd_T98 l0 x5_1).f1) (wrap64 (x1_1 + 1)) t1215 _ ?side1 ?side2 A6.out).mono ?_); (case side1 => repeat (first | exact HR1214_1.out | (with_reducible refine Kd.C_alloc ?_ _) | (with_reducible refine Kd.C_drewN ?_ _) | (with_reducible refine Kd.C_drew ?_))); (case side2 => exact HC1214_1.out); rintro e w' ⟨rfl, ⟨nd, rfl⟩⟩; refine ⟨_, rfl, ?_⟩; have p1216 : 0 ≤ (x5_1 : Int) := of_decide_eq_true (by first | (with_reducible assumption) | assumption); have q1216 : x5_1 < (l0.length : Int) := of_decide_eq_true (by first | (with_reducible assumption) | assumption); obtain ⟨ad1216, A1216_1, c1216_1, e1216, hx1216_0, hx1216_1, hx1216_2, hx1216_3, hx1216_4, hl1216_1, hi1216_1⟩ := at_T98 HR0.out x5_1 p1216 q1216; obtain rfl : ad1213 = ad1216 := (by injection e1216); have HR1216_1 := Aside0.mk hi1216_1; have HC1216_1 := Aside0.mk hl1216_1; clear hi1216_1 hl1216_1; replace p1216 := eq_true p1216; replace q1216 := eq_true q1216; have ea_ := Option.some.inj (hx1213_1.symm.trans hx1216_1); injection ea_ with ea_ en_ ec_; subst ea_; subst ec_; clear en_; have p1217 : 0 ≤ (x5_1 : Int) := of_decide_eq_true (by first | (with_reducible assumption) | assumption); have q1217 : x5_1 < (l0.length : Int) := of_decide_eq_true (by first | (with_reducible assumption) | assumption); obtain ⟨ad1217, A1217_1, c1217_1, e1217, hx1217_0, hx1217_1, hx1217_2, hx1217_3, hx1217_4, hl1217_1, hi1217_1⟩ := at_T98 HR0.out x5_1 p1217 q1217; obtain rfl : ad1213 = ad1217 := (by injection e1217); have HR1217_1 := Aside0.mk hi1217_1; have HC1217_1 := Aside0.mk hl1217_1; clear hi1217_1 hl1217_1; replace p1217 := eq_true p1217; replace q1217 := eq_true q1217; have ea_ := Option.some.inj (hx1213_1.symm.trans hx1217_1); injection ea_ with ea_ en_ ec_; subst ea_; subst ec_; clear en_; have p1218 : 0 ≤ (x5_1 : Int) := of_decide_eq_true (by first | (with_reducible assumption) | assumption); have q1218 : x5_1 < (l0.length : Int) := of_decide_eq_true (by first | (with_reducible assumption) | assumption); obtain ⟨ad1218, A1218_1, c1218_1, e1218, hx1218_0, hx1218_1, hx1218_2, hx1218_3, hx1218_4, hl1218_1, hi1218_1⟩ := at_T98 HR0.out x5_1 p1218 q1218; obtain rfl : ad1213 = ad1218 := (by injection e1218); have HR1218_1 := Aside0.mk hi1218_1; have HC1218_1 := Aside0.mk hl1218_1; clear hi1218_1 hl1218_1; replace p1218 := eq_true p1218; replace q1218 := eq_true q1218; have ea_ := Option.some.inj (hx1213_1.symm.trans hx1218_1); injection ea_ with ea_ en_ ec_; subst ea_; subst ec_; clear en_))
          go_ret
          exact ⟨by first | rfl | (simp; done) | (simp [*]; done), by repeat (first | exact Drawn0.refl _ | apply Drawn0.step)⟩
        ·rw [if_neg c9] at H
         have c9b0 : (((rd_T98 l0 x5_1).f3) == (wrap64 (t1215 + 1))) = false := beq_eq_false_iff_ne.mpr c9
         have c9b1 : (((rd_T98 l0 x5_1).f3) != (wrap64 (t1215 + 1))) = true := bne_iff_ne.mpr c9
         obtain rfl := Option.some.inj H
         have p1213 : 0 ≤ (x5_1 : Int) := of_decide_eq_true (by first | (with_reducible assumption) | assumption)
         have q1213 : x5_1 < (l0.length : Int) := of_decide_eq_true (by first | (with_reducible assumption) | assumption)
         obtain ⟨ad1213, A1213_1, c1213_1, e1213, hx1213_0, hx1213_1, hx1213_2, hx1213_3, hx1213_4, hl1213_1, hi1213_1⟩ := at_T98 HR0.out x5_1 p1213 q1213
         cases e1213
         have HR1213_1 := Aside0.mk hi1213_1
         have HC1213_1 := Aside0.mk hl1213_1
         clear hi1213_1 hl1213_1
         replace p1213 := eq_true p1213
         replace q1213 := eq_true q1213
         have p1214 : 0 ≤ (x5_1 : Int) := of_decide_eq_true (by first | (with_reducible assumption) | assumption)
         have q1214 : x5_1 < (l0.length : Int) := of_decide_eq_true (by first | (with_reducible assumption) | assumption)
         obtain ⟨ad1214, A1214_1, c1214_1, e1214, hx1214_0, hx1214_1, hx1214_2, hx1214_3, hx1214_4, hl1214_1, hi1214_1⟩ := at_T98 HR0.out x5_1 p1214 q1214
         obtain rfl : ad1213 = ad1214 := (by injection e1214)
         have HR1214_1 := Aside0.mk hi1214_1
         have HC1214_1 := Aside0.mk hl1214_1
         clear hi1214_1 hl1214_1
         replace p1214 := eq_true p1214
         replace q1214 := eq_true q1214
         have ea_ := Option.some.inj (hx1213_1.symm.trans hx1214_1)
         injection ea_ with ea_ en_ ec_
         subst ea_
         subst ec_
         clear en_
         go_wp2_with (first | ((with_reducible refine gate_callee (f := 45) rfl ?_); refine goesL_ (some 27) rfl rfl Try.func45 (by kernel_rfl) rfl #[.slice A1213_1 ((rd_T98 l0 x5_1).f1).length c1213_1, .int .i64 (wrap64 (x1_1 + 1))] rfl (by (try simp only [List.map_toArray, List.map_cons, List.map_nil]); first | done | rfl | (simp only [List.length_drop, List.length_take]; rfl)) ?_; (with_reducible refine (laws_heldIntS.calls k1 _ _ ((rd_T98 l0 x5_1).f1) (wrap64 (x1_1 + 1)) t1215 _ ?side1 ?side2 A6.out).mono ?_); (case side1 => repeat (first | exact HR1214_1.out | (with_reducible refine Kd.C_alloc ?_ _) | (with_reducible refine Kd.C_drewN ?_ _) | (with_reducible refine Kd.C_drew ?_))); (case side2 => exact HC1214_1.out); rintro e w' ⟨rfl, ⟨nd, rfl⟩⟩; refine ⟨_, rfl, ?_⟩; have p1216 : 0 ≤ (x5_1 : Int) := of_decide_eq_true (by first | (with_reducible assumption) | assumption); have q1216 : x5_1 < (l0.length : Int) := of_decide_eq_true (by first | (with_reducible assumption) | assumption); obtain ⟨ad1216, A1216_1, c1216_1, e1216, hx1216_0, hx1216_1, hx1216_2, hx1216_3, hx1216_4, hl1216_1, hi1216_1⟩ := at_T98 HR0.out x5_1 p1216 q1216; obtain rfl : ad1213 = ad1216 := (by injection e1216); have HR1216_1 := Aside0.mk hi1216_1; have HC1216_1 := Aside0.mk hl1216_1; clear hi1216_1 hl1216_1; replace p1216 := eq_true p1216; replace q1216 := eq_true q1216; have ea_ := Option.some.inj (hx1213_1.symm.trans hx1216_1); injection ea_ with ea_ en_ ec_; subst ea_; subst ec_; clear en_; have p1217 : 0 ≤ (x5_1 : Int) := of_decide_eq_true (by first | (with_reducible assumption) | assumption); have q1217 : x5_1 < (l0.length : Int) := of_decide_eq_true (by first | (with_reducible assumption) | assumption); obtain ⟨ad1217, A1217_1, c1217_1, e1217, hx1217_0, hx1217_1, hx1217_2, hx1217_3, hx1217_4, hl1217_1, hi1217_1⟩ := at_T98 HR0.out x5_1 p1217 q1217; obtain rfl : ad1213 = ad1217 := (by injection e1217); have HR1217_1 := Aside0.mk hi1217_1; have HC1217_1 := Aside0.mk hl1217_1; clear hi1217_1 hl1217_1; replace p1217 := eq_true p1217; replace q1217 := eq_true q1217; have ea_ := Option.some.inj (hx1213_1.symm.trans hx1217_1); injection ea_ with ea_ en_ ec_; subst ea_; subst ec_; clear en_))
         go_ret
         exact ⟨by first | rfl | (simp; done) | (simp [*]; done), by repeat (first | exact Drawn0.refl _ | apply Drawn0.step)⟩
       ·rw [if_neg c8] at H
        have c8b0 : (((rd_T98 l0 x5_1).f2) == t1215) = false := beq_eq_false_iff_ne.mpr c8
        have c8b1 : (((rd_T98 l0 x5_1).f2) != t1215) = true := bne_iff_ne.mpr c8
        obtain rfl := Option.some.inj H
        have p1213 : 0 ≤ (x5_1 : Int) := of_decide_eq_true (by first | (with_reducible assumption) | assumption)
        have q1213 : x5_1 < (l0.length : Int) := of_decide_eq_true (by first | (with_reducible assumption) | assumption)
        obtain ⟨ad1213, A1213_1, c1213_1, e1213, hx1213_0, hx1213_1, hx1213_2, hx1213_3, hx1213_4, hl1213_1, hi1213_1⟩ := at_T98 HR0.out x5_1 p1213 q1213
        cases e1213
        have HR1213_1 := Aside0.mk hi1213_1
        have HC1213_1 := Aside0.mk hl1213_1
        clear hi1213_1 hl1213_1
        replace p1213 := eq_true p1213
        replace q1213 := eq_true q1213
        have p1214 : 0 ≤ (x5_1 : Int) := of_decide_eq_true (by first | (with_reducible assumption) | assumption)
        have q1214 : x5_1 < (l0.length : Int) := of_decide_eq_true (by first | (with_reducible assumption) | assumption)
        obtain ⟨ad1214, A1214_1, c1214_1, e1214, hx1214_0, hx1214_1, hx1214_2, hx1214_3, hx1214_4, hl1214_1, hi1214_1⟩ := at_T98 HR0.out x5_1 p1214 q1214
        obtain rfl : ad1213 = ad1214 := (by injection e1214)
        have HR1214_1 := Aside0.mk hi1214_1
        have HC1214_1 := Aside0.mk hl1214_1
        clear hi1214_1 hl1214_1
        replace p1214 := eq_true p1214
        replace q1214 := eq_true q1214
        have ea_ := Option.some.inj (hx1213_1.symm.trans hx1214_1)
        injection ea_ with ea_ en_ ec_
        subst ea_
        subst ec_
        clear en_
        go_wp2_with (first | ((with_reducible refine gate_callee (f := 45) rfl ?_); refine goesL_ (some 27) rfl rfl Try.func45 (by kernel_rfl) rfl #[.slice A1213_1 ((rd_T98 l0 x5_1).f1).length c1213_1, .int .i64 (wrap64 (x1_1 + 1))] rfl (by (try simp only [List.map_toArray, List.map_cons, List.map_nil]); first | done | rfl | (simp only [List.length_drop, List.length_take]; rfl)) ?_; (with_reducible refine (laws_heldIntS.calls k1 _ _ ((rd_T98 l0 x5_1).f1) (wrap64 (x1_1 + 1)) t1215 _ ?side1 ?side2 A6.out).mono ?_); (case side1 => repeat (first | exact HR1214_1.out | (with_reducible refine Kd.C_alloc ?_ _) | (with_reducible refine Kd.C_drewN ?_ _) | (with_reducible refine Kd.C_drew ?_))); (case side2 => exact HC1214_1.out); rintro e w' ⟨rfl, ⟨nd, rfl⟩⟩; refine ⟨_, rfl, ?_⟩; have p1216 : 0 ≤ (x5_1 : Int) := of_decide_eq_true (by first | (with_reducible assumption) | assumption); have q1216 : x5_1 < (l0.length : Int) := of_decide_eq_true (by first | (with_reducible assumption) | assumption); obtain ⟨ad1216, A1216_1, c1216_1, e1216, hx1216_0, hx1216_1, hx1216_2, hx1216_3, hx1216_4, hl1216_1, hi1216_1⟩ := at_T98 HR0.out x5_1 p1216 q1216; obtain rfl : ad1213 = ad1216 := (by injection e1216); have HR1216_1 := Aside0.mk hi1216_1; have HC1216_1 := Aside0.mk hl1216_1; clear hi1216_1 hl1216_1; replace p1216 := eq_true p1216; replace q1216 := eq_true q1216; have ea_ := Option.some.inj (hx1213_1.symm.trans hx1216_1); injection ea_ with ea_ en_ ec_; subst ea_; subst ec_; clear en_))
        go_ret
        exact ⟨by first | rfl | (simp; done) | (simp [*]; done), by repeat (first | exact Drawn0.refl _ | apply Drawn0.step)⟩
     ·rw [if_neg c5] at H
      have c5b0 : (((rd_T98 l0 x5_1).f0) == x1_1) = false := beq_eq_false_iff_ne.mpr c5
      have c5b1 : (((rd_T98 l0 x5_1).f0) != x1_1) = true := bne_iff_ne.mpr c5
      obtain rfl := Option.some.inj H
      have p1213 : 0 ≤ (x5_1 : Int) := of_decide_eq_true (by first | (with_reducible assumption) | assumption)
      have q1213 : x5_1 < (l0.length : Int) := of_decide_eq_true (by first | (with_reducible assumption) | assumption)
      obtain ⟨ad1213, A1213_1, c1213_1, e1213, hx1213_0, hx1213_1, hx1213_2, hx1213_3, hx1213_4, hl1213_1, hi1213_1⟩ := at_T98 HR0.out x5_1 p1213 q1213
      cases e1213
      have HR1213_1 := Aside0.mk hi1213_1
      have HC1213_1 := Aside0.mk hl1213_1
      clear hi1213_1 hl1213_1
      replace p1213 := eq_true p1213
      replace q1213 := eq_true q1213
      go_wp2
      go_ret
      exact ⟨by first | rfl | (simp; done) | (simp [*]; done), by repeat (first | exact Drawn0.refl _ | apply Drawn0.step)⟩
    ·rw [if_neg c4] at H
     exact absurd H (by simp)
   ·rw [if_neg c3] at H
    have c3b0 : decide (x5_1 < (l0.length : Int)) = false := decide_eq_false c3
    clear c3
    obtain rfl := Option.some.inj H
    go_wp2
    go_ret
    exact ⟨by first | rfl | (simp; done) | (simp [*]; done), by repeat (first | exact Drawn0.refl _ | apply Drawn0.step)⟩



/-! ### laws_FnExactRenamed: function 8 -/
mutual
def laws_FnExactRenamed.j0 : Nat → List (S91) → List (S91) → List (S98) → Bool → List (S48) → List (S48) → List (S98) → Bool → Bool → Option (Bool)
 | 0, _, _, _, _, _, _, _, _, _ => none
 | k + 1, x0, x1, x6, x7, x8, x9, x10, x11, x53 => if x53 = true then (some false) else ((laws_toNodeS.f k x0).bind fun t1242 => ((laws_eqNodeS.f k x8 t1242).bind fun t1245 => (if t1245 = true then ((laws_toNodeS.f k x1).bind fun t1246 => ((laws_eqNodeS.f k x9 t1246).bind fun t1249 => (if t1249 = true then ((laws_markNodeS.f k x8 1).bind fun bt1250 => ((laws_markNodeS.f k x9 bt1250.1).bind fun bt1252 => (if bt1252.1 < 0 then (laws_FnExactRenamed.j1 k x0 x1 x6 x7 x10 true) else ((laws_eqOpS.f k x10 x6).bind fun t1254 => (if t1254 = true then (laws_FnExactRenamed.j1 k x0 x1 x6 x7 x10 (x11 != x7)) else (laws_FnExactRenamed.j1 k x0 x1 x6 x7 x10 true)))))) else (some false)))) else (some false))))
def laws_FnExactRenamed.j1 : Nat → List (S91) → List (S91) → List (S98) → Bool → List (S98) → Bool → Option (Bool)
 | 0, _, _, _, _, _, _ => none
 | k + 1, x0, x1, x6, x7, x10, x82 => if x82 = true then (some false) else ((laws_markOpS.f k x10 1).bind fun bt1255 => ((laws_heldOpS.f k bt1255.2 1).bind fun t1257 => (if t1257 < 0 then (some false) else (if t1257 = bt1255.1 then ((laws_toNodeS.f k x0).bind fun t1258 => ((laws_toNodeS.f k x1).bind fun t1261 => ((impl_Renamed.f k t1258 t1261).bind fun bt1264 => ((laws_eqOpS.f k bt1264.1 x6).bind fun t1268 => (if t1268 = true then (laws_FnExactRenamed.j2 k bt1255.2 bt1255.1 (bt1264.2 != x7)) else (laws_FnExactRenamed.j2 k bt1255.2 bt1255.1 true)))))) else (some false)))))
def laws_FnExactRenamed.j2 : Nat → List (S98) → Int → Bool → Option (Bool)
 | 0, _, _, _ => none
 | k + 1, x10, x13, x110 => if x110 = true then (some false) else ((laws_heldOpS.f k x10 1).bind fun t1269 => (if t1269 < 0 then (some false) else (if t1269 = x13 then (some true) else (some false))))
end
def laws_FnExactRenamed.f (k : Nat) (l0 : List (S91)) (l1 : List (S91)) : Option (Bool) := (laws_szNodeS.f l0 1048576).bind fun t1219 => (if t1219 < 0 then (some true) else ((laws_szNodeS.f l1 t1219).bind fun t1220 => (if t1220 < 0 then (some true) else ((laws_toNodeS.f k l0).bind fun t1221 => ((laws_toNodeS.f k l1).bind fun t1224 => ((spec_Renamed.f k t1221 t1224).bind fun bt1227 => ((laws_toNodeS.f k l0).bind fun t1231 => ((laws_toNodeS.f k l1).bind fun t1234 => ((impl_Renamed.f k t1231 t1234).bind fun bt1237 => ((laws_eqOpS.f k bt1237.1 bt1227.1).bind fun t1241 => (if t1241 = true then (laws_FnExactRenamed.j0 k l0 l1 bt1227.1 bt1227.2 t1231 t1234 bt1237.1 bt1237.2 (bt1237.2 != bt1227.2)) else (laws_FnExactRenamed.j0 k l0 l1 bt1227.1 bt1227.2 t1231 t1234 bt1237.1 bt1237.2 true))))))))))))
theorem laws_FnExactRenamed.mono_l : ∀ k, (∀ y0 y1 y2 y3 y4 y5 y6 y7 y8, LeO (laws_FnExactRenamed.j0 k y0 y1 y2 y3 y4 y5 y6 y7 y8) (laws_FnExactRenamed.j0 (k + 1) y0 y1 y2 y3 y4 y5 y6 y7 y8)) ∧ (∀ y0 y1 y2 y3 y4 y5, LeO (laws_FnExactRenamed.j1 k y0 y1 y2 y3 y4 y5) (laws_FnExactRenamed.j1 (k + 1) y0 y1 y2 y3 y4 y5)) ∧ (∀ y0 y1 y2, LeO (laws_FnExactRenamed.j2 k y0 y1 y2) (laws_FnExactRenamed.j2 (k + 1) y0 y1 y2))
 | 0 => ⟨fun _ _ _ _ _ _ _ _ _ r h => by simp [laws_FnExactRenamed.j0] at h, fun _ _ _ _ _ _ r h => by simp [laws_FnExactRenamed.j1] at h, fun _ _ _ r h => by simp [laws_FnExactRenamed.j2] at h⟩
 | k + 1 => by
  obtain ⟨ih0, ih1, ih2⟩ := laws_FnExactRenamed.mono_l k
  refine ⟨?_, ?_, ?_⟩
  ·intro y0 y1 y2 y3 y4 y5 y6 y7 y8
   unfold laws_FnExactRenamed.j0
   repeat' first
   | (with_reducible exact ih0 _ _ _ _ _ _ _ _ _)
   | (with_reducible exact ih1 _ _ _ _ _ _)
   | (with_reducible exact ih2 _ _ _)
   | (with_reducible exact impl_Renamed.mono _ _ _)
   | (with_reducible exact laws_eqNodeS.mono _ _ _)
   | (with_reducible exact laws_eqOpS.mono _ _ _)
   | (with_reducible exact laws_heldOpS.mono _ _ _)
   | (with_reducible exact laws_markNodeS.mono _ _ _)
   | (with_reducible exact laws_markOpS.mono _ _ _)
   | (with_reducible exact laws_toNodeS.mono _ _)
   | (with_reducible exact spec_Renamed.mono _ _ _)
   | (with_reducible exact LeO.refl _)
   | (with_reducible exact LeO.none _)
   | (with_reducible refine LeO.ite ?_ ?_)
   | (with_reducible refine LeO.bind ?_ (fun _ => ?_))
   | exact ih0 _ _ _ _ _ _ _ _ _
   | exact ih1 _ _ _ _ _ _
   | exact ih2 _ _ _
   | exact impl_Renamed.mono _ _ _
   | exact laws_eqNodeS.mono _ _ _
   | exact laws_eqOpS.mono _ _ _
   | exact laws_heldOpS.mono _ _ _
   | exact laws_markNodeS.mono _ _ _
   | exact laws_markOpS.mono _ _ _
   | exact laws_toNodeS.mono _ _
   | exact spec_Renamed.mono _ _ _
   | exact LeO.none _
   | refine LeO.ite ?_ ?_
   | refine LeO.bind ?_ (fun _ => ?_)
  ·intro y0 y1 y2 y3 y4 y5
   unfold laws_FnExactRenamed.j1
   repeat' first
   | (with_reducible exact ih0 _ _ _ _ _ _ _ _ _)
   | (with_reducible exact ih1 _ _ _ _ _ _)
   | (with_reducible exact ih2 _ _ _)
   | (with_reducible exact impl_Renamed.mono _ _ _)
   | (with_reducible exact laws_eqNodeS.mono _ _ _)
   | (with_reducible exact laws_eqOpS.mono _ _ _)
   | (with_reducible exact laws_heldOpS.mono _ _ _)
   | (with_reducible exact laws_markNodeS.mono _ _ _)
   | (with_reducible exact laws_markOpS.mono _ _ _)
   | (with_reducible exact laws_toNodeS.mono _ _)
   | (with_reducible exact spec_Renamed.mono _ _ _)
   | (with_reducible exact LeO.refl _)
   | (with_reducible exact LeO.none _)
   | (with_reducible refine LeO.ite ?_ ?_)
   | (with_reducible refine LeO.bind ?_ (fun _ => ?_))
   | exact ih0 _ _ _ _ _ _ _ _ _
   | exact ih1 _ _ _ _ _ _
   | exact ih2 _ _ _
   | exact impl_Renamed.mono _ _ _
   | exact laws_eqNodeS.mono _ _ _
   | exact laws_eqOpS.mono _ _ _
   | exact laws_heldOpS.mono _ _ _
   | exact laws_markNodeS.mono _ _ _
   | exact laws_markOpS.mono _ _ _
   | exact laws_toNodeS.mono _ _
   | exact spec_Renamed.mono _ _ _
   | exact LeO.none _
   | refine LeO.ite ?_ ?_
   | refine LeO.bind ?_ (fun _ => ?_)
  ·intro y0 y1 y2
   unfold laws_FnExactRenamed.j2
   repeat' first
   | (with_reducible exact ih0 _ _ _ _ _ _ _ _ _)
   | (with_reducible exact ih1 _ _ _ _ _ _)
   | (with_reducible exact ih2 _ _ _)
   | (with_reducible exact impl_Renamed.mono _ _ _)
   | (with_reducible exact laws_eqNodeS.mono _ _ _)
   | (with_reducible exact laws_eqOpS.mono _ _ _)
   | (with_reducible exact laws_heldOpS.mono _ _ _)
   | (with_reducible exact laws_markNodeS.mono _ _ _)
   | (with_reducible exact laws_markOpS.mono _ _ _)
   | (with_reducible exact laws_toNodeS.mono _ _)
   | (with_reducible exact spec_Renamed.mono _ _ _)
   | (with_reducible exact LeO.refl _)
   | (with_reducible exact LeO.none _)
   | (with_reducible refine LeO.ite ?_ ?_)
   | (with_reducible refine LeO.bind ?_ (fun _ => ?_))
   | exact ih0 _ _ _ _ _ _ _ _ _
   | exact ih1 _ _ _ _ _ _
   | exact ih2 _ _ _
   | exact impl_Renamed.mono _ _ _
   | exact laws_eqNodeS.mono _ _ _
   | exact laws_eqOpS.mono _ _ _
   | exact laws_heldOpS.mono _ _ _
   | exact laws_markNodeS.mono _ _ _
   | exact laws_markOpS.mono _ _ _
   | exact laws_toNodeS.mono _ _
   | exact spec_Renamed.mono _ _ _
   | exact LeO.none _
   | refine LeO.ite ?_ ?_
   | refine LeO.bind ?_ (fun _ => ?_)
theorem laws_FnExactRenamed.mono : ∀ a0 a1 k, LeO (laws_FnExactRenamed.f k a0 a1) (laws_FnExactRenamed.f (k + 1) a0 a1) := by
 intro a0 a1 k
 obtain ⟨ih0, ih1, ih2⟩ := laws_FnExactRenamed.mono_l k
 unfold laws_FnExactRenamed.f
 repeat' first
   | (with_reducible exact ih0 _ _ _ _ _ _ _ _ _)
   | (with_reducible exact ih1 _ _ _ _ _ _)
   | (with_reducible exact ih2 _ _ _)
   | (with_reducible exact impl_Renamed.mono _ _ _)
   | (with_reducible exact laws_eqNodeS.mono _ _ _)
   | (with_reducible exact laws_eqOpS.mono _ _ _)
   | (with_reducible exact laws_heldOpS.mono _ _ _)
   | (with_reducible exact laws_markNodeS.mono _ _ _)
   | (with_reducible exact laws_markOpS.mono _ _ _)
   | (with_reducible exact laws_toNodeS.mono _ _)
   | (with_reducible exact spec_Renamed.mono _ _ _)
   | (with_reducible exact LeO.refl _)
   | (with_reducible exact LeO.none _)
   | (with_reducible refine LeO.ite ?_ ?_)
   | (with_reducible refine LeO.bind ?_ (fun _ => ?_))
   | exact ih0 _ _ _ _ _ _ _ _ _
   | exact ih1 _ _ _ _ _ _
   | exact ih2 _ _ _
   | exact impl_Renamed.mono _ _ _
   | exact laws_eqNodeS.mono _ _ _
   | exact laws_eqOpS.mono _ _ _
   | exact laws_heldOpS.mono _ _ _
   | exact laws_markNodeS.mono _ _ _
   | exact laws_markOpS.mono _ _ _
   | exact laws_toNodeS.mono _ _
   | exact spec_Renamed.mono _ _ _
   | exact LeO.none _
   | refine LeO.ite ?_ ?_
   | refine LeO.bind ?_ (fun _ => ?_)
theorem laws_FnExactRenamed.j0_no {k y0 y1 y2 y3 y4 y5 y6 y7} : ¬ (laws_FnExactRenamed.j0 k y0 y1 y2 y3 y4 y5 y6 y7 true = some true) := by
 intro h
 cases k <;> simp [laws_FnExactRenamed.j0] at h
theorem laws_FnExactRenamed.j1_no {k y0 y1 y2 y3 y4} : ¬ (laws_FnExactRenamed.j1 k y0 y1 y2 y3 y4 true = some true) := by
 intro h
 cases k <;> simp [laws_FnExactRenamed.j1] at h
theorem laws_FnExactRenamed.j2_no {k y0 y1} : ¬ (laws_FnExactRenamed.j2 k y0 y1 true = some true) := by
 intro h
 cases k <;> simp [laws_FnExactRenamed.j2] at h
theorem hand_split {α β : Type} {d : Kd α} {d' : Kd β} {e e' base : Nat} {okU okV : Nat → Prop} {W W1 : World} {u v : Value} {xs : List α} {ys : List β} (hb : Below W.heap.size W W1) (hu : Kd.S d e W base okU u xs) (hv : Kd.S d' e' W1 W.heap.size okV v ys) :
  ∃ N, Kd.S d e W1 base (fun k_ => some k_ ≠ v.ownBlock ∧ k_ < N) u xs ∧ Kd.S d' e' W1 W.heap.size (fun k_ => some k_ ≠ u.ownBlock ∧ N ≤ k_) v ys :=
 ⟨W.heap.size, Kd.S_mono (Kd.S_below (Kd.S_bound hu) hb) (fun k_ hk => ⟨fun e_ => Nat.lt_irrefl _ (Nat.lt_of_lt_of_le hk.2.2.1 (Kd.S_base hv k_ e_.symm)), hk.2.2.1⟩),
  Kd.S_mono (Kd.S_bound hv) (fun k_ hk => ⟨fun e_ => Nat.lt_irrefl _ (Nat.lt_of_lt_of_le (Kd.S_lt hu k_ e_.symm) hk.2.1), hk.2.1⟩)⟩
set_option maxHeartbeats 8000000 in
set_option maxRecDepth 100000 in
theorem laws_FnExactRenamed.calls (k : Nat) (A0 : Option Addr) (c0 : Nat) (l0 : List (S91)) (A1 : Option Addr) (c1 : Nat) (l1 : List (S91)) (r : Bool) (w : World) (hr0 : Kd.C k91 w A0 l0.length l0) (hc0 : l0.length ≤ c0) (hr1 : Kd.C k91 w A1 l1.length l1) (hc1 : l1.length ≤ c1) (h : laws_FnExactRenamed.f k l0 l1 = some r) (hr_ : r = true) :
  Calls Try.prog 8 #[.slice A0 l0.length c0, .slice A1 l1.length c1] w fun e w' => e = .returned (.bool r) ∧ Below w.heap.size w w' := by
 have HRT_ := Aside0.mk hr_
 clear hr_
 have HR0 := Aside0.mk hr0
 have HC0 := Aside0.mk hc0
 clear hr0 hc0
 have HR1 := Aside0.mk hr1
 have HC1 := Aside0.mk hc1
 clear hr1 hc1
 have HB := Aside0.mk (Below.refl w.heap.size w)
 have H : ((laws_szNodeS.f l0 1048576).bind fun t1219 => (if t1219 < 0 then (some true) else ((laws_szNodeS.f l1 t1219).bind fun t1220 => (if t1220 < 0 then (some true) else ((laws_toNodeS.f k l0).bind fun t1221 => ((laws_toNodeS.f k l1).bind fun t1224 => ((spec_Renamed.f k t1221 t1224).bind fun bt1227 => ((laws_toNodeS.f k l0).bind fun t1231 => ((laws_toNodeS.f k l1).bind fun t1234 => ((impl_Renamed.f k t1231 t1234).bind fun bt1237 => ((laws_eqOpS.f k bt1237.1 bt1227.1).bind fun t1241 => (if t1241 = true then (laws_FnExactRenamed.j0 k l0 l1 bt1227.1 bt1227.2 t1231 t1234 bt1237.1 bt1237.2 (bt1237.2 != bt1227.2)) else (laws_FnExactRenamed.j0 k l0 l1 bt1227.1 bt1227.2 t1231 t1234 bt1237.1 bt1237.2 true))))))))))))) = some r := h
 clear h
 replace H := Option.bind_eq_some_iff.mp H
 obtain ⟨t1219, A30, H⟩ := H
 have A3 := Aside0.mk A30
 clear A30
 by_cases c4 : t1219 < 0
 ·rw [if_pos c4] at H
  have c4b0 : decide (t1219 < 0) = true := decide_eq_true c4
  clear c4
  obtain rfl := Option.some.inj H
  go_enter Try.func8, Try.ntmps8
  go_wp2_with (first | ((with_reducible refine gate_callee (f := 35) rfl ?_); refine goesL_ (some 19) rfl rfl Try.func35 (by kernel_rfl) rfl #[.slice A0 l0.length c0, .int .i64 1048576] rfl (by (try simp only [List.map_toArray, List.map_cons, List.map_nil]); first | done | rfl | (simp only [List.length_drop, List.length_take]; rfl)) ?_; (with_reducible refine (laws_szNodeS.calls _ _ l0 1048576 t1219 _ ?side1 ?side2 A3.out).mono ?_); (case side1 => repeat (first | exact HR0.out | (with_reducible refine Kd.C_alloc ?_ _) | (with_reducible refine Kd.C_drewN ?_ _) | (with_reducible refine Kd.C_drew ?_))); (case side2 => exact HC0.out); rintro e w' ⟨rfl, ⟨nd, rfl⟩⟩; refine ⟨_, rfl, ?_⟩))
  go_ret
  exact ⟨by first | rfl | (simp [errW_none, errW_some] <;> rfl) | (simp [*, errW_none, errW_some] <;> rfl), laB HB.out⟩
 ·rw [if_neg c4] at H
  have c4b0 : decide (t1219 < 0) = false := decide_eq_false c4
  clear c4
  replace H := Option.bind_eq_some_iff.mp H
  obtain ⟨t1220, A50, H⟩ := H
  have A5 := Aside0.mk A50
  clear A50
  by_cases c6 : t1220 < 0
  ·rw [if_pos c6] at H
   have c6b0 : decide (t1220 < 0) = true := decide_eq_true c6
   clear c6
   obtain rfl := Option.some.inj H
   go_enter Try.func8, Try.ntmps8
   go_wp2_with (first | ((with_reducible refine gate_callee (f := 35) rfl ?_); refine goesL_ (some 19) rfl rfl Try.func35 (by kernel_rfl) rfl #[.slice A0 l0.length c0, .int .i64 1048576] rfl (by (try simp only [List.map_toArray, List.map_cons, List.map_nil]); first | done | rfl | (simp only [List.length_drop, List.length_take]; rfl)) ?_; (with_reducible refine (laws_szNodeS.calls _ _ l0 1048576 t1219 _ ?side1 ?side2 A3.out).mono ?_); (case side1 => repeat (first | exact HR0.out | (with_reducible refine Kd.C_alloc ?_ _) | (with_reducible refine Kd.C_drewN ?_ _) | (with_reducible refine Kd.C_drew ?_))); (case side2 => exact HC0.out); rintro e w' ⟨rfl, ⟨nd, rfl⟩⟩; refine ⟨_, rfl, ?_⟩) | ((with_reducible refine gate_callee (f := 35) rfl ?_); refine goesL_ (some 24) rfl rfl Try.func35 (by kernel_rfl) rfl #[.slice A1 l1.length c1, .int .i64 t1219] rfl (by (try simp only [List.map_toArray, List.map_cons, List.map_nil]); first | done | rfl | (simp only [List.length_drop, List.length_take]; rfl)) ?_; (with_reducible refine (laws_szNodeS.calls _ _ l1 t1219 t1220 _ ?side1 ?side2 A5.out).mono ?_); (case side1 => repeat (first | exact HR1.out | (with_reducible refine Kd.C_alloc ?_ _) | (with_reducible refine Kd.C_drewN ?_ _) | (with_reducible refine Kd.C_drew ?_))); (case side2 => exact HC1.out); rintro e w' ⟨rfl, ⟨nd, rfl⟩⟩; refine ⟨_, rfl, ?_⟩))
   go_ret
   exact ⟨by first | rfl | (simp [errW_none, errW_some] <;> rfl) | (simp [*, errW_none, errW_some] <;> rfl), laB HB.out⟩
  ·rw [if_neg c6] at H
   have c6b0 : decide (t1220 < 0) = false := decide_eq_false c6
   clear c6
   replace H := Option.bind_eq_some_iff.mp H
   obtain ⟨t1221, A70, H⟩ := H
   have A7 := Aside0.mk A70
   clear A70
   replace H := Option.bind_eq_some_iff.mp H
   obtain ⟨t1224, A80, H⟩ := H
   have A8 := Aside0.mk A80
   clear A80
   replace H := Option.bind_eq_some_iff.mp H
   obtain ⟨⟨t1227, t1228⟩, A90, H⟩ := H
   have A9 := Aside0.mk A90
   clear A90
   replace H := Option.bind_eq_some_iff.mp H
   obtain ⟨t1231, A100, H⟩ := H
   have A10 := Aside0.mk A100
   clear A100
   replace H := Option.bind_eq_some_iff.mp H
   obtain ⟨t1234, A110, H⟩ := H
   have A11 := Aside0.mk A110
   clear A110
   replace H := Option.bind_eq_some_iff.mp H
   obtain ⟨⟨t1237, t1238⟩, A120, H⟩ := H
   have A12 := Aside0.mk A120
   clear A120
   have HC13 := Aside0.mk H
   clear H
   go_enter Try.func8, Try.ntmps8
   go_upto_region 12 with (first | ((with_reducible refine gate_callee (f := 35) rfl ?_); refine goesL_ (some 19) rfl rfl Try.func35 (by kernel_rfl) rfl #[.slice A0 l0.length c0, .int .i64 1048576] rfl (by (try simp only [List.map_toArray, List.map_cons, List.map_nil]); first | done | rfl | (simp only [List.length_drop, List.length_take]; rfl)) ?_; (with_reducible refine (laws_szNodeS.calls _ _ l0 1048576 t1219 _ ?side1 ?side2 A3.out).mono ?_); (case side1 => repeat (first | exact HR0.out | (with_reducible refine Kd.C_alloc ?_ _) | (with_reducible refine Kd.C_drewN ?_ _) | (with_reducible refine Kd.C_drew ?_))); (case side2 => exact HC0.out); rintro e w' ⟨rfl, ⟨nd, rfl⟩⟩; refine ⟨_, rfl, ?_⟩) | ((with_reducible refine gate_callee (f := 35) rfl ?_); refine goesL_ (some 24) rfl rfl Try.func35 (by kernel_rfl) rfl #[.slice A1 l1.length c1, .int .i64 t1219] rfl (by (try simp only [List.map_toArray, List.map_cons, List.map_nil]); first | done | rfl | (simp only [List.length_drop, List.length_take]; rfl)) ?_; (with_reducible refine (laws_szNodeS.calls _ _ l1 t1219 t1220 _ ?side1 ?side2 A5.out).mono ?_); (case side1 => repeat (first | exact HR1.out | (with_reducible refine Kd.C_alloc ?_ _) | (with_reducible refine Kd.C_drewN ?_ _) | (with_reducible refine Kd.C_drew ?_))); (case side2 => exact HC1.out); rintro e w' ⟨rfl, ⟨nd, rfl⟩⟩; refine ⟨_, rfl, ?_⟩) | ((with_reducible refine gate_callee (f := 37) rfl ?_); refine goesL_ (some 29) rfl rfl Try.func37 (by kernel_rfl) rfl #[.slice A0 l0.length c0] rfl (by (try simp only [List.map_toArray, List.map_cons, List.map_nil]); first | done | rfl | (simp only [List.length_drop, List.length_take]; rfl)) ?_; (with_reducible refine (laws_toNodeS.calls k _ _ l0 t1221 _ ?side1 ?side2 A7.out).mono ?_); (case side1 => repeat (first | exact HR0.out | (with_reducible refine Kd.C_alloc ?_ _) | (with_reducible refine Kd.C_drewN ?_ _) | (with_reducible refine Kd.C_drew ?_))); (case side2 => exact HC0.out); rintro e w14 ⟨v1222, rfl, ho0, hb⟩; refine ⟨_, rfl, ?_⟩; have HO1223 := Aside0.mk (Kd.R_lower ho0 (below_size (laB HB.out))); replace HB := Aside0.mk (below_step (laB HB.out) hb); (try clear hb); (try clear hb2); (try clear hk); (try clear hi); (try clear ho0)) | ((with_reducible refine gate_callee (f := 37) rfl ?_); refine goesL_ (some 31) rfl rfl Try.func37 (by kernel_rfl) rfl #[.slice A1 l1.length c1] rfl (by (try simp only [List.map_toArray, List.map_cons, List.map_nil]); first | done | rfl | (simp only [List.length_drop, List.length_take]; rfl)) ?_; (with_reducible refine (laws_toNodeS.calls k _ _ l1 t1224 _ ?side1 ?side2 A8.out).mono ?_); (case side1 => exact laC (Kd.C_below HR1.out HB.out)); (case side2 => exact HC1.out); rintro e w15 ⟨v1225, rfl, ho0, hb⟩; refine ⟨_, rfl, ?_⟩; have HO1226 := Aside0.mk (Kd.R_lower (Kd.R_new' ho0 (Kd.R_lt (laR HO1223.out))) (below_size (laB HB.out))); replace HO1223 := Aside0.mk (Kd.R_elder' (laR HO1223.out) (Kd.R_base ho0) hb); replace HB := Aside0.mk (below_step (laB HB.out) hb); (try clear hb); (try clear hb2); (try clear hk); (try clear hi); (try clear ho0); obtain ⟨Ao16, co16, eo16⟩ := Kd.R_slice HO1223.out; subst eo16; obtain ⟨Ao17, co17, eo17⟩ := Kd.R_slice HO1226.out; subst eo17) | ((with_reducible refine gate_callee (f := 46) rfl ?_); refine goesL_ (some 32) rfl rfl Try.func46 (by kernel_rfl) rfl #[.slice Ao16 t1221.length co16, .slice Ao17 t1224.length co17] rfl (by (try simp only [List.map_toArray, List.map_cons, List.map_nil]); first | done | rfl | (simp only [List.length_drop, List.length_take]; rfl)) ?_; (with_reducible refine (spec_Renamed.calls k _ _ t1221 _ _ t1224 t1227 t1228 _ ?side1 ?side2 ?side3 ?side4 A9.out).mono ?_); (case side1 => exact laC (Kd.R_reads' HO1223.out).2.2); (case side2 => exact (Kd.R_reads' HO1223.out).2.1); (case side3 => exact laC (Kd.R_reads' HO1226.out).2.2); (case side4 => exact (Kd.R_reads' HO1226.out).2.1); rintro e w18 ⟨v1229, rfl, ho0, hb⟩; refine ⟨_, rfl, ?_⟩; replace HO1223 := Aside0.mk (laRb HO1223.out hb); replace HO1226 := Aside0.mk (laRb HO1226.out hb); have HO1230 := Aside0.mk (Kd.S_lower ho0 (below_size (laB HB.out))); replace HB := Aside0.mk (below_step (laB HB.out) hb); (try clear hb); (try clear hb2); (try clear hk); (try clear hi); (try clear ho0)) | ((with_reducible refine gate_callee (f := 37) rfl ?_); refine goesL_ (some 36) rfl rfl Try.func37 (by kernel_rfl) rfl #[.slice A0 l0.length c0] rfl (by (try simp only [List.map_toArray, List.map_cons, List.map_nil]); first | done | rfl | (simp only [List.length_drop, List.length_take]; rfl)) ?_; (with_reducible refine (laws_toNodeS.calls k _ _ l0 t1231 _ ?side1 ?side2 A10.out).mono ?_); (case side1 => exact laC (Kd.C_below HR0.out HB.out)); (case side2 => exact HC0.out); rintro e w19 ⟨v1232, rfl, ho0, hb⟩; refine ⟨_, rfl, ?_⟩; replace HO1230 := Aside0.mk (laSb HO1230.out hb); have HO1233 := Aside0.mk (Kd.R_lower (Kd.R_new' (Kd.R_new' ho0 (Kd.R_lt (laR HO1223.out))) (Kd.R_lt (laR HO1226.out))) (below_size (laB HB.out))); replace HO1223 := Aside0.mk (Kd.R_elder' (laR HO1223.out) (Kd.R_base ho0) hb); replace HO1226 := Aside0.mk (Kd.R_elder' (laR HO1226.out) (Kd.R_base ho0) hb); replace HB := Aside0.mk (below_step (laB HB.out) hb); (try clear hb); (try clear hb2); (try clear hk); (try clear hi); (try clear ho0)) | ((with_reducible refine gate_callee (f := 37) rfl ?_); refine goesL_ (some 38) rfl rfl Try.func37 (by kernel_rfl) rfl #[.slice A1 l1.length c1] rfl (by (try simp only [List.map_toArray, List.map_cons, List.map_nil]); first | done | rfl | (simp only [List.length_drop, List.length_take]; rfl)) ?_; (with_reducible refine (laws_toNodeS.calls k _ _ l1 t1234 _ ?side1 ?side2 A11.out).mono ?_); (case side1 => exact laC (Kd.C_below HR1.out HB.out)); (case side2 => exact HC1.out); rintro e w20 ⟨v1235, rfl, ho0, hb⟩; refine ⟨_, rfl, ?_⟩; replace HO1230 := Aside0.mk (laSb HO1230.out hb); have HO1236 := Aside0.mk (Kd.R_lower (Kd.R_new' (Kd.R_new' (Kd.R_new' ho0 (Kd.R_lt (laR HO1223.out))) (Kd.R_lt (laR HO1226.out))) (Kd.R_lt (laR HO1233.out))) (below_size (laB HB.out))); replace HO1223 := Aside0.mk (Kd.R_elder' (laR HO1223.out) (Kd.R_base ho0) hb); replace HO1226 := Aside0.mk (Kd.R_elder' (laR HO1226.out) (Kd.R_base ho0) hb); replace HO1233 := Aside0.mk (Kd.R_elder' (laR HO1233.out) (Kd.R_base ho0) hb); replace HB := Aside0.mk (below_step (laB HB.out) hb); (try clear hb); (try clear hb2); (try clear hk); (try clear hi); (try clear ho0); obtain ⟨Ao21, co21, eo21⟩ := Kd.R_slice HO1233.out; subst eo21; obtain ⟨Ao22, co22, eo22⟩ := Kd.R_slice HO1236.out; subst eo22) | ((with_reducible refine gate_callee (f := 47) rfl ?_); refine goesL_ (some 42) rfl rfl Try.func47 (by kernel_rfl) rfl #[.slice Ao21 t1231.length co21, .slice Ao22 t1234.length co22] rfl (by (try simp only [List.map_toArray, List.map_cons, List.map_nil]); first | done | rfl | (simp only [List.length_drop, List.length_take]; rfl)) ?_; (with_reducible refine (impl_Renamed.calls k _ _ t1231 _ _ t1234 t1237 t1238 _ ?side1 ?side2 ?side3 ?side4 A12.out).mono ?_); (case side1 => exact laC (Kd.R_reads' HO1233.out).2.2); (case side2 => exact (Kd.R_reads' HO1233.out).2.1); (case side3 => exact laC (Kd.R_reads' HO1236.out).2.2); (case side4 => exact (Kd.R_reads' HO1236.out).2.1); rintro e w23 ⟨v1239, rfl, ho0, hb⟩; refine ⟨_, rfl, ?_⟩; replace HO1223 := Aside0.mk (laRb HO1223.out hb); replace HO1226 := Aside0.mk (laRb HO1226.out hb); replace HO1233 := Aside0.mk (laRb HO1233.out hb); replace HO1236 := Aside0.mk (laRb HO1236.out hb); obtain ⟨N_, hu_, hv_⟩ := hand_split hb (laS HO1230.out) ho0; have HO1240 := Aside0.mk (Kd.S_lower hv_ (below_size (laB HB.out))); replace HO1230 := Aside0.mk hu_; clear hu_ hv_; replace HB := Aside0.mk (below_step (laB HB.out) hb); (try clear hb); (try clear hb2); (try clear hk); (try clear hi); (try clear ho0)))
   (try simp only [Act.put, List.setIfInBounds_toArray, List.set_cons_zero, List.set_cons_succ])
   go_cut [53] (fun v53 wc => ∃ (kq : Nat) (x53_12 : Bool), v53 = .bool x53_12 ∧ Aside0 (laws_FnExactRenamed.j0 kq l0 l1 t1227 t1228 t1231 t1234 t1237 t1238 x53_12 = some r) ∧ Aside0 (kq ≤ k) ∧ Aside0 (Kd.S k98 98 wc w.heap.size (fun k_ => some k_ ≠ (v1239 : Value).ownBlock ∧ k_ < N_) v1229 t1227) ∧ Aside0 (Kd.R k48 48 wc w.heap.size (fun k_ => some k_ ≠ ((.slice Ao22 t1234.length co22) : Value).ownBlock) (.slice Ao21 t1231.length co21) t1231) ∧ Aside0 (Kd.R k48 48 wc w.heap.size (fun k_ => some k_ ≠ ((.slice Ao21 t1231.length co21) : Value).ownBlock) (.slice Ao22 t1234.length co22) t1234) ∧ Aside0 (Kd.S k98 98 wc w.heap.size (fun k_ => some k_ ≠ (v1229 : Value).ownBlock ∧ N_ ≤ k_) v1239 t1237) ∧ Aside0 (Below w.heap.size w wc))
   case first =>
    have H := HC13.out
    clear HC13
    replace H := Option.bind_eq_some_iff.mp H
    obtain ⟨t1241, A240, H⟩ := H
    have A24 := Aside0.mk A240
    clear A240
    by_cases c25 : t1241 = true
    ·subst c25
     rw [if_pos rfl] at H
     have H' := Aside0.mk H
     clear H
     obtain ⟨Ao26, co26, eo26⟩ := Kd.S_slice HO1240.out
     subst eo26
     obtain ⟨Ao27, co27, eo27⟩ := Kd.S_slice HO1230.out
     subst eo27
     go_wp2_with (first | ((with_reducible refine gate_callee (f := 48) rfl ?_); refine goesL_ (some 47) rfl rfl Try.func48 (by kernel_rfl) rfl #[.slice Ao26 t1237.length co26, .slice Ao27 t1227.length co27] rfl (by (try simp only [List.map_toArray, List.map_cons, List.map_nil]); first | done | rfl | (simp only [List.length_drop, List.length_take]; rfl)) ?_; (with_reducible refine (laws_eqOpS.calls k _ _ t1237 _ _ t1227 true _ ?side1 ?side2 ?side3 ?side4 A24.out).mono ?_); (case side1 => exact laC (Kd.S_reads' HO1240.out).2.2); (case side2 => exact (Kd.S_reads' HO1240.out).2.1); (case side3 => exact laC (Kd.S_reads' HO1230.out).2.2); (case side4 => exact (Kd.S_reads' HO1230.out).2.1); rintro e w28 ⟨rfl, hb⟩; refine ⟨_, rfl, ?_⟩; replace HO1223 := Aside0.mk (laRb HO1223.out hb); replace HO1226 := Aside0.mk (laRb HO1226.out hb); replace HO1230 := Aside0.mk (laSb HO1230.out hb); replace HO1233 := Aside0.mk (laRb HO1233.out hb); replace HO1236 := Aside0.mk (laRb HO1236.out hb); replace HO1240 := Aside0.mk (laSb HO1240.out hb); replace HB := Aside0.mk (below_step (laB HB.out) hb); (try clear hb); (try clear hb2); (try clear hk); (try clear hi)))
     go_meet
     case rel => exact ⟨_, ((t1238 != t1228)), (by first | rfl | (simp; done) | (simp [*]; done)), H', ⟨by first | omega | exact Nat.le_refl _⟩, ⟨laS HO1230.out⟩, ⟨laR (Kd.R_mono HO1233.out (fun _ hk => hk.2))⟩, ⟨laR (Kd.R_mono HO1236.out (fun _ hk => hk.2))⟩, ⟨laS HO1240.out⟩, ⟨laB HB.out⟩⟩
    ·replace c25 := Bool.eq_false_iff.mpr c25
     subst c25
     rw [if_neg (show ¬ (false = true) by decide)] at H
     exact absurd (H.trans (congrArg some HRT_.out)) laws_FnExactRenamed.j0_no
   case rest =>
    clear HC13
    try clear c1
    try clear c2
    try clear p2
    try clear c3
    try clear c4
    try clear c4b0
    try clear c6
    try clear c6b0
    try clear c8
    try clear c25
    obtain ⟨kq, x53_12, rfl, HA, HJ12, HO_6, HO_8, HO_9, HO_10, HB⟩ := hcut
    cases kq with
    | zero => exact absurd HA.out (by simp [laws_FnExactRenamed.j0])
    | succ kj12 =>
     have H := HA.out
     clear HA
     simp only [laws_FnExactRenamed.j0] at H
     by_cases c32 : x53_12 = true
     ·subst c32
      rw [if_pos rfl] at H
      exact absurd ((Option.some.inj H).trans HRT_.out) (by decide)
     ·replace c32 := Bool.eq_false_iff.mpr c32
      subst c32
      rw [if_neg (show ¬ (false = true) by decide)] at H
      replace H := Option.bind_eq_some_iff.mp H
      obtain ⟨t1242, A330, H⟩ := H
      have A33 := Aside0.mk A330
      clear A330
      replace H := Option.bind_eq_some_iff.mp H
      obtain ⟨t1245, A340, H⟩ := H
      have A34 := Aside0.mk A340
      clear A340
      by_cases c35 : t1245 = true
      ·subst c35
       rw [if_pos rfl] at H
       replace H := Option.bind_eq_some_iff.mp H
       obtain ⟨t1246, A360, H⟩ := H
       have A36 := Aside0.mk A360
       clear A360
       replace H := Option.bind_eq_some_iff.mp H
       obtain ⟨t1249, A370, H⟩ := H
       have A37 := Aside0.mk A370
       clear A370
       by_cases c38 : t1249 = true
       ·subst c38
        rw [if_pos rfl] at H
        replace H := Option.bind_eq_some_iff.mp H
        obtain ⟨⟨t1250, t1251⟩, A390, H⟩ := H
        have A39 := Aside0.mk A390
        clear A390
        replace H := Option.bind_eq_some_iff.mp H
        obtain ⟨⟨t1252, t1253⟩, A400, H⟩ := H
        have A40 := Aside0.mk A400
        clear A400
        have HC41 := Aside0.mk H
        clear H
        go_upto_region 21 with (first | ((with_reducible refine gate_callee (f := 37) rfl ?_); refine goesL_ (some 56) rfl rfl Try.func37 (by kernel_rfl) rfl #[.slice A0 l0.length c0] rfl (by (try simp only [List.map_toArray, List.map_cons, List.map_nil]); first | done | rfl | (simp only [List.length_drop, List.length_take]; rfl)) ?_; (with_reducible refine (laws_toNodeS.calls kj12 _ _ l0 t1242 _ ?side1 ?side2 A33.out).mono ?_); (case side1 => exact laC (Kd.C_below HR0.out HB.out)); (case side2 => exact HC0.out); rintro e w42 ⟨v1243, rfl, ho0, hb⟩; refine ⟨_, rfl, ?_⟩; replace HO_6 := Aside0.mk (laSb HO_6.out hb); replace HO_10 := Aside0.mk (laSb HO_10.out hb); have HO1244 := Aside0.mk (Kd.R_lower (Kd.R_new' (Kd.R_new' ho0 (Kd.R_lt (laR HO_8.out))) (Kd.R_lt (laR HO_9.out))) (below_size (laB HB.out))); replace HO_8 := Aside0.mk (Kd.R_elder' (laR HO_8.out) (Kd.R_base ho0) hb); replace HO_9 := Aside0.mk (Kd.R_elder' (laR HO_9.out) (Kd.R_base ho0) hb); replace HB := Aside0.mk (below_step (laB HB.out) hb); (try clear hb); (try clear hb2); (try clear hk); (try clear hi); (try clear ho0); obtain ⟨Ao43, co43, eo43⟩ := Kd.R_slice HO1244.out; subst eo43) | ((with_reducible refine gate_callee (f := 40) rfl ?_); refine goesL_ (some 57) rfl rfl Try.func40 (by kernel_rfl) rfl #[.slice Ao21 t1231.length co21, .slice Ao43 t1242.length co43] rfl (by (try simp only [List.map_toArray, List.map_cons, List.map_nil]); first | done | rfl | (simp only [List.length_drop, List.length_take]; rfl)) ?_; (with_reducible refine (laws_eqNodeS.calls kj12 _ _ t1231 _ _ t1242 true _ ?side1 ?side2 ?side3 ?side4 A34.out).mono ?_); (case side1 => exact laC (Kd.R_reads' HO_8.out).2.2); (case side2 => exact (Kd.R_reads' HO_8.out).2.1); (case side3 => exact laC (Kd.R_reads' HO1244.out).2.2); (case side4 => exact (Kd.R_reads' HO1244.out).2.1); rintro e w44 ⟨rfl, hb⟩; refine ⟨_, rfl, ?_⟩; replace HO_6 := Aside0.mk (laSb HO_6.out hb); replace HO_8 := Aside0.mk (laRb HO_8.out hb); replace HO_9 := Aside0.mk (laRb HO_9.out hb); replace HO_10 := Aside0.mk (laSb HO_10.out hb); replace HO1244 := Aside0.mk (laRb HO1244.out hb); replace HB := Aside0.mk (below_step (laB HB.out) hb); (try clear hb); (try clear hb2); (try clear hk); (try clear hi)) | ((with_reducible refine gate_callee (f := 37) rfl ?_); refine goesL_ (some 61) rfl rfl Try.func37 (by kernel_rfl) rfl #[.slice A1 l1.length c1] rfl (by (try simp only [List.map_toArray, List.map_cons, List.map_nil]); first | done | rfl | (simp only [List.length_drop, List.length_take]; rfl)) ?_; (with_reducible refine (laws_toNodeS.calls kj12 _ _ l1 t1246 _ ?side1 ?side2 A36.out).mono ?_); (case side1 => exact laC (Kd.C_below HR1.out HB.out)); (case side2 => exact HC1.out); rintro e w45 ⟨v1247, rfl, ho0, hb⟩; refine ⟨_, rfl, ?_⟩; replace HO_6 := Aside0.mk (laSb HO_6.out hb); replace HO_10 := Aside0.mk (laSb HO_10.out hb); have HO1248 := Aside0.mk (Kd.R_lower (Kd.R_new' (Kd.R_new' (Kd.R_new' ho0 (Kd.R_lt (laR HO_8.out))) (Kd.R_lt (laR HO_9.out))) (Kd.R_lt (laR HO1244.out))) (below_size (laB HB.out))); replace HO_8 := Aside0.mk (Kd.R_elder' (laR HO_8.out) (Kd.R_base ho0) hb); replace HO_9 := Aside0.mk (Kd.R_elder' (laR HO_9.out) (Kd.R_base ho0) hb); replace HO1244 := Aside0.mk (Kd.R_elder' (laR HO1244.out) (Kd.R_base ho0) hb); replace HB := Aside0.mk (below_step (laB HB.out) hb); (try clear hb); (try clear hb2); (try clear hk); (try clear hi); (try clear ho0); obtain ⟨Ao46, co46, eo46⟩ := Kd.R_slice HO1248.out; subst eo46) | ((with_reducible refine gate_callee (f := 40) rfl ?_); refine goesL_ (some 62) rfl rfl Try.func40 (by kernel_rfl) rfl #[.slice Ao22 t1234.length co22, .slice Ao46 t1246.length co46] rfl (by (try simp only [List.map_toArray, List.map_cons, List.map_nil]); first | done | rfl | (simp only [List.length_drop, List.length_take]; rfl)) ?_; (with_reducible refine (laws_eqNodeS.calls kj12 _ _ t1234 _ _ t1246 true _ ?side1 ?side2 ?side3 ?side4 A37.out).mono ?_); (case side1 => exact laC (Kd.R_reads' HO_9.out).2.2); (case side2 => exact (Kd.R_reads' HO_9.out).2.1); (case side3 => exact laC (Kd.R_reads' HO1248.out).2.2); (case side4 => exact (Kd.R_reads' HO1248.out).2.1); rintro e w47 ⟨rfl, hb⟩; refine ⟨_, rfl, ?_⟩; replace HO_6 := Aside0.mk (laSb HO_6.out hb); replace HO_8 := Aside0.mk (laRb HO_8.out hb); replace HO_9 := Aside0.mk (laRb HO_9.out hb); replace HO_10 := Aside0.mk (laSb HO_10.out hb); replace HO1244 := Aside0.mk (laRb HO1244.out hb); replace HO1248 := Aside0.mk (laRb HO1248.out hb); replace HB := Aside0.mk (below_step (laB HB.out) hb); (try clear hb); (try clear hb2); (try clear hk); (try clear hi)) | ((with_reducible refine gate_callee (f := 42) rfl ?_); refine goesL_ (some 66) rfl rfl Try.func42 (by kernel_rfl) rfl #[.slice Ao21 t1231.length co21, .int .i64 1] rfl (by (try simp only [List.map_toArray, List.map_cons, List.map_nil]); first | done | rfl | (simp only [List.length_drop, List.length_take]; rfl)) ?_; (with_reducible refine (laws_markNodeS.calls kj12 (fun k_ => some k_ = (.slice Ao21 t1231.length co21 : Value).ownBlock) (.slice Ao21 t1231.length co21) t1231 1 t1250 t1251 w _ ?side1 ?side2 A39.out).mono ?_); (case side1 => repeat (first | (with_reducible first | exact HB.out | apply below_alloc | apply pw_below_drewN | apply below_drew1) | exact HB.out)); (case side2 => exact Kd.R_tight rfl HO_8.out); rintro e w48 ⟨rfl, hy0, hb, hkp⟩; refine ⟨_, rfl, ?_⟩; replace HO_6 := Aside0.mk (Kd.S_mono (ok' := fun k_ => some k_ ≠ (v1239 : Value).ownBlock ∧ k_ < N_) (Kd.S_keptB ((Kd.S_apart' HO_6.out (Kd.R_typed HO_8.out) (by decide))) hkp (fun k_ hk_ hs_ => (hk_.2) hs_)) (fun k_ hk_ => hk_.1.1)); replace HO_9 := Aside0.mk (Kd.R_mono (ok' := fun k_ => some k_ ≠ (.slice Ao21 t1231.length co21 : Value).ownBlock ∧ some k_ ≠ (.slice Ao43 t1242.length co43 : Value).ownBlock ∧ some k_ ≠ (.slice Ao46 t1246.length co46 : Value).ownBlock) (Kd.R_keptB (HO_9.out) hkp (fun k_ hk_ hs_ => (hk_.1.1) hs_)) (fun k_ hk_ => ⟨hk_.1.1.1, hk_.1.1.2, hk_.1.2⟩)); replace HO_10 := Aside0.mk (Kd.S_mono (ok' := fun k_ => some k_ ≠ (v1229 : Value).ownBlock ∧ N_ ≤ k_) (Kd.S_keptB ((Kd.S_apart' HO_10.out (Kd.R_typed HO_8.out) (by decide))) hkp (fun k_ hk_ hs_ => (hk_.2) hs_)) (fun k_ hk_ => hk_.1.1)); replace HO_8 := Aside0.mk (Kd.R_reok rfl hy0 (fun k_ e_ => HO_8.out.1 k_ e_)); replace HO1244 := Aside0.mk (Kd.R_mono (ok' := fun k_ => some k_ ≠ (.slice Ao21 t1231.length co21 : Value).ownBlock ∧ some k_ ≠ (.slice Ao22 t1234.length co22 : Value).ownBlock ∧ some k_ ≠ (.slice Ao46 t1246.length co46 : Value).ownBlock) (Kd.R_keptB (HO1244.out) hkp (fun k_ hk_ hs_ => (hk_.1.1.2) hs_)) (fun k_ hk_ => ⟨hk_.1.1.1.2, hk_.1.1.2, hk_.1.2⟩)); replace HO1248 := Aside0.mk (Kd.R_mono (ok' := fun k_ => some k_ ≠ (.slice Ao21 t1231.length co21 : Value).ownBlock ∧ some k_ ≠ (.slice Ao22 t1234.length co22 : Value).ownBlock ∧ some k_ ≠ (.slice Ao43 t1242.length co43 : Value).ownBlock) (Kd.R_keptB (HO1248.out) hkp (fun k_ hk_ hs_ => (hk_.1.1.2) hs_)) (fun k_ hk_ => ⟨hk_.1.1.1.2, hk_.1.1.2, hk_.1.2⟩)); replace HB := Aside0.mk (hb); (try clear hb); (try clear hkp); (try clear hy0)) | ((with_reducible refine gate_callee (f := 42) rfl ?_); refine goesL_ (some 69) rfl rfl Try.func42 (by kernel_rfl) rfl #[.slice Ao22 t1234.length co22, .int .i64 t1250] rfl (by (try simp only [List.map_toArray, List.map_cons, List.map_nil]); first | done | rfl | (simp only [List.length_drop, List.length_take]; rfl)) ?_; (with_reducible refine (laws_markNodeS.calls kj12 (fun k_ => some k_ = (.slice Ao22 t1234.length co22 : Value).ownBlock) (.slice Ao22 t1234.length co22) t1234 t1250 t1252 t1253 w _ ?side1 ?side2 A40.out).mono ?_); (case side1 => repeat (first | (with_reducible first | exact HB.out | apply below_alloc | apply pw_below_drewN | apply below_drew1) | exact HB.out)); (case side2 => exact Kd.R_tight rfl HO_9.out); rintro e w49 ⟨rfl, hy0, hb, hkp⟩; refine ⟨_, rfl, ?_⟩; replace HO_6 := Aside0.mk (Kd.S_mono (ok' := fun k_ => some k_ ≠ (v1239 : Value).ownBlock ∧ k_ < N_) (Kd.S_keptB ((Kd.S_apart' HO_6.out (Kd.R_typed HO_9.out) (by decide))) hkp (fun k_ hk_ hs_ => (hk_.2) hs_)) (fun k_ hk_ => hk_.1.1)); replace HO_8 := Aside0.mk (Kd.R_mono (ok' := fun k_ => some k_ ≠ (.slice Ao22 t1234.length co22 : Value).ownBlock ∧ some k_ ≠ (.slice Ao43 t1242.length co43 : Value).ownBlock ∧ some k_ ≠ (.slice Ao46 t1246.length co46 : Value).ownBlock) (Kd.R_keptB (HO_8.out) hkp (fun k_ hk_ hs_ => (hk_.1.1) hs_)) (fun k_ hk_ => ⟨hk_.1.1.1, hk_.1.1.2, hk_.1.2⟩)); replace HO_10 := Aside0.mk (Kd.S_mono (ok' := fun k_ => some k_ ≠ (v1229 : Value).ownBlock ∧ N_ ≤ k_) (Kd.S_keptB ((Kd.S_apart' HO_10.out (Kd.R_typed HO_9.out) (by decide))) hkp (fun k_ hk_ hs_ => (hk_.2) hs_)) (fun k_ hk_ => hk_.1.1)); replace HO_9 := Aside0.mk (Kd.R_reok rfl hy0 (fun k_ e_ => HO_9.out.1 k_ e_)); replace HO1244 := Aside0.mk (Kd.R_mono (ok' := fun k_ => some k_ ≠ (.slice Ao21 t1231.length co21 : Value).ownBlock ∧ some k_ ≠ (.slice Ao22 t1234.length co22 : Value).ownBlock ∧ some k_ ≠ (.slice Ao46 t1246.length co46 : Value).ownBlock) (Kd.R_keptB (HO1244.out) hkp (fun k_ hk_ hs_ => (hk_.2.1) hs_)) (fun k_ hk_ => ⟨hk_.1.1, hk_.1.2.1, hk_.1.2.2⟩)); replace HO1248 := Aside0.mk (Kd.R_mono (ok' := fun k_ => some k_ ≠ (.slice Ao21 t1231.length co21 : Value).ownBlock ∧ some k_ ≠ (.slice Ao22 t1234.length co22 : Value).ownBlock ∧ some k_ ≠ (.slice Ao43 t1242.length co43 : Value).ownBlock) (Kd.R_keptB (HO1248.out) hkp (fun k_ hk_ hs_ => (hk_.2.1) hs_)) (fun k_ hk_ => ⟨hk_.1.1, hk_.1.2.1, hk_.1.2.2⟩)); replace HB := Aside0.mk (hb); (try clear hb); (try clear hkp); (try clear hy0)))
        (try simp only [Act.put, List.setIfInBounds_toArray, List.set_cons_zero, List.set_cons_succ])
        go_cut [82] (fun v82 wc => ∃ (kq : Nat) (x82_40 : Bool), v82 = .bool x82_40 ∧ Aside0 (laws_FnExactRenamed.j1 kq l0 l1 t1227 t1228 t1237 x82_40 = some r) ∧ Aside0 (kq ≤ kj12) ∧ Aside0 (Kd.S k98 98 wc w.heap.size (fun k_ => some k_ ≠ (v1239 : Value).ownBlock ∧ k_ < N_) v1229 t1227) ∧ Aside0 (Kd.S k98 98 wc w.heap.size (fun k_ => some k_ ≠ (v1229 : Value).ownBlock ∧ N_ ≤ k_) v1239 t1237) ∧ Aside0 (Below w.heap.size w wc))
        case first =>
         have H := HC41.out
         clear HC41
         by_cases c50 : t1252 < 0
         ·rw [if_pos c50] at H
          have c50b0 : decide (t1252 < 0) = true := decide_eq_true c50
          clear c50
          (first | rw [c50b0] | (simp only [i64_w, i32_w]; rw [c50b0]) | skip)
          exact absurd (H.trans (congrArg some HRT_.out)) laws_FnExactRenamed.j1_no
         ·rw [if_neg c50] at H
          have c50b0 : decide (t1252 < 0) = false := decide_eq_false c50
          clear c50
          (first | rw [c50b0] | (simp only [i64_w, i32_w]; rw [c50b0]) | skip)
          replace H := Option.bind_eq_some_iff.mp H
          obtain ⟨t1254, A510, H⟩ := H
          have A51 := Aside0.mk A510
          clear A510
          by_cases c52 : t1254 = true
          ·subst c52
           rw [if_pos rfl] at H
           have H' := Aside0.mk H
           clear H
           obtain ⟨Ao53, co53, eo53⟩ := Kd.S_slice HO_10.out
           subst eo53
           obtain ⟨Ao54, co54, eo54⟩ := Kd.S_slice HO_6.out
           subst eo54
           go_wp2_with (first | (go_at_call 48; (with_reducible refine (laws_eqOpS.calls kj12 _ _ t1237 _ _ t1227 true _ ?side1 ?side2 ?side3 ?side4 A51.out).mono ?_); (case side1 => exact laC (Kd.S_reads' HO_10.out).2.2); (case side2 => exact (Kd.S_reads' HO_10.out).2.1); (case side3 => exact laC (Kd.S_reads' HO_6.out).2.2); (case side4 => exact (Kd.S_reads' HO_6.out).2.1); rintro e w55 ⟨rfl, hb⟩; replace HO_6 := Aside0.mk (laSb HO_6.out hb); replace HO_8 := Aside0.mk (laRb HO_8.out hb); replace HO_9 := Aside0.mk (laRb HO_9.out hb); replace HO_10 := Aside0.mk (laSb HO_10.out hb); replace HO1244 := Aside0.mk (laRb HO1244.out hb); replace HO1248 := Aside0.mk (laRb HO1248.out hb); replace HB := Aside0.mk (below_step (laB HB.out) hb); (try clear hb); (try clear hb2); (try clear hk); (try clear hi)))
           go_meet
           case rel => exact ⟨_, ((t1238 != t1228)), (by first | rfl | (simp; done) | (simp [*]; done)), H', ⟨by have := HJ12.out; first | omega | exact Nat.le_refl _⟩, ⟨laS HO_6.out⟩, ⟨laS HO_10.out⟩, ⟨laB HB.out⟩⟩
          ·replace c52 := Bool.eq_false_iff.mpr c52
           subst c52
           rw [if_neg (show ¬ (false = true) by decide)] at H
           exact absurd (H.trans (congrArg some HRT_.out)) laws_FnExactRenamed.j1_no
        case rest =>
         clear HC41
         try clear c1
         try clear c2
         try clear p2
         try clear c3
         try clear c4
         try clear c4b0
         try clear c5
         try clear c6
         try clear c6b0
         try clear c8
         try clear c25
         try clear c32
         try clear c35
         try clear c37
         try clear c38
         try clear c40
         try clear c42
         try clear c46
         try clear c47
         try clear c48
         try clear c50
         try clear c50b0
         try clear c52
         try clear p2
         obtain ⟨kq, x82_40, rfl, HA, HJ40, HO_6, HO_10, HB⟩ := hcut
         cases kq with
         | zero => exact absurd HA.out (by simp [laws_FnExactRenamed.j1])
         | succ kj40 =>
          have H := HA.out
          clear HA
          simp only [laws_FnExactRenamed.j1] at H
          by_cases c59 : x82_40 = true
          ·subst c59
           rw [if_pos rfl] at H
           exact absurd ((Option.some.inj H).trans HRT_.out) (by decide)
          ·replace c59 := Bool.eq_false_iff.mpr c59
           subst c59
           rw [if_neg (show ¬ (false = true) by decide)] at H
           replace H := Option.bind_eq_some_iff.mp H
           obtain ⟨⟨t1255, t1256⟩, A600, H⟩ := H
           have A60 := Aside0.mk A600
           clear A600
           replace H := Option.bind_eq_some_iff.mp H
           obtain ⟨t1257, A610, H⟩ := H
           have A61 := Aside0.mk A610
           clear A610
           by_cases c62 : t1257 < 0
           ·rw [if_pos c62] at H
            have c62b0 : decide (t1257 < 0) = true := decide_eq_true c62
            clear c62
            exact absurd ((Option.some.inj H).trans HRT_.out) (by decide)
           ·rw [if_neg c62] at H
            have c62b0 : decide (t1257 < 0) = false := decide_eq_false c62
            clear c62
            by_cases c65 : t1257 = t1255
            ·rw [if_pos c65] at H
             have c65b0 : (t1257 == t1255) = true := beq_iff_eq.mpr c65
             have c65b1 : (t1257 != t1255) = false := bne_eq_false_iff_eq.mpr c65
             clear c65
             replace H := Option.bind_eq_some_iff.mp H
             obtain ⟨t1258, A660, H⟩ := H
             have A66 := Aside0.mk A660
             clear A660
             replace H := Option.bind_eq_some_iff.mp H
             obtain ⟨t1261, A670, H⟩ := H
             have A67 := Aside0.mk A670
             clear A670
             replace H := Option.bind_eq_some_iff.mp H
             obtain ⟨⟨t1264, t1265⟩, A680, H⟩ := H
             have A68 := Aside0.mk A680
             clear A680
             have HC69 := Aside0.mk H
             clear H
             obtain ⟨Ao70, co70, eo70⟩ := Kd.S_slice HO_10.out
             subst eo70
             go_upto_region 32 with (first | ((with_reducible refine gate_callee (f := 49) rfl ?_); refine goesL_ (some 85) rfl rfl Try.func49 (by kernel_rfl) rfl #[.slice Ao70 t1237.length co70, .int .i64 1] rfl (by (try simp only [List.map_toArray, List.map_cons, List.map_nil]); first | done | rfl | (simp only [List.length_drop, List.length_take]; rfl)) ?_; (with_reducible refine (laws_markOpS.calls kj40 (fun k_ => some k_ ≠ (v1229 : Value).ownBlock ∧ N_ ≤ k_) (.slice Ao70 t1237.length co70) t1237 1 t1255 t1256 w _ ?side1 ?side2 A60.out).mono ?_); (case side1 => repeat (first | (with_reducible first | exact HB.out | apply below_alloc | apply pw_below_drewN | apply below_drew1) | exact HB.out)); (case side2 => exact HO_10.out); rintro e w71 ⟨rfl, hy0, hb, hkp⟩; refine ⟨_, rfl, ?_⟩; replace HO_6 := Aside0.mk (Kd.S_mono (ok' := fun k_ => some k_ ≠ (.slice Ao70 t1237.length co70 : Value).ownBlock ∧ k_ < N_) (Kd.S_keptB (HO_6.out) hkp (fun k_ hk_ hs_ => Nat.lt_irrefl _ (Nat.lt_of_lt_of_le hk_.2 hs_.2))) (fun k_ hk_ => hk_.1)); replace HO_10 := Aside0.mk hy0; replace HB := Aside0.mk (hb); (try clear hb); (try clear hkp); (try clear hy0)) | ((with_reducible refine gate_callee (f := 50) rfl ?_); refine goesL_ (some 88) rfl rfl Try.func50 (by kernel_rfl) rfl #[.slice Ao70 t1256.length co70, .int .i64 1] rfl (by (try simp only [List.map_toArray, List.map_cons, List.map_nil]); first | done | (rw [show t1256.length = t1237.length from (Kd.S_reads' HO_10.out).1.symm] <;> rfl) | rfl | (simp only [List.length_drop, List.length_take]; rfl)) ?_; (with_reducible refine (laws_heldOpS.calls kj40 _ _ t1256 1 t1257 _ ?side1 ?side2 A61.out).mono ?_); (case side1 => exact laC (Kd.S_reads' HO_10.out).2.2); (case side2 => rw [show t1256.length = t1237.length from (Kd.S_reads' HO_10.out).1.symm]; exact (Kd.S_reads' HO_10.out).2.1); rintro e w' ⟨rfl, ⟨nd, rfl⟩⟩; refine ⟨_, rfl, ?_⟩) | ((with_reducible refine gate_callee (f := 37) rfl ?_); refine goesL_ (some 96) rfl rfl Try.func37 (by kernel_rfl) rfl #[.slice A0 l0.length c0] rfl (by (try simp only [List.map_toArray, List.map_cons, List.map_nil]); first | done | rfl | (simp only [List.length_drop, List.length_take]; rfl)) ?_; (with_reducible refine (laws_toNodeS.calls kj40 _ _ l0 t1258 _ ?side1 ?side2 A66.out).mono ?_); (case side1 => repeat (first | exact (Kd.C_below HR0.out (laB HB.out)) | (with_reducible refine Kd.C_alloc ?_ _) | (with_reducible refine Kd.C_drewN ?_ _) | (with_reducible refine Kd.C_drew ?_))); (case side2 => exact HC0.out); rintro e w72 ⟨v1259, rfl, ho0, hb⟩; refine ⟨_, rfl, ?_⟩; replace HO_6 := Aside0.mk (laSb HO_6.out hb); replace HO_10 := Aside0.mk (laSb HO_10.out hb); have HO1260 := Aside0.mk (Kd.R_lower ho0 (below_size (laB HB.out))); replace HB := Aside0.mk (below_step (laB HB.out) hb); (try clear hb); (try clear hb2); (try clear hk); (try clear hi); (try clear ho0)) | ((with_reducible refine gate_callee (f := 37) rfl ?_); refine goesL_ (some 98) rfl rfl Try.func37 (by kernel_rfl) rfl #[.slice A1 l1.length c1] rfl (by (try simp only [List.map_toArray, List.map_cons, List.map_nil]); first | done | rfl | (simp only [List.length_drop, List.length_take]; rfl)) ?_; (with_reducible refine (laws_toNodeS.calls kj40 _ _ l1 t1261 _ ?side1 ?side2 A67.out).mono ?_); (case side1 => exact laC (Kd.C_below HR1.out HB.out)); (case side2 => exact HC1.out); rintro e w73 ⟨v1262, rfl, ho0, hb⟩; refine ⟨_, rfl, ?_⟩; replace HO_6 := Aside0.mk (laSb HO_6.out hb); replace HO_10 := Aside0.mk (laSb HO_10.out hb); have HO1263 := Aside0.mk (Kd.R_lower (Kd.R_new' ho0 (Kd.R_lt (laR HO1260.out))) (below_size (laB HB.out))); replace HO1260 := Aside0.mk (Kd.R_elder' (laR HO1260.out) (Kd.R_base ho0) hb); replace HB := Aside0.mk (below_step (laB HB.out) hb); (try clear hb); (try clear hb2); (try clear hk); (try clear hi); (try clear ho0); obtain ⟨Ao74, co74, eo74⟩ := Kd.R_slice HO1260.out; subst eo74; obtain ⟨Ao75, co75, eo75⟩ := Kd.R_slice HO1263.out; subst eo75) | ((with_reducible refine gate_callee (f := 47) rfl ?_); refine goesL_ (some 99) rfl rfl Try.func47 (by kernel_rfl) rfl #[.slice Ao74 t1258.length co74, .slice Ao75 t1261.length co75] rfl (by (try simp only [List.map_toArray, List.map_cons, List.map_nil]); first | done | rfl | (simp only [List.length_drop, List.length_take]; rfl)) ?_; (with_reducible refine (impl_Renamed.calls kj40 _ _ t1258 _ _ t1261 t1264 t1265 _ ?side1 ?side2 ?side3 ?side4 A68.out).mono ?_); (case side1 => exact laC (Kd.R_reads' HO1260.out).2.2); (case side2 => exact (Kd.R_reads' HO1260.out).2.1); (case side3 => exact laC (Kd.R_reads' HO1263.out).2.2); (case side4 => exact (Kd.R_reads' HO1263.out).2.1); rintro e w76 ⟨v1266, rfl, ho0, hb⟩; refine ⟨_, rfl, ?_⟩; replace HO1260 := Aside0.mk (laRb HO1260.out hb); replace HO1263 := Aside0.mk (laRb HO1263.out hb); have HO1267 := Aside0.mk (Kd.S_lower (Kd.S_new' (Kd.S_new' ho0 (Kd.S_lt (laS HO_6.out))) (Kd.S_lt (laS HO_10.out))) (below_size (laB HB.out))); replace HO_6 := Aside0.mk (Kd.S_elder' (laS HO_6.out) (Kd.S_base ho0) hb); replace HO_10 := Aside0.mk (Kd.S_elder' (laS HO_10.out) (Kd.S_base ho0) hb); replace HB := Aside0.mk (below_step (laB HB.out) hb); (try clear hb); (try clear hb2); (try clear hk); (try clear hi); (try clear ho0)))
             (try simp only [Act.put, List.setIfInBounds_toArray, List.set_cons_zero, List.set_cons_succ])
             go_cut [110] (fun v110 wc => ∃ (kq : Nat) (x110_68 : Bool), v110 = .bool x110_68 ∧ Aside0 (laws_FnExactRenamed.j2 kq t1256 t1255 x110_68 = some r) ∧ Aside0 (kq ≤ kj40) ∧ Aside0 (Kd.S k98 98 wc w.heap.size (fun _ => True) (.slice Ao70 t1237.length co70) t1256) ∧ Aside0 (Below w.heap.size w wc))
             case first =>
              have H := HC69.out
              clear HC69
              replace H := Option.bind_eq_some_iff.mp H
              obtain ⟨t1268, A770, H⟩ := H
              have A77 := Aside0.mk A770
              clear A770
              by_cases c78 : t1268 = true
              ·subst c78
               rw [if_pos rfl] at H
               have H' := Aside0.mk H
               clear H
               obtain ⟨Ao79, co79, eo79⟩ := Kd.S_slice HO1267.out
               subst eo79
               obtain ⟨Ao80, co80, eo80⟩ := Kd.S_slice HO_6.out
               subst eo80
               go_wp2_with (first | ((with_reducible refine gate_callee (f := 48) rfl ?_); refine goesL_ (some 104) rfl rfl Try.func48 (by kernel_rfl) rfl #[.slice Ao79 t1264.length co79, .slice Ao80 t1227.length co80] rfl (by (try simp only [List.map_toArray, List.map_cons, List.map_nil]); first | done | rfl | (simp only [List.length_drop, List.length_take]; rfl)) ?_; (with_reducible refine (laws_eqOpS.calls kj40 _ _ t1264 _ _ t1227 true _ ?side1 ?side2 ?side3 ?side4 A77.out).mono ?_); (case side1 => exact laC (Kd.S_reads' HO1267.out).2.2); (case side2 => exact (Kd.S_reads' HO1267.out).2.1); (case side3 => exact laC (Kd.S_reads' HO_6.out).2.2); (case side4 => exact (Kd.S_reads' HO_6.out).2.1); rintro e w81 ⟨rfl, hb⟩; refine ⟨_, rfl, ?_⟩; replace HO_6 := Aside0.mk (laSb HO_6.out hb); replace HO_10 := Aside0.mk (laSb HO_10.out hb); replace HO1260 := Aside0.mk (laRb HO1260.out hb); replace HO1263 := Aside0.mk (laRb HO1263.out hb); replace HO1267 := Aside0.mk (laSb HO1267.out hb); replace HB := Aside0.mk (below_step (laB HB.out) hb); (try clear hb); (try clear hb2); (try clear hk); (try clear hi)))
               go_meet
               case rel => exact ⟨_, ((t1265 != t1228)), (by first | rfl | (simp; done) | (simp [*]; done)), H', ⟨by have := HJ12.out; have := HJ40.out; first | omega | exact Nat.le_refl _⟩, ⟨laS (Kd.S_mono HO_10.out (fun _ hk => trivial))⟩, ⟨laB HB.out⟩⟩
              ·replace c78 := Bool.eq_false_iff.mpr c78
               subst c78
               rw [if_neg (show ¬ (false = true) by decide)] at H
               exact absurd (H.trans (congrArg some HRT_.out)) laws_FnExactRenamed.j2_no
             case rest =>
              clear HC69
              try clear c1
              try clear c2
              try clear p2
              try clear c3
              try clear c4
              try clear c4b0
              try clear c5
              try clear c6
              try clear c6b0
              try clear c7
              try clear c8
              try clear c25
              try clear c32
              try clear c35
              try clear c37
              try clear c38
              try clear c40
              try clear c42
              try clear c46
              try clear c47
              try clear c48
              try clear c49
              try clear c50
              try clear c50b0
              try clear c52
              try clear c59
              try clear c62
              try clear c62b0
              try clear c65
              try clear c65b0
              try clear c65b1
              try clear c78
              try clear p2
              obtain ⟨kq, x110_68, rfl, HA, HJ68, HO_10, HB⟩ := hcut
              have hl10_68 := (Kd.S_reads' HO_10.out).1
              rw [hl10_68] at HO_10
              (try simp only [hl10_68])
              cases kq with
              | zero => exact absurd HA.out (by simp [laws_FnExactRenamed.j2])
              | succ kj68 =>
               have H := HA.out
               clear HA
               simp only [laws_FnExactRenamed.j2] at H
               by_cases c85 : x110_68 = true
               ·subst c85
                rw [if_pos rfl] at H
                exact absurd ((Option.some.inj H).trans HRT_.out) (by decide)
               ·replace c85 := Bool.eq_false_iff.mpr c85
                subst c85
                rw [if_neg (show ¬ (false = true) by decide)] at H
                replace H := Option.bind_eq_some_iff.mp H
                obtain ⟨t1269, A860, H⟩ := H
                have A86 := Aside0.mk A860
                clear A860
                by_cases c87 : t1269 < 0
                ·rw [if_pos c87] at H
                 have c87b0 : decide (t1269 < 0) = true := decide_eq_true c87
                 clear c87
                 exact absurd ((Option.some.inj H).trans HRT_.out) (by decide)
                ·rw [if_neg c87] at H
                 have c87b0 : decide (t1269 < 0) = false := decide_eq_false c87
                 clear c87
                 by_cases c88 : t1269 = t1255
                 ·rw [if_pos c88] at H
                  have c88b0 : (t1269 == t1255) = true := beq_iff_eq.mpr c88
                  have c88b1 : (t1269 != t1255) = false := bne_eq_false_iff_eq.mpr c88
                  clear c88
                  obtain rfl := Option.some.inj H
                  go_wp2_with (first | ((with_reducible refine gate_callee (f := 50) rfl ?_); refine goesL_ (some 113) rfl rfl Try.func50 (by kernel_rfl) rfl #[.slice Ao70 t1256.length co70, .int .i64 1] rfl (by (try simp only [List.map_toArray, List.map_cons, List.map_nil]); first | done | rfl | (simp only [List.length_drop, List.length_take]; rfl)) ?_; (with_reducible refine (laws_heldOpS.calls kj68 _ _ t1256 1 t1269 _ ?side1 ?side2 A86.out).mono ?_); (case side1 => exact laC (Kd.S_reads' HO_10.out).2.2); (case side2 => exact (Kd.S_reads' HO_10.out).2.1); rintro e w' ⟨rfl, ⟨nd, rfl⟩⟩; refine ⟨_, rfl, ?_⟩))
                  go_ret
                  exact ⟨by first | rfl | (simp [errW_none, errW_some] <;> rfl) | (simp [*, errW_none, errW_some] <;> rfl), laB HB.out⟩
                 ·rw [if_neg c88] at H
                  have c88b0 : (t1269 == t1255) = false := beq_eq_false_iff_ne.mpr c88
                  have c88b1 : (t1269 != t1255) = true := bne_iff_ne.mpr c88
                  exact absurd ((Option.some.inj H).trans HRT_.out) (by decide)
            ·rw [if_neg c65] at H
             have c65b0 : (t1257 == t1255) = false := beq_eq_false_iff_ne.mpr c65
             have c65b1 : (t1257 != t1255) = true := bne_iff_ne.mpr c65
             exact absurd ((Option.some.inj H).trans HRT_.out) (by decide)
       ·replace c38 := Bool.eq_false_iff.mpr c38
        subst c38
        rw [if_neg (show ¬ (false = true) by decide)] at H
        exact absurd ((Option.some.inj H).trans HRT_.out) (by decide)
      ·replace c35 := Bool.eq_false_iff.mpr c35
       subst c35
       rw [if_neg (show ¬ (false = true) by decide)] at H
       exact absurd ((Option.some.inj H).trans HRT_.out) (by decide)
end Go.Proofs.Ytekpggmnnfjphaa.P
