-- Written by this session's program mk.py with the kit's print program, out of the translation; not by hand. Lean checks it.
import Derived.Test.YtekpggmnnfjphaaP0
import Derived.Test.YtekpggmnnfjphaaHand
namespace Go.Proofs.Ytekpggmnnfjphaa.P
open Go.RowKit Go.Proofs.YtekpggmnnfjphaaW.PrintWords Go.Proofs.YtekpggmnnfjphaaW.PrintLast Go.Proofs.YtekpggmnnfjphaaW.PrintMore
attribute [local go_sem] max2_int min2_int max_two min_two max_three min_three max_four min_four   -- for this text's walks alone
set_option linter.unusedVariables false
set_option linter.unusedSimpArgs false


/-! ### laws_swapped: function 22 -/
def laws_swapped.l0 : Nat → Int → Int → List Int → List Int → List Int → List Int → List Int → List Int → Option (List Int × List Int × List Int)
 | 0, _, _, _, _, _, _, _, _ => none
 | k + 1, x4, x5, x604000, x604001, x604002, x618000, x618001, x618002 => if x5 < (wrap64 (x4 * x4)) then (if (x604002.length : Int) = (wrap64 (x4 * x4)) then (if x4 = 0 then (none) else (if 0 ≤ (wrap64 ((wrap64 ((Int.tmod x5 x4) * x4)) + (wrap64 (Int.tdiv x5 x4)))) then (if (wrap64 ((wrap64 ((Int.tmod x5 x4) * x4)) + (wrap64 (Int.tdiv x5 x4)))) < (x604002.length : Int) then (if x618002.length < 17592186044416 then (laws_swapped.l0 k x4 (wrap64 (x5 + 1)) x604000 x604001 x604002 x618000 x618001 (x618002 ++ [rd x604002 (wrap64 ((wrap64 ((Int.tmod x5 x4) * x4)) + (wrap64 (Int.tdiv x5 x4))))])) else (none)) else (none)) else (none))) else (some (x618000, x618001, x618002))) else (some (x618000, x618001, x618002))
def laws_swapped.f (k : Nat) (l0_0 : List Int) (l0_1 : List Int) (l0_2 : List Int) : Option (List Int × List Int × List Int) := (some (([] : List Int) : List Int)).bind fun y605 => (if y605.length + l0_1.length < 17592186044416 then ((some (([] : List Int) : List Int)).bind fun y611 => (if y611.length + l0_0.length < 17592186044416 then (laws_swapped.l0 k 6 0 l0_0 l0_1 l0_2 (y605 ++ l0_1) (y611 ++ l0_0) ([] : List Int)) else (none))) else (none))
theorem laws_swapped.mono_l : ∀ k, (∀ y0 y1 y2 y3 y4 y5 y6 y7, LeO (laws_swapped.l0 k y0 y1 y2 y3 y4 y5 y6 y7) (laws_swapped.l0 (k + 1) y0 y1 y2 y3 y4 y5 y6 y7))
 | 0 => fun _ _ _ _ _ _ _ _ r h => by simp [laws_swapped.l0] at h
 | k + 1 => by
  have ih0 := laws_swapped.mono_l k
  ·intro y0 y1 y2 y3 y4 y5 y6 y7
   unfold laws_swapped.l0
   repeat' first
   | (with_reducible exact ih0 _ _ _ _ _ _ _ _)
   | (with_reducible exact LeO.refl _)
   | (with_reducible exact LeO.none _)
   | (with_reducible refine LeO.ite ?_ ?_)
   | (with_reducible refine LeO.bind ?_ (fun _ => ?_))
   | exact ih0 _ _ _ _ _ _ _ _
   | exact LeO.none _
   | refine LeO.ite ?_ ?_
   | refine LeO.bind ?_ (fun _ => ?_)
theorem laws_swapped.mono : ∀ a0 a1 a2 k, LeO (laws_swapped.f k a0 a1 a2) (laws_swapped.f (k + 1) a0 a1 a2) := by
 intro a0 a1 a2 k
 have ih0 := laws_swapped.mono_l k
 unfold laws_swapped.f
 repeat' first
   | (with_reducible exact ih0 _ _ _ _ _ _ _ _)
   | (with_reducible exact LeO.refl _)
   | (with_reducible exact LeO.none _)
   | (with_reducible refine LeO.ite ?_ ?_)
   | (with_reducible refine LeO.bind ?_ (fun _ => ?_))
   | exact ih0 _ _ _ _ _ _ _ _
   | exact LeO.none _
   | refine LeO.ite ?_ ?_
   | refine LeO.bind ?_ (fun _ => ?_)
def laws_swapped.T1 : Bool × List (List Nat × List Nat) := (true, [([], []), ([], []), ([1], [1]), ([0, 2], [0, 2]), ([], []), ([], []), ([5], [5]), ([4, 6, 3], [4, 6]), ([3, 7], [3, 7]), ([], []), ([9, 8, 7, 0, 1, 2, 3, 4, 5, 6, 7, 8, 9], [8, 9])])
def laws_swapped.B1 : List Nat := [0, 0, 2, 7, 0, 0, 32, 127, 255, 0, 1023]
theorem laws_swapped.tab1 : rtab .any (opsOf Try.f22 1) = laws_swapped.T1 := by kernel_rfl
theorem laws_swapped.bits1 : waitsOk laws_swapped.T1.2 laws_swapped.B1 = true := by kernel_rfl
def laws_swapped.T6 : Bool × List (List Nat × List Nat) := (true, [([], []), ([0], [0]), ([], []), ([2], [2]), ([], []), ([], []), ([4, 5], [4, 5]), ([], []), ([6, 7], [6, 7]), ([], []), ([], []), ([9, 10], [9, 10]), ([8, 11], [8, 11]), ([3, 12], [3, 12]), ([13], [13]), ([14], [14]), ([1, 15], [1, 15]), ([0, 1, 2, 3, 4, 5, 6, 7, 8, 9, 10, 11, 12, 13, 14, 15, 16], []), ([17, 16, 16, 0, 1, 2, 3, 4, 5, 6, 7, 8, 9, 10, 11, 12, 13, 14, 15, 16], [16, 17])])
def laws_swapped.B6 : List Nat := [0, 1, 0, 4, 0, 0, 48, 0, 240, 0, 0, 1536, 4080, 8188, 16380, 32764, 65535, 131071, 262143]
theorem laws_swapped.tab6 : rtab .any (opsOf Try.f22 6) = laws_swapped.T6 := by kernel_rfl
theorem laws_swapped.bits6 : waitsOk laws_swapped.T6.2 laws_swapped.B6 = true := by kernel_rfl
set_option maxHeartbeats 8000000 in
set_option maxRecDepth 100000 in
theorem laws_swapped.calls (k : Nat) (A0_0 : Option Addr) (c0_0 : Nat) (l0_0 : List Int) (A0_1 : Option Addr) (c0_1 : Nat) (l0_1 : List Int) (A0_2 : Option Addr) (c0_2 : Nat) (l0_2 : List Int) (r1 : List Int) (r2 : List Int) (r3 : List Int) (w : World) (hr0_0 : Kd.C (Kd.int .i64) w A0_0 l0_0.length l0_0) (hc0_0 : l0_0.length ≤ c0_0) (hr0_1 : Kd.C (Kd.int .i64) w A0_1 l0_1.length l0_1) (hc0_1 : l0_1.length ≤ c0_1) (hr0_2 : Kd.C (Kd.int .i64) w A0_2 l0_2.length l0_2) (hc0_2 : l0_2.length ≤ c0_2) (h : laws_swapped.f k l0_0 l0_1 l0_2 = some (r1, r2, r3)) :
  Calls Try.prog 22 #[.agg #[.slice A0_0 l0_0.length c0_0, .slice A0_1 l0_1.length c0_1, .slice A0_2 l0_2.length c0_2]] w fun e w' => ∃ v0_ v1_ v2_ : Value, e = .returned (.agg #[v0_, v1_, v2_]) ∧ Kd.R (Kd.int .i64) 3 w' w.heap.size (fun k_ => some k_ ≠ (v1_ : Value).ownBlock ∧ some k_ ≠ (v2_ : Value).ownBlock) v0_ r1 ∧ Kd.R (Kd.int .i64) 3 w' w.heap.size (fun k_ => some k_ ≠ (v0_ : Value).ownBlock ∧ some k_ ≠ (v2_ : Value).ownBlock) v1_ r2 ∧ Kd.R (Kd.int .i64) 3 w' w.heap.size (fun k_ => some k_ ≠ (v0_ : Value).ownBlock ∧ some k_ ≠ (v1_ : Value).ownBlock) v2_ r3 ∧ Below w.heap.size w w' := by
 have hu34 := Try.underlying34
 have HR0_0 := Aside0.mk hr0_0
 have HC0_0 := Aside0.mk hc0_0
 clear hr0_0 hc0_0
 have HR0_1 := Aside0.mk hr0_1
 have HC0_1 := Aside0.mk hc0_1
 clear hr0_1 hc0_1
 have HR0_2 := Aside0.mk hr0_2
 have HC0_2 := Aside0.mk hc0_2
 clear hr0_2 hc0_2
 have HB := Aside0.mk (Below.refl w.heap.size w)
 have H : ((some (([] : List Int) : List Int)).bind fun y605 => (if y605.length + l0_1.length < 17592186044416 then ((some (([] : List Int) : List Int)).bind fun y611 => (if y611.length + l0_0.length < 17592186044416 then (laws_swapped.l0 k 6 0 l0_0 l0_1 l0_2 (y605 ++ l0_1) (y611 ++ l0_0) ([] : List Int)) else (none))) else (none))) = some (r1, r2, r3) := h
 clear h
 obtain ⟨y605, hy605⟩ : ∃ y_ : List Int, y_ = (([] : List Int)) := ⟨_, rfl⟩
 replace H : (if y605.length + l0_1.length < 17592186044416 then ((some (([] : List Int) : List Int)).bind fun y611 => (if y611.length + l0_0.length < 17592186044416 then (laws_swapped.l0 k 6 0 l0_0 l0_1 l0_2 (y605 ++ l0_1) (y611 ++ l0_0) ([] : List Int)) else (none))) else (none)) = some (r1, r2, r3) := by first | (rw [hy605]; with_reducible exact H) | (have H2_ := (Option.bind_some _ _).symm.trans H; rw [hy605]; with_reducible exact H2_) | (have H2_ := (Option.bind_some _ _).symm.trans H; with_reducible exact H2_) | with_reducible exact H | (rw [hy605]; exact H) | exact H
 have Ny605 := Aside0.mk hy605
 clear hy605
 by_cases c2 : y605.length + l0_1.length < 17592186044416
 ·rw [if_pos c2] at H
  have LMc2 := Aside0.mk c2
  clear c2
  obtain ⟨y608, hy608⟩ : ∃ y_ : List Int, y_ = (y605 ++ l0_1) := ⟨_, rfl⟩
  replace H : ((some (([] : List Int) : List Int)).bind fun y611 => (if y611.length + l0_0.length < 17592186044416 then (laws_swapped.l0 k 6 0 l0_0 l0_1 l0_2 y608 (y611 ++ l0_0) ([] : List Int)) else (none))) = some (r1, r2, r3) := by first | (rw [hy608]; with_reducible exact H) | (have H2_ := (Option.bind_some _ _).symm.trans H; rw [hy608]; with_reducible exact H2_) | (have H2_ := (Option.bind_some _ _).symm.trans H; with_reducible exact H2_) | with_reducible exact H | (rw [hy608]; exact H) | exact H
  have Ny608 := Aside0.mk hy608
  clear hy608
  obtain ⟨y611, hy611⟩ : ∃ y_ : List Int, y_ = (([] : List Int)) := ⟨_, rfl⟩
  replace H : (if y611.length + l0_0.length < 17592186044416 then (laws_swapped.l0 k 6 0 l0_0 l0_1 l0_2 y608 (y611 ++ l0_0) ([] : List Int)) else (none)) = some (r1, r2, r3) := by first | (rw [hy611]; with_reducible exact H) | (have H2_ := (Option.bind_some _ _).symm.trans H; rw [hy611]; with_reducible exact H2_) | (have H2_ := (Option.bind_some _ _).symm.trans H; with_reducible exact H2_) | with_reducible exact H | (rw [hy611]; exact H) | exact H
  have Ny611 := Aside0.mk hy611
  clear hy611
  by_cases c3 : y611.length + l0_0.length < 17592186044416
  ·rw [if_pos c3] at H
   have LMc3 := Aside0.mk c3
   clear c3
   obtain ⟨y614, hy614⟩ : ∃ y_ : List Int, y_ = (y611 ++ l0_0) := ⟨_, rfl⟩
   replace H : (laws_swapped.l0 k 6 0 l0_0 l0_1 l0_2 y608 y614 ([] : List Int)) = some (r1, r2, r3) := by first | (rw [hy614]; with_reducible exact H) | (have H2_ := (Option.bind_some _ _).symm.trans H; rw [hy614]; with_reducible exact H2_) | (have H2_ := (Option.bind_some _ _).symm.trans H; with_reducible exact H2_) | with_reducible exact H | (rw [hy614]; exact H) | exact H
   have Ny614 := Aside0.mk hy614
   clear hy614
   have H' := Aside0.mk H
   clear H
   go_enter Try.func22, Try.ntmps22
   try go_wp2_with (first | ((with_reducible refine gate_dst (N := 1) rfl ?_); (try (refine gate_guard (by rfl) ?_; dsimp only)); refine box_event ?hg (N := 1) ?hd (cs := #[.slice A0_0 l0_0.length c0_0, .slice A0_1 l0_1.length c0_1, .slice A0_2 l0_2.length c0_2]) (t := 34) ?hr ?_; (case hd => rfl); (case hg => rfl); (case hr => first | (go_simp; done) | (go_simp; rfl)); intro gb603 hg w4 hbox hb; have BK603 := Aside0.mk (hbox); have GW603 := Aside0.mk ((by rw [hg]; exact (below_size (laB HB.out)) : w.heap.size ≤ gb603)); have GE603 := Aside0.mk ((by rw [hg]; exact (below_size (laB HB.out)) : w.heap.size ≤ gb603)); have ge603_ := Nonempty.intro GE603.out; replace HB := Aside0.mk (below_step (laB HB.out) hb); clear hb hbox hg) | ((with_reducible refine gate_dst (N := 2) rfl ?_); (try (refine gate_guard (by rfl) ?_; dsimp only)); refine box_event ?hg (N := 2) ?hd (cs := #[.slice none 0 0, .slice none 0 0, .slice none 0 0]) (t := 34) ?hr ?_; (case hd => rfl); (case hg => rfl); (case hr => first | (go_simp; done) | (go_simp; rfl)); intro gb604 hg w5 hbox hb; have BK604 := Aside0.mk (hbox); have GW604 := Aside0.mk ((by rw [hg]; exact (below_size (laB HB.out)) : w.heap.size ≤ gb604)); have GE604 := Aside0.mk ((by rw [hg]; exact (below_size (laB HB.out)) : w.heap.size ≤ gb604)); have ge604_ := Nonempty.intro GE604.out; replace HB := Aside0.mk (below_step (laB HB.out) hb); have NB603_604 := Aside0.mk ((by rw [hg]; exact Nat.ne_of_lt (blk_lt (g := gb603) (o := .cells #[.slice A0_0 l0_0.length c0_0, .slice A0_1 l0_1.length c0_1, .slice A0_2 l0_2.length c0_2] 34 (0, 0)) (laK BK603.out)) : gb603 ≠ gb604)); have NB604_603 := Aside0.mk ((by rw [hg]; exact Nat.ne_of_gt (blk_lt (g := gb603) (o := .cells #[.slice A0_0 l0_0.length c0_0, .slice A0_1 l0_1.length c0_1, .slice A0_2 l0_2.length c0_2] 34 (0, 0)) (laK BK603.out)) : gb604 ≠ gb603)); replace BK603 := Aside0.mk (laKb BK603.out hb); clear hb hbox hg))
   replace BK603 := Aside0.mk (blk_drew BK603.out)
   replace BK604 := Aside0.mk (blk_drew BK604.out)
   replace HB := Aside0.mk (below_drew1 HB.out)
   refine start_ (n := 11) (S := fun w' => w'.cell? ⟨gb603, 0, none⟩ = some (.slice A0_0 l0_0.length c0_0) ∧ w'.cell? ⟨gb603, 1, none⟩ = some (.slice A0_1 l0_1.length c0_1) ∧ w'.cell? ⟨gb603, 2, none⟩ = some (.slice A0_2 l0_2.length c0_2)) (ds := []) #[false, false, false, false, false, false, false, false, false, false, false] (by kernel_rfl) rfl rfl ⟨(blk_cell BK603.out 0).trans rfl, (blk_cell BK603.out 1).trans rfl, (blk_cell BK603.out 2).trans rfl⟩ (fun hHeld => ?_); refine with_tabW laws_swapped.tab1 laws_swapped.bits1 (fun HT_ HW_ => ?_)
   generalize w5.drew = w6 at BK603 BK604 HB hHeld ⊢
   refine pure_ (i := 1) (N := some 7) (v := ?_) (a' := ?_) #[false, true, false, false, false, false, false, false, false, false, false] rfl rfl (any_of HT_.out (by kernel_rfl)) (fun _ _ _ h => h) (Or.inl ⟨by rfl, ?_⟩) ?_ ?_
   rotate_left
   ·intro w'
    go_simp
    with_reducible rfl
   rotate_left
   ·simp only [Act.put, List.setIfInBounds_toArray, List.set_cons_zero, List.set_cons_succ, i64_w, i32_w]
    rfl
   refine pure_ (i := 5) (N := some 11) (v := ?_) (a' := ?_) #[false, true, false, false, false, true, false, false, false, false, false] rfl rfl (any_of HT_.out (by kernel_rfl)) (fun _ _ _ h => h) (Or.inl ⟨by rfl, ?_⟩) ?_ ?_
   rotate_left
   ·intro w'
    go_simp
    with_reducible rfl
   rotate_left
   ·simp only [Act.put, List.setIfInBounds_toArray, List.set_cons_zero, List.set_cons_succ, i64_w, i32_w]
    rfl
   refine take_ (i := 2) (N := some 8) (v := ?_) (a' := ?_) #[false, true, true, false, false, true, false, false, false, false, false] rfl rfl (take_ofW HT_.out HW_.out (by kernel_rfl)) (fun _ _ _ h => h) (Or.inl ⟨by rfl, ?_⟩) hHeld ?_ ?_
   rotate_left
   ·rintro w' ⟨s0, s1, s2⟩
    go_simp
    with_reducible rfl
   rotate_left
   ·simp only [Act.put, List.setIfInBounds_toArray, List.set_cons_zero, List.set_cons_succ, i64_w, i32_w]
    rfl
   refine take_ (i := 6) (N := some 12) (v := ?_) (a' := ?_) #[false, true, true, false, false, true, true, false, false, false, false] rfl rfl (take_ofW HT_.out HW_.out (by kernel_rfl)) (fun _ _ _ h => h) (Or.inl ⟨by rfl, ?_⟩) hHeld ?_ ?_
   rotate_left
   ·rintro w' ⟨s0, s1, s2⟩
    go_simp
    with_reducible rfl
   rotate_left
   ·simp only [Act.put, List.setIfInBounds_toArray, List.set_cons_zero, List.set_cons_succ, i64_w, i32_w]
    rfl
   refine join_ (σ := Value × Value × Value × Value × Nat) 1 #[true, true, true, true, true, true, true, true, true, true, false] (fun s_ => [(6, s_.1), (9, s_.2.1), (10, s_.2.2.1), (13, s_.2.2.2.1), (3, .pointer (some ⟨s_.2.2.2.2, 0, none⟩)), (14, .agg #[s_.2.1, s_.2.2.2.1, .slice none 0 0])]) (fun s_ w' => (w'.cell? ⟨gb603, 0, none⟩ = some (.slice A0_0 l0_0.length c0_0) ∧ w'.cell? ⟨gb603, 1, none⟩ = some (.slice A0_1 l0_1.length c0_1) ∧ w'.cell? ⟨gb603, 2, none⟩ = some (.slice A0_2 l0_2.length c0_2)) ∧ (Kd.R (Kd.int .i64) 3 w' w.heap.size (fun k_ => some k_ ≠ (s_.2.2.2.1 : Value).ownBlock) s_.2.1 y608) ∧ (Kd.R (Kd.int .i64) 3 w' w.heap.size (fun k_ => some k_ ≠ (s_.2.1 : Value).ownBlock) s_.2.2.2.1 y614) ∧ (w'.heap[gb603]? = some (.cells #[.slice A0_0 l0_0.length c0_0, .slice A0_1 l0_1.length c0_1, .slice A0_2 l0_2.length c0_2] 34 (0, 0))) ∧ (w'.heap[gb604]? = some (.cells #[.slice none 0 0, .slice none 0 0, .slice none 0 0] 34 (0, 0))) ∧ (w'.heap[s_.2.2.2.2]? = some (.cells #[.slice none 0 0, .slice none 0 0, .slice none 0 0] 34 (0, 0))) ∧ (w.heap.size ≤ s_.2.2.2.2) ∧ (w.heap.size ≤ s_.2.2.2.2) ∧ (gb603 ≠ s_.2.2.2.2) ∧ (s_.2.2.2.2 ≠ gb603) ∧ (gb604 ≠ s_.2.2.2.2) ∧ (s_.2.2.2.2 ≠ gb604) ∧ (Below w.heap.size w w')) ?_ ?_
   rotate_left
   ·intro hJ0_3_4_7_9
    refine join_ (σ := Value × Value × Value × Value) 2 #[true, true, true, true, true, true, true, true, true, false, false] (fun s_ => [(6, s_.1), (9, s_.2.1), (10, s_.2.2.1), (13, s_.2.2.2), (14, .agg #[s_.2.1, s_.2.2.2, .slice none 0 0])]) (fun s_ w' => (w'.cell? ⟨gb603, 0, none⟩ = some (.slice A0_0 l0_0.length c0_0) ∧ w'.cell? ⟨gb603, 1, none⟩ = some (.slice A0_1 l0_1.length c0_1) ∧ w'.cell? ⟨gb603, 2, none⟩ = some (.slice A0_2 l0_2.length c0_2)) ∧ (Kd.R (Kd.int .i64) 3 w' w.heap.size (fun k_ => some k_ ≠ (s_.2.2.2 : Value).ownBlock) s_.2.1 y608) ∧ (Kd.R (Kd.int .i64) 3 w' w.heap.size (fun k_ => some k_ ≠ (s_.2.1 : Value).ownBlock) s_.2.2.2 y614) ∧ (w'.heap[gb603]? = some (.cells #[.slice A0_0 l0_0.length c0_0, .slice A0_1 l0_1.length c0_1, .slice A0_2 l0_2.length c0_2] 34 (0, 0))) ∧ (w'.heap[gb604]? = some (.cells #[.slice none 0 0, .slice none 0 0, .slice none 0 0] 34 (0, 0))) ∧ (Below w.heap.size w w')) ?_ ?_
    rotate_left
    ·intro hJ0_3_4_7
     refine join_ (σ := Value × Value × Value × Nat) 3 #[true, true, true, true, true, true, true, false, false, true, false] (fun s_ => [(6, s_.1), (9, s_.2.1), (10, s_.2.2.1), (3, .pointer (some ⟨s_.2.2.2, 0, none⟩))]) (fun s_ w' => (w'.cell? ⟨gb603, 0, none⟩ = some (.slice A0_0 l0_0.length c0_0) ∧ w'.cell? ⟨gb603, 1, none⟩ = some (.slice A0_1 l0_1.length c0_1) ∧ w'.cell? ⟨gb603, 2, none⟩ = some (.slice A0_2 l0_2.length c0_2)) ∧ (Kd.R (Kd.int .i64) 3 w' w.heap.size (fun k_ => some k_ ≠ (s_.2.2.1 : Value).ownBlock) s_.2.1 y608) ∧ (Kd.R (Kd.int .i64) 3 w' w.heap.size (fun k_ => some k_ ≠ (s_.2.1 : Value).ownBlock) s_.2.2.1 y611) ∧ (w'.heap[gb603]? = some (.cells #[.slice A0_0 l0_0.length c0_0, .slice A0_1 l0_1.length c0_1, .slice A0_2 l0_2.length c0_2] 34 (0, 0))) ∧ (w'.heap[gb604]? = some (.cells #[.slice none 0 0, .slice none 0 0, .slice none 0 0] 34 (0, 0))) ∧ (w'.heap[s_.2.2.2]? = some (.cells #[.slice none 0 0, .slice none 0 0, .slice none 0 0] 34 (0, 0))) ∧ (w.heap.size ≤ s_.2.2.2) ∧ (w.heap.size ≤ s_.2.2.2) ∧ (gb603 ≠ s_.2.2.2) ∧ (s_.2.2.2 ≠ gb603) ∧ (gb604 ≠ s_.2.2.2) ∧ (s_.2.2.2 ≠ gb604) ∧ (Below w.heap.size w w')) ?_ ?_
     rotate_left
     ·intro hJ0_3_4_9
      refine join_ (σ := Value × Value × Value) 4 #[true, true, true, true, true, true, true, false, false, false, false] (fun s_ => [(6, s_.1), (9, s_.2.1), (10, s_.2.2)]) (fun s_ w' => (w'.cell? ⟨gb603, 0, none⟩ = some (.slice A0_0 l0_0.length c0_0) ∧ w'.cell? ⟨gb603, 1, none⟩ = some (.slice A0_1 l0_1.length c0_1) ∧ w'.cell? ⟨gb603, 2, none⟩ = some (.slice A0_2 l0_2.length c0_2)) ∧ (Kd.R (Kd.int .i64) 3 w' w.heap.size (fun k_ => some k_ ≠ (s_.2.2 : Value).ownBlock) s_.2.1 y608) ∧ (Kd.R (Kd.int .i64) 3 w' w.heap.size (fun k_ => some k_ ≠ (s_.2.1 : Value).ownBlock) s_.2.2 y611) ∧ (w'.heap[gb603]? = some (.cells #[.slice A0_0 l0_0.length c0_0, .slice A0_1 l0_1.length c0_1, .slice A0_2 l0_2.length c0_2] 34 (0, 0))) ∧ (w'.heap[gb604]? = some (.cells #[.slice none 0 0, .slice none 0 0, .slice none 0 0] 34 (0, 0))) ∧ (Below w.heap.size w w')) ?_ ?_
      rotate_left
      ·intro hJ0_3_4
       refine join_ (σ := Value × Value × Nat) 4 #[true, true, true, true, false, true, true, false, false, true, false] (fun s_ => [(6, s_.1), (9, s_.2.1), (3, .pointer (some ⟨s_.2.2, 0, none⟩))]) (fun s_ w' => (w'.cell? ⟨gb603, 0, none⟩ = some (.slice A0_0 l0_0.length c0_0) ∧ w'.cell? ⟨gb603, 1, none⟩ = some (.slice A0_1 l0_1.length c0_1) ∧ w'.cell? ⟨gb603, 2, none⟩ = some (.slice A0_2 l0_2.length c0_2)) ∧ (Kd.R (Kd.int .i64) 3 w' w.heap.size (fun _ => True) s_.2.1 y608) ∧ (w'.heap[gb603]? = some (.cells #[.slice A0_0 l0_0.length c0_0, .slice A0_1 l0_1.length c0_1, .slice A0_2 l0_2.length c0_2] 34 (0, 0))) ∧ (w'.heap[gb604]? = some (.cells #[.slice none 0 0, .slice none 0 0, .slice none 0 0] 34 (0, 0))) ∧ (w'.heap[s_.2.2]? = some (.cells #[.slice none 0 0, .slice none 0 0, .slice none 0 0] 34 (0, 0))) ∧ (w.heap.size ≤ s_.2.2) ∧ (w.heap.size ≤ s_.2.2) ∧ (gb603 ≠ s_.2.2) ∧ (s_.2.2 ≠ gb603) ∧ (gb604 ≠ s_.2.2) ∧ (s_.2.2 ≠ gb604) ∧ (Below w.heap.size w w')) ?_ ?_
       rotate_left
       ·intro hJ0_3_9
        refine join_ (σ := Value × Value × Nat) 4 #[true, true, true, false, true, true, true, false, false, true, false] (fun s_ => [(6, s_.1), (10, s_.2.1), (3, .pointer (some ⟨s_.2.2, 0, none⟩))]) (fun s_ w' => (w'.cell? ⟨gb603, 0, none⟩ = some (.slice A0_0 l0_0.length c0_0) ∧ w'.cell? ⟨gb603, 1, none⟩ = some (.slice A0_1 l0_1.length c0_1) ∧ w'.cell? ⟨gb603, 2, none⟩ = some (.slice A0_2 l0_2.length c0_2)) ∧ (Kd.R (Kd.int .i64) 3 w' w.heap.size (fun k_ => some k_ ≠ (s_.2.1 : Value).ownBlock) s_.1 y605) ∧ (Kd.R (Kd.int .i64) 3 w' w.heap.size (fun k_ => some k_ ≠ (s_.1 : Value).ownBlock) s_.2.1 y611) ∧ (w'.heap[gb603]? = some (.cells #[.slice A0_0 l0_0.length c0_0, .slice A0_1 l0_1.length c0_1, .slice A0_2 l0_2.length c0_2] 34 (0, 0))) ∧ (w'.heap[gb604]? = some (.cells #[.slice none 0 0, .slice none 0 0, .slice none 0 0] 34 (0, 0))) ∧ (w'.heap[s_.2.2]? = some (.cells #[.slice none 0 0, .slice none 0 0, .slice none 0 0] 34 (0, 0))) ∧ (w.heap.size ≤ s_.2.2) ∧ (w.heap.size ≤ s_.2.2) ∧ (gb603 ≠ s_.2.2) ∧ (s_.2.2 ≠ gb603) ∧ (gb604 ≠ s_.2.2) ∧ (s_.2.2 ≠ gb604) ∧ (Below w.heap.size w w')) ?_ ?_
        rotate_left
        ·intro hJ0_4_9
         refine join_ (σ := Value × Value) 5 #[true, true, true, true, false, true, true, false, false, false, false] (fun s_ => [(6, s_.1), (9, s_.2)]) (fun s_ w' => (w'.cell? ⟨gb603, 0, none⟩ = some (.slice A0_0 l0_0.length c0_0) ∧ w'.cell? ⟨gb603, 1, none⟩ = some (.slice A0_1 l0_1.length c0_1) ∧ w'.cell? ⟨gb603, 2, none⟩ = some (.slice A0_2 l0_2.length c0_2)) ∧ (Kd.R (Kd.int .i64) 3 w' w.heap.size (fun _ => True) s_.2 y608) ∧ (w'.heap[gb603]? = some (.cells #[.slice A0_0 l0_0.length c0_0, .slice A0_1 l0_1.length c0_1, .slice A0_2 l0_2.length c0_2] 34 (0, 0))) ∧ (w'.heap[gb604]? = some (.cells #[.slice none 0 0, .slice none 0 0, .slice none 0 0] 34 (0, 0))) ∧ (Below w.heap.size w w')) ?_ ?_
         rotate_left
         ·intro hJ0_3
          refine join_ (σ := Value × Value) 5 #[true, true, true, false, true, true, true, false, false, false, false] (fun s_ => [(6, s_.1), (10, s_.2)]) (fun s_ w' => (w'.cell? ⟨gb603, 0, none⟩ = some (.slice A0_0 l0_0.length c0_0) ∧ w'.cell? ⟨gb603, 1, none⟩ = some (.slice A0_1 l0_1.length c0_1) ∧ w'.cell? ⟨gb603, 2, none⟩ = some (.slice A0_2 l0_2.length c0_2)) ∧ (Kd.R (Kd.int .i64) 3 w' w.heap.size (fun k_ => some k_ ≠ (s_.2 : Value).ownBlock) s_.1 y605) ∧ (Kd.R (Kd.int .i64) 3 w' w.heap.size (fun k_ => some k_ ≠ (s_.1 : Value).ownBlock) s_.2 y611) ∧ (w'.heap[gb603]? = some (.cells #[.slice A0_0 l0_0.length c0_0, .slice A0_1 l0_1.length c0_1, .slice A0_2 l0_2.length c0_2] 34 (0, 0))) ∧ (w'.heap[gb604]? = some (.cells #[.slice none 0 0, .slice none 0 0, .slice none 0 0] 34 (0, 0))) ∧ (Below w.heap.size w w')) ?_ ?_
          rotate_left
          ·intro hJ0_4
           refine join_ (σ := Value × Nat) 5 #[true, true, true, false, false, true, true, false, false, true, false] (fun s_ => [(6, s_.1), (3, .pointer (some ⟨s_.2, 0, none⟩))]) (fun s_ w' => (w'.cell? ⟨gb603, 0, none⟩ = some (.slice A0_0 l0_0.length c0_0) ∧ w'.cell? ⟨gb603, 1, none⟩ = some (.slice A0_1 l0_1.length c0_1) ∧ w'.cell? ⟨gb603, 2, none⟩ = some (.slice A0_2 l0_2.length c0_2)) ∧ (Kd.R (Kd.int .i64) 3 w' w.heap.size (fun _ => True) s_.1 y605) ∧ (w'.heap[gb603]? = some (.cells #[.slice A0_0 l0_0.length c0_0, .slice A0_1 l0_1.length c0_1, .slice A0_2 l0_2.length c0_2] 34 (0, 0))) ∧ (w'.heap[gb604]? = some (.cells #[.slice none 0 0, .slice none 0 0, .slice none 0 0] 34 (0, 0))) ∧ (w'.heap[s_.2]? = some (.cells #[.slice none 0 0, .slice none 0 0, .slice none 0 0] 34 (0, 0))) ∧ (w.heap.size ≤ s_.2) ∧ (w.heap.size ≤ s_.2) ∧ (gb603 ≠ s_.2) ∧ (s_.2 ≠ gb603) ∧ (gb604 ≠ s_.2) ∧ (s_.2 ≠ gb604) ∧ (Below w.heap.size w w')) ?_ ?_
           rotate_left
           ·intro hJ0_9
            refine join_ (σ := Value × Nat) 5 #[false, true, true, false, true, true, true, false, false, true, false] (fun s_ => [(10, s_.1), (3, .pointer (some ⟨s_.2, 0, none⟩))]) (fun s_ w' => (w'.cell? ⟨gb603, 0, none⟩ = some (.slice A0_0 l0_0.length c0_0) ∧ w'.cell? ⟨gb603, 1, none⟩ = some (.slice A0_1 l0_1.length c0_1) ∧ w'.cell? ⟨gb603, 2, none⟩ = some (.slice A0_2 l0_2.length c0_2)) ∧ (Kd.R (Kd.int .i64) 3 w' w.heap.size (fun _ => True) s_.1 y611) ∧ (w'.heap[gb603]? = some (.cells #[.slice A0_0 l0_0.length c0_0, .slice A0_1 l0_1.length c0_1, .slice A0_2 l0_2.length c0_2] 34 (0, 0))) ∧ (w'.heap[gb604]? = some (.cells #[.slice none 0 0, .slice none 0 0, .slice none 0 0] 34 (0, 0))) ∧ (w'.heap[s_.2]? = some (.cells #[.slice none 0 0, .slice none 0 0, .slice none 0 0] 34 (0, 0))) ∧ (w.heap.size ≤ s_.2) ∧ (w.heap.size ≤ s_.2) ∧ (gb603 ≠ s_.2) ∧ (s_.2 ≠ gb603) ∧ (gb604 ≠ s_.2) ∧ (s_.2 ≠ gb604) ∧ (Below w.heap.size w w')) ?_ ?_
            rotate_left
            ·intro hJ4_9
             refine join_ (σ := Value) 6 #[true, true, true, false, false, true, true, false, false, false, false] (fun s_ => [(6, s_)]) (fun s_ w' => (w'.cell? ⟨gb603, 0, none⟩ = some (.slice A0_0 l0_0.length c0_0) ∧ w'.cell? ⟨gb603, 1, none⟩ = some (.slice A0_1 l0_1.length c0_1) ∧ w'.cell? ⟨gb603, 2, none⟩ = some (.slice A0_2 l0_2.length c0_2)) ∧ (Kd.R (Kd.int .i64) 3 w' w.heap.size (fun _ => True) s_ y605) ∧ (w'.heap[gb603]? = some (.cells #[.slice A0_0 l0_0.length c0_0, .slice A0_1 l0_1.length c0_1, .slice A0_2 l0_2.length c0_2] 34 (0, 0))) ∧ (w'.heap[gb604]? = some (.cells #[.slice none 0 0, .slice none 0 0, .slice none 0 0] 34 (0, 0))) ∧ (Below w.heap.size w w')) ?_ ?_
             rotate_left
             ·intro hJ0
              refine join_ (σ := Value) 6 #[false, true, true, false, true, true, true, false, false, false, false] (fun s_ => [(10, s_)]) (fun s_ w' => (w'.cell? ⟨gb603, 0, none⟩ = some (.slice A0_0 l0_0.length c0_0) ∧ w'.cell? ⟨gb603, 1, none⟩ = some (.slice A0_1 l0_1.length c0_1) ∧ w'.cell? ⟨gb603, 2, none⟩ = some (.slice A0_2 l0_2.length c0_2)) ∧ (Kd.R (Kd.int .i64) 3 w' w.heap.size (fun _ => True) s_ y611) ∧ (w'.heap[gb603]? = some (.cells #[.slice A0_0 l0_0.length c0_0, .slice A0_1 l0_1.length c0_1, .slice A0_2 l0_2.length c0_2] 34 (0, 0))) ∧ (w'.heap[gb604]? = some (.cells #[.slice none 0 0, .slice none 0 0, .slice none 0 0] 34 (0, 0))) ∧ (Below w.heap.size w w')) ?_ ?_
              rotate_left
              ·intro hJ4
               refine join_ (σ := Nat) 6 #[false, true, true, false, false, true, true, false, false, true, false] (fun s_ => [(3, .pointer (some ⟨s_, 0, none⟩))]) (fun s_ w' => (w'.cell? ⟨gb603, 0, none⟩ = some (.slice A0_0 l0_0.length c0_0) ∧ w'.cell? ⟨gb603, 1, none⟩ = some (.slice A0_1 l0_1.length c0_1) ∧ w'.cell? ⟨gb603, 2, none⟩ = some (.slice A0_2 l0_2.length c0_2)) ∧ (w'.heap[gb603]? = some (.cells #[.slice A0_0 l0_0.length c0_0, .slice A0_1 l0_1.length c0_1, .slice A0_2 l0_2.length c0_2] 34 (0, 0))) ∧ (w'.heap[gb604]? = some (.cells #[.slice none 0 0, .slice none 0 0, .slice none 0 0] 34 (0, 0))) ∧ (w'.heap[s_]? = some (.cells #[.slice none 0 0, .slice none 0 0, .slice none 0 0] 34 (0, 0))) ∧ (w.heap.size ≤ s_) ∧ (w.heap.size ≤ s_) ∧ (gb603 ≠ s_) ∧ (s_ ≠ gb603) ∧ (gb604 ≠ s_) ∧ (s_ ≠ gb604) ∧ (Below w.heap.size w w')) ?_ ?_
               rotate_left
               ·intro hJ9
                refine three_ (i := 0) (j := 4) (k := 9) (Ni := some 6) (Nj := some 10) (Nk := some 3) #[true, true, true, false, false, true, true, false, false, false, false] #[false, true, true, false, true, true, true, false, false, false, false] #[false, true, true, false, false, true, true, false, false, true, false] rfl rfl rfl rfl rfl rfl (three_of HT_.out (by kernel_rfl)) (by decide) (by decide) (by decide) (fun K hK => ?_) (fun K hK => ?_) (fun K hK => ?_)
                ·skip
                 refine Kd.R_lit_step (Kd.int .i64) _ 3 ?hg (N := 6) ?hd (xs := ([] : List Int)) (inner := []) (ok := fun _ => True) (okp := fun _ => True) ?hr ?hp (fun _ hk => hk) trivial (Below.refl _ _) (Nat.le_refl _) (by simp) ?_; (case hd => rfl); (case hg => rfl); (case hr => first | (go_simp; done) | (go_simp; rfl)); (case hp => exact (Reps.none _ _))
                 intro v606 w7 ho8 hb hg_ hnew_
                 clear hg_ hnew_
                 (first | rw [← Ny605.out] at ho8 | (simp only [Int.reduceToNat] at ho8; rw [← Ny605.out] at ho8))
                 have HO607 := Aside0.mk (Kd.R_lower ho8 (below_size (laB HB.out)))
                 replace BK603 := Aside0.mk (laKb BK603.out hb)
                 replace BK604 := Aside0.mk (laKb BK604.out hb)
                 replace HB := Aside0.mk (below_step (laB HB.out) hb)
                 clear hb ho8
                 refine hK.out _ _ ⟨(blk_cell BK603.out 0).trans rfl, (blk_cell BK603.out 1).trans rfl, (blk_cell BK603.out 2).trans rfl⟩ (fun hHeld => ?_)
                 clear hK K
                 refine norm_ (a' := ?_) ?_ ?_
                 rotate_left
                 ·show Act.put _ (some 6) _ = _
                  simp only [Act.put, List.setIfInBounds_toArray, List.set_cons_zero, List.set_cons_succ, i64_w, i32_w]
                  rfl
                 exact norm_ (by first | (simp only [putAll, Act.put, List.setIfInBounds_toArray, List.set_cons_zero, List.set_cons_succ]; done) | (simp only [putAll, Act.put, List.setIfInBounds_toArray, List.set_cons_zero, List.set_cons_succ]; rfl)) (hJ0 (v606) _ ⟨hHeld, (laR HO607.out), (laK BK603.out), (laK BK604.out), (laB HB.out)⟩)
                ·skip
                 refine Kd.R_lit_step (Kd.int .i64) _ 3 ?hg (N := 10) ?hd (xs := ([] : List Int)) (inner := []) (ok := fun _ => True) (okp := fun _ => True) ?hr ?hp (fun _ hk => hk) trivial (Below.refl _ _) (Nat.le_refl _) (by simp) ?_; (case hd => rfl); (case hg => rfl); (case hr => first | (go_simp; done) | (go_simp; rfl)); (case hp => exact (Reps.none _ _))
                 intro v612 w7 ho8 hb hg_ hnew_
                 clear hg_ hnew_
                 (first | rw [← Ny611.out] at ho8 | (simp only [Int.reduceToNat] at ho8; rw [← Ny611.out] at ho8))
                 have HO613 := Aside0.mk (Kd.R_lower ho8 (below_size (laB HB.out)))
                 replace BK603 := Aside0.mk (laKb BK603.out hb)
                 replace BK604 := Aside0.mk (laKb BK604.out hb)
                 replace HB := Aside0.mk (below_step (laB HB.out) hb)
                 clear hb ho8
                 refine hK.out _ _ ⟨(blk_cell BK603.out 0).trans rfl, (blk_cell BK603.out 1).trans rfl, (blk_cell BK603.out 2).trans rfl⟩ (fun hHeld => ?_)
                 clear hK K
                 refine norm_ (a' := ?_) ?_ ?_
                 rotate_left
                 ·show Act.put _ (some 10) _ = _
                  simp only [Act.put, List.setIfInBounds_toArray, List.set_cons_zero, List.set_cons_succ, i64_w, i32_w]
                  rfl
                 exact norm_ (by first | (simp only [putAll, Act.put, List.setIfInBounds_toArray, List.set_cons_zero, List.set_cons_succ]; done) | (simp only [putAll, Act.put, List.setIfInBounds_toArray, List.set_cons_zero, List.set_cons_succ]; rfl)) (hJ4 (v612) _ ⟨hHeld, (laR HO613.out), (laK BK603.out), (laK BK604.out), (laB HB.out)⟩)
                ·skip
                 refine box_step ?hg (N := 3) ?hd (cs := #[.slice none 0 0, .slice none 0 0, .slice none 0 0]) (t := 34) ?hr ?_; (case hd => rfl); (case hg => rfl); (case hr => first | (go_simp; done) | (go_simp; rfl))
                 intro gb617 hg w7 hbox hb
                 have BK617 := Aside0.mk (hbox)
                 have GW617 := Aside0.mk ((by rw [hg]; exact (below_size (laB HB.out)) : w.heap.size ≤ gb617))
                 have GE617 := Aside0.mk ((by rw [hg]; exact (below_size (laB HB.out)) : w.heap.size ≤ gb617))
                 replace HB := Aside0.mk (below_step (laB HB.out) hb)
                 have NB603_617 := Aside0.mk ((by rw [hg]; exact Nat.ne_of_lt (blk_lt (g := gb603) (o := .cells #[.slice A0_0 l0_0.length c0_0, .slice A0_1 l0_1.length c0_1, .slice A0_2 l0_2.length c0_2] 34 (0, 0)) (laK BK603.out)) : gb603 ≠ gb617))
                 have NB617_603 := Aside0.mk ((by rw [hg]; exact Nat.ne_of_gt (blk_lt (g := gb603) (o := .cells #[.slice A0_0 l0_0.length c0_0, .slice A0_1 l0_1.length c0_1, .slice A0_2 l0_2.length c0_2] 34 (0, 0)) (laK BK603.out)) : gb617 ≠ gb603))
                 replace BK603 := Aside0.mk (laKb BK603.out hb)
                 have NB604_617 := Aside0.mk ((by rw [hg]; exact Nat.ne_of_lt (blk_lt (g := gb604) (o := .cells #[.slice none 0 0, .slice none 0 0, .slice none 0 0] 34 (0, 0)) (laK BK604.out)) : gb604 ≠ gb617))
                 have NB617_604 := Aside0.mk ((by rw [hg]; exact Nat.ne_of_gt (blk_lt (g := gb604) (o := .cells #[.slice none 0 0, .slice none 0 0, .slice none 0 0] 34 (0, 0)) (laK BK604.out)) : gb617 ≠ gb604))
                 replace BK604 := Aside0.mk (laKb BK604.out hb)
                 clear hb hbox hg
                 refine hK.out _ _ ⟨(blk_cell BK603.out 0).trans rfl, (blk_cell BK603.out 1).trans rfl, (blk_cell BK603.out 2).trans rfl⟩ (fun hHeld => ?_)
                 clear hK K
                 refine norm_ (a' := ?_) ?_ ?_
                 rotate_left
                 ·show Act.put _ (some 3) _ = _
                  simp only [Act.put, List.setIfInBounds_toArray, List.set_cons_zero, List.set_cons_succ, i64_w, i32_w]
                  rfl
                 exact norm_ (by first | (simp only [putAll, Act.put, List.setIfInBounds_toArray, List.set_cons_zero, List.set_cons_succ]; done) | (simp only [putAll, Act.put, List.setIfInBounds_toArray, List.set_cons_zero, List.set_cons_succ]; rfl)) (hJ9 (gb617) _ ⟨hHeld, (laK BK603.out), (laK BK604.out), (laK BK617.out), GW617.out, GE617.out, NB603_617.out, NB617_603.out, NB604_617.out, NB617_604.out, (laB HB.out)⟩)
               ·skip
                rintro gb617 w8 ⟨hS_, h0_, h1_, h2_, h3_, h4_, h5_, h6_, h7_, h8_, h9_⟩
                have n0_ : Aside0 (w8.heap[gb603]? = some (.cells #[.slice A0_0 l0_0.length c0_0, .slice A0_1 l0_1.length c0_1, .slice A0_2 l0_2.length c0_2] 34 (0, 0))) := ⟨h0_⟩
                have n1_ : Aside0 (w8.heap[gb604]? = some (.cells #[.slice none 0 0, .slice none 0 0, .slice none 0 0] 34 (0, 0))) := ⟨h1_⟩
                have n2_ : Aside0 (w8.heap[gb617]? = some (.cells #[.slice none 0 0, .slice none 0 0, .slice none 0 0] 34 (0, 0))) := ⟨h2_⟩
                have n3_ : Aside0 (w.heap.size ≤ gb617) := ⟨h3_⟩
                have n4_ : Aside0 (w.heap.size ≤ gb617) := ⟨h4_⟩
                have n5_ : Aside0 (gb603 ≠ gb617) := ⟨h5_⟩
                have n6_ : Aside0 (gb617 ≠ gb603) := ⟨h6_⟩
                have n7_ : Aside0 (gb604 ≠ gb617) := ⟨h7_⟩
                have n8_ : Aside0 (gb617 ≠ gb604) := ⟨h8_⟩
                have n9_ : Aside0 (Below w.heap.size w w8) := ⟨h9_⟩
                clear BK603
                clear BK604
                clear HB
                clear h0_ h1_ h2_ h3_ h4_ h5_ h6_ h7_ h8_ h9_
                have BK603 := n0_
                have BK604 := n1_
                have BK617 := n2_
                have GW617 := n3_
                have GE617 := n4_
                have ge617_ := Nonempty.intro GE617.out
                have NB603_617 := n5_
                have NB617_603 := n6_
                have NB604_617 := n7_
                have NB617_604 := n8_
                have HB := n9_
                clear n0_ n1_ n2_ n3_ n4_ n5_ n6_ n7_ n8_ n9_
                have hHeld : w8.cell? ⟨gb603, 0, none⟩ = some (.slice A0_0 l0_0.length c0_0) ∧ w8.cell? ⟨gb603, 1, none⟩ = some (.slice A0_1 l0_1.length c0_1) ∧ w8.cell? ⟨gb603, 2, none⟩ = some (.slice A0_2 l0_2.length c0_2) := hS_
                refine norm_ (a' := ?_) ?_ ?_
                rotate_left
                ·simp only [putAll, Act.put, List.setIfInBounds_toArray, List.set_cons_zero, List.set_cons_succ]
                 rfl
                refine two_ (i := 0) (j := 4) (Ni := some 6) (Nj := some 10) #[true, true, true, false, false, true, true, false, false, true, false] #[false, true, true, false, true, true, true, false, false, true, false] rfl rfl rfl rfl (two_of HT_.out (by kernel_rfl)) (by decide) (by decide) (fun K hK => ?_) (fun K hK => ?_)
                ·skip
                 refine Kd.R_lit_step (Kd.int .i64) _ 3 ?hg (N := 6) ?hd (xs := ([] : List Int)) (inner := []) (ok := fun _ => True) (okp := fun _ => True) ?hr ?hp (fun _ hk => hk) trivial (Below.refl _ _) (Nat.le_refl _) (by simp) ?_; (case hd => rfl); (case hg => rfl); (case hr => first | (go_simp; done) | (go_simp; rfl)); (case hp => exact (Reps.none _ _))
                 intro v606 w9 ho10 hb hg_ hnew_
                 clear hg_ hnew_
                 (first | rw [← Ny605.out] at ho10 | (simp only [Int.reduceToNat] at ho10; rw [← Ny605.out] at ho10))
                 have HO607 := Aside0.mk (Kd.R_lower ho10 (below_size (laB HB.out)))
                 replace BK603 := Aside0.mk (laKb BK603.out hb)
                 replace BK604 := Aside0.mk (laKb BK604.out hb)
                 replace BK617 := Aside0.mk (laKb BK617.out hb)
                 replace HB := Aside0.mk (below_step (laB HB.out) hb)
                 clear hb ho10
                 refine hK.out _ _ ⟨(blk_cell BK603.out 0).trans rfl, (blk_cell BK603.out 1).trans rfl, (blk_cell BK603.out 2).trans rfl⟩ (fun hHeld => ?_)
                 clear hK K
                 refine norm_ (a' := ?_) ?_ ?_
                 rotate_left
                 ·show Act.put _ (some 6) _ = _
                  simp only [Act.put, List.setIfInBounds_toArray, List.set_cons_zero, List.set_cons_succ, i64_w, i32_w]
                  rfl
                 exact norm_ (by first | (simp only [putAll, Act.put, List.setIfInBounds_toArray, List.set_cons_zero, List.set_cons_succ]; done) | (simp only [putAll, Act.put, List.setIfInBounds_toArray, List.set_cons_zero, List.set_cons_succ]; rfl)) (hJ0_9 (v606, gb617) _ ⟨hHeld, (laR HO607.out), (laK BK603.out), (laK BK604.out), (laK BK617.out), GW617.out, GE617.out, NB603_617.out, NB617_603.out, NB604_617.out, NB617_604.out, (laB HB.out)⟩)
                ·skip
                 refine Kd.R_lit_step (Kd.int .i64) _ 3 ?hg (N := 10) ?hd (xs := ([] : List Int)) (inner := []) (ok := fun _ => True) (okp := fun _ => True) ?hr ?hp (fun _ hk => hk) trivial (Below.refl _ _) (Nat.le_refl _) (by simp) ?_; (case hd => rfl); (case hg => rfl); (case hr => first | (go_simp; done) | (go_simp; rfl)); (case hp => exact (Reps.none _ _))
                 intro v612 w9 ho10 hb hg_ hnew_
                 clear hg_ hnew_
                 (first | rw [← Ny611.out] at ho10 | (simp only [Int.reduceToNat] at ho10; rw [← Ny611.out] at ho10))
                 have HO613 := Aside0.mk (Kd.R_lower ho10 (below_size (laB HB.out)))
                 replace BK603 := Aside0.mk (laKb BK603.out hb)
                 replace BK604 := Aside0.mk (laKb BK604.out hb)
                 replace BK617 := Aside0.mk (laKb BK617.out hb)
                 replace HB := Aside0.mk (below_step (laB HB.out) hb)
                 clear hb ho10
                 refine hK.out _ _ ⟨(blk_cell BK603.out 0).trans rfl, (blk_cell BK603.out 1).trans rfl, (blk_cell BK603.out 2).trans rfl⟩ (fun hHeld => ?_)
                 clear hK K
                 refine norm_ (a' := ?_) ?_ ?_
                 rotate_left
                 ·show Act.put _ (some 10) _ = _
                  simp only [Act.put, List.setIfInBounds_toArray, List.set_cons_zero, List.set_cons_succ, i64_w, i32_w]
                  rfl
                 exact norm_ (by first | (simp only [putAll, Act.put, List.setIfInBounds_toArray, List.set_cons_zero, List.set_cons_succ]; done) | (simp only [putAll, Act.put, List.setIfInBounds_toArray, List.set_cons_zero, List.set_cons_succ]; rfl)) (hJ4_9 (v612, gb617) _ ⟨hHeld, (laR HO613.out), (laK BK603.out), (laK BK604.out), (laK BK617.out), GW617.out, GE617.out, NB603_617.out, NB617_603.out, NB604_617.out, NB617_604.out, (laB HB.out)⟩)
              ·skip
               rintro v612 w9 ⟨hS_, h0_, h1_, h2_, h3_⟩
               have n0_ : Aside0 (Kd.R (Kd.int .i64) 3 w9 w.heap.size (fun _ => True) v612 y611) := ⟨h0_⟩
               have n1_ : Aside0 (w9.heap[gb603]? = some (.cells #[.slice A0_0 l0_0.length c0_0, .slice A0_1 l0_1.length c0_1, .slice A0_2 l0_2.length c0_2] 34 (0, 0))) := ⟨h1_⟩
               have n2_ : Aside0 (w9.heap[gb604]? = some (.cells #[.slice none 0 0, .slice none 0 0, .slice none 0 0] 34 (0, 0))) := ⟨h2_⟩
               have n3_ : Aside0 (Below w.heap.size w w9) := ⟨h3_⟩
               clear BK603
               clear BK604
               clear HB
               clear h0_ h1_ h2_ h3_
               have HO613 := n0_
               have BK603 := n1_
               have BK604 := n2_
               have HB := n3_
               clear n0_ n1_ n2_ n3_
               have hHeld : w9.cell? ⟨gb603, 0, none⟩ = some (.slice A0_0 l0_0.length c0_0) ∧ w9.cell? ⟨gb603, 1, none⟩ = some (.slice A0_1 l0_1.length c0_1) ∧ w9.cell? ⟨gb603, 2, none⟩ = some (.slice A0_2 l0_2.length c0_2) := hS_
               refine norm_ (a' := ?_) ?_ ?_
               rotate_left
               ·simp only [putAll, Act.put, List.setIfInBounds_toArray, List.set_cons_zero, List.set_cons_succ]
                rfl
               refine two_ (i := 0) (j := 9) (Ni := some 6) (Nj := some 3) #[true, true, true, false, true, true, true, false, false, false, false] #[false, true, true, false, true, true, true, false, false, true, false] rfl rfl rfl rfl (two_of HT_.out (by kernel_rfl)) (by decide) (by decide) (fun K hK => ?_) (fun K hK => ?_)
               ·skip
                refine Kd.R_lit_step (Kd.int .i64) _ 3 ?hg (N := 6) ?hd (xs := ([] : List Int)) (inner := []) (ok := fun _ => True) (okp := fun _ => True) ?hr ?hp (fun _ hk => hk) trivial (Below.refl _ _) (Nat.le_refl _) (by simp) ?_; (case hd => rfl); (case hg => rfl); (case hr => first | (go_simp; done) | (go_simp; rfl)); (case hp => exact (Reps.none _ _))
                intro v606 w10 ho11 hb hg_ hnew_
                clear hg_ hnew_
                (first | rw [← Ny605.out] at ho11 | (simp only [Int.reduceToNat] at ho11; rw [← Ny605.out] at ho11))
                have HO607 := Aside0.mk (Kd.R_lower (Kd.R_new' ho11 (Kd.R_lt (laR HO613.out))) (below_size (laB HB.out)))
                replace HO613 := Aside0.mk (Kd.R_elder' (laR HO613.out) (Kd.R_base ho11) hb)
                replace BK603 := Aside0.mk (laKb BK603.out hb)
                replace BK604 := Aside0.mk (laKb BK604.out hb)
                replace HB := Aside0.mk (below_step (laB HB.out) hb)
                clear hb ho11
                refine hK.out _ _ ⟨(blk_cell BK603.out 0).trans rfl, (blk_cell BK603.out 1).trans rfl, (blk_cell BK603.out 2).trans rfl⟩ (fun hHeld => ?_)
                clear hK K
                refine norm_ (a' := ?_) ?_ ?_
                rotate_left
                ·show Act.put _ (some 6) _ = _
                 simp only [Act.put, List.setIfInBounds_toArray, List.set_cons_zero, List.set_cons_succ, i64_w, i32_w]
                 rfl
                exact norm_ (by first | (simp only [putAll, Act.put, List.setIfInBounds_toArray, List.set_cons_zero, List.set_cons_succ]; done) | (simp only [putAll, Act.put, List.setIfInBounds_toArray, List.set_cons_zero, List.set_cons_succ]; rfl)) (hJ0_4 (v606, v612) _ ⟨hHeld, (laR (Kd.R_mono HO607.out (fun _ hk => hk.2))), (laR (Kd.R_mono HO613.out (fun _ hk => hk.2))), (laK BK603.out), (laK BK604.out), (laB HB.out)⟩)
               ·skip
                refine box_step ?hg (N := 3) ?hd (cs := #[.slice none 0 0, .slice none 0 0, .slice none 0 0]) (t := 34) ?hr ?_; (case hd => rfl); (case hg => rfl); (case hr => first | (go_simp; done) | (go_simp; rfl))
                intro gb617 hg w10 hbox hb
                replace HO613 := Aside0.mk (laRb HO613.out hb)
                have BK617 := Aside0.mk (hbox)
                have GW617 := Aside0.mk ((by rw [hg]; exact (below_size (laB HB.out)) : w.heap.size ≤ gb617))
                have GE617 := Aside0.mk ((by rw [hg]; exact (below_size (laB HB.out)) : w.heap.size ≤ gb617))
                replace HB := Aside0.mk (below_step (laB HB.out) hb)
                have NB603_617 := Aside0.mk ((by rw [hg]; exact Nat.ne_of_lt (blk_lt (g := gb603) (o := .cells #[.slice A0_0 l0_0.length c0_0, .slice A0_1 l0_1.length c0_1, .slice A0_2 l0_2.length c0_2] 34 (0, 0)) (laK BK603.out)) : gb603 ≠ gb617))
                have NB617_603 := Aside0.mk ((by rw [hg]; exact Nat.ne_of_gt (blk_lt (g := gb603) (o := .cells #[.slice A0_0 l0_0.length c0_0, .slice A0_1 l0_1.length c0_1, .slice A0_2 l0_2.length c0_2] 34 (0, 0)) (laK BK603.out)) : gb617 ≠ gb603))
                replace BK603 := Aside0.mk (laKb BK603.out hb)
                have NB604_617 := Aside0.mk ((by rw [hg]; exact Nat.ne_of_lt (blk_lt (g := gb604) (o := .cells #[.slice none 0 0, .slice none 0 0, .slice none 0 0] 34 (0, 0)) (laK BK604.out)) : gb604 ≠ gb617))
                have NB617_604 := Aside0.mk ((by rw [hg]; exact Nat.ne_of_gt (blk_lt (g := gb604) (o := .cells #[.slice none 0 0, .slice none 0 0, .slice none 0 0] 34 (0, 0)) (laK BK604.out)) : gb617 ≠ gb604))
                replace BK604 := Aside0.mk (laKb BK604.out hb)
                clear hb hbox hg
                refine hK.out _ _ ⟨(blk_cell BK603.out 0).trans rfl, (blk_cell BK603.out 1).trans rfl, (blk_cell BK603.out 2).trans rfl⟩ (fun hHeld => ?_)
                clear hK K
                refine norm_ (a' := ?_) ?_ ?_
                rotate_left
                ·show Act.put _ (some 3) _ = _
                 simp only [Act.put, List.setIfInBounds_toArray, List.set_cons_zero, List.set_cons_succ, i64_w, i32_w]
                 rfl
                exact norm_ (by first | (simp only [putAll, Act.put, List.setIfInBounds_toArray, List.set_cons_zero, List.set_cons_succ]; done) | (simp only [putAll, Act.put, List.setIfInBounds_toArray, List.set_cons_zero, List.set_cons_succ]; rfl)) (hJ4_9 (v612, gb617) _ ⟨hHeld, (laR HO613.out), (laK BK603.out), (laK BK604.out), (laK BK617.out), GW617.out, GE617.out, NB603_617.out, NB617_603.out, NB604_617.out, NB617_604.out, (laB HB.out)⟩)
             ·skip
              rintro v606 w9 ⟨hS_, h0_, h1_, h2_, h3_⟩
              have n0_ : Aside0 (Kd.R (Kd.int .i64) 3 w9 w.heap.size (fun _ => True) v606 y605) := ⟨h0_⟩
              have n1_ : Aside0 (w9.heap[gb603]? = some (.cells #[.slice A0_0 l0_0.length c0_0, .slice A0_1 l0_1.length c0_1, .slice A0_2 l0_2.length c0_2] 34 (0, 0))) := ⟨h1_⟩
              have n2_ : Aside0 (w9.heap[gb604]? = some (.cells #[.slice none 0 0, .slice none 0 0, .slice none 0 0] 34 (0, 0))) := ⟨h2_⟩
              have n3_ : Aside0 (Below w.heap.size w w9) := ⟨h3_⟩
              clear BK603
              clear BK604
              clear HB
              clear h0_ h1_ h2_ h3_
              have HO607 := n0_
              have BK603 := n1_
              have BK604 := n2_
              have HB := n3_
              clear n0_ n1_ n2_ n3_
              have hHeld : w9.cell? ⟨gb603, 0, none⟩ = some (.slice A0_0 l0_0.length c0_0) ∧ w9.cell? ⟨gb603, 1, none⟩ = some (.slice A0_1 l0_1.length c0_1) ∧ w9.cell? ⟨gb603, 2, none⟩ = some (.slice A0_2 l0_2.length c0_2) := hS_
              refine norm_ (a' := ?_) ?_ ?_
              rotate_left
              ·simp only [putAll, Act.put, List.setIfInBounds_toArray, List.set_cons_zero, List.set_cons_succ]
               rfl
              refine three_ (i := 3) (j := 4) (k := 9) (Ni := some 9) (Nj := some 10) (Nk := some 3) #[true, true, true, true, false, true, true, false, false, false, false] #[true, true, true, false, true, true, true, false, false, false, false] #[true, true, true, false, false, true, true, false, false, true, false] rfl rfl rfl rfl rfl rfl (three_of HT_.out (by kernel_rfl)) (by decide) (by decide) (by decide) (fun K hK => ?_) (fun K hK => ?_) (fun K hK => ?_)
              ·skip
               refine Kd.R_append_rows_step (Kd.int .i64) (w0 := w) w.heap.size (by rfl) (.tmp 6) (.tmp 8) 26 3 (.int .i64 0) 8 rfl Try.underlying26 info3 rfl (by decide) (by omega) v606 y605 l0_1 _ _ _ (fun _ => True) (fun _ => False) rfl rfl ?aO ?aR (fun _ _ h => h) (fun _ h => h.elim) ?aF ?aB ?aS ?aL ?_
               (case aR => exact laC (Kd.C_below HR0_1.out HB.out))
               (case aB => exact (laB HB.out))
               (case aF => exact (fun _ _ => trivial))
               (case aO => exact (laR HO607.out))
               (case aS => exact (below_size (laB HB.out)))
               (case aL => have := LMc2.out; omega)
               intro v609 w10 ho hb hg hat
               rw [← Ny608.out] at ho
               have n0_ := Aside0.mk (blk_grown (g := gb603) (o := .cells #[.slice A0_0 l0_0.length c0_0, .slice A0_1 l0_1.length c0_1, .slice A0_2 l0_2.length c0_2] 34 (0, 0)) (laK BK603.out) hg (Kd.R_ne HO607.out BK603.out (by decide)))
               have n1_ := Aside0.mk (blk_grown (g := gb604) (o := .cells #[.slice none 0 0, .slice none 0 0, .slice none 0 0] 34 (0, 0)) (laK BK604.out) hg (Kd.R_ne HO607.out BK604.out (by decide)))
               have n2_ := Aside0.mk (hb)
               have n3_ := Aside0.mk (ho)
               clear BK603
               clear BK604
               clear HB
               clear HO607
               have BK603 := n0_
               have BK604 := n1_
               have HB := n2_
               have HO610 := n3_
               clear n0_ n1_ n2_ n3_
               clear ho hb hg hat
               refine hK.out _ _ ⟨(blk_cell BK603.out 0).trans rfl, (blk_cell BK603.out 1).trans rfl, (blk_cell BK603.out 2).trans rfl⟩ (fun hHeld => ?_)
               clear hK K
               refine norm_ (a' := ?_) ?_ ?_
               rotate_left
               ·show Act.put _ (some 9) _ = _
                simp only [Act.put, List.setIfInBounds_toArray, List.set_cons_zero, List.set_cons_succ, i64_w, i32_w]
                rfl
               exact norm_ (by first | (simp only [putAll, Act.put, List.setIfInBounds_toArray, List.set_cons_zero, List.set_cons_succ]; done) | (simp only [putAll, Act.put, List.setIfInBounds_toArray, List.set_cons_zero, List.set_cons_succ]; rfl)) (hJ0_3 (v606, v609) _ ⟨hHeld, (laR HO610.out), (laK BK603.out), (laK BK604.out), (laB HB.out)⟩)
              ·skip
               refine Kd.R_lit_step (Kd.int .i64) _ 3 ?hg (N := 10) ?hd (xs := ([] : List Int)) (inner := []) (ok := fun _ => True) (okp := fun _ => True) ?hr ?hp (fun _ hk => hk) trivial (Below.refl _ _) (Nat.le_refl _) (by simp) ?_; (case hd => rfl); (case hg => rfl); (case hr => first | (go_simp; done) | (go_simp; rfl)); (case hp => exact (Reps.none _ _))
               intro v612 w10 ho11 hb hg_ hnew_
               clear hg_ hnew_
               (first | rw [← Ny611.out] at ho11 | (simp only [Int.reduceToNat] at ho11; rw [← Ny611.out] at ho11))
               have HO613 := Aside0.mk (Kd.R_lower (Kd.R_new' ho11 (Kd.R_lt (laR HO607.out))) (below_size (laB HB.out)))
               replace HO607 := Aside0.mk (Kd.R_elder' (laR HO607.out) (Kd.R_base ho11) hb)
               replace BK603 := Aside0.mk (laKb BK603.out hb)
               replace BK604 := Aside0.mk (laKb BK604.out hb)
               replace HB := Aside0.mk (below_step (laB HB.out) hb)
               clear hb ho11
               refine hK.out _ _ ⟨(blk_cell BK603.out 0).trans rfl, (blk_cell BK603.out 1).trans rfl, (blk_cell BK603.out 2).trans rfl⟩ (fun hHeld => ?_)
               clear hK K
               refine norm_ (a' := ?_) ?_ ?_
               rotate_left
               ·show Act.put _ (some 10) _ = _
                simp only [Act.put, List.setIfInBounds_toArray, List.set_cons_zero, List.set_cons_succ, i64_w, i32_w]
                rfl
               exact norm_ (by first | (simp only [putAll, Act.put, List.setIfInBounds_toArray, List.set_cons_zero, List.set_cons_succ]; done) | (simp only [putAll, Act.put, List.setIfInBounds_toArray, List.set_cons_zero, List.set_cons_succ]; rfl)) (hJ0_4 (v606, v612) _ ⟨hHeld, (laR (Kd.R_mono HO607.out (fun _ hk => hk.2))), (laR (Kd.R_mono HO613.out (fun _ hk => hk.2))), (laK BK603.out), (laK BK604.out), (laB HB.out)⟩)
              ·skip
               refine box_step ?hg (N := 3) ?hd (cs := #[.slice none 0 0, .slice none 0 0, .slice none 0 0]) (t := 34) ?hr ?_; (case hd => rfl); (case hg => rfl); (case hr => first | (go_simp; done) | (go_simp; rfl))
               intro gb617 hg w10 hbox hb
               replace HO607 := Aside0.mk (laRb HO607.out hb)
               have BK617 := Aside0.mk (hbox)
               have GW617 := Aside0.mk ((by rw [hg]; exact (below_size (laB HB.out)) : w.heap.size ≤ gb617))
               have GE617 := Aside0.mk ((by rw [hg]; exact (below_size (laB HB.out)) : w.heap.size ≤ gb617))
               replace HB := Aside0.mk (below_step (laB HB.out) hb)
               have NB603_617 := Aside0.mk ((by rw [hg]; exact Nat.ne_of_lt (blk_lt (g := gb603) (o := .cells #[.slice A0_0 l0_0.length c0_0, .slice A0_1 l0_1.length c0_1, .slice A0_2 l0_2.length c0_2] 34 (0, 0)) (laK BK603.out)) : gb603 ≠ gb617))
               have NB617_603 := Aside0.mk ((by rw [hg]; exact Nat.ne_of_gt (blk_lt (g := gb603) (o := .cells #[.slice A0_0 l0_0.length c0_0, .slice A0_1 l0_1.length c0_1, .slice A0_2 l0_2.length c0_2] 34 (0, 0)) (laK BK603.out)) : gb617 ≠ gb603))
               replace BK603 := Aside0.mk (laKb BK603.out hb)
               have NB604_617 := Aside0.mk ((by rw [hg]; exact Nat.ne_of_lt (blk_lt (g := gb604) (o := .cells #[.slice none 0 0, .slice none 0 0, .slice none 0 0] 34 (0, 0)) (laK BK604.out)) : gb604 ≠ gb617))
               have NB617_604 := Aside0.mk ((by rw [hg]; exact Nat.ne_of_gt (blk_lt (g := gb604) (o := .cells #[.slice none 0 0, .slice none 0 0, .slice none 0 0] 34 (0, 0)) (laK BK604.out)) : gb617 ≠ gb604))
               replace BK604 := Aside0.mk (laKb BK604.out hb)
               clear hb hbox hg
               refine hK.out _ _ ⟨(blk_cell BK603.out 0).trans rfl, (blk_cell BK603.out 1).trans rfl, (blk_cell BK603.out 2).trans rfl⟩ (fun hHeld => ?_)
               clear hK K
               refine norm_ (a' := ?_) ?_ ?_
               rotate_left
               ·show Act.put _ (some 3) _ = _
                simp only [Act.put, List.setIfInBounds_toArray, List.set_cons_zero, List.set_cons_succ, i64_w, i32_w]
                rfl
               exact norm_ (by first | (simp only [putAll, Act.put, List.setIfInBounds_toArray, List.set_cons_zero, List.set_cons_succ]; done) | (simp only [putAll, Act.put, List.setIfInBounds_toArray, List.set_cons_zero, List.set_cons_succ]; rfl)) (hJ0_9 (v606, gb617) _ ⟨hHeld, (laR HO607.out), (laK BK603.out), (laK BK604.out), (laK BK617.out), GW617.out, GE617.out, NB603_617.out, NB617_603.out, NB604_617.out, NB617_604.out, (laB HB.out)⟩)
            ·skip
             rintro ⟨v612, gb617⟩ w10 ⟨hS_, h0_, h1_, h2_, h3_, h4_, h5_, h6_, h7_, h8_, h9_, h10_⟩
             have n0_ : Aside0 (Kd.R (Kd.int .i64) 3 w10 w.heap.size (fun _ => True) v612 y611) := ⟨h0_⟩
             have n1_ : Aside0 (w10.heap[gb603]? = some (.cells #[.slice A0_0 l0_0.length c0_0, .slice A0_1 l0_1.length c0_1, .slice A0_2 l0_2.length c0_2] 34 (0, 0))) := ⟨h1_⟩
             have n2_ : Aside0 (w10.heap[gb604]? = some (.cells #[.slice none 0 0, .slice none 0 0, .slice none 0 0] 34 (0, 0))) := ⟨h2_⟩
             have n3_ : Aside0 (w10.heap[gb617]? = some (.cells #[.slice none 0 0, .slice none 0 0, .slice none 0 0] 34 (0, 0))) := ⟨h3_⟩
             have n4_ : Aside0 (w.heap.size ≤ gb617) := ⟨h4_⟩
             have n5_ : Aside0 (w.heap.size ≤ gb617) := ⟨h5_⟩
             have n6_ : Aside0 (gb603 ≠ gb617) := ⟨h6_⟩
             have n7_ : Aside0 (gb617 ≠ gb603) := ⟨h7_⟩
             have n8_ : Aside0 (gb604 ≠ gb617) := ⟨h8_⟩
             have n9_ : Aside0 (gb617 ≠ gb604) := ⟨h9_⟩
             have n10_ : Aside0 (Below w.heap.size w w10) := ⟨h10_⟩
             clear BK603
             clear BK604
             clear HB
             clear h0_ h1_ h2_ h3_ h4_ h5_ h6_ h7_ h8_ h9_ h10_
             have HO613 := n0_
             have BK603 := n1_
             have BK604 := n2_
             have BK617 := n3_
             have GW617 := n4_
             have GE617 := n5_
             have ge617_ := Nonempty.intro GE617.out
             have NB603_617 := n6_
             have NB617_603 := n7_
             have NB604_617 := n8_
             have NB617_604 := n9_
             have HB := n10_
             clear n0_ n1_ n2_ n3_ n4_ n5_ n6_ n7_ n8_ n9_ n10_
             have hHeld : w10.cell? ⟨gb603, 0, none⟩ = some (.slice A0_0 l0_0.length c0_0) ∧ w10.cell? ⟨gb603, 1, none⟩ = some (.slice A0_1 l0_1.length c0_1) ∧ w10.cell? ⟨gb603, 2, none⟩ = some (.slice A0_2 l0_2.length c0_2) := hS_
             refine norm_ (a' := ?_) ?_ ?_
             rotate_left
             ·simp only [putAll, Act.put, List.setIfInBounds_toArray, List.set_cons_zero, List.set_cons_succ]
              rfl
             refine one_ (i := 0) (N := some 6) #[true, true, true, false, true, true, true, false, false, true, false] rfl rfl (one_of HT_.out (by kernel_rfl)) (by decide) (fun K hK => ?_)
             refine Kd.R_lit_step (Kd.int .i64) _ 3 ?hg (N := 6) ?hd (xs := ([] : List Int)) (inner := []) (ok := fun _ => True) (okp := fun _ => True) ?hr ?hp (fun _ hk => hk) trivial (Below.refl _ _) (Nat.le_refl _) (by simp) ?_; (case hd => rfl); (case hg => rfl); (case hr => first | (go_simp; done) | (go_simp; rfl)); (case hp => exact (Reps.none _ _))
             intro v606 w11 ho12 hb hg_ hnew_
             clear hg_ hnew_
             (first | rw [← Ny605.out] at ho12 | (simp only [Int.reduceToNat] at ho12; rw [← Ny605.out] at ho12))
             have HO607 := Aside0.mk (Kd.R_lower (Kd.R_new' ho12 (Kd.R_lt (laR HO613.out))) (below_size (laB HB.out)))
             replace HO613 := Aside0.mk (Kd.R_elder' (laR HO613.out) (Kd.R_base ho12) hb)
             replace BK603 := Aside0.mk (laKb BK603.out hb)
             replace BK604 := Aside0.mk (laKb BK604.out hb)
             replace BK617 := Aside0.mk (laKb BK617.out hb)
             replace HB := Aside0.mk (below_step (laB HB.out) hb)
             clear hb ho12
             refine hK.out _ _ ⟨(blk_cell BK603.out 0).trans rfl, (blk_cell BK603.out 1).trans rfl, (blk_cell BK603.out 2).trans rfl⟩ (fun hHeld => ?_)
             clear hK K
             refine norm_ (a' := ?_) ?_ ?_
             rotate_left
             ·show Act.put _ (some 6) _ = _
              simp only [Act.put, List.setIfInBounds_toArray, List.set_cons_zero, List.set_cons_succ, i64_w, i32_w]
              rfl
             exact norm_ (by first | (simp only [putAll, Act.put, List.setIfInBounds_toArray, List.set_cons_zero, List.set_cons_succ]; done) | (simp only [putAll, Act.put, List.setIfInBounds_toArray, List.set_cons_zero, List.set_cons_succ]; rfl)) (hJ0_4_9 (v606, v612, gb617) _ ⟨hHeld, (laR (Kd.R_mono HO607.out (fun _ hk => hk.2))), (laR (Kd.R_mono HO613.out (fun _ hk => hk.2))), (laK BK603.out), (laK BK604.out), (laK BK617.out), GW617.out, GE617.out, NB603_617.out, NB617_603.out, NB604_617.out, NB617_604.out, (laB HB.out)⟩)
           ·skip
            rintro ⟨v606, gb617⟩ w10 ⟨hS_, h0_, h1_, h2_, h3_, h4_, h5_, h6_, h7_, h8_, h9_, h10_⟩
            have n0_ : Aside0 (Kd.R (Kd.int .i64) 3 w10 w.heap.size (fun _ => True) v606 y605) := ⟨h0_⟩
            have n1_ : Aside0 (w10.heap[gb603]? = some (.cells #[.slice A0_0 l0_0.length c0_0, .slice A0_1 l0_1.length c0_1, .slice A0_2 l0_2.length c0_2] 34 (0, 0))) := ⟨h1_⟩
            have n2_ : Aside0 (w10.heap[gb604]? = some (.cells #[.slice none 0 0, .slice none 0 0, .slice none 0 0] 34 (0, 0))) := ⟨h2_⟩
            have n3_ : Aside0 (w10.heap[gb617]? = some (.cells #[.slice none 0 0, .slice none 0 0, .slice none 0 0] 34 (0, 0))) := ⟨h3_⟩
            have n4_ : Aside0 (w.heap.size ≤ gb617) := ⟨h4_⟩
            have n5_ : Aside0 (w.heap.size ≤ gb617) := ⟨h5_⟩
            have n6_ : Aside0 (gb603 ≠ gb617) := ⟨h6_⟩
            have n7_ : Aside0 (gb617 ≠ gb603) := ⟨h7_⟩
            have n8_ : Aside0 (gb604 ≠ gb617) := ⟨h8_⟩
            have n9_ : Aside0 (gb617 ≠ gb604) := ⟨h9_⟩
            have n10_ : Aside0 (Below w.heap.size w w10) := ⟨h10_⟩
            clear BK603
            clear BK604
            clear HB
            clear h0_ h1_ h2_ h3_ h4_ h5_ h6_ h7_ h8_ h9_ h10_
            have HO607 := n0_
            have BK603 := n1_
            have BK604 := n2_
            have BK617 := n3_
            have GW617 := n4_
            have GE617 := n5_
            have ge617_ := Nonempty.intro GE617.out
            have NB603_617 := n6_
            have NB617_603 := n7_
            have NB604_617 := n8_
            have NB617_604 := n9_
            have HB := n10_
            clear n0_ n1_ n2_ n3_ n4_ n5_ n6_ n7_ n8_ n9_ n10_
            have hHeld : w10.cell? ⟨gb603, 0, none⟩ = some (.slice A0_0 l0_0.length c0_0) ∧ w10.cell? ⟨gb603, 1, none⟩ = some (.slice A0_1 l0_1.length c0_1) ∧ w10.cell? ⟨gb603, 2, none⟩ = some (.slice A0_2 l0_2.length c0_2) := hS_
            refine norm_ (a' := ?_) ?_ ?_
            rotate_left
            ·simp only [putAll, Act.put, List.setIfInBounds_toArray, List.set_cons_zero, List.set_cons_succ]
             rfl
            refine two_ (i := 3) (j := 4) (Ni := some 9) (Nj := some 10) #[true, true, true, true, false, true, true, false, false, true, false] #[true, true, true, false, true, true, true, false, false, true, false] rfl rfl rfl rfl (two_of HT_.out (by kernel_rfl)) (by decide) (by decide) (fun K hK => ?_) (fun K hK => ?_)
            ·skip
             refine Kd.R_append_rows_step (Kd.int .i64) (w0 := w) w.heap.size (by rfl) (.tmp 6) (.tmp 8) 26 3 (.int .i64 0) 8 rfl Try.underlying26 info3 rfl (by decide) (by omega) v606 y605 l0_1 _ _ _ (fun _ => True) (fun _ => False) rfl rfl ?aO ?aR (fun _ _ h => h) (fun _ h => h.elim) ?aF ?aB ?aS ?aL ?_
             (case aR => exact laC (Kd.C_below HR0_1.out HB.out))
             (case aB => exact (laB HB.out))
             (case aF => exact (fun _ _ => trivial))
             (case aO => exact (laR HO607.out))
             (case aS => exact (below_size (laB HB.out)))
             (case aL => have := LMc2.out; omega)
             intro v609 w11 ho hb hg hat
             rw [← Ny608.out] at ho
             have n0_ := Aside0.mk (blk_grown (g := gb603) (o := .cells #[.slice A0_0 l0_0.length c0_0, .slice A0_1 l0_1.length c0_1, .slice A0_2 l0_2.length c0_2] 34 (0, 0)) (laK BK603.out) hg (Kd.R_ne HO607.out BK603.out (by decide)))
             have n1_ := Aside0.mk (blk_grown (g := gb604) (o := .cells #[.slice none 0 0, .slice none 0 0, .slice none 0 0] 34 (0, 0)) (laK BK604.out) hg (Kd.R_ne HO607.out BK604.out (by decide)))
             have n2_ := Aside0.mk (blk_grown (g := gb617) (o := .cells #[.slice none 0 0, .slice none 0 0, .slice none 0 0] 34 (0, 0)) (laK BK617.out) hg (Kd.R_ne HO607.out BK617.out (by decide)))
             have n3_ := Aside0.mk (hb)
             have n4_ := Aside0.mk (ho)
             clear BK603
             clear BK604
             clear BK617
             clear HB
             clear HO607
             have BK603 := n0_
             have BK604 := n1_
             have BK617 := n2_
             have HB := n3_
             have HO610 := n4_
             clear n0_ n1_ n2_ n3_ n4_
             clear ho hb hg hat
             refine hK.out _ _ ⟨(blk_cell BK603.out 0).trans rfl, (blk_cell BK603.out 1).trans rfl, (blk_cell BK603.out 2).trans rfl⟩ (fun hHeld => ?_)
             clear hK K
             refine norm_ (a' := ?_) ?_ ?_
             rotate_left
             ·show Act.put _ (some 9) _ = _
              simp only [Act.put, List.setIfInBounds_toArray, List.set_cons_zero, List.set_cons_succ, i64_w, i32_w]
              rfl
             exact norm_ (by first | (simp only [putAll, Act.put, List.setIfInBounds_toArray, List.set_cons_zero, List.set_cons_succ]; done) | (simp only [putAll, Act.put, List.setIfInBounds_toArray, List.set_cons_zero, List.set_cons_succ]; rfl)) (hJ0_3_9 (v606, v609, gb617) _ ⟨hHeld, (laR HO610.out), (laK BK603.out), (laK BK604.out), (laK BK617.out), GW617.out, GE617.out, NB603_617.out, NB617_603.out, NB604_617.out, NB617_604.out, (laB HB.out)⟩)
            ·skip
             refine Kd.R_lit_step (Kd.int .i64) _ 3 ?hg (N := 10) ?hd (xs := ([] : List Int)) (inner := []) (ok := fun _ => True) (okp := fun _ => True) ?hr ?hp (fun _ hk => hk) trivial (Below.refl _ _) (Nat.le_refl _) (by simp) ?_; (case hd => rfl); (case hg => rfl); (case hr => first | (go_simp; done) | (go_simp; rfl)); (case hp => exact (Reps.none _ _))
             intro v612 w11 ho12 hb hg_ hnew_
             clear hg_ hnew_
             (first | rw [← Ny611.out] at ho12 | (simp only [Int.reduceToNat] at ho12; rw [← Ny611.out] at ho12))
             have HO613 := Aside0.mk (Kd.R_lower (Kd.R_new' ho12 (Kd.R_lt (laR HO607.out))) (below_size (laB HB.out)))
             replace HO607 := Aside0.mk (Kd.R_elder' (laR HO607.out) (Kd.R_base ho12) hb)
             replace BK603 := Aside0.mk (laKb BK603.out hb)
             replace BK604 := Aside0.mk (laKb BK604.out hb)
             replace BK617 := Aside0.mk (laKb BK617.out hb)
             replace HB := Aside0.mk (below_step (laB HB.out) hb)
             clear hb ho12
             refine hK.out _ _ ⟨(blk_cell BK603.out 0).trans rfl, (blk_cell BK603.out 1).trans rfl, (blk_cell BK603.out 2).trans rfl⟩ (fun hHeld => ?_)
             clear hK K
             refine norm_ (a' := ?_) ?_ ?_
             rotate_left
             ·show Act.put _ (some 10) _ = _
              simp only [Act.put, List.setIfInBounds_toArray, List.set_cons_zero, List.set_cons_succ, i64_w, i32_w]
              rfl
             exact norm_ (by first | (simp only [putAll, Act.put, List.setIfInBounds_toArray, List.set_cons_zero, List.set_cons_succ]; done) | (simp only [putAll, Act.put, List.setIfInBounds_toArray, List.set_cons_zero, List.set_cons_succ]; rfl)) (hJ0_4_9 (v606, v612, gb617) _ ⟨hHeld, (laR (Kd.R_mono HO607.out (fun _ hk => hk.2))), (laR (Kd.R_mono HO613.out (fun _ hk => hk.2))), (laK BK603.out), (laK BK604.out), (laK BK617.out), GW617.out, GE617.out, NB603_617.out, NB617_603.out, NB604_617.out, NB617_604.out, (laB HB.out)⟩)
          ·skip
           rintro ⟨v606, v612⟩ w11 ⟨hS_, h0_, h1_, h2_, h3_, h4_⟩
           have n0_ : Aside0 (Kd.R (Kd.int .i64) 3 w11 w.heap.size (fun k_ => some k_ ≠ (v612 : Value).ownBlock) v606 y605) := ⟨h0_⟩
           have n1_ : Aside0 (Kd.R (Kd.int .i64) 3 w11 w.heap.size (fun k_ => some k_ ≠ (v606 : Value).ownBlock) v612 y611) := ⟨h1_⟩
           have n2_ : Aside0 (w11.heap[gb603]? = some (.cells #[.slice A0_0 l0_0.length c0_0, .slice A0_1 l0_1.length c0_1, .slice A0_2 l0_2.length c0_2] 34 (0, 0))) := ⟨h2_⟩
           have n3_ : Aside0 (w11.heap[gb604]? = some (.cells #[.slice none 0 0, .slice none 0 0, .slice none 0 0] 34 (0, 0))) := ⟨h3_⟩
           have n4_ : Aside0 (Below w.heap.size w w11) := ⟨h4_⟩
           clear BK603
           clear BK604
           clear HB
           clear h0_ h1_ h2_ h3_ h4_
           have HO607 := n0_
           have HO613 := n1_
           have BK603 := n2_
           have BK604 := n3_
           have HB := n4_
           clear n0_ n1_ n2_ n3_ n4_
           have hHeld : w11.cell? ⟨gb603, 0, none⟩ = some (.slice A0_0 l0_0.length c0_0) ∧ w11.cell? ⟨gb603, 1, none⟩ = some (.slice A0_1 l0_1.length c0_1) ∧ w11.cell? ⟨gb603, 2, none⟩ = some (.slice A0_2 l0_2.length c0_2) := hS_
           refine norm_ (a' := ?_) ?_ ?_
           rotate_left
           ·simp only [putAll, Act.put, List.setIfInBounds_toArray, List.set_cons_zero, List.set_cons_succ]
            rfl
           refine two_ (i := 3) (j := 9) (Ni := some 9) (Nj := some 3) #[true, true, true, true, true, true, true, false, false, false, false] #[true, true, true, false, true, true, true, false, false, true, false] rfl rfl rfl rfl (two_of HT_.out (by kernel_rfl)) (by decide) (by decide) (fun K hK => ?_) (fun K hK => ?_)
           ·skip
            refine Kd.R_append_rows_step (Kd.int .i64) (w0 := w) w.heap.size (by rfl) (.tmp 6) (.tmp 8) 26 3 (.int .i64 0) 8 rfl Try.underlying26 info3 rfl (by decide) (by omega) v606 y605 l0_1 _ _ _ (fun k_ => some k_ ≠ (v612 : Value).ownBlock) (fun _ => False) rfl rfl ?aO ?aR (fun _ _ h => h) (fun _ h => h.elim) ?aF ?aB ?aS ?aL ?_
            (case aR => exact laC (Kd.C_below HR0_1.out HB.out))
            (case aB => exact (laB HB.out))
            (case aF => exact (fun k_ hk => Kd.fresh' (Kd.R_lt (laR HO613.out)) k_ hk))
            (case aO => exact (laR HO607.out))
            (case aS => exact (below_size (laB HB.out)))
            (case aL => have := LMc2.out; omega)
            intro v609 w12 ho hb hg hat
            rw [← Ny608.out] at ho
            have n0_ := Aside0.mk (blk_grown (g := gb603) (o := .cells #[.slice A0_0 l0_0.length c0_0, .slice A0_1 l0_1.length c0_1, .slice A0_2 l0_2.length c0_2] 34 (0, 0)) (laK BK603.out) hg (Kd.R_ne HO607.out BK603.out (by decide)))
            have n1_ := Aside0.mk (blk_grown (g := gb604) (o := .cells #[.slice none 0 0, .slice none 0 0, .slice none 0 0] 34 (0, 0)) (laK BK604.out) hg (Kd.R_ne HO607.out BK604.out (by decide)))
            have n2_ := Aside0.mk (Kd.R_after (ok := (fun _ => True)) (laR (Kd.R_mono HO613.out (fun _ hk => ⟨trivial, hk⟩))) hg hat)
            have n3_ := Aside0.mk (hb)
            have n4_ := Aside0.mk (ho)
            clear BK603
            clear BK604
            clear HO613
            clear HB
            clear HO607
            have BK603 := n0_
            have BK604 := n1_
            have HO613 := n2_
            have HB := n3_
            have HO610 := n4_
            clear n0_ n1_ n2_ n3_ n4_
            clear ho hb hg hat
            refine hK.out _ _ ⟨(blk_cell BK603.out 0).trans rfl, (blk_cell BK603.out 1).trans rfl, (blk_cell BK603.out 2).trans rfl⟩ (fun hHeld => ?_)
            clear hK K
            refine norm_ (a' := ?_) ?_ ?_
            rotate_left
            ·show Act.put _ (some 9) _ = _
             simp only [Act.put, List.setIfInBounds_toArray, List.set_cons_zero, List.set_cons_succ, i64_w, i32_w]
             rfl
            exact norm_ (by first | (simp only [putAll, Act.put, List.setIfInBounds_toArray, List.set_cons_zero, List.set_cons_succ]; done) | (simp only [putAll, Act.put, List.setIfInBounds_toArray, List.set_cons_zero, List.set_cons_succ]; rfl)) (hJ0_3_4 (v606, v609, v612) _ ⟨hHeld, (laR HO610.out), (laR (Kd.R_mono HO613.out (fun _ hk => hk.2))), (laK BK603.out), (laK BK604.out), (laB HB.out)⟩)
           ·skip
            refine box_step ?hg (N := 3) ?hd (cs := #[.slice none 0 0, .slice none 0 0, .slice none 0 0]) (t := 34) ?hr ?_; (case hd => rfl); (case hg => rfl); (case hr => first | (go_simp; done) | (go_simp; rfl))
            intro gb617 hg w12 hbox hb
            replace HO607 := Aside0.mk (laRb HO607.out hb)
            replace HO613 := Aside0.mk (laRb HO613.out hb)
            have BK617 := Aside0.mk (hbox)
            have GW617 := Aside0.mk ((by rw [hg]; exact (below_size (laB HB.out)) : w.heap.size ≤ gb617))
            have GE617 := Aside0.mk ((by rw [hg]; exact (below_size (laB HB.out)) : w.heap.size ≤ gb617))
            replace HB := Aside0.mk (below_step (laB HB.out) hb)
            have NB603_617 := Aside0.mk ((by rw [hg]; exact Nat.ne_of_lt (blk_lt (g := gb603) (o := .cells #[.slice A0_0 l0_0.length c0_0, .slice A0_1 l0_1.length c0_1, .slice A0_2 l0_2.length c0_2] 34 (0, 0)) (laK BK603.out)) : gb603 ≠ gb617))
            have NB617_603 := Aside0.mk ((by rw [hg]; exact Nat.ne_of_gt (blk_lt (g := gb603) (o := .cells #[.slice A0_0 l0_0.length c0_0, .slice A0_1 l0_1.length c0_1, .slice A0_2 l0_2.length c0_2] 34 (0, 0)) (laK BK603.out)) : gb617 ≠ gb603))
            replace BK603 := Aside0.mk (laKb BK603.out hb)
            have NB604_617 := Aside0.mk ((by rw [hg]; exact Nat.ne_of_lt (blk_lt (g := gb604) (o := .cells #[.slice none 0 0, .slice none 0 0, .slice none 0 0] 34 (0, 0)) (laK BK604.out)) : gb604 ≠ gb617))
            have NB617_604 := Aside0.mk ((by rw [hg]; exact Nat.ne_of_gt (blk_lt (g := gb604) (o := .cells #[.slice none 0 0, .slice none 0 0, .slice none 0 0] 34 (0, 0)) (laK BK604.out)) : gb617 ≠ gb604))
            replace BK604 := Aside0.mk (laKb BK604.out hb)
            clear hb hbox hg
            refine hK.out _ _ ⟨(blk_cell BK603.out 0).trans rfl, (blk_cell BK603.out 1).trans rfl, (blk_cell BK603.out 2).trans rfl⟩ (fun hHeld => ?_)
            clear hK K
            refine norm_ (a' := ?_) ?_ ?_
            rotate_left
            ·show Act.put _ (some 3) _ = _
             simp only [Act.put, List.setIfInBounds_toArray, List.set_cons_zero, List.set_cons_succ, i64_w, i32_w]
             rfl
            exact norm_ (by first | (simp only [putAll, Act.put, List.setIfInBounds_toArray, List.set_cons_zero, List.set_cons_succ]; done) | (simp only [putAll, Act.put, List.setIfInBounds_toArray, List.set_cons_zero, List.set_cons_succ]; rfl)) (hJ0_4_9 (v606, v612, gb617) _ ⟨hHeld, (laR HO607.out), (laR HO613.out), (laK BK603.out), (laK BK604.out), (laK BK617.out), GW617.out, GE617.out, NB603_617.out, NB617_603.out, NB604_617.out, NB617_604.out, (laB HB.out)⟩)
         ·skip
          rintro ⟨v606, v609⟩ w10 ⟨hS_, h0_, h1_, h2_, h3_⟩
          have n0_ : Aside0 (Kd.R (Kd.int .i64) 3 w10 w.heap.size (fun _ => True) v609 y608) := ⟨h0_⟩
          have n1_ : Aside0 (w10.heap[gb603]? = some (.cells #[.slice A0_0 l0_0.length c0_0, .slice A0_1 l0_1.length c0_1, .slice A0_2 l0_2.length c0_2] 34 (0, 0))) := ⟨h1_⟩
          have n2_ : Aside0 (w10.heap[gb604]? = some (.cells #[.slice none 0 0, .slice none 0 0, .slice none 0 0] 34 (0, 0))) := ⟨h2_⟩
          have n3_ : Aside0 (Below w.heap.size w w10) := ⟨h3_⟩
          clear BK603
          clear BK604
          clear HB
          clear h0_ h1_ h2_ h3_
          have HO610 := n0_
          have BK603 := n1_
          have BK604 := n2_
          have HB := n3_
          clear n0_ n1_ n2_ n3_
          have hHeld : w10.cell? ⟨gb603, 0, none⟩ = some (.slice A0_0 l0_0.length c0_0) ∧ w10.cell? ⟨gb603, 1, none⟩ = some (.slice A0_1 l0_1.length c0_1) ∧ w10.cell? ⟨gb603, 2, none⟩ = some (.slice A0_2 l0_2.length c0_2) := hS_
          refine norm_ (a' := ?_) ?_ ?_
          rotate_left
          ·simp only [putAll, Act.put, List.setIfInBounds_toArray, List.set_cons_zero, List.set_cons_succ]
           rfl
          refine two_ (i := 4) (j := 9) (Ni := some 10) (Nj := some 3) #[true, true, true, true, true, true, true, false, false, false, false] #[true, true, true, true, false, true, true, false, false, true, false] rfl rfl rfl rfl (two_of HT_.out (by kernel_rfl)) (by decide) (by decide) (fun K hK => ?_) (fun K hK => ?_)
          ·skip
           refine Kd.R_lit_step (Kd.int .i64) _ 3 ?hg (N := 10) ?hd (xs := ([] : List Int)) (inner := []) (ok := fun _ => True) (okp := fun _ => True) ?hr ?hp (fun _ hk => hk) trivial (Below.refl _ _) (Nat.le_refl _) (by simp) ?_; (case hd => rfl); (case hg => rfl); (case hr => first | (go_simp; done) | (go_simp; rfl)); (case hp => exact (Reps.none _ _))
           intro v612 w11 ho12 hb hg_ hnew_
           clear hg_ hnew_
           (first | rw [← Ny611.out] at ho12 | (simp only [Int.reduceToNat] at ho12; rw [← Ny611.out] at ho12))
           have HO613 := Aside0.mk (Kd.R_lower (Kd.R_new' ho12 (Kd.R_lt (laR HO610.out))) (below_size (laB HB.out)))
           replace HO610 := Aside0.mk (Kd.R_elder' (laR HO610.out) (Kd.R_base ho12) hb)
           replace BK603 := Aside0.mk (laKb BK603.out hb)
           replace BK604 := Aside0.mk (laKb BK604.out hb)
           replace HB := Aside0.mk (below_step (laB HB.out) hb)
           clear hb ho12
           refine hK.out _ _ ⟨(blk_cell BK603.out 0).trans rfl, (blk_cell BK603.out 1).trans rfl, (blk_cell BK603.out 2).trans rfl⟩ (fun hHeld => ?_)
           clear hK K
           refine norm_ (a' := ?_) ?_ ?_
           rotate_left
           ·show Act.put _ (some 10) _ = _
            simp only [Act.put, List.setIfInBounds_toArray, List.set_cons_zero, List.set_cons_succ, i64_w, i32_w]
            rfl
           exact norm_ (by first | (simp only [putAll, Act.put, List.setIfInBounds_toArray, List.set_cons_zero, List.set_cons_succ]; done) | (simp only [putAll, Act.put, List.setIfInBounds_toArray, List.set_cons_zero, List.set_cons_succ]; rfl)) (hJ0_3_4 (v606, v609, v612) _ ⟨hHeld, (laR (Kd.R_mono HO610.out (fun _ hk => hk.2))), (laR (Kd.R_mono HO613.out (fun _ hk => hk.2))), (laK BK603.out), (laK BK604.out), (laB HB.out)⟩)
          ·skip
           refine box_step ?hg (N := 3) ?hd (cs := #[.slice none 0 0, .slice none 0 0, .slice none 0 0]) (t := 34) ?hr ?_; (case hd => rfl); (case hg => rfl); (case hr => first | (go_simp; done) | (go_simp; rfl))
           intro gb617 hg w11 hbox hb
           replace HO610 := Aside0.mk (laRb HO610.out hb)
           have BK617 := Aside0.mk (hbox)
           have GW617 := Aside0.mk ((by rw [hg]; exact (below_size (laB HB.out)) : w.heap.size ≤ gb617))
           have GE617 := Aside0.mk ((by rw [hg]; exact (below_size (laB HB.out)) : w.heap.size ≤ gb617))
           replace HB := Aside0.mk (below_step (laB HB.out) hb)
           have NB603_617 := Aside0.mk ((by rw [hg]; exact Nat.ne_of_lt (blk_lt (g := gb603) (o := .cells #[.slice A0_0 l0_0.length c0_0, .slice A0_1 l0_1.length c0_1, .slice A0_2 l0_2.length c0_2] 34 (0, 0)) (laK BK603.out)) : gb603 ≠ gb617))
           have NB617_603 := Aside0.mk ((by rw [hg]; exact Nat.ne_of_gt (blk_lt (g := gb603) (o := .cells #[.slice A0_0 l0_0.length c0_0, .slice A0_1 l0_1.length c0_1, .slice A0_2 l0_2.length c0_2] 34 (0, 0)) (laK BK603.out)) : gb617 ≠ gb603))
           replace BK603 := Aside0.mk (laKb BK603.out hb)
           have NB604_617 := Aside0.mk ((by rw [hg]; exact Nat.ne_of_lt (blk_lt (g := gb604) (o := .cells #[.slice none 0 0, .slice none 0 0, .slice none 0 0] 34 (0, 0)) (laK BK604.out)) : gb604 ≠ gb617))
           have NB617_604 := Aside0.mk ((by rw [hg]; exact Nat.ne_of_gt (blk_lt (g := gb604) (o := .cells #[.slice none 0 0, .slice none 0 0, .slice none 0 0] 34 (0, 0)) (laK BK604.out)) : gb617 ≠ gb604))
           replace BK604 := Aside0.mk (laKb BK604.out hb)
           clear hb hbox hg
           refine hK.out _ _ ⟨(blk_cell BK603.out 0).trans rfl, (blk_cell BK603.out 1).trans rfl, (blk_cell BK603.out 2).trans rfl⟩ (fun hHeld => ?_)
           clear hK K
           refine norm_ (a' := ?_) ?_ ?_
           rotate_left
           ·show Act.put _ (some 3) _ = _
            simp only [Act.put, List.setIfInBounds_toArray, List.set_cons_zero, List.set_cons_succ, i64_w, i32_w]
            rfl
           exact norm_ (by first | (simp only [putAll, Act.put, List.setIfInBounds_toArray, List.set_cons_zero, List.set_cons_succ]; done) | (simp only [putAll, Act.put, List.setIfInBounds_toArray, List.set_cons_zero, List.set_cons_succ]; rfl)) (hJ0_3_9 (v606, v609, gb617) _ ⟨hHeld, (laR HO610.out), (laK BK603.out), (laK BK604.out), (laK BK617.out), GW617.out, GE617.out, NB603_617.out, NB617_603.out, NB604_617.out, NB617_604.out, (laB HB.out)⟩)
        ·skip
         rintro ⟨v606, v612, gb617⟩ w12 ⟨hS_, h0_, h1_, h2_, h3_, h4_, h5_, h6_, h7_, h8_, h9_, h10_, h11_⟩
         have n0_ : Aside0 (Kd.R (Kd.int .i64) 3 w12 w.heap.size (fun k_ => some k_ ≠ (v612 : Value).ownBlock) v606 y605) := ⟨h0_⟩
         have n1_ : Aside0 (Kd.R (Kd.int .i64) 3 w12 w.heap.size (fun k_ => some k_ ≠ (v606 : Value).ownBlock) v612 y611) := ⟨h1_⟩
         have n2_ : Aside0 (w12.heap[gb603]? = some (.cells #[.slice A0_0 l0_0.length c0_0, .slice A0_1 l0_1.length c0_1, .slice A0_2 l0_2.length c0_2] 34 (0, 0))) := ⟨h2_⟩
         have n3_ : Aside0 (w12.heap[gb604]? = some (.cells #[.slice none 0 0, .slice none 0 0, .slice none 0 0] 34 (0, 0))) := ⟨h3_⟩
         have n4_ : Aside0 (w12.heap[gb617]? = some (.cells #[.slice none 0 0, .slice none 0 0, .slice none 0 0] 34 (0, 0))) := ⟨h4_⟩
         have n5_ : Aside0 (w.heap.size ≤ gb617) := ⟨h5_⟩
         have n6_ : Aside0 (w.heap.size ≤ gb617) := ⟨h6_⟩
         have n7_ : Aside0 (gb603 ≠ gb617) := ⟨h7_⟩
         have n8_ : Aside0 (gb617 ≠ gb603) := ⟨h8_⟩
         have n9_ : Aside0 (gb604 ≠ gb617) := ⟨h9_⟩
         have n10_ : Aside0 (gb617 ≠ gb604) := ⟨h10_⟩
         have n11_ : Aside0 (Below w.heap.size w w12) := ⟨h11_⟩
         clear BK603
         clear BK604
         clear HB
         clear h0_ h1_ h2_ h3_ h4_ h5_ h6_ h7_ h8_ h9_ h10_ h11_
         have HO607 := n0_
         have HO613 := n1_
         have BK603 := n2_
         have BK604 := n3_
         have BK617 := n4_
         have GW617 := n5_
         have GE617 := n6_
         have ge617_ := Nonempty.intro GE617.out
         have NB603_617 := n7_
         have NB617_603 := n8_
         have NB604_617 := n9_
         have NB617_604 := n10_
         have HB := n11_
         clear n0_ n1_ n2_ n3_ n4_ n5_ n6_ n7_ n8_ n9_ n10_ n11_
         have hHeld : w12.cell? ⟨gb603, 0, none⟩ = some (.slice A0_0 l0_0.length c0_0) ∧ w12.cell? ⟨gb603, 1, none⟩ = some (.slice A0_1 l0_1.length c0_1) ∧ w12.cell? ⟨gb603, 2, none⟩ = some (.slice A0_2 l0_2.length c0_2) := hS_
         refine norm_ (a' := ?_) ?_ ?_
         rotate_left
         ·simp only [putAll, Act.put, List.setIfInBounds_toArray, List.set_cons_zero, List.set_cons_succ]
          rfl
         refine one_ (i := 3) (N := some 9) #[true, true, true, true, true, true, true, false, false, true, false] rfl rfl (one_of HT_.out (by kernel_rfl)) (by decide) (fun K hK => ?_)
         refine Kd.R_append_rows_step (Kd.int .i64) (w0 := w) w.heap.size (by rfl) (.tmp 6) (.tmp 8) 26 3 (.int .i64 0) 8 rfl Try.underlying26 info3 rfl (by decide) (by omega) v606 y605 l0_1 _ _ _ (fun k_ => some k_ ≠ (v612 : Value).ownBlock) (fun _ => False) rfl rfl ?aO ?aR (fun _ _ h => h) (fun _ h => h.elim) ?aF ?aB ?aS ?aL ?_
         (case aR => exact laC (Kd.C_below HR0_1.out HB.out))
         (case aB => exact (laB HB.out))
         (case aF => exact (fun k_ hk => Kd.fresh' (Kd.R_lt (laR HO613.out)) k_ hk))
         (case aO => exact (laR HO607.out))
         (case aS => exact (below_size (laB HB.out)))
         (case aL => have := LMc2.out; omega)
         intro v609 w13 ho hb hg hat
         rw [← Ny608.out] at ho
         have n0_ := Aside0.mk (blk_grown (g := gb603) (o := .cells #[.slice A0_0 l0_0.length c0_0, .slice A0_1 l0_1.length c0_1, .slice A0_2 l0_2.length c0_2] 34 (0, 0)) (laK BK603.out) hg (Kd.R_ne HO607.out BK603.out (by decide)))
         have n1_ := Aside0.mk (blk_grown (g := gb604) (o := .cells #[.slice none 0 0, .slice none 0 0, .slice none 0 0] 34 (0, 0)) (laK BK604.out) hg (Kd.R_ne HO607.out BK604.out (by decide)))
         have n2_ := Aside0.mk (Kd.R_after (ok := (fun _ => True)) (laR (Kd.R_mono HO613.out (fun _ hk => ⟨trivial, hk⟩))) hg hat)
         have n3_ := Aside0.mk (blk_grown (g := gb617) (o := .cells #[.slice none 0 0, .slice none 0 0, .slice none 0 0] 34 (0, 0)) (laK BK617.out) hg (Kd.R_ne HO607.out BK617.out (by decide)))
         have n4_ := Aside0.mk (hb)
         have n5_ := Aside0.mk (ho)
         clear BK603
         clear BK604
         clear HO613
         clear BK617
         clear HB
         clear HO607
         have BK603 := n0_
         have BK604 := n1_
         have HO613 := n2_
         have BK617 := n3_
         have HB := n4_
         have HO610 := n5_
         clear n0_ n1_ n2_ n3_ n4_ n5_
         clear ho hb hg hat
         refine hK.out _ _ ⟨(blk_cell BK603.out 0).trans rfl, (blk_cell BK603.out 1).trans rfl, (blk_cell BK603.out 2).trans rfl⟩ (fun hHeld => ?_)
         clear hK K
         refine norm_ (a' := ?_) ?_ ?_
         rotate_left
         ·show Act.put _ (some 9) _ = _
          simp only [Act.put, List.setIfInBounds_toArray, List.set_cons_zero, List.set_cons_succ, i64_w, i32_w]
          rfl
         exact norm_ (by first | (simp only [putAll, Act.put, List.setIfInBounds_toArray, List.set_cons_zero, List.set_cons_succ]; done) | (simp only [putAll, Act.put, List.setIfInBounds_toArray, List.set_cons_zero, List.set_cons_succ]; rfl)) (hJ0_3_4_9 (v606, v609, v612, gb617) _ ⟨hHeld, (laR HO610.out), (laR (Kd.R_mono HO613.out (fun _ hk => hk.2))), (laK BK603.out), (laK BK604.out), (laK BK617.out), GW617.out, GE617.out, NB603_617.out, NB617_603.out, NB604_617.out, NB617_604.out, (laB HB.out)⟩)
       ·skip
        rintro ⟨v606, v609, gb617⟩ w11 ⟨hS_, h0_, h1_, h2_, h3_, h4_, h5_, h6_, h7_, h8_, h9_, h10_⟩
        have n0_ : Aside0 (Kd.R (Kd.int .i64) 3 w11 w.heap.size (fun _ => True) v609 y608) := ⟨h0_⟩
        have n1_ : Aside0 (w11.heap[gb603]? = some (.cells #[.slice A0_0 l0_0.length c0_0, .slice A0_1 l0_1.length c0_1, .slice A0_2 l0_2.length c0_2] 34 (0, 0))) := ⟨h1_⟩
        have n2_ : Aside0 (w11.heap[gb604]? = some (.cells #[.slice none 0 0, .slice none 0 0, .slice none 0 0] 34 (0, 0))) := ⟨h2_⟩
        have n3_ : Aside0 (w11.heap[gb617]? = some (.cells #[.slice none 0 0, .slice none 0 0, .slice none 0 0] 34 (0, 0))) := ⟨h3_⟩
        have n4_ : Aside0 (w.heap.size ≤ gb617) := ⟨h4_⟩
        have n5_ : Aside0 (w.heap.size ≤ gb617) := ⟨h5_⟩
        have n6_ : Aside0 (gb603 ≠ gb617) := ⟨h6_⟩
        have n7_ : Aside0 (gb617 ≠ gb603) := ⟨h7_⟩
        have n8_ : Aside0 (gb604 ≠ gb617) := ⟨h8_⟩
        have n9_ : Aside0 (gb617 ≠ gb604) := ⟨h9_⟩
        have n10_ : Aside0 (Below w.heap.size w w11) := ⟨h10_⟩
        clear BK603
        clear BK604
        clear HB
        clear h0_ h1_ h2_ h3_ h4_ h5_ h6_ h7_ h8_ h9_ h10_
        have HO610 := n0_
        have BK603 := n1_
        have BK604 := n2_
        have BK617 := n3_
        have GW617 := n4_
        have GE617 := n5_
        have ge617_ := Nonempty.intro GE617.out
        have NB603_617 := n6_
        have NB617_603 := n7_
        have NB604_617 := n8_
        have NB617_604 := n9_
        have HB := n10_
        clear n0_ n1_ n2_ n3_ n4_ n5_ n6_ n7_ n8_ n9_ n10_
        have hHeld : w11.cell? ⟨gb603, 0, none⟩ = some (.slice A0_0 l0_0.length c0_0) ∧ w11.cell? ⟨gb603, 1, none⟩ = some (.slice A0_1 l0_1.length c0_1) ∧ w11.cell? ⟨gb603, 2, none⟩ = some (.slice A0_2 l0_2.length c0_2) := hS_
        refine norm_ (a' := ?_) ?_ ?_
        rotate_left
        ·simp only [putAll, Act.put, List.setIfInBounds_toArray, List.set_cons_zero, List.set_cons_succ]
         rfl
        refine one_ (i := 4) (N := some 10) #[true, true, true, true, true, true, true, false, false, true, false] rfl rfl (one_of HT_.out (by kernel_rfl)) (by decide) (fun K hK => ?_)
        refine Kd.R_lit_step (Kd.int .i64) _ 3 ?hg (N := 10) ?hd (xs := ([] : List Int)) (inner := []) (ok := fun _ => True) (okp := fun _ => True) ?hr ?hp (fun _ hk => hk) trivial (Below.refl _ _) (Nat.le_refl _) (by simp) ?_; (case hd => rfl); (case hg => rfl); (case hr => first | (go_simp; done) | (go_simp; rfl)); (case hp => exact (Reps.none _ _))
        intro v612 w12 ho13 hb hg_ hnew_
        clear hg_ hnew_
        (first | rw [← Ny611.out] at ho13 | (simp only [Int.reduceToNat] at ho13; rw [← Ny611.out] at ho13))
        have HO613 := Aside0.mk (Kd.R_lower (Kd.R_new' ho13 (Kd.R_lt (laR HO610.out))) (below_size (laB HB.out)))
        replace HO610 := Aside0.mk (Kd.R_elder' (laR HO610.out) (Kd.R_base ho13) hb)
        replace BK603 := Aside0.mk (laKb BK603.out hb)
        replace BK604 := Aside0.mk (laKb BK604.out hb)
        replace BK617 := Aside0.mk (laKb BK617.out hb)
        replace HB := Aside0.mk (below_step (laB HB.out) hb)
        clear hb ho13
        refine hK.out _ _ ⟨(blk_cell BK603.out 0).trans rfl, (blk_cell BK603.out 1).trans rfl, (blk_cell BK603.out 2).trans rfl⟩ (fun hHeld => ?_)
        clear hK K
        refine norm_ (a' := ?_) ?_ ?_
        rotate_left
        ·show Act.put _ (some 10) _ = _
         simp only [Act.put, List.setIfInBounds_toArray, List.set_cons_zero, List.set_cons_succ, i64_w, i32_w]
         rfl
        exact norm_ (by first | (simp only [putAll, Act.put, List.setIfInBounds_toArray, List.set_cons_zero, List.set_cons_succ]; done) | (simp only [putAll, Act.put, List.setIfInBounds_toArray, List.set_cons_zero, List.set_cons_succ]; rfl)) (hJ0_3_4_9 (v606, v609, v612, gb617) _ ⟨hHeld, (laR (Kd.R_mono HO610.out (fun _ hk => hk.2))), (laR (Kd.R_mono HO613.out (fun _ hk => hk.2))), (laK BK603.out), (laK BK604.out), (laK BK617.out), GW617.out, GE617.out, NB603_617.out, NB617_603.out, NB604_617.out, NB617_604.out, (laB HB.out)⟩)
      ·skip
       rintro ⟨v606, v609, v612⟩ w12 ⟨hS_, h0_, h1_, h2_, h3_, h4_⟩
       have n0_ : Aside0 (Kd.R (Kd.int .i64) 3 w12 w.heap.size (fun k_ => some k_ ≠ (v612 : Value).ownBlock) v609 y608) := ⟨h0_⟩
       have n1_ : Aside0 (Kd.R (Kd.int .i64) 3 w12 w.heap.size (fun k_ => some k_ ≠ (v609 : Value).ownBlock) v612 y611) := ⟨h1_⟩
       have n2_ : Aside0 (w12.heap[gb603]? = some (.cells #[.slice A0_0 l0_0.length c0_0, .slice A0_1 l0_1.length c0_1, .slice A0_2 l0_2.length c0_2] 34 (0, 0))) := ⟨h2_⟩
       have n3_ : Aside0 (w12.heap[gb604]? = some (.cells #[.slice none 0 0, .slice none 0 0, .slice none 0 0] 34 (0, 0))) := ⟨h3_⟩
       have n4_ : Aside0 (Below w.heap.size w w12) := ⟨h4_⟩
       clear BK603
       clear BK604
       clear HB
       clear h0_ h1_ h2_ h3_ h4_
       have HO610 := n0_
       have HO613 := n1_
       have BK603 := n2_
       have BK604 := n3_
       have HB := n4_
       clear n0_ n1_ n2_ n3_ n4_
       have hHeld : w12.cell? ⟨gb603, 0, none⟩ = some (.slice A0_0 l0_0.length c0_0) ∧ w12.cell? ⟨gb603, 1, none⟩ = some (.slice A0_1 l0_1.length c0_1) ∧ w12.cell? ⟨gb603, 2, none⟩ = some (.slice A0_2 l0_2.length c0_2) := hS_
       refine norm_ (a' := ?_) ?_ ?_
       rotate_left
       ·simp only [putAll, Act.put, List.setIfInBounds_toArray, List.set_cons_zero, List.set_cons_succ]
        rfl
       refine two_ (i := 7) (j := 9) (Ni := some 13) (Nj := some 3) #[true, true, true, true, true, true, true, true, false, false, false] #[true, true, true, true, true, true, true, false, false, true, false] rfl rfl rfl rfl (two_of HT_.out (by kernel_rfl)) (by decide) (by decide) (fun K hK => ?_) (fun K hK => ?_)
       ·skip
        refine Kd.R_append_rows_step (Kd.int .i64) (w0 := w) w.heap.size (by rfl) (.tmp 10) (.tmp 12) 26 3 (.int .i64 0) 8 rfl Try.underlying26 info3 rfl (by decide) (by omega) v612 y611 l0_0 _ _ _ (fun k_ => some k_ ≠ (v609 : Value).ownBlock) (fun _ => False) rfl rfl ?aO ?aR (fun _ _ h => h) (fun _ h => h.elim) ?aF ?aB ?aS ?aL ?_
        (case aR => exact laC (Kd.C_below HR0_0.out HB.out))
        (case aB => exact (laB HB.out))
        (case aF => exact (fun k_ hk => Kd.fresh' (Kd.R_lt (laR HO610.out)) k_ hk))
        (case aO => exact (laR HO613.out))
        (case aS => exact (below_size (laB HB.out)))
        (case aL => have := LMc3.out; omega)
        intro v615 w13 ho hb hg hat
        rw [← Ny614.out] at ho
        have n0_ := Aside0.mk (blk_grown (g := gb603) (o := .cells #[.slice A0_0 l0_0.length c0_0, .slice A0_1 l0_1.length c0_1, .slice A0_2 l0_2.length c0_2] 34 (0, 0)) (laK BK603.out) hg (Kd.R_ne HO613.out BK603.out (by decide)))
        have n1_ := Aside0.mk (blk_grown (g := gb604) (o := .cells #[.slice none 0 0, .slice none 0 0, .slice none 0 0] 34 (0, 0)) (laK BK604.out) hg (Kd.R_ne HO613.out BK604.out (by decide)))
        have n2_ := Aside0.mk (Kd.R_after (ok := (fun _ => True)) (laR (Kd.R_mono HO610.out (fun _ hk => ⟨trivial, hk⟩))) hg hat)
        have n3_ := Aside0.mk (hb)
        have n4_ := Aside0.mk (ho)
        clear BK603
        clear BK604
        clear HO610
        clear HB
        clear HO613
        have BK603 := n0_
        have BK604 := n1_
        have HO610 := n2_
        have HB := n3_
        have HO616 := n4_
        clear n0_ n1_ n2_ n3_ n4_
        clear ho hb hg hat
        obtain ⟨Ao14, co14, eo14⟩ := Kd.R_slice HO616.out
        (first | subst eo14 | (injection eo14 with f1_ f2_ f3_; have f4_ := f1_.symm; have f5_ := f3_.symm; clear f1_ f2_ f3_; subst f4_; subst f5_))
        obtain ⟨Ao15, co15, eo15⟩ := Kd.R_slice HO610.out
        (first | subst eo15 | (injection eo15 with f1_ f2_ f3_; have f4_ := f1_.symm; have f5_ := f3_.symm; clear f1_ f2_ f3_; subst f4_; subst f5_))
        refine hK.out _ _ ⟨(blk_cell BK603.out 0).trans rfl, (blk_cell BK603.out 1).trans rfl, (blk_cell BK603.out 2).trans rfl⟩ (fun hHeld => ?_)
        clear hK K
        refine norm_ (a' := ?_) ?_ ?_
        rotate_left
        ·show Act.put _ (some 13) _ = _
         simp only [Act.put, List.setIfInBounds_toArray, List.set_cons_zero, List.set_cons_succ, i64_w, i32_w]
         rfl
        refine pure_ (i := 8) (N := some 14) (v := ?_) (a' := ?_) #[true, true, true, true, true, true, true, true, true, false, false] rfl rfl (any_of HT_.out (by kernel_rfl)) (fun _ _ _ h => h) (Or.inl ⟨by rfl, ?_⟩) ?_ ?_
        rotate_left
        ·intro w'
         go_simp
         with_reducible rfl
        rotate_left
        ·simp only [Act.put, List.setIfInBounds_toArray, List.set_cons_zero, List.set_cons_succ, i64_w, i32_w]
         rfl
        exact norm_ (by first | (simp only [putAll, Act.put, List.setIfInBounds_toArray, List.set_cons_zero, List.set_cons_succ]; done) | (simp only [putAll, Act.put, List.setIfInBounds_toArray, List.set_cons_zero, List.set_cons_succ]; rfl)) (hJ0_3_4_7 (v606, .slice Ao15 y608.length co15, v612, .slice Ao14 y614.length co14) _ ⟨hHeld, (laR (Kd.R_mono HO610.out (fun _ hk => hk.2))), (laR HO616.out), (laK BK603.out), (laK BK604.out), (laB HB.out)⟩)
       ·skip
        refine box_step ?hg (N := 3) ?hd (cs := #[.slice none 0 0, .slice none 0 0, .slice none 0 0]) (t := 34) ?hr ?_; (case hd => rfl); (case hg => rfl); (case hr => first | (go_simp; done) | (go_simp; rfl))
        intro gb617 hg w13 hbox hb
        replace HO610 := Aside0.mk (laRb HO610.out hb)
        replace HO613 := Aside0.mk (laRb HO613.out hb)
        have BK617 := Aside0.mk (hbox)
        have GW617 := Aside0.mk ((by rw [hg]; exact (below_size (laB HB.out)) : w.heap.size ≤ gb617))
        have GE617 := Aside0.mk ((by rw [hg]; exact (below_size (laB HB.out)) : w.heap.size ≤ gb617))
        replace HB := Aside0.mk (below_step (laB HB.out) hb)
        have NB603_617 := Aside0.mk ((by rw [hg]; exact Nat.ne_of_lt (blk_lt (g := gb603) (o := .cells #[.slice A0_0 l0_0.length c0_0, .slice A0_1 l0_1.length c0_1, .slice A0_2 l0_2.length c0_2] 34 (0, 0)) (laK BK603.out)) : gb603 ≠ gb617))
        have NB617_603 := Aside0.mk ((by rw [hg]; exact Nat.ne_of_gt (blk_lt (g := gb603) (o := .cells #[.slice A0_0 l0_0.length c0_0, .slice A0_1 l0_1.length c0_1, .slice A0_2 l0_2.length c0_2] 34 (0, 0)) (laK BK603.out)) : gb617 ≠ gb603))
        replace BK603 := Aside0.mk (laKb BK603.out hb)
        have NB604_617 := Aside0.mk ((by rw [hg]; exact Nat.ne_of_lt (blk_lt (g := gb604) (o := .cells #[.slice none 0 0, .slice none 0 0, .slice none 0 0] 34 (0, 0)) (laK BK604.out)) : gb604 ≠ gb617))
        have NB617_604 := Aside0.mk ((by rw [hg]; exact Nat.ne_of_gt (blk_lt (g := gb604) (o := .cells #[.slice none 0 0, .slice none 0 0, .slice none 0 0] 34 (0, 0)) (laK BK604.out)) : gb617 ≠ gb604))
        replace BK604 := Aside0.mk (laKb BK604.out hb)
        clear hb hbox hg
        refine hK.out _ _ ⟨(blk_cell BK603.out 0).trans rfl, (blk_cell BK603.out 1).trans rfl, (blk_cell BK603.out 2).trans rfl⟩ (fun hHeld => ?_)
        clear hK K
        refine norm_ (a' := ?_) ?_ ?_
        rotate_left
        ·show Act.put _ (some 3) _ = _
         simp only [Act.put, List.setIfInBounds_toArray, List.set_cons_zero, List.set_cons_succ, i64_w, i32_w]
         rfl
        exact norm_ (by first | (simp only [putAll, Act.put, List.setIfInBounds_toArray, List.set_cons_zero, List.set_cons_succ]; done) | (simp only [putAll, Act.put, List.setIfInBounds_toArray, List.set_cons_zero, List.set_cons_succ]; rfl)) (hJ0_3_4_9 (v606, v609, v612, gb617) _ ⟨hHeld, (laR HO610.out), (laR HO613.out), (laK BK603.out), (laK BK604.out), (laK BK617.out), GW617.out, GE617.out, NB603_617.out, NB617_603.out, NB604_617.out, NB617_604.out, (laB HB.out)⟩)
     ·skip
      rintro ⟨v606, v609, v612, gb617⟩ w13 ⟨hS_, h0_, h1_, h2_, h3_, h4_, h5_, h6_, h7_, h8_, h9_, h10_, h11_⟩
      have n0_ : Aside0 (Kd.R (Kd.int .i64) 3 w13 w.heap.size (fun k_ => some k_ ≠ (v612 : Value).ownBlock) v609 y608) := ⟨h0_⟩
      have n1_ : Aside0 (Kd.R (Kd.int .i64) 3 w13 w.heap.size (fun k_ => some k_ ≠ (v609 : Value).ownBlock) v612 y611) := ⟨h1_⟩
      have n2_ : Aside0 (w13.heap[gb603]? = some (.cells #[.slice A0_0 l0_0.length c0_0, .slice A0_1 l0_1.length c0_1, .slice A0_2 l0_2.length c0_2] 34 (0, 0))) := ⟨h2_⟩
      have n3_ : Aside0 (w13.heap[gb604]? = some (.cells #[.slice none 0 0, .slice none 0 0, .slice none 0 0] 34 (0, 0))) := ⟨h3_⟩
      have n4_ : Aside0 (w13.heap[gb617]? = some (.cells #[.slice none 0 0, .slice none 0 0, .slice none 0 0] 34 (0, 0))) := ⟨h4_⟩
      have n5_ : Aside0 (w.heap.size ≤ gb617) := ⟨h5_⟩
      have n6_ : Aside0 (w.heap.size ≤ gb617) := ⟨h6_⟩
      have n7_ : Aside0 (gb603 ≠ gb617) := ⟨h7_⟩
      have n8_ : Aside0 (gb617 ≠ gb603) := ⟨h8_⟩
      have n9_ : Aside0 (gb604 ≠ gb617) := ⟨h9_⟩
      have n10_ : Aside0 (gb617 ≠ gb604) := ⟨h10_⟩
      have n11_ : Aside0 (Below w.heap.size w w13) := ⟨h11_⟩
      clear BK603
      clear BK604
      clear HB
      clear h0_ h1_ h2_ h3_ h4_ h5_ h6_ h7_ h8_ h9_ h10_ h11_
      have HO610 := n0_
      have HO613 := n1_
      have BK603 := n2_
      have BK604 := n3_
      have BK617 := n4_
      have GW617 := n5_
      have GE617 := n6_
      have ge617_ := Nonempty.intro GE617.out
      have NB603_617 := n7_
      have NB617_603 := n8_
      have NB604_617 := n9_
      have NB617_604 := n10_
      have HB := n11_
      clear n0_ n1_ n2_ n3_ n4_ n5_ n6_ n7_ n8_ n9_ n10_ n11_
      have hHeld : w13.cell? ⟨gb603, 0, none⟩ = some (.slice A0_0 l0_0.length c0_0) ∧ w13.cell? ⟨gb603, 1, none⟩ = some (.slice A0_1 l0_1.length c0_1) ∧ w13.cell? ⟨gb603, 2, none⟩ = some (.slice A0_2 l0_2.length c0_2) := hS_
      refine norm_ (a' := ?_) ?_ ?_
      rotate_left
      ·simp only [putAll, Act.put, List.setIfInBounds_toArray, List.set_cons_zero, List.set_cons_succ]
       rfl
      refine one_ (i := 7) (N := some 13) #[true, true, true, true, true, true, true, true, false, true, false] rfl rfl (one_of HT_.out (by kernel_rfl)) (by decide) (fun K hK => ?_)
      refine Kd.R_append_rows_step (Kd.int .i64) (w0 := w) w.heap.size (by rfl) (.tmp 10) (.tmp 12) 26 3 (.int .i64 0) 8 rfl Try.underlying26 info3 rfl (by decide) (by omega) v612 y611 l0_0 _ _ _ (fun k_ => some k_ ≠ (v609 : Value).ownBlock) (fun _ => False) rfl rfl ?aO ?aR (fun _ _ h => h) (fun _ h => h.elim) ?aF ?aB ?aS ?aL ?_
      (case aR => exact laC (Kd.C_below HR0_0.out HB.out))
      (case aB => exact (laB HB.out))
      (case aF => exact (fun k_ hk => Kd.fresh' (Kd.R_lt (laR HO610.out)) k_ hk))
      (case aO => exact (laR HO613.out))
      (case aS => exact (below_size (laB HB.out)))
      (case aL => have := LMc3.out; omega)
      intro v615 w14 ho hb hg hat
      rw [← Ny614.out] at ho
      have n0_ := Aside0.mk (blk_grown (g := gb603) (o := .cells #[.slice A0_0 l0_0.length c0_0, .slice A0_1 l0_1.length c0_1, .slice A0_2 l0_2.length c0_2] 34 (0, 0)) (laK BK603.out) hg (Kd.R_ne HO613.out BK603.out (by decide)))
      have n1_ := Aside0.mk (blk_grown (g := gb604) (o := .cells #[.slice none 0 0, .slice none 0 0, .slice none 0 0] 34 (0, 0)) (laK BK604.out) hg (Kd.R_ne HO613.out BK604.out (by decide)))
      have n2_ := Aside0.mk (Kd.R_after (ok := (fun _ => True)) (laR (Kd.R_mono HO610.out (fun _ hk => ⟨trivial, hk⟩))) hg hat)
      have n3_ := Aside0.mk (blk_grown (g := gb617) (o := .cells #[.slice none 0 0, .slice none 0 0, .slice none 0 0] 34 (0, 0)) (laK BK617.out) hg (Kd.R_ne HO613.out BK617.out (by decide)))
      have n4_ := Aside0.mk (hb)
      have n5_ := Aside0.mk (ho)
      clear BK603
      clear BK604
      clear HO610
      clear BK617
      clear HB
      clear HO613
      have BK603 := n0_
      have BK604 := n1_
      have HO610 := n2_
      have BK617 := n3_
      have HB := n4_
      have HO616 := n5_
      clear n0_ n1_ n2_ n3_ n4_ n5_
      clear ho hb hg hat
      obtain ⟨Ao15, co15, eo15⟩ := Kd.R_slice HO616.out
      (first | subst eo15 | (injection eo15 with f1_ f2_ f3_; have f4_ := f1_.symm; have f5_ := f3_.symm; clear f1_ f2_ f3_; subst f4_; subst f5_))
      obtain ⟨Ao16, co16, eo16⟩ := Kd.R_slice HO610.out
      (first | subst eo16 | (injection eo16 with f1_ f2_ f3_; have f4_ := f1_.symm; have f5_ := f3_.symm; clear f1_ f2_ f3_; subst f4_; subst f5_))
      refine hK.out _ _ ⟨(blk_cell BK603.out 0).trans rfl, (blk_cell BK603.out 1).trans rfl, (blk_cell BK603.out 2).trans rfl⟩ (fun hHeld => ?_)
      clear hK K
      refine norm_ (a' := ?_) ?_ ?_
      rotate_left
      ·show Act.put _ (some 13) _ = _
       simp only [Act.put, List.setIfInBounds_toArray, List.set_cons_zero, List.set_cons_succ, i64_w, i32_w]
       rfl
      refine pure_ (i := 8) (N := some 14) (v := ?_) (a' := ?_) #[true, true, true, true, true, true, true, true, true, true, false] rfl rfl (any_of HT_.out (by kernel_rfl)) (fun _ _ _ h => h) (Or.inl ⟨by rfl, ?_⟩) ?_ ?_
      rotate_left
      ·intro w'
       go_simp
       with_reducible rfl
      rotate_left
      ·simp only [Act.put, List.setIfInBounds_toArray, List.set_cons_zero, List.set_cons_succ, i64_w, i32_w]
       rfl
      exact norm_ (by first | (simp only [putAll, Act.put, List.setIfInBounds_toArray, List.set_cons_zero, List.set_cons_succ]; done) | (simp only [putAll, Act.put, List.setIfInBounds_toArray, List.set_cons_zero, List.set_cons_succ]; rfl)) (hJ0_3_4_7_9 (v606, .slice Ao16 y608.length co16, v612, .slice Ao15 y614.length co15, gb617) _ ⟨hHeld, (laR (Kd.R_mono HO610.out (fun _ hk => hk.2))), (laR HO616.out), (laK BK603.out), (laK BK604.out), (laK BK617.out), GW617.out, GE617.out, NB603_617.out, NB617_603.out, NB604_617.out, NB617_604.out, (laB HB.out)⟩)
    ·skip
     rintro ⟨v606, v609, v612, v615⟩ w15 ⟨hS_, h0_, h1_, h2_, h3_, h4_⟩
     have n0_ : Aside0 (Kd.R (Kd.int .i64) 3 w15 w.heap.size (fun k_ => some k_ ≠ (v615 : Value).ownBlock) v609 y608) := ⟨h0_⟩
     have n1_ : Aside0 (Kd.R (Kd.int .i64) 3 w15 w.heap.size (fun k_ => some k_ ≠ (v609 : Value).ownBlock) v615 y614) := ⟨h1_⟩
     have n2_ : Aside0 (w15.heap[gb603]? = some (.cells #[.slice A0_0 l0_0.length c0_0, .slice A0_1 l0_1.length c0_1, .slice A0_2 l0_2.length c0_2] 34 (0, 0))) := ⟨h2_⟩
     have n3_ : Aside0 (w15.heap[gb604]? = some (.cells #[.slice none 0 0, .slice none 0 0, .slice none 0 0] 34 (0, 0))) := ⟨h3_⟩
     have n4_ : Aside0 (Below w.heap.size w w15) := ⟨h4_⟩
     clear BK603
     clear BK604
     clear HB
     clear h0_ h1_ h2_ h3_ h4_
     have HO610 := n0_
     have HO616 := n1_
     have BK603 := n2_
     have BK604 := n3_
     have HB := n4_
     clear n0_ n1_ n2_ n3_ n4_
     have hHeld : w15.cell? ⟨gb603, 0, none⟩ = some (.slice A0_0 l0_0.length c0_0) ∧ w15.cell? ⟨gb603, 1, none⟩ = some (.slice A0_1 l0_1.length c0_1) ∧ w15.cell? ⟨gb603, 2, none⟩ = some (.slice A0_2 l0_2.length c0_2) := hS_
     obtain ⟨Ao16, co16, eo16⟩ := Kd.R_slice HO616.out
     (first | subst eo16 | (injection eo16 with f1_ f2_ f3_; have f4_ := f1_.symm; have f5_ := f3_.symm; clear f1_ f2_ f3_; subst f4_; subst f5_))
     obtain ⟨Ao17, co17, eo17⟩ := Kd.R_slice HO610.out
     (first | subst eo17 | (injection eo17 with f1_ f2_ f3_; have f4_ := f1_.symm; have f5_ := f3_.symm; clear f1_ f2_ f3_; subst f4_; subst f5_))
     refine norm_ (a' := ?_) ?_ ?_
     rotate_left
     ·simp only [putAll, Act.put, List.setIfInBounds_toArray, List.set_cons_zero, List.set_cons_succ]
      rfl
     refine one_ (i := 9) (N := some 3) #[true, true, true, true, true, true, true, true, true, true, false] rfl rfl (one_of HT_.out (by kernel_rfl)) (by decide) (fun K hK => ?_)
     refine box_step ?hg (N := 3) ?hd (cs := #[.slice none 0 0, .slice none 0 0, .slice none 0 0]) (t := 34) ?hr ?_; (case hd => rfl); (case hg => rfl); (case hr => first | (go_simp; done) | (go_simp; rfl))
     intro gb617 hg w18 hbox hb
     replace HO610 := Aside0.mk (laRb HO610.out hb)
     replace HO616 := Aside0.mk (laRb HO616.out hb)
     have BK617 := Aside0.mk (hbox)
     have GW617 := Aside0.mk ((by rw [hg]; exact (below_size (laB HB.out)) : w.heap.size ≤ gb617))
     have GE617 := Aside0.mk ((by rw [hg]; exact (below_size (laB HB.out)) : w.heap.size ≤ gb617))
     replace HB := Aside0.mk (below_step (laB HB.out) hb)
     have NB603_617 := Aside0.mk ((by rw [hg]; exact Nat.ne_of_lt (blk_lt (g := gb603) (o := .cells #[.slice A0_0 l0_0.length c0_0, .slice A0_1 l0_1.length c0_1, .slice A0_2 l0_2.length c0_2] 34 (0, 0)) (laK BK603.out)) : gb603 ≠ gb617))
     have NB617_603 := Aside0.mk ((by rw [hg]; exact Nat.ne_of_gt (blk_lt (g := gb603) (o := .cells #[.slice A0_0 l0_0.length c0_0, .slice A0_1 l0_1.length c0_1, .slice A0_2 l0_2.length c0_2] 34 (0, 0)) (laK BK603.out)) : gb617 ≠ gb603))
     replace BK603 := Aside0.mk (laKb BK603.out hb)
     have NB604_617 := Aside0.mk ((by rw [hg]; exact Nat.ne_of_lt (blk_lt (g := gb604) (o := .cells #[.slice none 0 0, .slice none 0 0, .slice none 0 0] 34 (0, 0)) (laK BK604.out)) : gb604 ≠ gb617))
     have NB617_604 := Aside0.mk ((by rw [hg]; exact Nat.ne_of_gt (blk_lt (g := gb604) (o := .cells #[.slice none 0 0, .slice none 0 0, .slice none 0 0] 34 (0, 0)) (laK BK604.out)) : gb617 ≠ gb604))
     replace BK604 := Aside0.mk (laKb BK604.out hb)
     clear hb hbox hg
     refine hK.out _ _ ⟨(blk_cell BK603.out 0).trans rfl, (blk_cell BK603.out 1).trans rfl, (blk_cell BK603.out 2).trans rfl⟩ (fun hHeld => ?_)
     clear hK K
     refine norm_ (a' := ?_) ?_ ?_
     rotate_left
     ·show Act.put _ (some 3) _ = _
      simp only [Act.put, List.setIfInBounds_toArray, List.set_cons_zero, List.set_cons_succ, i64_w, i32_w]
      rfl
     exact norm_ (by first | (simp only [putAll, Act.put, List.setIfInBounds_toArray, List.set_cons_zero, List.set_cons_succ]; done) | (simp only [putAll, Act.put, List.setIfInBounds_toArray, List.set_cons_zero, List.set_cons_succ]; rfl)) (hJ0_3_4_7_9 (v606, .slice Ao17 y608.length co17, v612, .slice Ao16 y614.length co16, gb617) _ ⟨hHeld, (laR HO610.out), (laR HO616.out), (laK BK603.out), (laK BK604.out), (laK BK617.out), GW617.out, GE617.out, NB603_617.out, NB617_603.out, NB604_617.out, NB617_604.out, (laB HB.out)⟩)
   rintro ⟨v606, v609, v612, v615, gb617⟩ w16 ⟨hS_, h0_, h1_, h2_, h3_, h4_, h5_, h6_, h7_, h8_, h9_, h10_, h11_⟩
   have n0_ : Aside0 (Kd.R (Kd.int .i64) 3 w16 w.heap.size (fun k_ => some k_ ≠ (v615 : Value).ownBlock) v609 y608) := ⟨h0_⟩
   have n1_ : Aside0 (Kd.R (Kd.int .i64) 3 w16 w.heap.size (fun k_ => some k_ ≠ (v609 : Value).ownBlock) v615 y614) := ⟨h1_⟩
   have n2_ : Aside0 (w16.heap[gb603]? = some (.cells #[.slice A0_0 l0_0.length c0_0, .slice A0_1 l0_1.length c0_1, .slice A0_2 l0_2.length c0_2] 34 (0, 0))) := ⟨h2_⟩
   have n3_ : Aside0 (w16.heap[gb604]? = some (.cells #[.slice none 0 0, .slice none 0 0, .slice none 0 0] 34 (0, 0))) := ⟨h3_⟩
   have n4_ : Aside0 (w16.heap[gb617]? = some (.cells #[.slice none 0 0, .slice none 0 0, .slice none 0 0] 34 (0, 0))) := ⟨h4_⟩
   have n5_ : Aside0 (w.heap.size ≤ gb617) := ⟨h5_⟩
   have n6_ : Aside0 (w.heap.size ≤ gb617) := ⟨h6_⟩
   have n7_ : Aside0 (gb603 ≠ gb617) := ⟨h7_⟩
   have n8_ : Aside0 (gb617 ≠ gb603) := ⟨h8_⟩
   have n9_ : Aside0 (gb604 ≠ gb617) := ⟨h9_⟩
   have n10_ : Aside0 (gb617 ≠ gb604) := ⟨h10_⟩
   have n11_ : Aside0 (Below w.heap.size w w16) := ⟨h11_⟩
   clear BK603
   clear BK604
   clear HB
   clear h0_ h1_ h2_ h3_ h4_ h5_ h6_ h7_ h8_ h9_ h10_ h11_
   have HO610 := n0_
   have HO616 := n1_
   have BK603 := n2_
   have BK604 := n3_
   have BK617 := n4_
   have GW617 := n5_
   have GE617 := n6_
   have ge617_ := Nonempty.intro GE617.out
   have NB603_617 := n7_
   have NB617_603 := n8_
   have NB604_617 := n9_
   have NB617_604 := n10_
   have HB := n11_
   clear n0_ n1_ n2_ n3_ n4_ n5_ n6_ n7_ n8_ n9_ n10_ n11_
   have hHeld : w16.cell? ⟨gb603, 0, none⟩ = some (.slice A0_0 l0_0.length c0_0) ∧ w16.cell? ⟨gb603, 1, none⟩ = some (.slice A0_1 l0_1.length c0_1) ∧ w16.cell? ⟨gb603, 2, none⟩ = some (.slice A0_2 l0_2.length c0_2) := hS_
   obtain ⟨Ao17, co17, eo17⟩ := Kd.R_slice HO616.out
   (first | subst eo17 | (injection eo17 with f1_ f2_ f3_; have f4_ := f1_.symm; have f5_ := f3_.symm; clear f1_ f2_ f3_; subst f4_; subst f5_))
   obtain ⟨Ao18, co18, eo18⟩ := Kd.R_slice HO610.out
   (first | subst eo18 | (injection eo18 with f1_ f2_ f3_; have f4_ := f1_.symm; have f5_ := f3_.symm; clear f1_ f2_ f3_; subst f4_; subst f5_))
   refine norm_ (a' := ?_) ?_ ?_
   rotate_left
   ·simp only [putAll, Act.put, List.setIfInBounds_toArray, List.set_cons_zero, List.set_cons_succ]
    rfl
   refine one_ (i := 10) (N := none) #[true, true, true, true, true, true, true, true, true, true, true] rfl rfl (one_of HT_.out (by kernel_rfl)) (by decide) (fun K hK => ?_)
   have hs19 : w16.cell? ⟨gb617, 0, none⟩ = some (.slice none 0 0) := (blk_cell BK617.out 0).trans rfl
   have hfs19 := blk_frozen BK617.out 0
   have hns19_0 := NB603_617.out
   have hns19_1 := NB604_617.out
   have hms19_0 := NB617_603.out
   have hms19_1 := NB617_604.out
   have hs20 : w16.cell? ⟨gb617, 1, none⟩ = some (.slice none 0 0) := (blk_cell BK617.out 1).trans rfl
   have hfs20 := blk_frozen BK617.out 1
   have hns20_0 := NB603_617.out
   have hns20_1 := NB604_617.out
   have hms20_0 := NB617_603.out
   have hms20_1 := NB617_604.out
   have hs21 : w16.cell? ⟨gb617, 2, none⟩ = some (.slice none 0 0) := (blk_cell BK617.out 2).trans rfl
   have hfs21 := blk_frozen BK617.out 2
   have hns21_0 := NB603_617.out
   have hns21_1 := NB604_617.out
   have hms21_0 := NB617_603.out
   have hms21_1 := NB617_604.out
   refine skip_ (w1 := ?_) (by rfl) rfl ?_ ?_
   rotate_left
   ·go_simp
    rfl
   refine hK.out _ _ ⟨((cell_far (p := ⟨gb617, _, none⟩) NB603_617.out _).trans (((cell_far (p := ⟨gb617, _, none⟩) NB603_617.out _).trans (((cell_far (p := ⟨gb617, _, none⟩) NB603_617.out _).trans (hHeld.1)))))), ((cell_far (p := ⟨gb617, _, none⟩) NB603_617.out _).trans (((cell_far (p := ⟨gb617, _, none⟩) NB603_617.out _).trans (((cell_far (p := ⟨gb617, _, none⟩) NB603_617.out _).trans (hHeld.2.1)))))), ((cell_far (p := ⟨gb617, _, none⟩) NB603_617.out _).trans (((cell_far (p := ⟨gb617, _, none⟩) NB603_617.out _).trans (((cell_far (p := ⟨gb617, _, none⟩) NB603_617.out _).trans (hHeld.2.2))))))⟩ (fun hHeld => ?_)
   clear hK K
   refine done_ (done_of HT_.out (by kernel_rfl)) ?_
   try go_wp2
   go_loopg [5] k (fun kq v5 w' => ∃ (x5_1 : Int) (x618002_1 : List Int) (u618002 : Value), v5 = .int .i64 x5_1 ∧ Aside0 (laws_swapped.l0 kq 6 x5_1 l0_0 l0_1 l0_2 y608 y614 x618002_1 = some (r1, r2, r3)) ∧ Aside0 (kq ≤ k) ∧ Aside0 (Kd.R (Kd.int .i64) 3 w' w.heap.size (fun k_ => some k_ ≠ ((.slice Ao17 y614.length co17) : Value).ownBlock ∧ some k_ ≠ (u618002 : Value).ownBlock) (.slice Ao18 y608.length co18) y608) ∧ Aside0 (Kd.R (Kd.int .i64) 3 w' w.heap.size (fun k_ => some k_ ≠ ((.slice Ao18 y608.length co18) : Value).ownBlock ∧ some k_ ≠ (u618002 : Value).ownBlock) (.slice Ao17 y614.length co17) y614) ∧ Aside0 (Kd.R (Kd.int .i64) 3 w' w.heap.size (fun k_ => some k_ ≠ ((.slice Ao18 y608.length co18) : Value).ownBlock ∧ some k_ ≠ ((.slice Ao17 y614.length co17) : Value).ownBlock) u618002 x618002_1) ∧ Aside0 (w'.heap[gb603]? = some (.cells #[(.slice A0_0 l0_0.length c0_0), (.slice A0_1 l0_1.length c0_1), (.slice A0_2 l0_2.length c0_2)] 34 (0, 0))) ∧ Aside0 (w'.heap[gb604]? = some (.cells #[(.slice none 0 0), (.slice none 0 0), (.slice none 0 0)] 34 (0, 0))) ∧ Aside0 (w'.heap[gb617]? = some (.cells #[(.slice Ao18 y608.length co18), (.slice Ao17 y614.length co17), u618002] 34 (0, 0))) ∧ Aside0 (Below w.heap.size w w'))
   case atStart => exact ⟨(0), (([] : List Int)), (.slice none 0 0), (by first | rfl | (simp; done) | (simp [*]; done)), H', ⟨Nat.le_refl _⟩, ⟨laR (Kd.R_mono (Kd.R_far (p := ⟨gb617, 2, none⟩) (Kd.R_far (p := ⟨gb617, 1, none⟩) (Kd.R_far (p := ⟨gb617, 0, none⟩) (Kd.R_types HO610.out BK617.out (by decide)) (fun _ hk => hk.2) (.slice Ao18 y608.length co18)) (fun _ hk => hk.2) (.slice Ao17 y614.length co17)) (fun _ hk => hk.2) (.slice none 0 0)) (fun _ hk => ⟨hk.1, (by simp [Value.ownBlock])⟩))⟩, ⟨laR (Kd.R_mono (Kd.R_far (p := ⟨gb617, 2, none⟩) (Kd.R_far (p := ⟨gb617, 1, none⟩) (Kd.R_far (p := ⟨gb617, 0, none⟩) (Kd.R_types HO616.out BK617.out (by decide)) (fun _ hk => hk.2) (.slice Ao18 y608.length co18)) (fun _ hk => hk.2) (.slice Ao17 y614.length co17)) (fun _ hk => hk.2) (.slice none 0 0)) (fun _ hk => ⟨hk.1, (by simp [Value.ownBlock])⟩))⟩, ⟨by first | exact Kd.R_nil _ _ _ _ _ | exact Kd.N_nil _ _ _ _ _ | exact Kd.V_nil _ _ _ _ _ | exact Kd.Q_nil _ _ _ _ _ | exact Kd.S_nil _ _ _ _ _⟩, ⟨by (with_reducible repeat (first | refine blk_drewN ?_ _ | refine blk_drew ?_ | refine blk_alloc ?_ _)); refine blk_far ?_ NB603_617.out _; (with_reducible repeat (first | refine blk_drewN ?_ _ | refine blk_drew ?_ | refine blk_alloc ?_ _)); refine blk_far ?_ NB603_617.out _; (with_reducible repeat (first | refine blk_drewN ?_ _ | refine blk_drew ?_ | refine blk_alloc ?_ _)); refine blk_far ?_ NB603_617.out _; (with_reducible repeat (first | refine blk_drewN ?_ _ | refine blk_drew ?_ | refine blk_alloc ?_ _)); exact BK603.out⟩, ⟨by (with_reducible repeat (first | refine blk_drewN ?_ _ | refine blk_drew ?_ | refine blk_alloc ?_ _)); refine blk_far ?_ NB604_617.out _; (with_reducible repeat (first | refine blk_drewN ?_ _ | refine blk_drew ?_ | refine blk_alloc ?_ _)); refine blk_far ?_ NB604_617.out _; (with_reducible repeat (first | refine blk_drewN ?_ _ | refine blk_drew ?_ | refine blk_alloc ?_ _)); refine blk_far ?_ NB604_617.out _; (with_reducible repeat (first | refine blk_drewN ?_ _ | refine blk_drew ?_ | refine blk_alloc ?_ _)); exact BK604.out⟩, ⟨by (with_reducible repeat (first | refine blk_drewN ?_ _ | refine blk_drew ?_ | refine blk_alloc ?_ _)); refine blk_put (cs := #[.slice Ao18 y608.length co18, .slice Ao17 y614.length co17, .slice none 0 0]) ?_ 2 _ rfl; (with_reducible repeat (first | refine blk_drewN ?_ _ | refine blk_drew ?_ | refine blk_alloc ?_ _)); refine blk_put (cs := #[.slice Ao18 y608.length co18, .slice none 0 0, .slice none 0 0]) ?_ 1 _ rfl; (with_reducible repeat (first | refine blk_drewN ?_ _ | refine blk_drew ?_ | refine blk_alloc ?_ _)); refine blk_put (cs := #[.slice none 0 0, .slice none 0 0, .slice none 0 0]) ?_ 0 _ rfl; (with_reducible repeat (first | refine blk_drewN ?_ _ | refine blk_drew ?_ | refine blk_alloc ?_ _)); exact BK617.out⟩, ⟨laB HB.out⟩⟩
   case round =>
    clear H'
    try clear c2
    try clear p2
    try clear c3
    obtain ⟨x5_1, x618002_1, u618002, rfl, HA, HK1, HO_618000, HO_618001, HO_618002, BK603, BK604, BK617, HB⟩ := hrel
    cases gk with
    | zero => exact absurd HA.out (by simp [laws_swapped.l0])
    | succ k1 =>
     have H := HA.out
     clear HA
     simp only [laws_swapped.l0] at H
     by_cases c22 : x5_1 < (wrap64 (6 * 6))
     ·rw [if_pos c22] at H
      have c22b0 : decide (x5_1 < (wrap64 (6 * 6))) = true := decide_eq_true c22
      try (have e_ : wrap64 (6 * 6) = 36 := (by unfold wrap64; omega); rw [e_] at c22b0; clear e_)
      clear c22
      by_cases c23 : (l0_2.length : Int) = (wrap64 (6 * 6))
      ·rw [if_pos c23] at H
       have c23b0 : ((l0_2.length : Int) == (wrap64 (6 * 6))) = true := beq_iff_eq.mpr c23
       try (have e_ : wrap64 (6 * 6) = 36 := (by unfold wrap64; omega); rw [e_] at c23b0; clear e_)
       have c23b1 : ((l0_2.length : Int) != (wrap64 (6 * 6))) = false := bne_eq_false_iff_eq.mpr c23
       try (have e_ : wrap64 (6 * 6) = 36 := (by unfold wrap64; omega); rw [e_] at c23b1; clear e_)
       clear c23
       by_cases c24 : (6 : Int) = 0
       ·rw [if_pos c24] at H
        exact absurd H (by simp)
       ·rw [if_neg c24] at H
        have c24b0 : ((6 : Int) == 0) = false := beq_eq_false_iff_ne.mpr c24
        have c24b1 : ((6 : Int) != 0) = true := bne_iff_ne.mpr c24
        obtain ⟨ji25, hji25⟩ : ∃ j_ : Int, (wrap64 ((wrap64 ((Int.tmod x5_1 6) * 6)) + (wrap64 (Int.tdiv x5_1 6)))) = j_ := ⟨_, rfl⟩
        replace H : (if 0 ≤ (ji25) then (if (ji25) < (l0_2.length : Int) then (if x618002_1.length < 17592186044416 then (laws_swapped.l0 k1 6 (wrap64 (x5_1 + 1)) l0_0 l0_1 l0_2 y608 y614 (x618002_1 ++ [rd l0_2 (ji25)])) else (none)) else (none)) else (none)) = some (r1, r2, r3) := by first | (rw [hji25] at H; exact H) | (simp only [hji25] at H ⊢; exact H)
        have hji25w : (IntKind.i64.wrap ((wrap64 ((Int.tmod x5_1 6) * 6)) + (wrap64 (Int.tdiv x5_1 6)))) = ji25 := (i64_w _).trans hji25
        by_cases c26 : 0 ≤ (ji25)
        ·rw [if_pos c26] at H
         have c26b0 : decide (0 ≤ (ji25)) = true := decide_eq_true c26
         clear c26
         by_cases c27 : (ji25) < (l0_2.length : Int)
         ·rw [if_pos c27] at H
          have c27b0 : decide ((ji25) < (l0_2.length : Int)) = true := decide_eq_true c27
          clear c27
          by_cases c28 : x618002_1.length < 17592186044416
          ·rw [if_pos c28] at H
           have LMc28 := Aside0.mk c28
           clear c28
           obtain ⟨y619, hy619⟩ : ∃ y_ : List Int, y_ = (x618002_1 ++ [rd l0_2 (ji25)]) := ⟨_, rfl⟩
           replace H : (laws_swapped.l0 k1 6 (wrap64 (x5_1 + 1)) l0_0 l0_1 l0_2 y608 y614 y619) = some (r1, r2, r3) := by first | (rw [hy619]; with_reducible exact H) | (have H2_ := (Option.bind_some _ _).symm.trans H; rw [hy619]; with_reducible exact H2_) | (have H2_ := (Option.bind_some _ _).symm.trans H; with_reducible exact H2_) | with_reducible exact H | (rw [hy619]; exact H) | exact H
           have Ny619 := Aside0.mk hy619
           clear hy619
           have H' := Aside0.mk H
           clear H
           have hnb29 := NB603_604.out
           have hnc29 := NB604_603.out
           have hnb30 := NB603_617.out
           have hnc30 := NB617_603.out
           have hcz31_0 : wr.cell? ⟨gb603, 0, none⟩ = some (.slice A0_0 l0_0.length c0_0) := (blk_cell BK603.out 0).trans rfl
           have hcz31_1 : wr.cell? ⟨gb603, 1, none⟩ = some (.slice A0_1 l0_1.length c0_1) := (blk_cell BK603.out 1).trans rfl
           have hcz31_2 : wr.cell? ⟨gb603, 2, none⟩ = some (.slice A0_2 l0_2.length c0_2) := (blk_cell BK603.out 2).trans rfl
           have hfz31_0 := blk_frozen BK603.out 0
           have hfz31_1 := blk_frozen BK603.out 1
           have hfz31_2 := blk_frozen BK603.out 2
           try go_wp2
           replace HO_618000 := Aside0.mk (Kd.R_drew HO_618000.out)
           replace HO_618001 := Aside0.mk (Kd.R_drew HO_618001.out)
           replace HO_618002 := Aside0.mk (Kd.R_drew HO_618002.out)
           replace BK603 := Aside0.mk (blk_drew BK603.out)
           replace BK604 := Aside0.mk (blk_drew BK604.out)
           replace BK617 := Aside0.mk (blk_drew BK617.out)
           replace HB := Aside0.mk (below_drew1 HB.out)
           have p618 : 0 ≤ ((ji25) : Int) := of_decide_eq_true (by first | (with_reducible assumption) | assumption)
           have q618 : (ji25) < (l0_2.length : Int) := of_decide_eq_true (by first | (with_reducible assumption) | assumption)
           obtain ⟨ad618, e618, hx618_0⟩ := Kd.at_int HR0_2.out (ji25) p618 q618
           have hw618_0 := hx618_0
           cases e618
           replace hx618_0 := (HB.out.cell (World.block_lt_of_cell? w _ hx618_0)).trans hx618_0
           replace p618 := eq_true p618
           replace q618 := eq_true q618
           refine start_ (n := 19) (S := fun w' => w'.cell? ⟨gb617, 0, none⟩ = some (.slice Ao18 y608.length co18) ∧ w'.cell? ⟨gb617, 1, none⟩ = some (.slice Ao17 y614.length co17) ∧ w'.cell? ⟨gb617, 2, none⟩ = some (u618002) ∧ w'.cell? ⟨gb603, 0, none⟩ = some (.slice A0_0 l0_0.length c0_0) ∧ w'.cell? ⟨gb603, 1, none⟩ = some (.slice A0_1 l0_1.length c0_1) ∧ w'.cell? ⟨gb603, 2, none⟩ = some (.slice (some ad618) l0_2.length c0_2) ∧ w'.cell? (ad618.add ((ji25)).toNat) = some (.int .i64 (rd l0_2 (ji25)))) (ds := [18]) #[false, false, false, false, false, false, false, false, false, false, false, false, false, false, false, false, false, false, false] (by kernel_rfl) rfl rfl ⟨(blk_cell BK617.out 0).trans rfl, (blk_cell BK617.out 1).trans rfl, (blk_cell BK617.out 2).trans rfl, (blk_cell BK603.out 0).trans rfl, (blk_cell BK603.out 1).trans rfl, (blk_cell BK603.out 2).trans rfl, ((HB.out.cell (World.block_lt_of_cell? w _ hw618_0)).trans hw618_0)⟩ (fun hHeld => ?_); refine with_tabW laws_swapped.tab6 laws_swapped.bits6 (fun HT_ HW_ => ?_)
           generalize wr.drew = w32 at HO_618000 HO_618001 HO_618002 BK603 BK604 BK617 HB hx618_0 hHeld ⊢
           refine pure_ (i := 0) (N := some 31) (v := ?_) (a' := ?_) #[true, false, false, false, false, false, false, false, false, false, false, false, false, false, false, false, false, false, false] rfl rfl (any_of HT_.out (by kernel_rfl)) (fun _ _ _ h => h) (Or.inl ⟨by rfl, ?_⟩) ?_ ?_
           rotate_left
           ·intro w'
            go_simp
            with_reducible rfl
           rotate_left
           ·simp only [Act.put, List.setIfInBounds_toArray, List.set_cons_zero, List.set_cons_succ, i64_w, i32_w]
            rfl
           refine pure_ (i := 2) (N := some 33) (v := ?_) (a' := ?_) #[true, false, true, false, false, false, false, false, false, false, false, false, false, false, false, false, false, false, false] rfl rfl (any_of HT_.out (by kernel_rfl)) (fun _ _ _ h => h) (Or.inl ⟨by rfl, ?_⟩) ?_ ?_
           rotate_left
           ·intro w'
            go_simp
            with_reducible rfl
           rotate_left
           ·simp only [Act.put, List.setIfInBounds_toArray, List.set_cons_zero, List.set_cons_succ, i64_w, i32_w]
            rfl
           refine pure_ (i := 4) (N := some 35) (v := ?_) (a' := ?_) #[true, false, true, false, true, false, false, false, false, false, false, false, false, false, false, false, false, false, false] rfl rfl (any_of HT_.out (by kernel_rfl)) (fun _ _ _ h => h) (Or.inl ⟨by rfl, ?_⟩) ?_ ?_
           rotate_left
           ·intro w'
            go_simp
            with_reducible rfl
           rotate_left
           ·simp only [Act.put, List.setIfInBounds_toArray, List.set_cons_zero, List.set_cons_succ, i64_w, i32_w]
            rfl
           refine pure_ (i := 5) (N := some 36) (v := ?_) (a' := ?_) #[true, false, true, false, true, true, false, false, false, false, false, false, false, false, false, false, false, false, false] rfl rfl (any_of HT_.out (by kernel_rfl)) (fun _ _ _ h => h) (Or.inl ⟨by rfl, ?_⟩) ?_ ?_
           rotate_left
           ·intro w'
            go_simp
            with_reducible rfl
           rotate_left
           ·simp only [Act.put, List.setIfInBounds_toArray, List.set_cons_zero, List.set_cons_succ, i64_w, i32_w]
            rfl
           refine pure_ (i := 6) (N := some 37) (v := ?_) (a' := ?_) #[true, false, true, false, true, true, true, false, false, false, false, false, false, false, false, false, false, false, false] rfl rfl (any_of HT_.out (by kernel_rfl)) (fun _ _ _ h => h) (Or.inl ⟨by rfl, ?_⟩) ?_ ?_
           rotate_left
           ·intro w'
            go_simp
            with_reducible rfl
           rotate_left
           ·simp only [Act.put, List.setIfInBounds_toArray, List.set_cons_zero, List.set_cons_succ, i64_w, i32_w]
            rfl
           refine pure_ (i := 7) (N := some 38) (v := ?_) (a' := ?_) #[true, false, true, false, true, true, true, true, false, false, false, false, false, false, false, false, false, false, false] rfl rfl (any_of HT_.out (by kernel_rfl)) (fun _ _ _ h => h) (Or.inl ⟨by rfl, ?_⟩) ?_ ?_
           rotate_left
           ·intro w'
            go_simp
            with_reducible rfl
           rotate_left
           ·simp only [Act.put, List.setIfInBounds_toArray, List.set_cons_zero, List.set_cons_succ, i64_w, i32_w]
            rfl
           refine pure_ (i := 8) (N := some 39) (v := ?_) (a' := ?_) #[true, false, true, false, true, true, true, true, true, false, false, false, false, false, false, false, false, false, false] rfl rfl (any_of HT_.out (by kernel_rfl)) (fun _ _ _ h => h) (Or.inl ⟨by rfl, ?_⟩) ?_ ?_
           rotate_left
           ·intro w'
            go_simp
            with_reducible rfl
           rotate_left
           ·simp only [Act.put, List.setIfInBounds_toArray, List.set_cons_zero, List.set_cons_succ, i64_w, i32_w]
            rfl
           refine pure_ (i := 9) (N := some 40) (v := ?_) (a' := ?_) #[true, false, true, false, true, true, true, true, true, true, false, false, false, false, false, false, false, false, false] rfl rfl (any_of HT_.out (by kernel_rfl)) (fun _ _ _ h => h) (Or.inl ⟨by rfl, ?_⟩) ?_ ?_
           rotate_left
           ·intro w'
            go_simp
            with_reducible rfl
           rotate_left
           ·simp only [Act.put, List.setIfInBounds_toArray, List.set_cons_zero, List.set_cons_succ, i64_w, i32_w]
            rfl
           refine pure_ (i := 10) (N := some 41) (v := ?_) (a' := ?_) #[true, false, true, false, true, true, true, true, true, true, true, false, false, false, false, false, false, false, false] rfl rfl (any_of HT_.out (by kernel_rfl)) (fun _ _ _ h => h) (Or.inl ⟨by rfl, ?_⟩) ?_ ?_
           rotate_left
           ·intro w'
            go_simp
            with_reducible rfl
           rotate_left
           ·simp only [Act.put, List.setIfInBounds_toArray, List.set_cons_zero, List.set_cons_succ, i64_w, i32_w]
            rfl
           refine pure_ (i := 11) (N := some 42) (v := ?_) (a' := ?_) #[true, false, true, false, true, true, true, true, true, true, true, true, false, false, false, false, false, false, false] rfl rfl (any_of HT_.out (by kernel_rfl)) (fun _ _ _ h => h) (Or.inl ⟨by rfl, ?_⟩) ?_ ?_
           rotate_left
           ·intro w'
            go_simp
            with_reducible rfl
           rotate_left
           ·simp only [Act.put, List.setIfInBounds_toArray, List.set_cons_zero, List.set_cons_succ, i64_w, i32_w]
            rfl
           refine pure_ (i := 12) (N := some 43) (v := ?_) (a' := ?_) #[true, false, true, false, true, true, true, true, true, true, true, true, true, false, false, false, false, false, false] rfl rfl (any_of HT_.out (by kernel_rfl)) (fun _ _ _ h => h) (Or.inl ⟨by rfl, ?_⟩) ?_ ?_
           rotate_left
           ·intro w'
            go_simp
            with_reducible rfl
           rotate_left
           ·simp only [Act.put, List.setIfInBounds_toArray, List.set_cons_zero, List.set_cons_succ, i64_w, i32_w]
            rfl
           refine take_ (i := 1) (N := some 32) (v := ?_) (a' := ?_) #[true, true, true, false, true, true, true, true, true, true, true, true, true, false, false, false, false, false, false] rfl rfl (take_ofW HT_.out HW_.out (by kernel_rfl)) (fun _ _ _ h => h) (Or.inl ⟨by rfl, ?_⟩) hHeld ?_ ?_
           rotate_left
           ·rintro w' ⟨s0, s1, s2, s3, s4, s5, s6⟩
            go_simp
            with_reducible rfl
           rotate_left
           ·simp only [Act.put, List.setIfInBounds_toArray, List.set_cons_zero, List.set_cons_succ, i64_w, i32_w]
            rfl
           refine take_ (i := 3) (N := some 34) (v := ?_) (a' := ?_) #[true, true, true, true, true, true, true, true, true, true, true, true, true, false, false, false, false, false, false] rfl rfl (take_ofW HT_.out HW_.out (by kernel_rfl)) (fun _ _ _ h => h) (Or.inl ⟨by rfl, ?_⟩) hHeld ?_ ?_
           rotate_left
           ·rintro w' ⟨s0, s1, s2, s3, s4, s5, s6⟩
            go_simp
            with_reducible rfl
           rotate_left
           ·simp only [Act.put, List.setIfInBounds_toArray, List.set_cons_zero, List.set_cons_succ, i64_w, i32_w]
            rfl
           refine pure_ (i := 13) (N := some 44) (v := ?_) (a' := ?_) #[true, true, true, true, true, true, true, true, true, true, true, true, true, true, false, false, false, false, false] rfl rfl (any_of HT_.out (by kernel_rfl)) (fun _ _ _ h => h) (Or.inl ⟨by rfl, ?_⟩) ?_ ?_
           rotate_left
           ·intro w'
            go_simp
            with_reducible rfl
           rotate_left
           ·simp only [Act.put, List.setIfInBounds_toArray, List.set_cons_zero, List.set_cons_succ, i64_w, i32_w]
            rfl
           refine take_ (i := 14) (N := some 45) (v := ?_) (a' := ?_) #[true, true, true, true, true, true, true, true, true, true, true, true, true, true, true, false, false, false, false] rfl rfl (take_ofW HT_.out HW_.out (by kernel_rfl)) (fun _ _ _ h => h) (Or.inl ⟨by rfl, ?_⟩) hHeld ?_ ?_
           rotate_left
           ·rintro w' ⟨s0, s1, s2, s3, s4, s5, s6⟩
            go_simp
            with_reducible rfl
           rotate_left
           ·simp only [Act.put, List.setIfInBounds_toArray, List.set_cons_zero, List.set_cons_succ, i64_w, i32_w]
            rfl
           refine one_ (i := 15) (N := some 46) #[true, true, true, true, true, true, true, true, true, true, true, true, true, true, true, true, false, false, false] rfl rfl (one_of HT_.out (by kernel_rfl)) (by decide) (fun K hK => ?_)
           refine value_ (w1 := ?_) (v := ?_) (by rfl) rfl ?_ ?_
           rotate_left 2
           ·go_simp
            constructor
            ·rfl
            ·rfl
           refine hK.out _ _ ⟨(blk_cell (blk_alloc BK617.out _) 0).trans rfl, (blk_cell (blk_alloc BK617.out _) 1).trans rfl, (blk_cell (blk_alloc BK617.out _) 2).trans rfl, (blk_cell (blk_alloc BK603.out _) 0).trans rfl, (blk_cell (blk_alloc BK603.out _) 1).trans rfl, (blk_cell (blk_alloc BK603.out _) 2).trans rfl, (World.cell?_alloc_lt _ _ _ (World.block_lt_of_cell? _ _ (((HB.out.cell (World.block_lt_of_cell? w _ hw618_0)).trans hw618_0)))).trans (((HB.out.cell (World.block_lt_of_cell? w _ hw618_0)).trans hw618_0))⟩ (fun hHeld => ?_)
           clear hK K
           refine norm_ (a' := ?_) ?_ ?_
           rotate_left
           ·show Act.put _ (some 46) _ = _
            simp only [Act.put, List.setIfInBounds_toArray, List.set_cons_zero, List.set_cons_succ, i64_w, i32_w]
            rfl
           refine one_ (i := 16) (N := some 47) #[true, true, true, true, true, true, true, true, true, true, true, true, true, true, true, true, true, false, false] rfl rfl (one_of HT_.out (by kernel_rfl)) (by decide) (fun K hK => ?_)
           refine Kd.R_append_step (Kd.int .i64) (w0 := w) w.heap.size (by rfl) (.tmp 32) (.tmp 46) 26 3 (.int .i64 0) 8 rfl Try.underlying26 info3 rfl (by decide) (by omega) u618002 x618002_1 (rd l0_2 (ji25)) [.int .i64 (rd l0_2 (ji25))] (fun k_ => some k_ ≠ (.slice Ao18 y608.length co18 : Value).ownBlock ∧ some k_ ≠ (.slice Ao17 y614.length co17 : Value).ownBlock) (fun _ => False) rfl rfl ?aP (fun _ hk => hk.elim) ?aF ?aO ?aB ?aS ?aL ?_
           (case aP => exact rfl)
           (case aB => exact (laB HB.out))
           (case aF => exact (fun k_ hk => ⟨Kd.fresh' (Kd.R_lt (laR HO_618000.out)) k_ hk, Kd.fresh' (Kd.R_lt (laR HO_618001.out)) k_ hk⟩))
           (case aO => exact (laR HO_618002.out))
           (case aS => exact (below_size (laB HB.out)))
           (case aL => have := LMc28.out; omega)
           intro v620 w33 ho hb hg hat
           rw [← Ny619.out] at ho
           have n0_ := Aside0.mk (Kd.R_after (ok := (fun k_ => some k_ ≠ (.slice Ao17 y614.length co17 : Value).ownBlock)) (laR HO_618000.out) hg hat)
           have n1_ := Aside0.mk (Kd.R_after (ok := (fun k_ => some k_ ≠ (.slice Ao18 y608.length co18 : Value).ownBlock)) (laR HO_618001.out) hg hat)
           have n2_ := Aside0.mk (blk_grown (g := gb603) (o := .cells #[.slice A0_0 l0_0.length c0_0, .slice A0_1 l0_1.length c0_1, .slice (some ad618) l0_2.length c0_2] 34 (0, 0)) (laK BK603.out) hg (Kd.R_ne HO_618002.out BK603.out (by decide)))
           have n3_ := Aside0.mk (blk_grown (g := gb604) (o := .cells #[.slice none 0 0, .slice none 0 0, .slice none 0 0] 34 (0, 0)) (laK BK604.out) hg (Kd.R_ne HO_618002.out BK604.out (by decide)))
           have n4_ := Aside0.mk (blk_grown (g := gb617) (o := .cells #[.slice Ao18 y608.length co18, .slice Ao17 y614.length co17, u618002] 34 (0, 0)) (laK BK617.out) hg (Kd.R_ne HO_618002.out BK617.out (by decide)))
           have n5_ := Aside0.mk (hb)
           have n6_ := Aside0.mk (ho)
           clear HO_618000
           clear HO_618001
           clear BK603
           clear BK604
           clear BK617
           clear HB
           clear HO_618002
           have HO_618000 := n0_
           have HO_618001 := n1_
           have BK603 := n2_
           have BK604 := n3_
           have BK617 := n4_
           have HB := n5_
           have HO621 := n6_
           clear n0_ n1_ n2_ n3_ n4_ n5_ n6_
           clear ho hb hg hat
           obtain ⟨Ao34, co34, eo34⟩ := Kd.R_slice HO621.out
           (first | subst eo34 | (injection eo34 with f1_ f2_ f3_; have f4_ := f1_.symm; have f5_ := f3_.symm; clear f1_ f2_ f3_; subst f4_; subst f5_))
           refine hK.out _ _ ⟨(blk_cell BK617.out 0).trans rfl, (blk_cell BK617.out 1).trans rfl, (blk_cell BK617.out 2).trans rfl, (blk_cell BK603.out 0).trans rfl, (blk_cell BK603.out 1).trans rfl, (blk_cell BK603.out 2).trans rfl, ((HB.out.cell (World.block_lt_of_cell? w _ hw618_0)).trans hw618_0)⟩ (fun hHeld => ?_)
           clear hK K
           refine norm_ (a' := ?_) ?_ ?_
           rotate_left
           ·show Act.put _ (some 47) _ = _
            simp only [Act.put, List.setIfInBounds_toArray, List.set_cons_zero, List.set_cons_succ, i64_w, i32_w]
            rfl
           refine pure_ (i := 17) (N := some 48) (v := ?_) (a' := ?_) #[true, true, true, true, true, true, true, true, true, true, true, true, true, true, true, true, true, true, false] rfl rfl (any_of HT_.out (by kernel_rfl)) (fun _ _ _ h => h) (Or.inl ⟨by rfl, ?_⟩) ?_ ?_
           rotate_left
           ·intro w'
            go_simp
            with_reducible rfl
           rotate_left
           ·simp only [Act.put, List.setIfInBounds_toArray, List.set_cons_zero, List.set_cons_succ, i64_w, i32_w]
            rfl
           refine last_ (i := 18) (N := none) #[true, true, true, true, true, true, true, true, true, true, true, true, true, true, true, true, true, true, true] rfl rfl (one_of HT_.out (by kernel_rfl)) (by decide) (fun K hK => ?_)
           have hs35 : w33.cell? ⟨gb617, 2, none⟩ = some (u618002) := (blk_cell BK617.out 2).trans rfl
           have hfs35 := blk_frozen BK617.out 2
           have hns35_0 := NB603_617.out
           have hns35_1 := NB604_617.out
           have hms35_0 := NB617_603.out
           have hms35_1 := NB617_604.out
           refine skip_ (w1 := ?_) (by rfl) rfl ?_ ?_
           rotate_left
           ·go_simp
            rfl
           refine hK.out _ _ ?_
           clear hK K
           refine done_ (done_of HT_.out (by kernel_rfl)) ?_
           try go_wp2
           go_roundg k1
           case measure => have := HK1.out; omega
           case rel => exact ⟨(wrap64 (x5_1 + 1)), (y619), (.slice Ao34 y619.length co34), (by first | rfl | (simp; done) | (simp [*]; done)), H', ⟨by have := HK1.out; omega⟩, ⟨laR (Kd.R_mono (Kd.R_far (p := ⟨gb617, 2, none⟩) (Kd.R_types HO_618000.out BK617.out (by decide)) (fun _ hk => hk.2) (.slice Ao34 y619.length co34)) (fun _ hk => ⟨hk.1.1, hk.1.2⟩))⟩, ⟨laR (Kd.R_mono (Kd.R_far (p := ⟨gb617, 2, none⟩) (Kd.R_types HO_618001.out BK617.out (by decide)) (fun _ hk => hk.2) (.slice Ao34 y619.length co34)) (fun _ hk => ⟨hk.1.1, hk.1.2⟩))⟩, ⟨laR (Kd.R_mono (Kd.R_far (p := ⟨gb617, 2, none⟩) (Kd.R_types HO621.out BK617.out (by decide)) (fun _ hk => hk.2) (.slice Ao34 y619.length co34)) (fun _ hk => ⟨hk.1.1, hk.1.2⟩))⟩, ⟨by (with_reducible repeat (first | refine blk_drewN ?_ _ | refine blk_drew ?_ | refine blk_alloc ?_ _)); refine blk_far ?_ NB603_617.out _; (with_reducible repeat (first | refine blk_drewN ?_ _ | refine blk_drew ?_ | refine blk_alloc ?_ _)); exact BK603.out⟩, ⟨by (with_reducible repeat (first | refine blk_drewN ?_ _ | refine blk_drew ?_ | refine blk_alloc ?_ _)); refine blk_far ?_ NB604_617.out _; (with_reducible repeat (first | refine blk_drewN ?_ _ | refine blk_drew ?_ | refine blk_alloc ?_ _)); exact BK604.out⟩, ⟨by (with_reducible repeat (first | refine blk_drewN ?_ _ | refine blk_drew ?_ | refine blk_alloc ?_ _)); refine blk_put (cs := #[.slice Ao18 y608.length co18, .slice Ao17 y614.length co17, u618002]) ?_ 2 _ rfl; (with_reducible repeat (first | refine blk_drewN ?_ _ | refine blk_drew ?_ | refine blk_alloc ?_ _)); exact BK617.out⟩, ⟨laB HB.out⟩⟩
          ·rw [if_neg c28] at H
           exact absurd H (by simp)
         ·rw [if_neg c27] at H
          exact absurd H (by simp)
        ·rw [if_neg c26] at H
         exact absurd H (by simp)
      ·rw [if_neg c23] at H
       have c23b0 : ((l0_2.length : Int) == (wrap64 (6 * 6))) = false := beq_eq_false_iff_ne.mpr c23
       try (have e_ : wrap64 (6 * 6) = 36 := (by unfold wrap64; omega); rw [e_] at c23b0; clear e_)
       have c23b1 : ((l0_2.length : Int) != (wrap64 (6 * 6))) = true := bne_iff_ne.mpr c23
       try (have e_ : wrap64 (6 * 6) = 36 := (by unfold wrap64; omega); rw [e_] at c23b1; clear e_)
       simp only [Option.some.injEq, Prod.mk.injEq] at H
       obtain ⟨rfl, rfl, rfl⟩ := H
       have hnb36 := NB603_604.out
       have hnc36 := NB604_603.out
       have hnb37 := NB603_617.out
       have hnc37 := NB617_603.out
       have hcz38_0 : wr.cell? ⟨gb603, 0, none⟩ = some (.slice A0_0 l0_0.length c0_0) := (blk_cell BK603.out 0).trans rfl
       have hcz38_1 : wr.cell? ⟨gb603, 1, none⟩ = some (.slice A0_1 l0_1.length c0_1) := (blk_cell BK603.out 1).trans rfl
       have hcz38_2 : wr.cell? ⟨gb603, 2, none⟩ = some (.slice A0_2 l0_2.length c0_2) := (blk_cell BK603.out 2).trans rfl
       have hfz38_0 := blk_frozen BK603.out 0
       have hfz38_1 := blk_frozen BK603.out 1
       have hfz38_2 := blk_frozen BK603.out 2
       have hnb39 := NB617_604.out
       have hnc39 := NB604_617.out
       have hcz40_0 : wr.cell? ⟨gb617, 0, none⟩ = some (.slice Ao18 y608.length co18) := (blk_cell BK617.out 0).trans rfl
       have hcz40_1 : wr.cell? ⟨gb617, 1, none⟩ = some (.slice Ao17 y614.length co17) := (blk_cell BK617.out 1).trans rfl
       have hcz40_2 : wr.cell? ⟨gb617, 2, none⟩ = some (u618002) := (blk_cell BK617.out 2).trans rfl
       have hfz40_0 := blk_frozen BK617.out 0
       have hfz40_1 := blk_frozen BK617.out 1
       have hfz40_2 := blk_frozen BK617.out 2
       have hcz41_0 : wr.cell? ⟨gb604, 0, none⟩ = some (.slice none 0 0) := (blk_cell BK604.out 0).trans rfl
       have hcz41_1 : wr.cell? ⟨gb604, 1, none⟩ = some (.slice none 0 0) := (blk_cell BK604.out 1).trans rfl
       have hcz41_2 : wr.cell? ⟨gb604, 2, none⟩ = some (.slice none 0 0) := (blk_cell BK604.out 2).trans rfl
       have hfz41_0 := blk_frozen BK604.out 0
       have hfz41_1 := blk_frozen BK604.out 1
       have hfz41_2 := blk_frozen BK604.out 2
       obtain ⟨Ao42, co42, eo42⟩ := Kd.R_slice HO_618002.out
       subst eo42
       go_wp2
       refine bodyPost_ret (results_cell_row rfl _ _ gb604 34 #[.slice Ao18 y608.length co18, .slice Ao17 y614.length co17, .slice Ao42 x618002_1.length co42] (0, 0) _ rfl (by (with_reducible repeat (first | refine blk_drewN ?_ _ | refine blk_drew ?_ | refine blk_alloc ?_ _)); refine blk_put (cs := #[.slice Ao18 y608.length co18, .slice Ao17 y614.length co17, .slice none 0 0]) ?_ 2 _ rfl; (with_reducible repeat (first | refine blk_drewN ?_ _ | refine blk_drew ?_ | refine blk_alloc ?_ _)); refine blk_put (cs := #[.slice Ao18 y608.length co18, .slice none 0 0, .slice none 0 0]) ?_ 1 _ rfl; (with_reducible repeat (first | refine blk_drewN ?_ _ | refine blk_drew ?_ | refine blk_alloc ?_ _)); refine blk_put (cs := #[.slice none 0 0, .slice none 0 0, .slice none 0 0]) ?_ 0 _ rfl; (with_reducible repeat (first | refine blk_drewN ?_ _ | refine blk_drew ?_ | refine blk_alloc ?_ _)); exact BK604.out) Try.underlying34 rfl (by kernel_rfl)) rfl ?_
       exact ⟨_, _, _, by first | rfl | (simp [errW_none, errW_some] <;> rfl) | (simp [*, errW_none, errW_some] <;> rfl), by (with_reducible repeat (first | apply Kd.R_alloc | apply Kd.R_drewN | apply Kd.R_drew)); exact Kd.R_mono (Kd.R_far (p := ⟨gb604, 2, none⟩) (Kd.R_far (p := ⟨gb604, 1, none⟩) (Kd.R_far (p := ⟨gb604, 0, none⟩) (Kd.R_types HO_618000.out BK604.out (by decide)) (fun _ hk => hk.2) (.slice Ao18 y608.length co18)) (fun _ hk => hk.2) (.slice Ao17 y614.length co17)) (fun _ hk => hk.2) (.slice Ao42 x618002_1.length co42)) (fun _ hk => ⟨hk.1.1, hk.1.2⟩), by (with_reducible repeat (first | apply Kd.R_alloc | apply Kd.R_drewN | apply Kd.R_drew)); exact Kd.R_mono (Kd.R_far (p := ⟨gb604, 2, none⟩) (Kd.R_far (p := ⟨gb604, 1, none⟩) (Kd.R_far (p := ⟨gb604, 0, none⟩) (Kd.R_types HO_618001.out BK604.out (by decide)) (fun _ hk => hk.2) (.slice Ao18 y608.length co18)) (fun _ hk => hk.2) (.slice Ao17 y614.length co17)) (fun _ hk => hk.2) (.slice Ao42 x618002_1.length co42)) (fun _ hk => ⟨hk.1.1, hk.1.2⟩), by (with_reducible repeat (first | apply Kd.R_alloc | apply Kd.R_drewN | apply Kd.R_drew)); exact Kd.R_mono (Kd.R_far (p := ⟨gb604, 2, none⟩) (Kd.R_far (p := ⟨gb604, 1, none⟩) (Kd.R_far (p := ⟨gb604, 0, none⟩) (Kd.R_types HO_618002.out BK604.out (by decide)) (fun _ hk => hk.2) (.slice Ao18 y608.length co18)) (fun _ hk => hk.2) (.slice Ao17 y614.length co17)) (fun _ hk => hk.2) (.slice Ao42 x618002_1.length co42)) (fun _ hk => ⟨hk.1.1, hk.1.2⟩), laB HB.out⟩
     ·rw [if_neg c22] at H
      have c22b0 : decide (x5_1 < (wrap64 (6 * 6))) = false := decide_eq_false c22
      try (have e_ : wrap64 (6 * 6) = 36 := (by unfold wrap64; omega); rw [e_] at c22b0; clear e_)
      clear c22
      simp only [Option.some.injEq, Prod.mk.injEq] at H
      obtain ⟨rfl, rfl, rfl⟩ := H
      have hnb43 := NB617_603.out
      have hnc43 := NB603_617.out
      have hnb44 := NB617_604.out
      have hnc44 := NB604_617.out
      have hcz45_0 : wr.cell? ⟨gb617, 0, none⟩ = some (.slice Ao18 y608.length co18) := (blk_cell BK617.out 0).trans rfl
      have hcz45_1 : wr.cell? ⟨gb617, 1, none⟩ = some (.slice Ao17 y614.length co17) := (blk_cell BK617.out 1).trans rfl
      have hcz45_2 : wr.cell? ⟨gb617, 2, none⟩ = some (u618002) := (blk_cell BK617.out 2).trans rfl
      have hfz45_0 := blk_frozen BK617.out 0
      have hfz45_1 := blk_frozen BK617.out 1
      have hfz45_2 := blk_frozen BK617.out 2
      have hnb46 := NB604_603.out
      have hnc46 := NB603_604.out
      have hcz47_0 : wr.cell? ⟨gb604, 0, none⟩ = some (.slice none 0 0) := (blk_cell BK604.out 0).trans rfl
      have hcz47_1 : wr.cell? ⟨gb604, 1, none⟩ = some (.slice none 0 0) := (blk_cell BK604.out 1).trans rfl
      have hcz47_2 : wr.cell? ⟨gb604, 2, none⟩ = some (.slice none 0 0) := (blk_cell BK604.out 2).trans rfl
      have hfz47_0 := blk_frozen BK604.out 0
      have hfz47_1 := blk_frozen BK604.out 1
      have hfz47_2 := blk_frozen BK604.out 2
      obtain ⟨Ao48, co48, eo48⟩ := Kd.R_slice HO_618002.out
      subst eo48
      go_wp2
      refine bodyPost_ret (results_cell_row rfl _ _ gb604 34 #[.slice Ao18 y608.length co18, .slice Ao17 y614.length co17, .slice Ao48 x618002_1.length co48] (0, 0) _ rfl (by (with_reducible repeat (first | refine blk_drewN ?_ _ | refine blk_drew ?_ | refine blk_alloc ?_ _)); refine blk_put (cs := #[.slice Ao18 y608.length co18, .slice Ao17 y614.length co17, .slice none 0 0]) ?_ 2 _ rfl; (with_reducible repeat (first | refine blk_drewN ?_ _ | refine blk_drew ?_ | refine blk_alloc ?_ _)); refine blk_put (cs := #[.slice Ao18 y608.length co18, .slice none 0 0, .slice none 0 0]) ?_ 1 _ rfl; (with_reducible repeat (first | refine blk_drewN ?_ _ | refine blk_drew ?_ | refine blk_alloc ?_ _)); refine blk_put (cs := #[.slice none 0 0, .slice none 0 0, .slice none 0 0]) ?_ 0 _ rfl; (with_reducible repeat (first | refine blk_drewN ?_ _ | refine blk_drew ?_ | refine blk_alloc ?_ _)); exact BK604.out) Try.underlying34 rfl (by kernel_rfl)) rfl ?_
      exact ⟨_, _, _, by first | rfl | (simp [errW_none, errW_some] <;> rfl) | (simp [*, errW_none, errW_some] <;> rfl), by (with_reducible repeat (first | apply Kd.R_alloc | apply Kd.R_drewN | apply Kd.R_drew)); exact Kd.R_mono (Kd.R_far (p := ⟨gb604, 2, none⟩) (Kd.R_far (p := ⟨gb604, 1, none⟩) (Kd.R_far (p := ⟨gb604, 0, none⟩) (Kd.R_types HO_618000.out BK604.out (by decide)) (fun _ hk => hk.2) (.slice Ao18 y608.length co18)) (fun _ hk => hk.2) (.slice Ao17 y614.length co17)) (fun _ hk => hk.2) (.slice Ao48 x618002_1.length co48)) (fun _ hk => ⟨hk.1.1, hk.1.2⟩), by (with_reducible repeat (first | apply Kd.R_alloc | apply Kd.R_drewN | apply Kd.R_drew)); exact Kd.R_mono (Kd.R_far (p := ⟨gb604, 2, none⟩) (Kd.R_far (p := ⟨gb604, 1, none⟩) (Kd.R_far (p := ⟨gb604, 0, none⟩) (Kd.R_types HO_618001.out BK604.out (by decide)) (fun _ hk => hk.2) (.slice Ao18 y608.length co18)) (fun _ hk => hk.2) (.slice Ao17 y614.length co17)) (fun _ hk => hk.2) (.slice Ao48 x618002_1.length co48)) (fun _ hk => ⟨hk.1.1, hk.1.2⟩), by (with_reducible repeat (first | apply Kd.R_alloc | apply Kd.R_drewN | apply Kd.R_drew)); exact Kd.R_mono (Kd.R_far (p := ⟨gb604, 2, none⟩) (Kd.R_far (p := ⟨gb604, 1, none⟩) (Kd.R_far (p := ⟨gb604, 0, none⟩) (Kd.R_types HO_618002.out BK604.out (by decide)) (fun _ hk => hk.2) (.slice Ao18 y608.length co18)) (fun _ hk => hk.2) (.slice Ao17 y614.length co17)) (fun _ hk => hk.2) (.slice Ao48 x618002_1.length co48)) (fun _ hk => ⟨hk.1.1, hk.1.2⟩), laB HB.out⟩
  ·rw [if_neg c3] at H
   exact absurd H (by simp)
 ·rw [if_neg c2] at H
  exact absurd H (by simp)


end Go.Proofs.Ytekpggmnnfjphaa.P
