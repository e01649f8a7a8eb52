-- Written by this session's program mk.py with the kit's print program, out of the translation; not by hand. Lean checks it.
import Derived.Test.YtockkelkdimehaaP0
import Derived.Test.YtockkelkdimehaaHand
import Derived.Test.YtockkelkdimehaaG102
import Derived.Test.YtockkelkdimehaaG20
import Derived.Test.YtockkelkdimehaaG43
import Derived.Test.YtockkelkdimehaaG9
namespace Go.Proofs.Ytockkelkdimehaa.P
open Go.RowKit Go.Proofs.YtockkelkdimehaaW.PrintWords Go.Proofs.YtockkelkdimehaaW.PrintLast Go.Proofs.YtockkelkdimehaaW.PrintMore
attribute [local go_sem] max2_int min2_int max_two min_two max_three min_three max_four min_four   -- for this text's walks alone
set_option linter.unusedVariables false
set_option linter.unusedSimpArgs false


/-! ### laws_eqCost: function 22 -/
def laws_eqCost.f (k : Nat) (l0_0 : List Int) (l0_1 : List Int) (l0_2 : List Int) (l1_0 : List Int) (l1_1 : List Int) (l1_2 : List Int) : Option (Bool) := (laws_eqIntS.f k l0_0 l1_0).bind fun t428 => (if t428 = true then ((laws_eqIntS.f k l0_1 l1_1).bind fun t429 => (if t429 = true then ((laws_eqIntS.f k l0_2 l1_2).bind fun t430 => (if t430 = true then (some true) else (some false))) else (some false))) else (some false))
theorem laws_eqCost.mono : ∀ a0 a1 a2 a3 a4 a5 k, LeO (laws_eqCost.f k a0 a1 a2 a3 a4 a5) (laws_eqCost.f (k + 1) a0 a1 a2 a3 a4 a5) := by
 intro a0 a1 a2 a3 a4 a5 k
 unfold laws_eqCost.f
 repeat' first
   | (with_reducible exact laws_eqIntS.mono _ _ _)
   | (with_reducible exact LeO.refl _)
   | (with_reducible exact LeO.none _)
   | (with_reducible refine LeO.ite ?_ ?_)
   | (with_reducible refine LeO.bind ?_ (fun _ => ?_))
   | exact laws_eqIntS.mono _ _ _
   | exact LeO.none _
   | refine LeO.ite ?_ ?_
   | refine LeO.bind ?_ (fun _ => ?_)
set_option maxHeartbeats 8000000 in
set_option maxRecDepth 100000 in
theorem laws_eqCost.calls (k : Nat) (A0_0 : Option Addr) (c0_0 : Nat) (l0_0 : List Int) (A0_1 : Option Addr) (c0_1 : Nat) (l0_1 : List Int) (A0_2 : Option Addr) (c0_2 : Nat) (l0_2 : List Int) (A1_0 : Option Addr) (c1_0 : Nat) (l1_0 : List Int) (A1_1 : Option Addr) (c1_1 : Nat) (l1_1 : List Int) (A1_2 : Option Addr) (c1_2 : Nat) (l1_2 : List Int) (r : Bool) (w : World) (hr0_0 : Kd.C (Kd.int .i64) w A0_0 l0_0.length l0_0) (hc0_0 : l0_0.length ≤ c0_0) (hr0_1 : Kd.C (Kd.int .i64) w A0_1 l0_1.length l0_1) (hc0_1 : l0_1.length ≤ c0_1) (hr0_2 : Kd.C (Kd.int .i64) w A0_2 l0_2.length l0_2) (hc0_2 : l0_2.length ≤ c0_2) (hr1_0 : Kd.C (Kd.int .i64) w A1_0 l1_0.length l1_0) (hc1_0 : l1_0.length ≤ c1_0) (hr1_1 : Kd.C (Kd.int .i64) w A1_1 l1_1.length l1_1) (hc1_1 : l1_1.length ≤ c1_1) (hr1_2 : Kd.C (Kd.int .i64) w A1_2 l1_2.length l1_2) (hc1_2 : l1_2.length ≤ c1_2) (h : laws_eqCost.f k l0_0 l0_1 l0_2 l1_0 l1_1 l1_2 = some r) :
  Calls Try.prog 22 #[.agg #[.slice A0_0 l0_0.length c0_0, .slice A0_1 l0_1.length c0_1, .slice A0_2 l0_2.length c0_2], .agg #[.slice A1_0 l1_0.length c1_0, .slice A1_1 l1_1.length c1_1, .slice A1_2 l1_2.length c1_2]] w fun e w' => e = .returned (.bool r) ∧ Below w.heap.size w w' := by
 have hu37 := Try.underlying37
 have HR0_0 := Aside0.mk hr0_0
 have HC0_0 := Aside0.mk hc0_0
 clear hr0_0 hc0_0
 have HR0_1 := Aside0.mk hr0_1
 have HC0_1 := Aside0.mk hc0_1
 clear hr0_1 hc0_1
 have HR0_2 := Aside0.mk hr0_2
 have HC0_2 := Aside0.mk hc0_2
 clear hr0_2 hc0_2
 have HR1_0 := Aside0.mk hr1_0
 have HC1_0 := Aside0.mk hc1_0
 clear hr1_0 hc1_0
 have HR1_1 := Aside0.mk hr1_1
 have HC1_1 := Aside0.mk hc1_1
 clear hr1_1 hc1_1
 have HR1_2 := Aside0.mk hr1_2
 have HC1_2 := Aside0.mk hc1_2
 clear hr1_2 hc1_2
 have HB := Aside0.mk (Below.refl w.heap.size w)
 have H : ((laws_eqIntS.f k l0_0 l1_0).bind fun t428 => (if t428 = true then ((laws_eqIntS.f k l0_1 l1_1).bind fun t429 => (if t429 = true then ((laws_eqIntS.f k l0_2 l1_2).bind fun t430 => (if t430 = true then (some true) else (some false))) else (some false))) else (some false))) = some r := h
 clear h
 replace H := Option.bind_eq_some_iff.mp H
 obtain ⟨t428, A30, H⟩ := H
 have A3 := Aside0.mk A30
 clear A30
 by_cases c4 : t428 = true
 ·subst c4
  rw [if_pos rfl] at H
  replace H := Option.bind_eq_some_iff.mp H
  obtain ⟨t429, A50, H⟩ := H
  have A5 := Aside0.mk A50
  clear A50
  by_cases c6 : t429 = true
  ·subst c6
   rw [if_pos rfl] at H
   replace H := Option.bind_eq_some_iff.mp H
   obtain ⟨t430, A70, H⟩ := H
   have A7 := Aside0.mk A70
   clear A70
   by_cases c8 : t430 = true
   ·subst c8
    rw [if_pos rfl] at H
    obtain rfl := Option.some.inj H
    go_enter Try.func22, Try.ntmps22
    go_wp2_with (first | ((with_reducible refine gate_dst (N := 2) rfl ?_); refine box_event ?hg (N := 2) ?hd (cs := #[.slice A0_0 l0_0.length c0_0, .slice A0_1 l0_1.length c0_1, .slice A0_2 l0_2.length c0_2]) (t := 37) ?hr ?_; (case hd => rfl); (case hg => rfl); (case hr => first | (go_simp; done) | (go_simp; rfl)); intro gb426 hg w9 hbox hb; have BK426 := Aside0.mk (hbox); have GW426 := Aside0.mk ((by rw [hg]; exact (below_size (laB HB.out)) : w.heap.size ≤ gb426)); have GE426 := Aside0.mk ((by rw [hg]; exact (below_size (laB HB.out)) : w.heap.size ≤ gb426)); have ge426_ := Nonempty.intro GE426.out; replace HB := Aside0.mk (below_step (laB HB.out) hb); clear hb hbox hg) | ((with_reducible refine gate_dst (N := 3) rfl ?_); refine box_event ?hg (N := 3) ?hd (cs := #[.slice A1_0 l1_0.length c1_0, .slice A1_1 l1_1.length c1_1, .slice A1_2 l1_2.length c1_2]) (t := 37) ?hr ?_; (case hd => rfl); (case hg => rfl); (case hr => first | (go_simp; done) | (go_simp; rfl)); intro gb427 hg w10 hbox hb; have BK427 := Aside0.mk (hbox); have GW427 := Aside0.mk ((by rw [hg]; exact (below_size (laB HB.out)) : w.heap.size ≤ gb427)); have GE427 := Aside0.mk ((by rw [hg]; exact (below_size (laB HB.out)) : w.heap.size ≤ gb427)); have ge427_ := Nonempty.intro GE427.out; replace HB := Aside0.mk (below_step (laB HB.out) hb); have NB426_427 := Aside0.mk ((by rw [hg]; exact Nat.ne_of_lt (blk_lt (g := gb426) (o := .cells #[.slice A0_0 l0_0.length c0_0, .slice A0_1 l0_1.length c0_1, .slice A0_2 l0_2.length c0_2] 37 (0, 0)) (laK BK426.out)) : gb426 ≠ gb427)); have NB427_426 := Aside0.mk ((by rw [hg]; exact Nat.ne_of_gt (blk_lt (g := gb426) (o := .cells #[.slice A0_0 l0_0.length c0_0, .slice A0_1 l0_1.length c0_1, .slice A0_2 l0_2.length c0_2] 37 (0, 0)) (laK BK426.out)) : gb427 ≠ gb426)); replace BK426 := Aside0.mk (laKb BK426.out hb); clear hb hbox hg; have hnb11 := NB426_427.out; have hnc11 := NB427_426.out; have hcz12_0 : w10.cell? ⟨gb426, 0, none⟩ = some (.slice A0_0 l0_0.length c0_0) := (blk_cell BK426.out 0).trans rfl; have hcz12_1 : w10.cell? ⟨gb426, 1, none⟩ = some (.slice A0_1 l0_1.length c0_1) := (blk_cell BK426.out 1).trans rfl; have hcz12_2 : w10.cell? ⟨gb426, 2, none⟩ = some (.slice A0_2 l0_2.length c0_2) := (blk_cell BK426.out 2).trans rfl; have hfz12_0 := blk_frozen BK426.out 0; have hfz12_1 := blk_frozen BK426.out 1; have hfz12_2 := blk_frozen BK426.out 2; have hcz13_0 : w10.cell? ⟨gb427, 0, none⟩ = some (.slice A1_0 l1_0.length c1_0) := (blk_cell BK427.out 0).trans rfl; have hcz13_1 : w10.cell? ⟨gb427, 1, none⟩ = some (.slice A1_1 l1_1.length c1_1) := (blk_cell BK427.out 1).trans rfl; have hcz13_2 : w10.cell? ⟨gb427, 2, none⟩ = some (.slice A1_2 l1_2.length c1_2) := (blk_cell BK427.out 2).trans rfl; have hfz13_0 := blk_frozen BK427.out 0; have hfz13_1 := blk_frozen BK427.out 1; have hfz13_2 := blk_frozen BK427.out 2) | ((with_reducible refine gate_callee (f := 13) rfl ?_); refine goesL_ (some 9) rfl rfl Try.func13 (by kernel_rfl) rfl #[.slice A0_0 l0_0.length c0_0, .slice A1_0 l1_0.length c1_0] rfl (by (try simp only [List.map_toArray, List.map_cons, List.map_nil]); first | done | rfl | (simp only [List.length_drop, List.length_take]; rfl)) ?_; (with_reducible refine (laws_eqIntS.calls k _ _ l0_0 _ _ l1_0 true _ ?side1 ?side2 ?side3 ?side4 A3.out).mono ?_); (case side1 => exact laC (Kd.C_below HR0_0.out HB.out)); (case side2 => exact HC0_0.out); (case side3 => exact laC (Kd.C_below HR1_0.out HB.out)); (case side4 => exact HC1_0.out); rintro e w' ⟨rfl, ⟨nd, rfl⟩⟩; refine ⟨_, rfl, ?_⟩) | ((with_reducible refine gate_callee (f := 13) rfl ?_); refine goesL_ (some 15) rfl rfl Try.func13 (by kernel_rfl) rfl #[.slice A0_1 l0_1.length c0_1, .slice A1_1 l1_1.length c1_1] rfl (by (try simp only [List.map_toArray, List.map_cons, List.map_nil]); first | done | rfl | (simp only [List.length_drop, List.length_take]; rfl)) ?_; (with_reducible refine (laws_eqIntS.calls k _ _ l0_1 _ _ l1_1 true _ ?side1 ?side2 ?side3 ?side4 A5.out).mono ?_); (case side1 => repeat (first | exact (Kd.C_below HR0_1.out (laB HB.out)) | (with_reducible refine Kd.C_alloc ?_ _) | (with_reducible refine Kd.C_drewN ?_ _) | (with_reducible refine Kd.C_drew ?_))); (case side2 => exact HC0_1.out); (case side3 => repeat (first | exact (Kd.C_below HR1_1.out (laB HB.out)) | (with_reducible refine Kd.C_alloc ?_ _) | (with_reducible refine Kd.C_drewN ?_ _) | (with_reducible refine Kd.C_drew ?_))); (case side4 => exact HC1_1.out); rintro e w' ⟨rfl, ⟨nd, rfl⟩⟩; refine ⟨_, rfl, ?_⟩) | ((with_reducible refine gate_callee (f := 13) rfl ?_); refine goesL_ (some 21) rfl rfl Try.func13 (by kernel_rfl) rfl #[.slice A0_2 l0_2.length c0_2, .slice A1_2 l1_2.length c1_2] rfl (by (try simp only [List.map_toArray, List.map_cons, List.map_nil]); first | done | rfl | (simp only [List.length_drop, List.length_take]; rfl)) ?_; (with_reducible refine (laws_eqIntS.calls k _ _ l0_2 _ _ l1_2 true _ ?side1 ?side2 ?side3 ?side4 A7.out).mono ?_); (case side1 => repeat (first | exact (Kd.C_below HR0_2.out (laB HB.out)) | (with_reducible refine Kd.C_alloc ?_ _) | (with_reducible refine Kd.C_drewN ?_ _) | (with_reducible refine Kd.C_drew ?_))); (case side2 => exact HC0_2.out); (case side3 => repeat (first | exact (Kd.C_below HR1_2.out (laB HB.out)) | (with_reducible refine Kd.C_alloc ?_ _) | (with_reducible refine Kd.C_drewN ?_ _) | (with_reducible refine Kd.C_drew ?_))); (case side4 => exact HC1_2.out); rintro e w' ⟨rfl, ⟨nd, rfl⟩⟩; refine ⟨_, rfl, ?_⟩))
    go_ret
    exact ⟨by first | rfl | (simp [errW_none, errW_some] <;> rfl) | (simp [*, errW_none, errW_some] <;> rfl), laB HB.out⟩
   ·replace c8 := Bool.eq_false_iff.mpr c8
    subst c8
    rw [if_neg (show ¬ (false = true) by decide)] at H
    obtain rfl := Option.some.inj H
    go_enter Try.func22, Try.ntmps22
    go_wp2_with (first | ((with_reducible refine gate_dst (N := 2) rfl ?_); refine box_event ?hg (N := 2) ?hd (cs := #[.slice A0_0 l0_0.length c0_0, .slice A0_1 l0_1.length c0_1, .slice A0_2 l0_2.length c0_2]) (t := 37) ?hr ?_; (case hd => rfl); (case hg => rfl); (case hr => first | (go_simp; done) | (go_simp; rfl)); intro gb426 hg w14 hbox hb; have BK426 := Aside0.mk (hbox); have GW426 := Aside0.mk ((by rw [hg]; exact (below_size (laB HB.out)) : w.heap.size ≤ gb426)); have GE426 := Aside0.mk ((by rw [hg]; exact (below_size (laB HB.out)) : w.heap.size ≤ gb426)); have ge426_ := Nonempty.intro GE426.out; replace HB := Aside0.mk (below_step (laB HB.out) hb); clear hb hbox hg) | ((with_reducible refine gate_dst (N := 3) rfl ?_); refine box_event ?hg (N := 3) ?hd (cs := #[.slice A1_0 l1_0.length c1_0, .slice A1_1 l1_1.length c1_1, .slice A1_2 l1_2.length c1_2]) (t := 37) ?hr ?_; (case hd => rfl); (case hg => rfl); (case hr => first | (go_simp; done) | (go_simp; rfl)); intro gb427 hg w15 hbox hb; have BK427 := Aside0.mk (hbox); have GW427 := Aside0.mk ((by rw [hg]; exact (below_size (laB HB.out)) : w.heap.size ≤ gb427)); have GE427 := Aside0.mk ((by rw [hg]; exact (below_size (laB HB.out)) : w.heap.size ≤ gb427)); have ge427_ := Nonempty.intro GE427.out; replace HB := Aside0.mk (below_step (laB HB.out) hb); have NB426_427 := Aside0.mk ((by rw [hg]; exact Nat.ne_of_lt (blk_lt (g := gb426) (o := .cells #[.slice A0_0 l0_0.length c0_0, .slice A0_1 l0_1.length c0_1, .slice A0_2 l0_2.length c0_2] 37 (0, 0)) (laK BK426.out)) : gb426 ≠ gb427)); have NB427_426 := Aside0.mk ((by rw [hg]; exact Nat.ne_of_gt (blk_lt (g := gb426) (o := .cells #[.slice A0_0 l0_0.length c0_0, .slice A0_1 l0_1.length c0_1, .slice A0_2 l0_2.length c0_2] 37 (0, 0)) (laK BK426.out)) : gb427 ≠ gb426)); replace BK426 := Aside0.mk (laKb BK426.out hb); clear hb hbox hg; have hnb16 := NB426_427.out; have hnc16 := NB427_426.out; have hcz17_0 : w15.cell? ⟨gb426, 0, none⟩ = some (.slice A0_0 l0_0.length c0_0) := (blk_cell BK426.out 0).trans rfl; have hcz17_1 : w15.cell? ⟨gb426, 1, none⟩ = some (.slice A0_1 l0_1.length c0_1) := (blk_cell BK426.out 1).trans rfl; have hcz17_2 : w15.cell? ⟨gb426, 2, none⟩ = some (.slice A0_2 l0_2.length c0_2) := (blk_cell BK426.out 2).trans rfl; have hfz17_0 := blk_frozen BK426.out 0; have hfz17_1 := blk_frozen BK426.out 1; have hfz17_2 := blk_frozen BK426.out 2; have hcz18_0 : w15.cell? ⟨gb427, 0, none⟩ = some (.slice A1_0 l1_0.length c1_0) := (blk_cell BK427.out 0).trans rfl; have hcz18_1 : w15.cell? ⟨gb427, 1, none⟩ = some (.slice A1_1 l1_1.length c1_1) := (blk_cell BK427.out 1).trans rfl; have hcz18_2 : w15.cell? ⟨gb427, 2, none⟩ = some (.slice A1_2 l1_2.length c1_2) := (blk_cell BK427.out 2).trans rfl; have hfz18_0 := blk_frozen BK427.out 0; have hfz18_1 := blk_frozen BK427.out 1; have hfz18_2 := blk_frozen BK427.out 2) | ((with_reducible refine gate_callee (f := 13) rfl ?_); refine goesL_ (some 9) rfl rfl Try.func13 (by kernel_rfl) rfl #[.slice A0_0 l0_0.length c0_0, .slice A1_0 l1_0.length c1_0] rfl (by (try simp only [List.map_toArray, List.map_cons, List.map_nil]); first | done | rfl | (simp only [List.length_drop, List.length_take]; rfl)) ?_; (with_reducible refine (laws_eqIntS.calls k _ _ l0_0 _ _ l1_0 true _ ?side1 ?side2 ?side3 ?side4 A3.out).mono ?_); (case side1 => exact laC (Kd.C_below HR0_0.out HB.out)); (case side2 => exact HC0_0.out); (case side3 => exact laC (Kd.C_below HR1_0.out HB.out)); (case side4 => exact HC1_0.out); rintro e w' ⟨rfl, ⟨nd, rfl⟩⟩; refine ⟨_, rfl, ?_⟩) | ((with_reducible refine gate_callee (f := 13) rfl ?_); refine goesL_ (some 15) rfl rfl Try.func13 (by kernel_rfl) rfl #[.slice A0_1 l0_1.length c0_1, .slice A1_1 l1_1.length c1_1] rfl (by (try simp only [List.map_toArray, List.map_cons, List.map_nil]); first | done | rfl | (simp only [List.length_drop, List.length_take]; rfl)) ?_; (with_reducible refine (laws_eqIntS.calls k _ _ l0_1 _ _ l1_1 true _ ?side1 ?side2 ?side3 ?side4 A5.out).mono ?_); (case side1 => repeat (first | exact (Kd.C_below HR0_1.out (laB HB.out)) | (with_reducible refine Kd.C_alloc ?_ _) | (with_reducible refine Kd.C_drewN ?_ _) | (with_reducible refine Kd.C_drew ?_))); (case side2 => exact HC0_1.out); (case side3 => repeat (first | exact (Kd.C_below HR1_1.out (laB HB.out)) | (with_reducible refine Kd.C_alloc ?_ _) | (with_reducible refine Kd.C_drewN ?_ _) | (with_reducible refine Kd.C_drew ?_))); (case side4 => exact HC1_1.out); rintro e w' ⟨rfl, ⟨nd, rfl⟩⟩; refine ⟨_, rfl, ?_⟩) | ((with_reducible refine gate_callee (f := 13) rfl ?_); refine goesL_ (some 21) rfl rfl Try.func13 (by kernel_rfl) rfl #[.slice A0_2 l0_2.length c0_2, .slice A1_2 l1_2.length c1_2] rfl (by (try simp only [List.map_toArray, List.map_cons, List.map_nil]); first | done | rfl | (simp only [List.length_drop, List.length_take]; rfl)) ?_; (with_reducible refine (laws_eqIntS.calls k _ _ l0_2 _ _ l1_2 false _ ?side1 ?side2 ?side3 ?side4 A7.out).mono ?_); (case side1 => repeat (first | exact (Kd.C_below HR0_2.out (laB HB.out)) | (with_reducible refine Kd.C_alloc ?_ _) | (with_reducible refine Kd.C_drewN ?_ _) | (with_reducible refine Kd.C_drew ?_))); (case side2 => exact HC0_2.out); (case side3 => repeat (first | exact (Kd.C_below HR1_2.out (laB HB.out)) | (with_reducible refine Kd.C_alloc ?_ _) | (with_reducible refine Kd.C_drewN ?_ _) | (with_reducible refine Kd.C_drew ?_))); (case side4 => exact HC1_2.out); rintro e w' ⟨rfl, ⟨nd, rfl⟩⟩; refine ⟨_, rfl, ?_⟩))
    go_ret
    exact ⟨by first | rfl | (simp [errW_none, errW_some] <;> rfl) | (simp [*, errW_none, errW_some] <;> rfl), laB HB.out⟩
  ·replace c6 := Bool.eq_false_iff.mpr c6
   subst c6
   rw [if_neg (show ¬ (false = true) by decide)] at H
   obtain rfl := Option.some.inj H
   go_enter Try.func22, Try.ntmps22
   go_wp2_with (first | ((with_reducible refine gate_dst (N := 2) rfl ?_); refine box_event ?hg (N := 2) ?hd (cs := #[.slice A0_0 l0_0.length c0_0, .slice A0_1 l0_1.length c0_1, .slice A0_2 l0_2.length c0_2]) (t := 37) ?hr ?_; (case hd => rfl); (case hg => rfl); (case hr => first | (go_simp; done) | (go_simp; rfl)); intro gb426 hg w19 hbox hb; have BK426 := Aside0.mk (hbox); have GW426 := Aside0.mk ((by rw [hg]; exact (below_size (laB HB.out)) : w.heap.size ≤ gb426)); have GE426 := Aside0.mk ((by rw [hg]; exact (below_size (laB HB.out)) : w.heap.size ≤ gb426)); have ge426_ := Nonempty.intro GE426.out; replace HB := Aside0.mk (below_step (laB HB.out) hb); clear hb hbox hg) | ((with_reducible refine gate_dst (N := 3) rfl ?_); refine box_event ?hg (N := 3) ?hd (cs := #[.slice A1_0 l1_0.length c1_0, .slice A1_1 l1_1.length c1_1, .slice A1_2 l1_2.length c1_2]) (t := 37) ?hr ?_; (case hd => rfl); (case hg => rfl); (case hr => first | (go_simp; done) | (go_simp; rfl)); intro gb427 hg w20 hbox hb; have BK427 := Aside0.mk (hbox); have GW427 := Aside0.mk ((by rw [hg]; exact (below_size (laB HB.out)) : w.heap.size ≤ gb427)); have GE427 := Aside0.mk ((by rw [hg]; exact (below_size (laB HB.out)) : w.heap.size ≤ gb427)); have ge427_ := Nonempty.intro GE427.out; replace HB := Aside0.mk (below_step (laB HB.out) hb); have NB426_427 := Aside0.mk ((by rw [hg]; exact Nat.ne_of_lt (blk_lt (g := gb426) (o := .cells #[.slice A0_0 l0_0.length c0_0, .slice A0_1 l0_1.length c0_1, .slice A0_2 l0_2.length c0_2] 37 (0, 0)) (laK BK426.out)) : gb426 ≠ gb427)); have NB427_426 := Aside0.mk ((by rw [hg]; exact Nat.ne_of_gt (blk_lt (g := gb426) (o := .cells #[.slice A0_0 l0_0.length c0_0, .slice A0_1 l0_1.length c0_1, .slice A0_2 l0_2.length c0_2] 37 (0, 0)) (laK BK426.out)) : gb427 ≠ gb426)); replace BK426 := Aside0.mk (laKb BK426.out hb); clear hb hbox hg; have hnb21 := NB426_427.out; have hnc21 := NB427_426.out; have hcz22_0 : w20.cell? ⟨gb426, 0, none⟩ = some (.slice A0_0 l0_0.length c0_0) := (blk_cell BK426.out 0).trans rfl; have hcz22_1 : w20.cell? ⟨gb426, 1, none⟩ = some (.slice A0_1 l0_1.length c0_1) := (blk_cell BK426.out 1).trans rfl; have hcz22_2 : w20.cell? ⟨gb426, 2, none⟩ = some (.slice A0_2 l0_2.length c0_2) := (blk_cell BK426.out 2).trans rfl; have hfz22_0 := blk_frozen BK426.out 0; have hfz22_1 := blk_frozen BK426.out 1; have hfz22_2 := blk_frozen BK426.out 2; have hcz23_0 : w20.cell? ⟨gb427, 0, none⟩ = some (.slice A1_0 l1_0.length c1_0) := (blk_cell BK427.out 0).trans rfl; have hcz23_1 : w20.cell? ⟨gb427, 1, none⟩ = some (.slice A1_1 l1_1.length c1_1) := (blk_cell BK427.out 1).trans rfl; have hcz23_2 : w20.cell? ⟨gb427, 2, none⟩ = some (.slice A1_2 l1_2.length c1_2) := (blk_cell BK427.out 2).trans rfl; have hfz23_0 := blk_frozen BK427.out 0; have hfz23_1 := blk_frozen BK427.out 1; have hfz23_2 := blk_frozen BK427.out 2) | ((with_reducible refine gate_callee (f := 13) rfl ?_); refine goesL_ (some 9) rfl rfl Try.func13 (by kernel_rfl) rfl #[.slice A0_0 l0_0.length c0_0, .slice A1_0 l1_0.length c1_0] rfl (by (try simp only [List.map_toArray, List.map_cons, List.map_nil]); first | done | rfl | (simp only [List.length_drop, List.length_take]; rfl)) ?_; (with_reducible refine (laws_eqIntS.calls k _ _ l0_0 _ _ l1_0 true _ ?side1 ?side2 ?side3 ?side4 A3.out).mono ?_); (case side1 => exact laC (Kd.C_below HR0_0.out HB.out)); (case side2 => exact HC0_0.out); (case side3 => exact laC (Kd.C_below HR1_0.out HB.out)); (case side4 => exact HC1_0.out); rintro e w' ⟨rfl, ⟨nd, rfl⟩⟩; refine ⟨_, rfl, ?_⟩) | ((with_reducible refine gate_callee (f := 13) rfl ?_); refine goesL_ (some 15) rfl rfl Try.func13 (by kernel_rfl) rfl #[.slice A0_1 l0_1.length c0_1, .slice A1_1 l1_1.length c1_1] rfl (by (try simp only [List.map_toArray, List.map_cons, List.map_nil]); first | done | rfl | (simp only [List.length_drop, List.length_take]; rfl)) ?_; (with_reducible refine (laws_eqIntS.calls k _ _ l0_1 _ _ l1_1 false _ ?side1 ?side2 ?side3 ?side4 A5.out).mono ?_); (case side1 => repeat (first | exact (Kd.C_below HR0_1.out (laB HB.out)) | (with_reducible refine Kd.C_alloc ?_ _) | (with_reducible refine Kd.C_drewN ?_ _) | (with_reducible refine Kd.C_drew ?_))); (case side2 => exact HC0_1.out); (case side3 => repeat (first | exact (Kd.C_below HR1_1.out (laB HB.out)) | (with_reducible refine Kd.C_alloc ?_ _) | (with_reducible refine Kd.C_drewN ?_ _) | (with_reducible refine Kd.C_drew ?_))); (case side4 => exact HC1_1.out); rintro e w' ⟨rfl, ⟨nd, rfl⟩⟩; refine ⟨_, rfl, ?_⟩))
   go_ret
   exact ⟨by first | rfl | (simp [errW_none, errW_some] <;> rfl) | (simp [*, errW_none, errW_some] <;> rfl), laB HB.out⟩
 ·replace c4 := Bool.eq_false_iff.mpr c4
  subst c4
  rw [if_neg (show ¬ (false = true) by decide)] at H
  obtain rfl := Option.some.inj H
  go_enter Try.func22, Try.ntmps22
  go_wp2_with (first | ((with_reducible refine gate_dst (N := 2) rfl ?_); refine box_event ?hg (N := 2) ?hd (cs := #[.slice A0_0 l0_0.length c0_0, .slice A0_1 l0_1.length c0_1, .slice A0_2 l0_2.length c0_2]) (t := 37) ?hr ?_; (case hd => rfl); (case hg => rfl); (case hr => first | (go_simp; done) | (go_simp; rfl)); intro gb426 hg w24 hbox hb; have BK426 := Aside0.mk (hbox); have GW426 := Aside0.mk ((by rw [hg]; exact (below_size (laB HB.out)) : w.heap.size ≤ gb426)); have GE426 := Aside0.mk ((by rw [hg]; exact (below_size (laB HB.out)) : w.heap.size ≤ gb426)); have ge426_ := Nonempty.intro GE426.out; replace HB := Aside0.mk (below_step (laB HB.out) hb); clear hb hbox hg) | ((with_reducible refine gate_dst (N := 3) rfl ?_); refine box_event ?hg (N := 3) ?hd (cs := #[.slice A1_0 l1_0.length c1_0, .slice A1_1 l1_1.length c1_1, .slice A1_2 l1_2.length c1_2]) (t := 37) ?hr ?_; (case hd => rfl); (case hg => rfl); (case hr => first | (go_simp; done) | (go_simp; rfl)); intro gb427 hg w25 hbox hb; have BK427 := Aside0.mk (hbox); have GW427 := Aside0.mk ((by rw [hg]; exact (below_size (laB HB.out)) : w.heap.size ≤ gb427)); have GE427 := Aside0.mk ((by rw [hg]; exact (below_size (laB HB.out)) : w.heap.size ≤ gb427)); have ge427_ := Nonempty.intro GE427.out; replace HB := Aside0.mk (below_step (laB HB.out) hb); have NB426_427 := Aside0.mk ((by rw [hg]; exact Nat.ne_of_lt (blk_lt (g := gb426) (o := .cells #[.slice A0_0 l0_0.length c0_0, .slice A0_1 l0_1.length c0_1, .slice A0_2 l0_2.length c0_2] 37 (0, 0)) (laK BK426.out)) : gb426 ≠ gb427)); have NB427_426 := Aside0.mk ((by rw [hg]; exact Nat.ne_of_gt (blk_lt (g := gb426) (o := .cells #[.slice A0_0 l0_0.length c0_0, .slice A0_1 l0_1.length c0_1, .slice A0_2 l0_2.length c0_2] 37 (0, 0)) (laK BK426.out)) : gb427 ≠ gb426)); replace BK426 := Aside0.mk (laKb BK426.out hb); clear hb hbox hg; have hnb26 := NB426_427.out; have hnc26 := NB427_426.out; have hcz27_0 : w25.cell? ⟨gb426, 0, none⟩ = some (.slice A0_0 l0_0.length c0_0) := (blk_cell BK426.out 0).trans rfl; have hcz27_1 : w25.cell? ⟨gb426, 1, none⟩ = some (.slice A0_1 l0_1.length c0_1) := (blk_cell BK426.out 1).trans rfl; have hcz27_2 : w25.cell? ⟨gb426, 2, none⟩ = some (.slice A0_2 l0_2.length c0_2) := (blk_cell BK426.out 2).trans rfl; have hfz27_0 := blk_frozen BK426.out 0; have hfz27_1 := blk_frozen BK426.out 1; have hfz27_2 := blk_frozen BK426.out 2; have hcz28_0 : w25.cell? ⟨gb427, 0, none⟩ = some (.slice A1_0 l1_0.length c1_0) := (blk_cell BK427.out 0).trans rfl; have hcz28_1 : w25.cell? ⟨gb427, 1, none⟩ = some (.slice A1_1 l1_1.length c1_1) := (blk_cell BK427.out 1).trans rfl; have hcz28_2 : w25.cell? ⟨gb427, 2, none⟩ = some (.slice A1_2 l1_2.length c1_2) := (blk_cell BK427.out 2).trans rfl; have hfz28_0 := blk_frozen BK427.out 0; have hfz28_1 := blk_frozen BK427.out 1; have hfz28_2 := blk_frozen BK427.out 2) | ((with_reducible refine gate_callee (f := 13) rfl ?_); refine goesL_ (some 9) rfl rfl Try.func13 (by kernel_rfl) rfl #[.slice A0_0 l0_0.length c0_0, .slice A1_0 l1_0.length c1_0] rfl (by (try simp only [List.map_toArray, List.map_cons, List.map_nil]); first | done | rfl | (simp only [List.length_drop, List.length_take]; rfl)) ?_; (with_reducible refine (laws_eqIntS.calls k _ _ l0_0 _ _ l1_0 false _ ?side1 ?side2 ?side3 ?side4 A3.out).mono ?_); (case side1 => exact laC (Kd.C_below HR0_0.out HB.out)); (case side2 => exact HC0_0.out); (case side3 => exact laC (Kd.C_below HR1_0.out HB.out)); (case side4 => exact HC1_0.out); rintro e w' ⟨rfl, ⟨nd, rfl⟩⟩; refine ⟨_, rfl, ?_⟩))
  go_ret
  exact ⟨by first | rfl | (simp [errW_none, errW_some] <;> rfl) | (simp [*, errW_none, errW_some] <;> rfl), laB HB.out⟩



/-! ### laws_FnExactLowerBound: function 4 -/
def laws_FnExactLowerBound.f (k : Nat) (l0 : List (S61)) (l1 : List (S61)) (l2_0 : List Int) (l2_1 : List Int) (l2_2 : List Int) : Option (Bool) := (laws_szNodeS.f l0 1048576).bind fun t432 => (if t432 < 0 then (some true) else ((laws_szNodeS.f l1 t432).bind fun t433 => (if t433 < 0 then (some true) else ((laws_szCost.f l2_0 l2_1 l2_2 t433).bind fun t434 => (if t434 < 0 then (some true) else ((laws_toNodeS.f k l0).bind fun t435 => ((laws_toNodeS.f k l1).bind fun t438 => ((laws_toCost.f k l2_0 l2_1 l2_2).bind fun bt441 => ((spec_LowerBound.f k t435 t438 bt441.1 bt441.2.1 bt441.2.2).bind fun t450 => ((laws_toNodeS.f k l0).bind fun t451 => ((laws_toNodeS.f k l1).bind fun t454 => ((laws_toCost.f k l2_0 l2_1 l2_2).bind fun bt457 => ((impl_LowerBound.f k t451 t454 bt457.1 bt457.2.1 bt457.2.2).bind fun t467 => (if t467 = t450 then ((laws_toNodeS.f k l0).bind fun t468 => ((laws_eqNodeS.f k t451 t468).bind fun t471 => (if t471 = true then ((laws_toNodeS.f k l1).bind fun t472 => ((laws_eqNodeS.f k t454 t472).bind fun t475 => (if t475 = true then ((laws_toCost.f k l2_0 l2_1 l2_2).bind fun bt476 => ((laws_eqCost.f k bt457.1 bt457.2.1 bt457.2.2 bt476.1 bt476.2.1 bt476.2.2).bind fun t485 => (if t485 = true then (some true) else (some false)))) else (some false)))) else (some false)))) else (some false)))))))))))))))
theorem laws_FnExactLowerBound.mono : ∀ a0 a1 a2 a3 a4 k, LeO (laws_FnExactLowerBound.f k a0 a1 a2 a3 a4) (laws_FnExactLowerBound.f (k + 1) a0 a1 a2 a3 a4) := by
 intro a0 a1 a2 a3 a4 k
 unfold laws_FnExactLowerBound.f
 repeat' first
   | (with_reducible exact impl_LowerBound.mono _ _ _ _ _ _)
   | (with_reducible exact laws_eqCost.mono _ _ _ _ _ _ _)
   | (with_reducible exact laws_eqNodeS.mono _ _ _)
   | (with_reducible exact laws_toCost.mono _ _ _ _)
   | (with_reducible exact laws_toNodeS.mono _ _)
   | (with_reducible exact spec_LowerBound.mono _ _ _ _ _ _)
   | (with_reducible exact LeO.refl _)
   | (with_reducible exact LeO.none _)
   | (with_reducible refine LeO.ite ?_ ?_)
   | (with_reducible refine LeO.bind ?_ (fun _ => ?_))
   | exact impl_LowerBound.mono _ _ _ _ _ _
   | exact laws_eqCost.mono _ _ _ _ _ _ _
   | exact laws_eqNodeS.mono _ _ _
   | exact laws_toCost.mono _ _ _ _
   | exact laws_toNodeS.mono _ _
   | exact spec_LowerBound.mono _ _ _ _ _ _
   | exact LeO.none _
   | refine LeO.ite ?_ ?_
   | refine LeO.bind ?_ (fun _ => ?_)
def laws_FnExactLowerBound.T11 : Bool × List (List Nat × List Nat) := (true, [([], []), ([0], [0]), ([], []), ([2, 1], [2]), ([], []), ([4, 3], [4]), ([1, 3, 5, 5], [1, 3, 5]), ([6, 6, 0, 1, 2, 3, 4, 5, 6], [6])])
def laws_FnExactLowerBound.B11 : List Nat := [0, 1, 0, 7, 0, 31, 63, 127]
theorem laws_FnExactLowerBound.tab11 : rtab .any (opsOf Try.f4 11) = laws_FnExactLowerBound.T11 := by kernel_rfl
theorem laws_FnExactLowerBound.bits11 : waitsOk laws_FnExactLowerBound.T11.2 laws_FnExactLowerBound.B11 = true := by kernel_rfl
set_option maxHeartbeats 8000000 in
set_option maxRecDepth 100000 in
theorem laws_FnExactLowerBound.calls (k : Nat) (A0 : Option Addr) (c0 : Nat) (l0 : List (S61)) (A1 : Option Addr) (c1 : Nat) (l1 : List (S61)) (A2_0 : Option Addr) (c2_0 : Nat) (l2_0 : List Int) (A2_1 : Option Addr) (c2_1 : Nat) (l2_1 : List Int) (A2_2 : Option Addr) (c2_2 : Nat) (l2_2 : List Int) (r : Bool) (w : World) (hr0 : Kd.C k61 w A0 l0.length l0) (hc0 : l0.length ≤ c0) (hr1 : Kd.C k61 w A1 l1.length l1) (hc1 : l1.length ≤ c1) (hr2_0 : Kd.C (Kd.int .i64) w A2_0 l2_0.length l2_0) (hc2_0 : l2_0.length ≤ c2_0) (hr2_1 : Kd.C (Kd.int .i64) w A2_1 l2_1.length l2_1) (hc2_1 : l2_1.length ≤ c2_1) (hr2_2 : Kd.C (Kd.int .i64) w A2_2 l2_2.length l2_2) (hc2_2 : l2_2.length ≤ c2_2) (h : laws_FnExactLowerBound.f k l0 l1 l2_0 l2_1 l2_2 = some r) (hr_ : r = true) :
  Calls Try.prog 4 #[.slice A0 l0.length c0, .slice A1 l1.length c1, .agg #[.slice A2_0 l2_0.length c2_0, .slice A2_1 l2_1.length c2_1, .slice A2_2 l2_2.length c2_2]] w fun e w' => e = .returned (.bool r) ∧ Below w.heap.size w w' := by
 have HRT_ := Aside0.mk hr_
 clear hr_
 have hu34 := Try.underlying34
 have hu37 := Try.underlying37
 have HR0 := Aside0.mk hr0
 have HC0 := Aside0.mk hc0
 clear hr0 hc0
 have HR1 := Aside0.mk hr1
 have HC1 := Aside0.mk hc1
 clear hr1 hc1
 have HR2_0 := Aside0.mk hr2_0
 have HC2_0 := Aside0.mk hc2_0
 clear hr2_0 hc2_0
 have HR2_1 := Aside0.mk hr2_1
 have HC2_1 := Aside0.mk hc2_1
 clear hr2_1 hc2_1
 have HR2_2 := Aside0.mk hr2_2
 have HC2_2 := Aside0.mk hc2_2
 clear hr2_2 hc2_2
 have HB := Aside0.mk (Below.refl w.heap.size w)
 have H : ((laws_szNodeS.f l0 1048576).bind fun t432 => (if t432 < 0 then (some true) else ((laws_szNodeS.f l1 t432).bind fun t433 => (if t433 < 0 then (some true) else ((laws_szCost.f l2_0 l2_1 l2_2 t433).bind fun t434 => (if t434 < 0 then (some true) else ((laws_toNodeS.f k l0).bind fun t435 => ((laws_toNodeS.f k l1).bind fun t438 => ((laws_toCost.f k l2_0 l2_1 l2_2).bind fun bt441 => ((spec_LowerBound.f k t435 t438 bt441.1 bt441.2.1 bt441.2.2).bind fun t450 => ((laws_toNodeS.f k l0).bind fun t451 => ((laws_toNodeS.f k l1).bind fun t454 => ((laws_toCost.f k l2_0 l2_1 l2_2).bind fun bt457 => ((impl_LowerBound.f k t451 t454 bt457.1 bt457.2.1 bt457.2.2).bind fun t467 => (if t467 = t450 then ((laws_toNodeS.f k l0).bind fun t468 => ((laws_eqNodeS.f k t451 t468).bind fun t471 => (if t471 = true then ((laws_toNodeS.f k l1).bind fun t472 => ((laws_eqNodeS.f k t454 t472).bind fun t475 => (if t475 = true then ((laws_toCost.f k l2_0 l2_1 l2_2).bind fun bt476 => ((laws_eqCost.f k bt457.1 bt457.2.1 bt457.2.2 bt476.1 bt476.2.1 bt476.2.2).bind fun t485 => (if t485 = true then (some true) else (some false)))) else (some false)))) else (some false)))) else (some false)))))))))))))))) = some r := h
 clear h
 replace H := Option.bind_eq_some_iff.mp H
 obtain ⟨t432, A40, H⟩ := H
 have A4 := Aside0.mk A40
 clear A40
 by_cases c5 : t432 < 0
 ·rw [if_pos c5] at H
  have c5b0 : decide (t432 < 0) = true := decide_eq_true c5
  clear c5
  obtain rfl := Option.some.inj H
  go_enter Try.func4, Try.ntmps4
  go_wp2_with (first | ((with_reducible refine gate_dst (N := 5) rfl ?_); refine box_event ?hg (N := 5) ?hd (cs := #[.slice A2_0 l2_0.length c2_0, .slice A2_1 l2_1.length c2_1, .slice A2_2 l2_2.length c2_2]) (t := 34) ?hr ?_; (case hd => rfl); (case hg => rfl); (case hr => first | (go_simp; done) | (go_simp; rfl)); intro gb431 hg w6 hbox hb; have BK431 := Aside0.mk (hbox); have GW431 := Aside0.mk ((by rw [hg]; exact (below_size (laB HB.out)) : w.heap.size ≤ gb431)); have GE431 := Aside0.mk ((by rw [hg]; exact (below_size (laB HB.out)) : w.heap.size ≤ gb431)); have ge431_ := Nonempty.intro GE431.out; replace HB := Aside0.mk (below_step (laB HB.out) hb); clear hb hbox hg) | ((with_reducible refine gate_callee (f := 9) rfl ?_); refine goesL_ (some 15) rfl rfl Try.func9 (by kernel_rfl) rfl #[.slice A0 l0.length c0, .int .i64 1048576] rfl (by (try simp only [List.map_toArray, List.map_cons, List.map_nil]); first | done | rfl | (simp only [List.length_drop, List.length_take]; rfl)) ?_; (with_reducible refine (laws_szNodeS.calls _ _ l0 1048576 t432 _ ?side1 ?side2 A4.out).mono ?_); (case side1 => exact laC (Kd.C_below HR0.out HB.out)); (case side2 => exact HC0.out); rintro e w' ⟨rfl, ⟨nd, rfl⟩⟩; refine ⟨_, rfl, ?_⟩))
  go_ret
  exact ⟨by first | rfl | (simp [errW_none, errW_some] <;> rfl) | (simp [*, errW_none, errW_some] <;> rfl), laB HB.out⟩
 ·rw [if_neg c5] at H
  have c5b0 : decide (t432 < 0) = false := decide_eq_false c5
  clear c5
  replace H := Option.bind_eq_some_iff.mp H
  obtain ⟨t433, A70, H⟩ := H
  have A7 := Aside0.mk A70
  clear A70
  by_cases c8 : t433 < 0
  ·rw [if_pos c8] at H
   have c8b0 : decide (t433 < 0) = true := decide_eq_true c8
   clear c8
   obtain rfl := Option.some.inj H
   go_enter Try.func4, Try.ntmps4
   go_wp2_with (first | ((with_reducible refine gate_dst (N := 5) rfl ?_); refine box_event ?hg (N := 5) ?hd (cs := #[.slice A2_0 l2_0.length c2_0, .slice A2_1 l2_1.length c2_1, .slice A2_2 l2_2.length c2_2]) (t := 34) ?hr ?_; (case hd => rfl); (case hg => rfl); (case hr => first | (go_simp; done) | (go_simp; rfl)); intro gb431 hg w9 hbox hb; have BK431 := Aside0.mk (hbox); have GW431 := Aside0.mk ((by rw [hg]; exact (below_size (laB HB.out)) : w.heap.size ≤ gb431)); have GE431 := Aside0.mk ((by rw [hg]; exact (below_size (laB HB.out)) : w.heap.size ≤ gb431)); have ge431_ := Nonempty.intro GE431.out; replace HB := Aside0.mk (below_step (laB HB.out) hb); clear hb hbox hg) | ((with_reducible refine gate_callee (f := 9) rfl ?_); refine goesL_ (some 15) rfl rfl Try.func9 (by kernel_rfl) rfl #[.slice A0 l0.length c0, .int .i64 1048576] rfl (by (try simp only [List.map_toArray, List.map_cons, List.map_nil]); first | done | rfl | (simp only [List.length_drop, List.length_take]; rfl)) ?_; (with_reducible refine (laws_szNodeS.calls _ _ l0 1048576 t432 _ ?side1 ?side2 A4.out).mono ?_); (case side1 => exact laC (Kd.C_below HR0.out HB.out)); (case side2 => exact HC0.out); rintro e w' ⟨rfl, ⟨nd, rfl⟩⟩; refine ⟨_, rfl, ?_⟩) | ((with_reducible refine gate_callee (f := 9) rfl ?_); refine goesL_ (some 20) rfl rfl Try.func9 (by kernel_rfl) rfl #[.slice A1 l1.length c1, .int .i64 t432] rfl (by (try simp only [List.map_toArray, List.map_cons, List.map_nil]); first | done | rfl | (simp only [List.length_drop, List.length_take]; rfl)) ?_; (with_reducible refine (laws_szNodeS.calls _ _ l1 t432 t433 _ ?side1 ?side2 A7.out).mono ?_); (case side1 => repeat (first | exact (Kd.C_below HR1.out (laB HB.out)) | (with_reducible refine Kd.C_alloc ?_ _) | (with_reducible refine Kd.C_drewN ?_ _) | (with_reducible refine Kd.C_drew ?_))); (case side2 => exact HC1.out); rintro e w' ⟨rfl, ⟨nd, rfl⟩⟩; refine ⟨_, rfl, ?_⟩))
   go_ret
   exact ⟨by first | rfl | (simp [errW_none, errW_some] <;> rfl) | (simp [*, errW_none, errW_some] <;> rfl), laB HB.out⟩
  ·rw [if_neg c8] at H
   have c8b0 : decide (t433 < 0) = false := decide_eq_false c8
   clear c8
   replace H := Option.bind_eq_some_iff.mp H
   obtain ⟨t434, A100, H⟩ := H
   have A10 := Aside0.mk A100
   clear A100
   by_cases c11 : t434 < 0
   ·rw [if_pos c11] at H
    have c11b0 : decide (t434 < 0) = true := decide_eq_true c11
    clear c11
    obtain rfl := Option.some.inj H
    go_enter Try.func4, Try.ntmps4
    go_wp2_with (first | ((with_reducible refine gate_dst (N := 5) rfl ?_); refine box_event ?hg (N := 5) ?hd (cs := #[.slice A2_0 l2_0.length c2_0, .slice A2_1 l2_1.length c2_1, .slice A2_2 l2_2.length c2_2]) (t := 34) ?hr ?_; (case hd => rfl); (case hg => rfl); (case hr => first | (go_simp; done) | (go_simp; rfl)); intro gb431 hg w12 hbox hb; have BK431 := Aside0.mk (hbox); have GW431 := Aside0.mk ((by rw [hg]; exact (below_size (laB HB.out)) : w.heap.size ≤ gb431)); have GE431 := Aside0.mk ((by rw [hg]; exact (below_size (laB HB.out)) : w.heap.size ≤ gb431)); have ge431_ := Nonempty.intro GE431.out; replace HB := Aside0.mk (below_step (laB HB.out) hb); clear hb hbox hg) | ((with_reducible refine gate_callee (f := 9) rfl ?_); refine goesL_ (some 15) rfl rfl Try.func9 (by kernel_rfl) rfl #[.slice A0 l0.length c0, .int .i64 1048576] rfl (by (try simp only [List.map_toArray, List.map_cons, List.map_nil]); first | done | rfl | (simp only [List.length_drop, List.length_take]; rfl)) ?_; (with_reducible refine (laws_szNodeS.calls _ _ l0 1048576 t432 _ ?side1 ?side2 A4.out).mono ?_); (case side1 => exact laC (Kd.C_below HR0.out HB.out)); (case side2 => exact HC0.out); rintro e w' ⟨rfl, ⟨nd, rfl⟩⟩; refine ⟨_, rfl, ?_⟩) | ((with_reducible refine gate_callee (f := 9) rfl ?_); refine goesL_ (some 20) rfl rfl Try.func9 (by kernel_rfl) rfl #[.slice A1 l1.length c1, .int .i64 t432] rfl (by (try simp only [List.map_toArray, List.map_cons, List.map_nil]); first | done | rfl | (simp only [List.length_drop, List.length_take]; rfl)) ?_; (with_reducible refine (laws_szNodeS.calls _ _ l1 t432 t433 _ ?side1 ?side2 A7.out).mono ?_); (case side1 => repeat (first | exact (Kd.C_below HR1.out (laB HB.out)) | (with_reducible refine Kd.C_alloc ?_ _) | (with_reducible refine Kd.C_drewN ?_ _) | (with_reducible refine Kd.C_drew ?_))); (case side2 => exact HC1.out); rintro e w' ⟨rfl, ⟨nd, rfl⟩⟩; refine ⟨_, rfl, ?_⟩; have hcz13_0 : w12.cell? ⟨gb431, 0, none⟩ = some (.slice A2_0 l2_0.length c2_0) := (blk_cell BK431.out 0).trans rfl; have hcz13_1 : w12.cell? ⟨gb431, 1, none⟩ = some (.slice A2_1 l2_1.length c2_1) := (blk_cell BK431.out 1).trans rfl; have hcz13_2 : w12.cell? ⟨gb431, 2, none⟩ = some (.slice A2_2 l2_2.length c2_2) := (blk_cell BK431.out 2).trans rfl; have hfz13_0 := blk_frozen BK431.out 0; have hfz13_1 := blk_frozen BK431.out 1; have hfz13_2 := blk_frozen BK431.out 2) | ((with_reducible refine gate_callee (f := 18) rfl ?_); refine goesL_ (some 25) rfl rfl Try.func18 (by kernel_rfl) rfl #[.agg #[.slice A2_0 l2_0.length c2_0, .slice A2_1 l2_1.length c2_1, .slice A2_2 l2_2.length c2_2], .int .i64 t433] rfl (by (try simp only [List.map_toArray, List.map_cons, List.map_nil]); first | done | rfl | (simp only [List.length_drop, List.length_take]; rfl)) ?_; (with_reducible refine (laws_szCost.calls _ _ l2_0 _ _ l2_1 _ _ l2_2 t433 t434 _ ?side1 ?side2 ?side3 ?side4 ?side5 ?side6 A10.out).mono ?_); (case side1 => repeat (first | exact (Kd.C_below HR2_0.out (laB HB.out)) | (with_reducible refine Kd.C_alloc ?_ _) | (with_reducible refine Kd.C_drewN ?_ _) | (with_reducible refine Kd.C_drew ?_))); (case side2 => exact HC2_0.out); (case side3 => repeat (first | exact (Kd.C_below HR2_1.out (laB HB.out)) | (with_reducible refine Kd.C_alloc ?_ _) | (with_reducible refine Kd.C_drewN ?_ _) | (with_reducible refine Kd.C_drew ?_))); (case side4 => exact HC2_1.out); (case side5 => repeat (first | exact (Kd.C_below HR2_2.out (laB HB.out)) | (with_reducible refine Kd.C_alloc ?_ _) | (with_reducible refine Kd.C_drewN ?_ _) | (with_reducible refine Kd.C_drew ?_))); (case side6 => exact HC2_2.out); rintro e w14 ⟨rfl, hb⟩; refine ⟨_, rfl, ?_⟩; replace BK431 := Aside0.mk (laKb BK431.out hb); replace HB := Aside0.mk (below_step (laB HB.out) hb); (try clear hb); (try clear hb2); (try clear hk); (try clear hi)))
    go_ret
    exact ⟨by first | rfl | (simp [errW_none, errW_some] <;> rfl) | (simp [*, errW_none, errW_some] <;> rfl), laB HB.out⟩
   ·rw [if_neg c11] at H
    have c11b0 : decide (t434 < 0) = false := decide_eq_false c11
    clear c11
    replace H := Option.bind_eq_some_iff.mp H
    obtain ⟨t435, A150, H⟩ := H
    have A15 := Aside0.mk A150
    clear A150
    replace H := Option.bind_eq_some_iff.mp H
    obtain ⟨t438, A160, H⟩ := H
    have A16 := Aside0.mk A160
    clear A160
    replace H := Option.bind_eq_some_iff.mp H
    obtain ⟨⟨t441, t444, t447⟩, A170, H⟩ := H
    have A17 := Aside0.mk A170
    clear A170
    replace H := Option.bind_eq_some_iff.mp H
    obtain ⟨t450, A180, H⟩ := H
    have A18 := Aside0.mk A180
    clear A180
    replace H := Option.bind_eq_some_iff.mp H
    obtain ⟨t451, A190, H⟩ := H
    have A19 := Aside0.mk A190
    clear A190
    replace H := Option.bind_eq_some_iff.mp H
    obtain ⟨t454, A200, H⟩ := H
    have A20 := Aside0.mk A200
    clear A200
    replace H := Option.bind_eq_some_iff.mp H
    obtain ⟨⟨t457, t460, t463⟩, A210, H⟩ := H
    have A21 := Aside0.mk A210
    clear A210
    replace H := Option.bind_eq_some_iff.mp H
    obtain ⟨t467, A220, H⟩ := H
    have A22 := Aside0.mk A220
    clear A220
    by_cases c23 : t467 = t450
    ·rw [if_pos c23] at H
     have c23b0 : (t467 == t450) = true := beq_iff_eq.mpr c23
     have c23b1 : (t467 != t450) = false := bne_eq_false_iff_eq.mpr c23
     clear c23
     replace H := Option.bind_eq_some_iff.mp H
     obtain ⟨t468, A240, H⟩ := H
     have A24 := Aside0.mk A240
     clear A240
     replace H := Option.bind_eq_some_iff.mp H
     obtain ⟨t471, A250, H⟩ := H
     have A25 := Aside0.mk A250
     clear A250
     by_cases c26 : t471 = true
     ·subst c26
      rw [if_pos rfl] at H
      replace H := Option.bind_eq_some_iff.mp H
      obtain ⟨t472, A270, H⟩ := H
      have A27 := Aside0.mk A270
      clear A270
      replace H := Option.bind_eq_some_iff.mp H
      obtain ⟨t475, A280, H⟩ := H
      have A28 := Aside0.mk A280
      clear A280
      by_cases c29 : t475 = true
      ·subst c29
       rw [if_pos rfl] at H
       replace H := Option.bind_eq_some_iff.mp H
       obtain ⟨⟨t476, t479, t482⟩, A300, H⟩ := H
       have A30 := Aside0.mk A300
       clear A300
       replace H := Option.bind_eq_some_iff.mp H
       obtain ⟨t485, A310, H⟩ := H
       have A31 := Aside0.mk A310
       clear A310
       by_cases c32 : t485 = true
       ·subst c32
        rw [if_pos rfl] at H
        obtain rfl := Option.some.inj H
        go_enter Try.func4, Try.ntmps4
        try go_wp2_with (first | ((with_reducible refine gate_dst (N := 5) rfl ?_); refine box_event ?hg (N := 5) ?hd (cs := #[.slice A2_0 l2_0.length c2_0, .slice A2_1 l2_1.length c2_1, .slice A2_2 l2_2.length c2_2]) (t := 34) ?hr ?_; (case hd => rfl); (case hg => rfl); (case hr => first | (go_simp; done) | (go_simp; rfl)); intro gb431 hg w33 hbox hb; have BK431 := Aside0.mk (hbox); have GW431 := Aside0.mk ((by rw [hg]; exact (below_size (laB HB.out)) : w.heap.size ≤ gb431)); have GE431 := Aside0.mk ((by rw [hg]; exact (below_size (laB HB.out)) : w.heap.size ≤ gb431)); have ge431_ := Nonempty.intro GE431.out; replace HB := Aside0.mk (below_step (laB HB.out) hb); clear hb hbox hg) | ((with_reducible refine gate_callee (f := 9) rfl ?_); refine goesL_ (some 15) rfl rfl Try.func9 (by kernel_rfl) rfl #[.slice A0 l0.length c0, .int .i64 1048576] rfl (by (try simp only [List.map_toArray, List.map_cons, List.map_nil]); first | done | rfl | (simp only [List.length_drop, List.length_take]; rfl)) ?_; (with_reducible refine (laws_szNodeS.calls _ _ l0 1048576 t432 _ ?side1 ?side2 A4.out).mono ?_); (case side1 => exact laC (Kd.C_below HR0.out HB.out)); (case side2 => exact HC0.out); rintro e w' ⟨rfl, ⟨nd, rfl⟩⟩; refine ⟨_, rfl, ?_⟩; (try (rw [drewN_self w33]; generalize hq_ : World.drewN w33 _ = w33; have n0_ : Aside0 (w33.heap[gb431]? = some (.cells #[.slice A2_0 l2_0.length c2_0, .slice A2_1 l2_1.length c2_1, .slice A2_2 l2_2.length c2_2] 34 (0, 0))) := ⟨by rw [← hq_]; exact (laK BK431.out)⟩; have n1_ : Aside0 (Below w.heap.size w w33) := ⟨by rw [← hq_]; exact (laB HB.out)⟩; clear BK431 HB hq_; have BK431 := n0_; have HB := n1_; clear n0_ n1_))) | ((with_reducible refine gate_callee (f := 9) rfl ?_); refine goesL_ (some 20) rfl rfl Try.func9 (by kernel_rfl) rfl #[.slice A1 l1.length c1, .int .i64 t432] rfl (by (try simp only [List.map_toArray, List.map_cons, List.map_nil]); first | done | rfl | (simp only [List.length_drop, List.length_take]; rfl)) ?_; (with_reducible refine (laws_szNodeS.calls _ _ l1 t432 t433 _ ?side1 ?side2 A7.out).mono ?_); (case side1 => exact laC (Kd.C_below HR1.out HB.out)); (case side2 => exact HC1.out); rintro e w' ⟨rfl, ⟨nd, rfl⟩⟩; refine ⟨_, rfl, ?_⟩; (try (rw [drewN_self w33]; generalize hq_ : World.drewN w33 _ = w33; have n0_ : Aside0 (w33.heap[gb431]? = some (.cells #[.slice A2_0 l2_0.length c2_0, .slice A2_1 l2_1.length c2_1, .slice A2_2 l2_2.length c2_2] 34 (0, 0))) := ⟨by rw [← hq_]; exact (laK BK431.out)⟩; have n1_ : Aside0 (Below w.heap.size w w33) := ⟨by rw [← hq_]; exact (laB HB.out)⟩; clear BK431 HB hq_; have BK431 := n0_; have HB := n1_; clear n0_ n1_)); have hcz34_0 : w33.cell? ⟨gb431, 0, none⟩ = some (.slice A2_0 l2_0.length c2_0) := (blk_cell BK431.out 0).trans rfl; have hcz34_1 : w33.cell? ⟨gb431, 1, none⟩ = some (.slice A2_1 l2_1.length c2_1) := (blk_cell BK431.out 1).trans rfl; have hcz34_2 : w33.cell? ⟨gb431, 2, none⟩ = some (.slice A2_2 l2_2.length c2_2) := (blk_cell BK431.out 2).trans rfl; have hfz34_0 := blk_frozen BK431.out 0; have hfz34_1 := blk_frozen BK431.out 1; have hfz34_2 := blk_frozen BK431.out 2) | ((with_reducible refine gate_callee (f := 18) rfl ?_); refine goesL_ (some 25) rfl rfl Try.func18 (by kernel_rfl) rfl #[.agg #[.slice A2_0 l2_0.length c2_0, .slice A2_1 l2_1.length c2_1, .slice A2_2 l2_2.length c2_2], .int .i64 t433] rfl (by (try simp only [List.map_toArray, List.map_cons, List.map_nil]); first | done | rfl | (simp only [List.length_drop, List.length_take]; rfl)) ?_; (with_reducible refine (laws_szCost.calls _ _ l2_0 _ _ l2_1 _ _ l2_2 t433 t434 _ ?side1 ?side2 ?side3 ?side4 ?side5 ?side6 A10.out).mono ?_); (case side1 => exact laC (Kd.C_below HR2_0.out HB.out)); (case side2 => exact HC2_0.out); (case side3 => exact laC (Kd.C_below HR2_1.out HB.out)); (case side4 => exact HC2_1.out); (case side5 => exact laC (Kd.C_below HR2_2.out HB.out)); (case side6 => exact HC2_2.out); rintro e w35 ⟨rfl, hb⟩; refine ⟨_, rfl, ?_⟩; replace BK431 := Aside0.mk (laKb BK431.out hb); replace HB := Aside0.mk (below_step (laB HB.out) hb); (try clear hb); (try clear hb2); (try clear hk); (try clear hi)))
        replace BK431 := Aside0.mk (blk_drew BK431.out)
        replace HB := Aside0.mk (below_drew1 HB.out)
        refine start_ (n := 8) (S := fun w' => w'.cell? ⟨gb431, 0, none⟩ = some (.slice A2_0 l2_0.length c2_0) ∧ w'.cell? ⟨gb431, 1, none⟩ = some (.slice A2_1 l2_1.length c2_1) ∧ w'.cell? ⟨gb431, 2, none⟩ = some (.slice A2_2 l2_2.length c2_2)) (ds := []) #[false, false, false, false, false, false, false, false] (by kernel_rfl) rfl rfl ⟨(blk_cell BK431.out 0).trans rfl, (blk_cell BK431.out 1).trans rfl, (blk_cell BK431.out 2).trans rfl⟩ (fun hHeld => ?_); refine with_tabW laws_FnExactLowerBound.tab11 laws_FnExactLowerBound.bits11 (fun HT_ HW_ => ?_)
        generalize w35.drew = w36 at BK431 HB hHeld ⊢
        refine pure_ (i := 0) (N := some 28) (v := ?_) (a' := ?_) #[true, false, false, false, false, false, false, false] rfl rfl (any_of HT_.out (by kernel_rfl)) (fun _ _ _ h => h) (Or.inl ⟨by rfl, ?_⟩) ?_ ?_
        rotate_left
        ·intro w'
         go_simp
         with_reducible rfl
        rotate_left
        ·simp only [Act.put, List.setIfInBounds_toArray, List.set_cons_zero, List.set_cons_succ, i64_w, i32_w]
         rfl
        refine pure_ (i := 2) (N := some 30) (v := ?_) (a' := ?_) #[true, false, true, false, false, false, false, false] rfl rfl (any_of HT_.out (by kernel_rfl)) (fun _ _ _ h => h) (Or.inl ⟨by rfl, ?_⟩) ?_ ?_
        rotate_left
        ·intro w'
         go_simp
         with_reducible rfl
        rotate_left
        ·simp only [Act.put, List.setIfInBounds_toArray, List.set_cons_zero, List.set_cons_succ, i64_w, i32_w]
         rfl
        refine take_ (i := 4) (N := some 32) (v := ?_) (a' := ?_) #[true, false, true, false, true, false, false, false] rfl rfl (take_ofW HT_.out HW_.out (by kernel_rfl)) (fun _ _ _ h => h) (Or.inl ⟨by rfl, ?_⟩) hHeld ?_ ?_
        rotate_left
        ·rintro w' ⟨s0, s1, s2⟩
         go_simp
         with_reducible rfl
        rotate_left
        ·simp only [Act.put, List.setIfInBounds_toArray, List.set_cons_zero, List.set_cons_succ, i64_w, i32_w]
         rfl
        refine one_ (i := 1) (N := some 29) #[true, true, true, false, true, false, false, false] rfl rfl (one_of HT_.out (by kernel_rfl)) (by decide) (fun K hK => ?_)
        refine goes_ Try.func11 (by kernel_rfl) rfl #[.slice A0 l0.length c0] (by rfl) rfl rfl (by (try simp only [List.map_toArray, List.map_cons, List.map_nil]); first | done | rfl | (simp only [List.length_drop, List.length_take]; rfl)) ?_
        with_reducible refine (laws_toNodeS.calls k _ _ l0 t435 _ ?side1 ?side2 A15.out).mono ?_
        (case side1 => exact laC (Kd.C_below HR0.out HB.out))
        (case side2 => exact HC0.out)
        rintro e w37 ⟨v436, rfl, ho0, hb⟩
        refine ⟨_, rfl, ?_⟩
        have HO437 := Aside0.mk (Kd.R_lower ho0 (below_size (laB HB.out)))
        replace BK431 := Aside0.mk (laKb BK431.out hb)
        replace HB := Aside0.mk (below_step (laB HB.out) hb)
        (try clear hb)
        (try clear hb2)
        (try clear hk)
        (try clear hi)
        (try clear ho0)
        refine hK.out _ _ ⟨(blk_cell BK431.out 0).trans rfl, (blk_cell BK431.out 1).trans rfl, (blk_cell BK431.out 2).trans rfl⟩ (fun hHeld => ?_)
        clear hK K
        refine norm_ (a' := ?_) ?_ ?_
        rotate_left
        ·show Act.put _ (some 29) _ = _
         simp only [Act.put, List.setIfInBounds_toArray, List.set_cons_zero, List.set_cons_succ, i64_w, i32_w]
         rfl
        refine one_ (i := 3) (N := some 31) #[true, true, true, true, true, false, false, false] rfl rfl (one_of HT_.out (by kernel_rfl)) (by decide) (fun K hK => ?_)
        refine goes_ Try.func11 (by kernel_rfl) rfl #[.slice A1 l1.length c1] (by rfl) rfl rfl (by (try simp only [List.map_toArray, List.map_cons, List.map_nil]); first | done | rfl | (simp only [List.length_drop, List.length_take]; rfl)) ?_
        with_reducible refine (laws_toNodeS.calls k _ _ l1 t438 _ ?side1 ?side2 A16.out).mono ?_
        (case side1 => exact laC (Kd.C_below HR1.out HB.out))
        (case side2 => exact HC1.out)
        rintro e w38 ⟨v439, rfl, ho0, hb⟩
        refine ⟨_, rfl, ?_⟩
        have HO440 := Aside0.mk (Kd.R_lower (Kd.R_new' ho0 (Kd.R_lt (laR HO437.out))) (below_size (laB HB.out)))
        replace HO437 := Aside0.mk (Kd.R_elder' (laR HO437.out) (Kd.R_base ho0) hb)
        replace BK431 := Aside0.mk (laKb BK431.out hb)
        replace HB := Aside0.mk (below_step (laB HB.out) hb)
        (try clear hb)
        (try clear hb2)
        (try clear hk)
        (try clear hi)
        (try clear ho0)
        refine hK.out _ _ ⟨(blk_cell BK431.out 0).trans rfl, (blk_cell BK431.out 1).trans rfl, (blk_cell BK431.out 2).trans rfl⟩ (fun hHeld => ?_)
        clear hK K
        refine norm_ (a' := ?_) ?_ ?_
        rotate_left
        ·show Act.put _ (some 31) _ = _
         simp only [Act.put, List.setIfInBounds_toArray, List.set_cons_zero, List.set_cons_succ, i64_w, i32_w]
         rfl
        refine one_ (i := 5) (N := some 33) #[true, true, true, true, true, true, false, false] rfl rfl (one_of HT_.out (by kernel_rfl)) (by decide) (fun K hK => ?_)
        refine goes_ Try.func20 (by kernel_rfl) rfl #[.agg #[.slice A2_0 l2_0.length c2_0, .slice A2_1 l2_1.length c2_1, .slice A2_2 l2_2.length c2_2]] (by rfl) rfl rfl (by (try simp only [List.map_toArray, List.map_cons, List.map_nil]); first | done | rfl | (simp only [List.length_drop, List.length_take]; rfl)) ?_
        with_reducible refine (laws_toCost.calls k _ _ l2_0 _ _ l2_1 _ _ l2_2 t441 t444 t447 _ ?side1 ?side2 ?side3 ?side4 ?side5 ?side6 A17.out).mono ?_
        (case side1 => exact laC (Kd.C_below HR2_0.out HB.out))
        (case side2 => exact HC2_0.out)
        (case side3 => exact laC (Kd.C_below HR2_1.out HB.out))
        (case side4 => exact HC2_1.out)
        (case side5 => exact laC (Kd.C_below HR2_2.out HB.out))
        (case side6 => exact HC2_2.out)
        rintro e w39 ⟨v442, v445, v448, rfl, ho0, ho1, ho2, hb⟩
        refine ⟨_, rfl, ?_⟩
        replace HO437 := Aside0.mk (laRb HO437.out hb)
        replace HO440 := Aside0.mk (laRb HO440.out hb)
        have HO443 := Aside0.mk (Kd.R_lower ho0 (below_size (laB HB.out)))
        have HO446 := Aside0.mk (Kd.R_lower ho1 (below_size (laB HB.out)))
        have HO449 := Aside0.mk (Kd.R_lower ho2 (below_size (laB HB.out)))
        replace BK431 := Aside0.mk (laKb BK431.out hb)
        replace HB := Aside0.mk (below_step (laB HB.out) hb)
        (try clear hb)
        (try clear hb2)
        (try clear hk)
        (try clear hi)
        (try clear ho0)
        (try clear ho1)
        (try clear ho2)
        obtain ⟨Ao40, co40, eo40⟩ := Kd.R_slice HO437.out
        (first | subst eo40 | (injection eo40 with f1_ f2_ f3_; have f4_ := f1_.symm; have f5_ := f3_.symm; clear f1_ f2_ f3_; subst f4_; subst f5_))
        obtain ⟨Ao41, co41, eo41⟩ := Kd.R_slice HO440.out
        (first | subst eo41 | (injection eo41 with f1_ f2_ f3_; have f4_ := f1_.symm; have f5_ := f3_.symm; clear f1_ f2_ f3_; subst f4_; subst f5_))
        obtain ⟨Ao42, co42, eo42⟩ := Kd.R_slice HO443.out
        (first | subst eo42 | (injection eo42 with f1_ f2_ f3_; have f4_ := f1_.symm; have f5_ := f3_.symm; clear f1_ f2_ f3_; subst f4_; subst f5_))
        obtain ⟨Ao43, co43, eo43⟩ := Kd.R_slice HO446.out
        (first | subst eo43 | (injection eo43 with f1_ f2_ f3_; have f4_ := f1_.symm; have f5_ := f3_.symm; clear f1_ f2_ f3_; subst f4_; subst f5_))
        obtain ⟨Ao44, co44, eo44⟩ := Kd.R_slice HO449.out
        (first | subst eo44 | (injection eo44 with f1_ f2_ f3_; have f4_ := f1_.symm; have f5_ := f3_.symm; clear f1_ f2_ f3_; subst f4_; subst f5_))
        refine hK.out _ _ ⟨(blk_cell BK431.out 0).trans rfl, (blk_cell BK431.out 1).trans rfl, (blk_cell BK431.out 2).trans rfl⟩ (fun hHeld => ?_)
        clear hK K
        refine norm_ (a' := ?_) ?_ ?_
        rotate_left
        ·show Act.put _ (some 33) _ = _
         simp only [Act.put, List.setIfInBounds_toArray, List.set_cons_zero, List.set_cons_succ, i64_w, i32_w]
         rfl
        refine one_ (i := 6) (N := some 34) #[true, true, true, true, true, true, true, false] rfl rfl (one_of HT_.out (by kernel_rfl)) (by decide) (fun K hK => ?_)
        refine goes_ Try.func19 (by kernel_rfl) rfl #[.slice Ao40 t435.length co40, .slice Ao41 t438.length co41, .agg #[.slice Ao42 t441.length co42, .slice Ao43 t444.length co43, .slice Ao44 t447.length co44]] (by rfl) rfl rfl (by (try simp only [List.map_toArray, List.map_cons, List.map_nil]); first | done | rfl | (simp only [List.length_drop, List.length_take]; rfl)) ?_
        with_reducible refine (spec_LowerBound.calls k _ _ t435 _ _ t438 _ _ t441 _ _ t444 _ _ t447 t450 _ ?side1 ?side2 ?side3 ?side4 ?side5 ?side6 ?side7 ?side8 ?side9 ?side10 A18.out).mono ?_
        (case side1 => exact laC (Kd.R_reads' HO437.out).2.2)
        (case side2 => exact (Kd.R_reads' HO437.out).2.1)
        (case side3 => exact laC (Kd.R_reads' HO440.out).2.2)
        (case side4 => exact (Kd.R_reads' HO440.out).2.1)
        (case side5 => exact laC (Kd.R_reads' HO443.out).2.2)
        (case side6 => exact (Kd.R_reads' HO443.out).2.1)
        (case side7 => exact laC (Kd.R_reads' HO446.out).2.2)
        (case side8 => exact (Kd.R_reads' HO446.out).2.1)
        (case side9 => exact laC (Kd.R_reads' HO449.out).2.2)
        (case side10 => exact (Kd.R_reads' HO449.out).2.1)
        rintro e w45 ⟨rfl, hb⟩
        refine ⟨_, rfl, ?_⟩
        replace HO437 := Aside0.mk (laRb HO437.out hb)
        replace HO440 := Aside0.mk (laRb HO440.out hb)
        replace HO443 := Aside0.mk (laRb HO443.out hb)
        replace HO446 := Aside0.mk (laRb HO446.out hb)
        replace HO449 := Aside0.mk (laRb HO449.out hb)
        replace BK431 := Aside0.mk (laKb BK431.out hb)
        replace HB := Aside0.mk (below_step (laB HB.out) hb)
        (try clear hb)
        (try clear hb2)
        (try clear hk)
        (try clear hi)
        refine hK.out _ _ ⟨(blk_cell BK431.out 0).trans rfl, (blk_cell BK431.out 1).trans rfl, (blk_cell BK431.out 2).trans rfl⟩ (fun hHeld => ?_)
        clear hK K
        refine norm_ (a' := ?_) ?_ ?_
        rotate_left
        ·show Act.put _ (some 34) _ = _
         simp only [Act.put, List.setIfInBounds_toArray, List.set_cons_zero, List.set_cons_succ, i64_w, i32_w]
         rfl
        refine pure_ (i := 7) (N := some 8) (v := ?_) (a' := ?_) #[true, true, true, true, true, true, true, true] rfl rfl (any_of HT_.out (by kernel_rfl)) (fun _ _ _ h => h) (Or.inl ⟨by rfl, ?_⟩) ?_ ?_
        rotate_left
        ·intro w'
         go_simp
         with_reducible rfl
        rotate_left
        ·simp only [Act.put, List.setIfInBounds_toArray, List.set_cons_zero, List.set_cons_succ, i64_w, i32_w]
         rfl
        refine done_ (done_of HT_.out (by kernel_rfl)) ?_
        try go_wp2_with (first | ((with_reducible refine gate_callee (f := 11) rfl ?_); refine goesL_ (some 36) rfl rfl Try.func11 (by kernel_rfl) rfl #[.slice A0 l0.length c0] rfl (by (try simp only [List.map_toArray, List.map_cons, List.map_nil]); first | done | rfl | (simp only [List.length_drop, List.length_take]; rfl)) ?_; (with_reducible refine (laws_toNodeS.calls k _ _ l0 t451 _ ?side1 ?side2 A19.out).mono ?_); (case side1 => exact laC (Kd.C_below HR0.out HB.out)); (case side2 => exact HC0.out); rintro e w46 ⟨v452, rfl, ho0, hb⟩; refine ⟨_, rfl, ?_⟩; replace HO443 := Aside0.mk (laRb HO443.out hb); replace HO446 := Aside0.mk (laRb HO446.out hb); replace HO449 := Aside0.mk (laRb HO449.out hb); have HO453 := Aside0.mk (Kd.R_lower (Kd.R_new' (Kd.R_new' ho0 (Kd.R_lt (laR HO437.out))) (Kd.R_lt (laR HO440.out))) (below_size (laB HB.out))); replace HO437 := Aside0.mk (Kd.R_elder' (laR HO437.out) (Kd.R_base ho0) hb); replace HO440 := Aside0.mk (Kd.R_elder' (laR HO440.out) (Kd.R_base ho0) hb); replace BK431 := Aside0.mk (laKb BK431.out hb); replace HB := Aside0.mk (below_step (laB HB.out) hb); (try clear hb); (try clear hb2); (try clear hk); (try clear hi); (try clear ho0)) | ((with_reducible refine gate_callee (f := 11) rfl ?_); refine goesL_ (some 38) rfl rfl Try.func11 (by kernel_rfl) rfl #[.slice A1 l1.length c1] rfl (by (try simp only [List.map_toArray, List.map_cons, List.map_nil]); first | done | rfl | (simp only [List.length_drop, List.length_take]; rfl)) ?_; (with_reducible refine (laws_toNodeS.calls k _ _ l1 t454 _ ?side1 ?side2 A20.out).mono ?_); (case side1 => exact laC (Kd.C_below HR1.out HB.out)); (case side2 => exact HC1.out); rintro e w47 ⟨v455, rfl, ho0, hb⟩; refine ⟨_, rfl, ?_⟩; replace HO443 := Aside0.mk (laRb HO443.out hb); replace HO446 := Aside0.mk (laRb HO446.out hb); replace HO449 := Aside0.mk (laRb HO449.out hb); have HO456 := Aside0.mk (Kd.R_lower (Kd.R_new' (Kd.R_new' (Kd.R_new' ho0 (Kd.R_lt (laR HO437.out))) (Kd.R_lt (laR HO440.out))) (Kd.R_lt (laR HO453.out))) (below_size (laB HB.out))); replace HO437 := Aside0.mk (Kd.R_elder' (laR HO437.out) (Kd.R_base ho0) hb); replace HO440 := Aside0.mk (Kd.R_elder' (laR HO440.out) (Kd.R_base ho0) hb); replace HO453 := Aside0.mk (Kd.R_elder' (laR HO453.out) (Kd.R_base ho0) hb); replace BK431 := Aside0.mk (laKb BK431.out hb); replace HB := Aside0.mk (below_step (laB HB.out) hb); (try clear hb); (try clear hb2); (try clear hk); (try clear hi); (try clear ho0); have hcz48_0 : w47.cell? ⟨gb431, 0, none⟩ = some (.slice A2_0 l2_0.length c2_0) := (blk_cell BK431.out 0).trans rfl; have hcz48_1 : w47.cell? ⟨gb431, 1, none⟩ = some (.slice A2_1 l2_1.length c2_1) := (blk_cell BK431.out 1).trans rfl; have hcz48_2 : w47.cell? ⟨gb431, 2, none⟩ = some (.slice A2_2 l2_2.length c2_2) := (blk_cell BK431.out 2).trans rfl; have hfz48_0 := blk_frozen BK431.out 0; have hfz48_1 := blk_frozen BK431.out 1; have hfz48_2 := blk_frozen BK431.out 2) | ((with_reducible refine gate_callee (f := 20) rfl ?_); refine goesL_ (some 40) rfl rfl Try.func20 (by kernel_rfl) rfl #[.agg #[.slice A2_0 l2_0.length c2_0, .slice A2_1 l2_1.length c2_1, .slice A2_2 l2_2.length c2_2]] rfl (by (try simp only [List.map_toArray, List.map_cons, List.map_nil]); first | done | rfl | (simp only [List.length_drop, List.length_take]; rfl)) ?_; (with_reducible refine (laws_toCost.calls k _ _ l2_0 _ _ l2_1 _ _ l2_2 t457 t460 t463 _ ?side1 ?side2 ?side3 ?side4 ?side5 ?side6 A21.out).mono ?_); (case side1 => exact laC (Kd.C_below HR2_0.out HB.out)); (case side2 => exact HC2_0.out); (case side3 => exact laC (Kd.C_below HR2_1.out HB.out)); (case side4 => exact HC2_1.out); (case side5 => exact laC (Kd.C_below HR2_2.out HB.out)); (case side6 => exact HC2_2.out); rintro e w49 ⟨v458, v461, v464, rfl, ho0, ho1, ho2, hb⟩; refine ⟨_, rfl, ?_⟩; replace HO437 := Aside0.mk (laRb HO437.out hb); replace HO440 := Aside0.mk (laRb HO440.out hb); replace HO453 := Aside0.mk (laRb HO453.out hb); replace HO456 := Aside0.mk (laRb HO456.out hb); have HO459 := Aside0.mk (Kd.R_lower (Kd.R_new' (Kd.R_new' (Kd.R_new' ho0 (Kd.R_lt (laR HO443.out))) (Kd.R_lt (laR HO446.out))) (Kd.R_lt (laR HO449.out))) (below_size (laB HB.out))); have HO462 := Aside0.mk (Kd.R_lower (Kd.R_new' (Kd.R_new' (Kd.R_new' ho1 (Kd.R_lt (laR HO443.out))) (Kd.R_lt (laR HO446.out))) (Kd.R_lt (laR HO449.out))) (below_size (laB HB.out))); have HO465 := Aside0.mk (Kd.R_lower (Kd.R_new' (Kd.R_new' (Kd.R_new' ho2 (Kd.R_lt (laR HO443.out))) (Kd.R_lt (laR HO446.out))) (Kd.R_lt (laR HO449.out))) (below_size (laB HB.out))); replace HO443 := Aside0.mk (Kd.R_mono (Kd.R_told (Kd.R_told (Kd.R_told (Kd.R_old (laR HO443.out) hb) (Kd.R_base ho0)) (Kd.R_base ho1)) (Kd.R_base ho2)) (fun _ h_ => h_.1)); replace HO446 := Aside0.mk (Kd.R_mono (Kd.R_told (Kd.R_told (Kd.R_told (Kd.R_old (laR HO446.out) hb) (Kd.R_base ho0)) (Kd.R_base ho1)) (Kd.R_base ho2)) (fun _ h_ => h_.1)); replace HO449 := Aside0.mk (Kd.R_mono (Kd.R_told (Kd.R_told (Kd.R_told (Kd.R_old (laR HO449.out) hb) (Kd.R_base ho0)) (Kd.R_base ho1)) (Kd.R_base ho2)) (fun _ h_ => h_.1)); replace BK431 := Aside0.mk (laKb BK431.out hb); replace HB := Aside0.mk (below_step (laB HB.out) hb); (try clear hb); (try clear hb2); (try clear hk); (try clear hi); (try clear ho0); (try clear ho1); (try clear ho2)) | ((with_reducible refine gate_dst (N := 11) rfl ?_); refine box_event ?hg (N := 11) ?hd (cs := #[.slice none 0 0, .slice none 0 0, .slice none 0 0]) (t := 37) ?hr ?_; (case hd => rfl); (case hg => rfl); (case hr => first | (go_simp; done) | (go_simp; rfl)); intro gb466 hg w50 hbox hb; replace HO437 := Aside0.mk (laRb HO437.out hb); replace HO440 := Aside0.mk (laRb HO440.out hb); replace HO443 := Aside0.mk (laRb HO443.out hb); replace HO446 := Aside0.mk (laRb HO446.out hb); replace HO449 := Aside0.mk (laRb HO449.out hb); replace HO453 := Aside0.mk (laRb HO453.out hb); replace HO456 := Aside0.mk (laRb HO456.out hb); replace HO459 := Aside0.mk (laRb HO459.out hb); replace HO462 := Aside0.mk (laRb HO462.out hb); replace HO465 := Aside0.mk (laRb HO465.out hb); have BK466 := Aside0.mk (hbox); have GW466 := Aside0.mk ((by rw [hg]; exact (below_size (laB HB.out)) : w.heap.size ≤ gb466)); have GE466 := Aside0.mk ((by rw [hg]; exact (below_size (laB HB.out)) : w.heap.size ≤ gb466)); have ge466_ := Nonempty.intro GE466.out; replace HB := Aside0.mk (below_step (laB HB.out) hb); have NB431_466 := Aside0.mk ((by rw [hg]; exact Nat.ne_of_lt (blk_lt (g := gb431) (o := .cells #[.slice A2_0 l2_0.length c2_0, .slice A2_1 l2_1.length c2_1, .slice A2_2 l2_2.length c2_2] 34 (0, 0)) (laK BK431.out)) : gb431 ≠ gb466)); have NB466_431 := Aside0.mk ((by rw [hg]; exact Nat.ne_of_gt (blk_lt (g := gb431) (o := .cells #[.slice A2_0 l2_0.length c2_0, .slice A2_1 l2_1.length c2_1, .slice A2_2 l2_2.length c2_2] 34 (0, 0)) (laK BK431.out)) : gb466 ≠ gb431)); replace BK431 := Aside0.mk (laKb BK431.out hb); clear hb hbox hg; obtain ⟨Ao51, co51, eo51⟩ := Kd.R_slice HO459.out; subst eo51; have hnb52 := NB466_431.out; have hnc52 := NB431_466.out; have hcz53_0 : w50.cell? ⟨gb466, 0, none⟩ = some (.slice none 0 0) := (blk_cell BK466.out 0).trans rfl; have hcz53_1 : w50.cell? ⟨gb466, 1, none⟩ = some (.slice none 0 0) := (blk_cell BK466.out 1).trans rfl; have hcz53_2 : w50.cell? ⟨gb466, 2, none⟩ = some (.slice none 0 0) := (blk_cell BK466.out 2).trans rfl; have hfz53_0 := blk_frozen BK466.out 0; have hfz53_1 := blk_frozen BK466.out 1; have hfz53_2 := blk_frozen BK466.out 2; obtain ⟨Ao54, co54, eo54⟩ := Kd.R_slice HO462.out; subst eo54; obtain ⟨Ao55, co55, eo55⟩ := Kd.R_slice HO465.out; subst eo55; obtain ⟨Ao56, co56, eo56⟩ := Kd.R_slice HO453.out; subst eo56; obtain ⟨Ao57, co57, eo57⟩ := Kd.R_slice HO456.out; subst eo57) | ((with_reducible refine gate_callee (f := 21) rfl ?_); refine goesL_ (some 44) rfl rfl Try.func21 (by kernel_rfl) rfl #[.slice Ao56 t451.length co56, .slice Ao57 t454.length co57, .agg #[.slice Ao51 t457.length co51, .slice Ao54 t460.length co54, .slice Ao55 t463.length co55]] rfl (by (try simp only [List.map_toArray, List.map_cons, List.map_nil]); first | done | rfl | (simp only [List.length_drop, List.length_take]; rfl)) ?_; (with_reducible refine (impl_LowerBound.calls k _ _ t451 _ _ t454 _ _ t457 _ _ t460 _ _ t463 t467 _ ?side1 ?side2 ?side3 ?side4 ?side5 ?side6 ?side7 ?side8 ?side9 ?side10 A22.out).mono ?_); (case side1 => refine (Kd.R_reads' (e := 59) (base := w.heap.size) (ok := fun k_ => (((True ∧ some k_ ≠ (.slice Ao40 t435.length co40 : Value).ownBlock) ∧ some k_ ≠ (.slice Ao41 t438.length co41 : Value).ownBlock) ∧ some k_ ≠ (.slice Ao57 t454.length co57 : Value).ownBlock)) (n := t451.length) (c := co56) ?_).2.2; exact (laR ((Kd.R_mono (Kd.R_far (p := ⟨gb466, 2, none⟩) (Kd.R_far (p := ⟨gb466, 1, none⟩) (Kd.R_far (p := ⟨gb466, 0, none⟩) (Kd.R_types HO453.out BK466.out (by decide)) (fun _ hk => hk.2) (.slice Ao51 t457.length co51)) (fun _ hk => hk.2) (.slice Ao54 t460.length co54)) (fun _ hk => hk.2) (.slice Ao55 t463.length co55)) (fun _ h_ => h_.1))))); (case side2 => exact (Kd.R_reads' HO453.out).2.1); (case side3 => refine (Kd.R_reads' (e := 59) (base := w.heap.size) (ok := fun k_ => (((True ∧ some k_ ≠ (.slice Ao40 t435.length co40 : Value).ownBlock) ∧ some k_ ≠ (.slice Ao41 t438.length co41 : Value).ownBlock) ∧ some k_ ≠ (.slice Ao56 t451.length co56 : Value).ownBlock)) (n := t454.length) (c := co57) ?_).2.2; exact (laR ((Kd.R_mono (Kd.R_far (p := ⟨gb466, 2, none⟩) (Kd.R_far (p := ⟨gb466, 1, none⟩) (Kd.R_far (p := ⟨gb466, 0, none⟩) (Kd.R_types HO456.out BK466.out (by decide)) (fun _ hk => hk.2) (.slice Ao51 t457.length co51)) (fun _ hk => hk.2) (.slice Ao54 t460.length co54)) (fun _ hk => hk.2) (.slice Ao55 t463.length co55)) (fun _ h_ => h_.1))))); (case side4 => exact (Kd.R_reads' HO456.out).2.1); (case side5 => refine (Kd.R_reads' (e := 3) (base := w.heap.size) (ok := fun k_ => ((((some k_ ≠ (.slice Ao54 t460.length co54 : Value).ownBlock ∧ some k_ ≠ (.slice Ao55 t463.length co55 : Value).ownBlock) ∧ some k_ ≠ (.slice Ao42 t441.length co42 : Value).ownBlock) ∧ some k_ ≠ (.slice Ao43 t444.length co43 : Value).ownBlock) ∧ some k_ ≠ (.slice Ao44 t447.length co44 : Value).ownBlock)) (n := t457.length) (c := co51) ?_).2.2; exact (laR ((Kd.R_mono (Kd.R_far (p := ⟨gb466, 2, none⟩) (Kd.R_far (p := ⟨gb466, 1, none⟩) (Kd.R_far (p := ⟨gb466, 0, none⟩) (Kd.R_types HO459.out BK466.out (by decide)) (fun _ hk => hk.2) (.slice Ao51 t457.length co51)) (fun _ hk => hk.2) (.slice Ao54 t460.length co54)) (fun _ hk => hk.2) (.slice Ao55 t463.length co55)) (fun _ h_ => h_.1))))); (case side6 => exact (Kd.R_reads' HO459.out).2.1); (case side7 => refine (Kd.R_reads' (e := 3) (base := w.heap.size) (ok := fun k_ => ((((some k_ ≠ (.slice Ao51 t457.length co51 : Value).ownBlock ∧ some k_ ≠ (.slice Ao55 t463.length co55 : Value).ownBlock) ∧ some k_ ≠ (.slice Ao42 t441.length co42 : Value).ownBlock) ∧ some k_ ≠ (.slice Ao43 t444.length co43 : Value).ownBlock) ∧ some k_ ≠ (.slice Ao44 t447.length co44 : Value).ownBlock)) (n := t460.length) (c := co54) ?_).2.2; exact (laR ((Kd.R_mono (Kd.R_far (p := ⟨gb466, 2, none⟩) (Kd.R_far (p := ⟨gb466, 1, none⟩) (Kd.R_far (p := ⟨gb466, 0, none⟩) (Kd.R_types HO462.out BK466.out (by decide)) (fun _ hk => hk.2) (.slice Ao51 t457.length co51)) (fun _ hk => hk.2) (.slice Ao54 t460.length co54)) (fun _ hk => hk.2) (.slice Ao55 t463.length co55)) (fun _ h_ => h_.1))))); (case side8 => exact (Kd.R_reads' HO462.out).2.1); (case side9 => refine (Kd.R_reads' (e := 3) (base := w.heap.size) (ok := fun k_ => ((((some k_ ≠ (.slice Ao51 t457.length co51 : Value).ownBlock ∧ some k_ ≠ (.slice Ao54 t460.length co54 : Value).ownBlock) ∧ some k_ ≠ (.slice Ao42 t441.length co42 : Value).ownBlock) ∧ some k_ ≠ (.slice Ao43 t444.length co43 : Value).ownBlock) ∧ some k_ ≠ (.slice Ao44 t447.length co44 : Value).ownBlock)) (n := t463.length) (c := co55) ?_).2.2; exact (laR ((Kd.R_mono (Kd.R_far (p := ⟨gb466, 2, none⟩) (Kd.R_far (p := ⟨gb466, 1, none⟩) (Kd.R_far (p := ⟨gb466, 0, none⟩) (Kd.R_types HO465.out BK466.out (by decide)) (fun _ hk => hk.2) (.slice Ao51 t457.length co51)) (fun _ hk => hk.2) (.slice Ao54 t460.length co54)) (fun _ hk => hk.2) (.slice Ao55 t463.length co55)) (fun _ h_ => h_.1))))); (case side10 => exact (Kd.R_reads' HO465.out).2.1); rintro e w58 ⟨rfl, hb⟩; refine ⟨_, rfl, ?_⟩; replace HO437 := Aside0.mk (Kd.R_below (laR ((Kd.R_mono (Kd.R_far (p := ⟨gb466, 2, none⟩) (Kd.R_far (p := ⟨gb466, 1, none⟩) (Kd.R_far (p := ⟨gb466, 0, none⟩) (Kd.R_types HO437.out BK466.out (by decide)) (fun _ hk => hk.2) (.slice Ao51 t457.length co51)) (fun _ hk => hk.2) (.slice Ao54 t460.length co54)) (fun _ hk => hk.2) (.slice Ao55 t463.length co55)) (fun _ h_ => h_.1)))) hb); replace HO440 := Aside0.mk (Kd.R_below (laR ((Kd.R_mono (Kd.R_far (p := ⟨gb466, 2, none⟩) (Kd.R_far (p := ⟨gb466, 1, none⟩) (Kd.R_far (p := ⟨gb466, 0, none⟩) (Kd.R_types HO440.out BK466.out (by decide)) (fun _ hk => hk.2) (.slice Ao51 t457.length co51)) (fun _ hk => hk.2) (.slice Ao54 t460.length co54)) (fun _ hk => hk.2) (.slice Ao55 t463.length co55)) (fun _ h_ => h_.1)))) hb); replace HO443 := Aside0.mk (Kd.R_below (laR ((Kd.R_mono (Kd.R_far (p := ⟨gb466, 2, none⟩) (Kd.R_far (p := ⟨gb466, 1, none⟩) (Kd.R_far (p := ⟨gb466, 0, none⟩) (Kd.R_types HO443.out BK466.out (by decide)) (fun _ hk => hk.2) (.slice Ao51 t457.length co51)) (fun _ hk => hk.2) (.slice Ao54 t460.length co54)) (fun _ hk => hk.2) (.slice Ao55 t463.length co55)) (fun _ h_ => h_.1)))) hb); replace HO446 := Aside0.mk (Kd.R_below (laR ((Kd.R_mono (Kd.R_far (p := ⟨gb466, 2, none⟩) (Kd.R_far (p := ⟨gb466, 1, none⟩) (Kd.R_far (p := ⟨gb466, 0, none⟩) (Kd.R_types HO446.out BK466.out (by decide)) (fun _ hk => hk.2) (.slice Ao51 t457.length co51)) (fun _ hk => hk.2) (.slice Ao54 t460.length co54)) (fun _ hk => hk.2) (.slice Ao55 t463.length co55)) (fun _ h_ => h_.1)))) hb); replace HO449 := Aside0.mk (Kd.R_below (laR ((Kd.R_mono (Kd.R_far (p := ⟨gb466, 2, none⟩) (Kd.R_far (p := ⟨gb466, 1, none⟩) (Kd.R_far (p := ⟨gb466, 0, none⟩) (Kd.R_types HO449.out BK466.out (by decide)) (fun _ hk => hk.2) (.slice Ao51 t457.length co51)) (fun _ hk => hk.2) (.slice Ao54 t460.length co54)) (fun _ hk => hk.2) (.slice Ao55 t463.length co55)) (fun _ h_ => h_.1)))) hb); replace HO453 := Aside0.mk (Kd.R_below (laR ((Kd.R_mono (Kd.R_far (p := ⟨gb466, 2, none⟩) (Kd.R_far (p := ⟨gb466, 1, none⟩) (Kd.R_far (p := ⟨gb466, 0, none⟩) (Kd.R_types HO453.out BK466.out (by decide)) (fun _ hk => hk.2) (.slice Ao51 t457.length co51)) (fun _ hk => hk.2) (.slice Ao54 t460.length co54)) (fun _ hk => hk.2) (.slice Ao55 t463.length co55)) (fun _ h_ => h_.1)))) hb); replace HO456 := Aside0.mk (Kd.R_below (laR ((Kd.R_mono (Kd.R_far (p := ⟨gb466, 2, none⟩) (Kd.R_far (p := ⟨gb466, 1, none⟩) (Kd.R_far (p := ⟨gb466, 0, none⟩) (Kd.R_types HO456.out BK466.out (by decide)) (fun _ hk => hk.2) (.slice Ao51 t457.length co51)) (fun _ hk => hk.2) (.slice Ao54 t460.length co54)) (fun _ hk => hk.2) (.slice Ao55 t463.length co55)) (fun _ h_ => h_.1)))) hb); replace HO459 := Aside0.mk (Kd.R_below (laR ((Kd.R_mono (Kd.R_far (p := ⟨gb466, 2, none⟩) (Kd.R_far (p := ⟨gb466, 1, none⟩) (Kd.R_far (p := ⟨gb466, 0, none⟩) (Kd.R_types HO459.out BK466.out (by decide)) (fun _ hk => hk.2) (.slice Ao51 t457.length co51)) (fun _ hk => hk.2) (.slice Ao54 t460.length co54)) (fun _ hk => hk.2) (.slice Ao55 t463.length co55)) (fun _ h_ => h_.1)))) hb); replace HO462 := Aside0.mk (Kd.R_below (laR ((Kd.R_mono (Kd.R_far (p := ⟨gb466, 2, none⟩) (Kd.R_far (p := ⟨gb466, 1, none⟩) (Kd.R_far (p := ⟨gb466, 0, none⟩) (Kd.R_types HO462.out BK466.out (by decide)) (fun _ hk => hk.2) (.slice Ao51 t457.length co51)) (fun _ hk => hk.2) (.slice Ao54 t460.length co54)) (fun _ hk => hk.2) (.slice Ao55 t463.length co55)) (fun _ h_ => h_.1)))) hb); replace HO465 := Aside0.mk (Kd.R_below (laR ((Kd.R_mono (Kd.R_far (p := ⟨gb466, 2, none⟩) (Kd.R_far (p := ⟨gb466, 1, none⟩) (Kd.R_far (p := ⟨gb466, 0, none⟩) (Kd.R_types HO465.out BK466.out (by decide)) (fun _ hk => hk.2) (.slice Ao51 t457.length co51)) (fun _ hk => hk.2) (.slice Ao54 t460.length co54)) (fun _ hk => hk.2) (.slice Ao55 t463.length co55)) (fun _ h_ => h_.1)))) hb); replace BK431 := Aside0.mk (blk_below (g := gb431) (o := .cells #[.slice A2_0 l2_0.length c2_0, .slice A2_1 l2_1.length c2_1, .slice A2_2 l2_2.length c2_2] 34 (0, 0)) (by (with_reducible repeat (first | refine blk_drewN ?_ _ | refine blk_drew ?_ | refine blk_alloc ?_ _)); refine blk_far ?_ NB431_466.out _; (with_reducible repeat (first | refine blk_drewN ?_ _ | refine blk_drew ?_ | refine blk_alloc ?_ _)); refine blk_far ?_ NB431_466.out _; (with_reducible repeat (first | refine blk_drewN ?_ _ | refine blk_drew ?_ | refine blk_alloc ?_ _)); refine blk_far ?_ NB431_466.out _; (with_reducible repeat (first | refine blk_drewN ?_ _ | refine blk_drew ?_ | refine blk_alloc ?_ _)); exact BK431.out) hb); replace BK466 := Aside0.mk (blk_below (g := gb466) (o := .cells #[.slice Ao51 t457.length co51, .slice Ao54 t460.length co54, .slice Ao55 t463.length co55] 37 (0, 0)) (by (with_reducible repeat (first | refine blk_drewN ?_ _ | refine blk_drew ?_ | refine blk_alloc ?_ _)); refine blk_put (cs := #[.slice Ao51 t457.length co51, .slice Ao54 t460.length co54, .slice none 0 0]) ?_ 2 _ rfl; (with_reducible repeat (first | refine blk_drewN ?_ _ | refine blk_drew ?_ | refine blk_alloc ?_ _)); refine blk_put (cs := #[.slice Ao51 t457.length co51, .slice none 0 0, .slice none 0 0]) ?_ 1 _ rfl; (with_reducible repeat (first | refine blk_drewN ?_ _ | refine blk_drew ?_ | refine blk_alloc ?_ _)); refine blk_put (cs := #[.slice none 0 0, .slice none 0 0, .slice none 0 0]) ?_ 0 _ rfl; (with_reducible repeat (first | refine blk_drewN ?_ _ | refine blk_drew ?_ | refine blk_alloc ?_ _)); exact BK466.out) hb); replace HB := Aside0.mk (below_step (laB HB.out) hb); (try clear hb); (try clear hb2); (try clear hk); (try clear hi)) | ((with_reducible refine gate_callee (f := 11) rfl ?_); refine goesL_ (some 50) rfl rfl Try.func11 (by kernel_rfl) rfl #[.slice A0 l0.length c0] rfl (by (try simp only [List.map_toArray, List.map_cons, List.map_nil]); first | done | rfl | (simp only [List.length_drop, List.length_take]; rfl)) ?_; (with_reducible refine (laws_toNodeS.calls k _ _ l0 t468 _ ?side1 ?side2 A24.out).mono ?_); (case side1 => exact laC (Kd.C_below HR0.out HB.out)); (case side2 => exact HC0.out); rintro e w59 ⟨v469, rfl, ho0, hb⟩; refine ⟨_, rfl, ?_⟩; replace HO443 := Aside0.mk (laRb HO443.out hb); replace HO446 := Aside0.mk (laRb HO446.out hb); replace HO449 := Aside0.mk (laRb HO449.out hb); replace HO459 := Aside0.mk (laRb HO459.out hb); replace HO462 := Aside0.mk (laRb HO462.out hb); replace HO465 := Aside0.mk (laRb HO465.out hb); have HO470 := Aside0.mk (Kd.R_lower (Kd.R_new' (Kd.R_new' (Kd.R_new' (Kd.R_new' ho0 (Kd.R_lt (laR HO437.out))) (Kd.R_lt (laR HO440.out))) (Kd.R_lt (laR HO453.out))) (Kd.R_lt (laR HO456.out))) (below_size (laB HB.out))); replace HO437 := Aside0.mk (Kd.R_elder' (laR HO437.out) (Kd.R_base ho0) hb); replace HO440 := Aside0.mk (Kd.R_elder' (laR HO440.out) (Kd.R_base ho0) hb); replace HO453 := Aside0.mk (Kd.R_elder' (laR HO453.out) (Kd.R_base ho0) hb); replace HO456 := Aside0.mk (Kd.R_elder' (laR HO456.out) (Kd.R_base ho0) hb); replace BK431 := Aside0.mk (laKb BK431.out hb); replace BK466 := Aside0.mk (laKb BK466.out hb); replace HB := Aside0.mk (below_step (laB HB.out) hb); (try clear hb); (try clear hb2); (try clear hk); (try clear hi); (try clear ho0); obtain ⟨Ao60, co60, eo60⟩ := Kd.R_slice HO470.out; subst eo60) | ((with_reducible refine gate_callee (f := 14) rfl ?_); refine goesL_ (some 51) rfl rfl Try.func14 (by kernel_rfl) rfl #[.slice Ao56 t451.length co56, .slice Ao60 t468.length co60] rfl (by (try simp only [List.map_toArray, List.map_cons, List.map_nil]); first | done | rfl | (simp only [List.length_drop, List.length_take]; rfl)) ?_; (with_reducible refine (laws_eqNodeS.calls k _ _ t451 _ _ t468 true _ ?side1 ?side2 ?side3 ?side4 A25.out).mono ?_); (case side1 => exact laC (Kd.R_reads' HO453.out).2.2); (case side2 => exact (Kd.R_reads' HO453.out).2.1); (case side3 => exact laC (Kd.R_reads' HO470.out).2.2); (case side4 => exact (Kd.R_reads' HO470.out).2.1); rintro e w61 ⟨rfl, hb⟩; refine ⟨_, rfl, ?_⟩; replace HO437 := Aside0.mk (laRb HO437.out hb); replace HO440 := Aside0.mk (laRb HO440.out hb); replace HO443 := Aside0.mk (laRb HO443.out hb); replace HO446 := Aside0.mk (laRb HO446.out hb); replace HO449 := Aside0.mk (laRb HO449.out hb); replace HO453 := Aside0.mk (laRb HO453.out hb); replace HO456 := Aside0.mk (laRb HO456.out hb); replace HO459 := Aside0.mk (laRb HO459.out hb); replace HO462 := Aside0.mk (laRb HO462.out hb); replace HO465 := Aside0.mk (laRb HO465.out hb); replace HO470 := Aside0.mk (laRb HO470.out hb); replace BK431 := Aside0.mk (laKb BK431.out hb); replace BK466 := Aside0.mk (laKb BK466.out hb); replace HB := Aside0.mk (below_step (laB HB.out) hb); (try clear hb); (try clear hb2); (try clear hk); (try clear hi)) | ((with_reducible refine gate_callee (f := 11) rfl ?_); refine goesL_ (some 55) rfl rfl Try.func11 (by kernel_rfl) rfl #[.slice A1 l1.length c1] rfl (by (try simp only [List.map_toArray, List.map_cons, List.map_nil]); first | done | rfl | (simp only [List.length_drop, List.length_take]; rfl)) ?_; (with_reducible refine (laws_toNodeS.calls k _ _ l1 t472 _ ?side1 ?side2 A27.out).mono ?_); (case side1 => exact laC (Kd.C_below HR1.out HB.out)); (case side2 => exact HC1.out); rintro e w62 ⟨v473, rfl, ho0, hb⟩; refine ⟨_, rfl, ?_⟩; replace HO443 := Aside0.mk (laRb HO443.out hb); replace HO446 := Aside0.mk (laRb HO446.out hb); replace HO449 := Aside0.mk (laRb HO449.out hb); replace HO459 := Aside0.mk (laRb HO459.out hb); replace HO462 := Aside0.mk (laRb HO462.out hb); replace HO465 := Aside0.mk (laRb HO465.out hb); have HO474 := Aside0.mk (Kd.R_lower (Kd.R_new' (Kd.R_new' (Kd.R_new' (Kd.R_new' (Kd.R_new' ho0 (Kd.R_lt (laR HO437.out))) (Kd.R_lt (laR HO440.out))) (Kd.R_lt (laR HO453.out))) (Kd.R_lt (laR HO456.out))) (Kd.R_lt (laR HO470.out))) (below_size (laB HB.out))); replace HO437 := Aside0.mk (Kd.R_elder' (laR HO437.out) (Kd.R_base ho0) hb); replace HO440 := Aside0.mk (Kd.R_elder' (laR HO440.out) (Kd.R_base ho0) hb); replace HO453 := Aside0.mk (Kd.R_elder' (laR HO453.out) (Kd.R_base ho0) hb); replace HO456 := Aside0.mk (Kd.R_elder' (laR HO456.out) (Kd.R_base ho0) hb); replace HO470 := Aside0.mk (Kd.R_elder' (laR HO470.out) (Kd.R_base ho0) hb); replace BK431 := Aside0.mk (laKb BK431.out hb); replace BK466 := Aside0.mk (laKb BK466.out hb); replace HB := Aside0.mk (below_step (laB HB.out) hb); (try clear hb); (try clear hb2); (try clear hk); (try clear hi); (try clear ho0); obtain ⟨Ao63, co63, eo63⟩ := Kd.R_slice HO474.out; subst eo63) | ((with_reducible refine gate_callee (f := 14) rfl ?_); refine goesL_ (some 56) rfl rfl Try.func14 (by kernel_rfl) rfl #[.slice Ao57 t454.length co57, .slice Ao63 t472.length co63] rfl (by (try simp only [List.map_toArray, List.map_cons, List.map_nil]); first | done | rfl | (simp only [List.length_drop, List.length_take]; rfl)) ?_; (with_reducible refine (laws_eqNodeS.calls k _ _ t454 _ _ t472 true _ ?side1 ?side2 ?side3 ?side4 A28.out).mono ?_); (case side1 => exact laC (Kd.R_reads' HO456.out).2.2); (case side2 => exact (Kd.R_reads' HO456.out).2.1); (case side3 => exact laC (Kd.R_reads' HO474.out).2.2); (case side4 => exact (Kd.R_reads' HO474.out).2.1); rintro e w64 ⟨rfl, hb⟩; refine ⟨_, rfl, ?_⟩; replace HO437 := Aside0.mk (laRb HO437.out hb); replace HO440 := Aside0.mk (laRb HO440.out hb); replace HO443 := Aside0.mk (laRb HO443.out hb); replace HO446 := Aside0.mk (laRb HO446.out hb); replace HO449 := Aside0.mk (laRb HO449.out hb); replace HO453 := Aside0.mk (laRb HO453.out hb); replace HO456 := Aside0.mk (laRb HO456.out hb); replace HO459 := Aside0.mk (laRb HO459.out hb); replace HO462 := Aside0.mk (laRb HO462.out hb); replace HO465 := Aside0.mk (laRb HO465.out hb); replace HO470 := Aside0.mk (laRb HO470.out hb); replace HO474 := Aside0.mk (laRb HO474.out hb); replace BK431 := Aside0.mk (laKb BK431.out hb); replace BK466 := Aside0.mk (laKb BK466.out hb); replace HB := Aside0.mk (below_step (laB HB.out) hb); (try clear hb); (try clear hb2); (try clear hk); (try clear hi)))
        replace HO437 := Aside0.mk (Kd.R_drew HO437.out)
        replace HO440 := Aside0.mk (Kd.R_drew HO440.out)
        replace HO443 := Aside0.mk (Kd.R_drew HO443.out)
        replace HO446 := Aside0.mk (Kd.R_drew HO446.out)
        replace HO449 := Aside0.mk (Kd.R_drew HO449.out)
        replace HO453 := Aside0.mk (Kd.R_drew HO453.out)
        replace HO456 := Aside0.mk (Kd.R_drew HO456.out)
        replace HO459 := Aside0.mk (Kd.R_drew HO459.out)
        replace HO462 := Aside0.mk (Kd.R_drew HO462.out)
        replace HO465 := Aside0.mk (Kd.R_drew HO465.out)
        replace HO470 := Aside0.mk (Kd.R_drew HO470.out)
        replace HO474 := Aside0.mk (Kd.R_drew HO474.out)
        replace BK431 := Aside0.mk (blk_drew BK431.out)
        replace BK466 := Aside0.mk (blk_drew BK466.out)
        replace HB := Aside0.mk (below_drew1 HB.out)
        refine start_ (n := 5) (S := fun w' => w'.cell? ⟨gb466, 0, none⟩ = some (.slice Ao51 t457.length co51) ∧ w'.cell? ⟨gb466, 1, none⟩ = some (.slice Ao54 t460.length co54) ∧ w'.cell? ⟨gb466, 2, none⟩ = some (.slice Ao55 t463.length co55) ∧ w'.cell? ⟨gb431, 0, none⟩ = some (.slice A2_0 l2_0.length c2_0) ∧ w'.cell? ⟨gb431, 1, none⟩ = some (.slice A2_1 l2_1.length c2_1) ∧ w'.cell? ⟨gb431, 2, none⟩ = some (.slice A2_2 l2_2.length c2_2)) (ds := []) #[false, false, false, false, false] (by kernel_rfl) rfl rfl ⟨(blk_cell BK466.out 0).trans rfl, (blk_cell BK466.out 1).trans rfl, (blk_cell BK466.out 2).trans rfl, (blk_cell BK431.out 0).trans rfl, (blk_cell BK431.out 1).trans rfl, (blk_cell BK431.out 2).trans rfl⟩ (fun hHeld => ?_)
        generalize w64.drew = w65 at HO437 HO440 HO443 HO446 HO449 HO453 HO456 HO459 HO462 HO465 HO470 HO474 BK431 BK466 HB hHeld ⊢
        refine take_ (i := 0) (N := some 58) (v := ?_) (a' := ?_) #[true, false, false, false, false] rfl rfl (by kernel_rfl) (fun _ _ _ h => h) (Or.inl ⟨by rfl, ?_⟩) hHeld ?_ ?_
        rotate_left
        ·rintro w' ⟨s0, s1, s2, s3, s4, s5⟩
         go_simp
         with_reducible rfl
        rotate_left
        ·simp only [Act.put, List.setIfInBounds_toArray, List.set_cons_zero, List.set_cons_succ, i64_w, i32_w]
         rfl
        refine take_ (i := 1) (N := some 59) (v := ?_) (a' := ?_) #[true, true, false, false, false] rfl rfl (by kernel_rfl) (fun _ _ _ h => h) (Or.inl ⟨by rfl, ?_⟩) hHeld ?_ ?_
        rotate_left
        ·rintro w' ⟨s0, s1, s2, s3, s4, s5⟩
         go_simp
         with_reducible rfl
        rotate_left
        ·simp only [Act.put, List.setIfInBounds_toArray, List.set_cons_zero, List.set_cons_succ, i64_w, i32_w]
         rfl
        refine one_ (i := 2) (N := some 60) #[true, true, true, false, false] rfl rfl (by kernel_rfl) (by decide) (fun K hK => ?_)
        refine goes_ Try.func20 (by kernel_rfl) rfl #[.agg #[.slice A2_0 l2_0.length c2_0, .slice A2_1 l2_1.length c2_1, .slice A2_2 l2_2.length c2_2]] (by rfl) rfl rfl (by (try simp only [List.map_toArray, List.map_cons, List.map_nil]); first | done | rfl | (simp only [List.length_drop, List.length_take]; rfl)) ?_
        with_reducible refine (laws_toCost.calls k _ _ l2_0 _ _ l2_1 _ _ l2_2 t476 t479 t482 _ ?side1 ?side2 ?side3 ?side4 ?side5 ?side6 A30.out).mono ?_
        (case side1 => exact laC (Kd.C_below HR2_0.out HB.out))
        (case side2 => exact HC2_0.out)
        (case side3 => exact laC (Kd.C_below HR2_1.out HB.out))
        (case side4 => exact HC2_1.out)
        (case side5 => exact laC (Kd.C_below HR2_2.out HB.out))
        (case side6 => exact HC2_2.out)
        rintro e w66 ⟨v477, v480, v483, rfl, ho0, ho1, ho2, hb⟩
        refine ⟨_, rfl, ?_⟩
        replace HO437 := Aside0.mk (laRb HO437.out hb)
        replace HO440 := Aside0.mk (laRb HO440.out hb)
        replace HO453 := Aside0.mk (laRb HO453.out hb)
        replace HO456 := Aside0.mk (laRb HO456.out hb)
        replace HO470 := Aside0.mk (laRb HO470.out hb)
        replace HO474 := Aside0.mk (laRb HO474.out hb)
        have HO478 := Aside0.mk (Kd.R_lower (Kd.R_new' (Kd.R_new' (Kd.R_new' (Kd.R_new' (Kd.R_new' (Kd.R_new' ho0 (Kd.R_lt (laR HO443.out))) (Kd.R_lt (laR HO446.out))) (Kd.R_lt (laR HO449.out))) (Kd.R_lt (laR HO459.out))) (Kd.R_lt (laR HO462.out))) (Kd.R_lt (laR HO465.out))) (below_size (laB HB.out)))
        have HO481 := Aside0.mk (Kd.R_lower (Kd.R_new' (Kd.R_new' (Kd.R_new' (Kd.R_new' (Kd.R_new' (Kd.R_new' ho1 (Kd.R_lt (laR HO443.out))) (Kd.R_lt (laR HO446.out))) (Kd.R_lt (laR HO449.out))) (Kd.R_lt (laR HO459.out))) (Kd.R_lt (laR HO462.out))) (Kd.R_lt (laR HO465.out))) (below_size (laB HB.out)))
        have HO484 := Aside0.mk (Kd.R_lower (Kd.R_new' (Kd.R_new' (Kd.R_new' (Kd.R_new' (Kd.R_new' (Kd.R_new' ho2 (Kd.R_lt (laR HO443.out))) (Kd.R_lt (laR HO446.out))) (Kd.R_lt (laR HO449.out))) (Kd.R_lt (laR HO459.out))) (Kd.R_lt (laR HO462.out))) (Kd.R_lt (laR HO465.out))) (below_size (laB HB.out)))
        replace HO443 := Aside0.mk (Kd.R_mono (Kd.R_told (Kd.R_told (Kd.R_told (Kd.R_old (laR HO443.out) hb) (Kd.R_base ho0)) (Kd.R_base ho1)) (Kd.R_base ho2)) (fun _ h_ => h_.1))
        replace HO446 := Aside0.mk (Kd.R_mono (Kd.R_told (Kd.R_told (Kd.R_told (Kd.R_old (laR HO446.out) hb) (Kd.R_base ho0)) (Kd.R_base ho1)) (Kd.R_base ho2)) (fun _ h_ => h_.1))
        replace HO449 := Aside0.mk (Kd.R_mono (Kd.R_told (Kd.R_told (Kd.R_told (Kd.R_old (laR HO449.out) hb) (Kd.R_base ho0)) (Kd.R_base ho1)) (Kd.R_base ho2)) (fun _ h_ => h_.1))
        replace HO459 := Aside0.mk (Kd.R_mono (Kd.R_told (Kd.R_told (Kd.R_told (Kd.R_old (laR HO459.out) hb) (Kd.R_base ho0)) (Kd.R_base ho1)) (Kd.R_base ho2)) (fun _ h_ => h_.1))
        replace HO462 := Aside0.mk (Kd.R_mono (Kd.R_told (Kd.R_told (Kd.R_told (Kd.R_old (laR HO462.out) hb) (Kd.R_base ho0)) (Kd.R_base ho1)) (Kd.R_base ho2)) (fun _ h_ => h_.1))
        replace HO465 := Aside0.mk (Kd.R_mono (Kd.R_told (Kd.R_told (Kd.R_told (Kd.R_old (laR HO465.out) hb) (Kd.R_base ho0)) (Kd.R_base ho1)) (Kd.R_base ho2)) (fun _ h_ => h_.1))
        replace BK431 := Aside0.mk (laKb BK431.out hb)
        replace BK466 := Aside0.mk (laKb BK466.out hb)
        replace HB := Aside0.mk (below_step (laB HB.out) hb)
        (try clear hb)
        (try clear hb2)
        (try clear hk)
        (try clear hi)
        (try clear ho0)
        (try clear ho1)
        (try clear ho2)
        obtain ⟨Ao67, co67, eo67⟩ := Kd.R_slice HO478.out
        (first | subst eo67 | (injection eo67 with f1_ f2_ f3_; have f4_ := f1_.symm; have f5_ := f3_.symm; clear f1_ f2_ f3_; subst f4_; subst f5_))
        obtain ⟨Ao68, co68, eo68⟩ := Kd.R_slice HO481.out
        (first | subst eo68 | (injection eo68 with f1_ f2_ f3_; have f4_ := f1_.symm; have f5_ := f3_.symm; clear f1_ f2_ f3_; subst f4_; subst f5_))
        obtain ⟨Ao69, co69, eo69⟩ := Kd.R_slice HO484.out
        (first | subst eo69 | (injection eo69 with f1_ f2_ f3_; have f4_ := f1_.symm; have f5_ := f3_.symm; clear f1_ f2_ f3_; subst f4_; subst f5_))
        refine hK.out _ _ ⟨(blk_cell BK466.out 0).trans rfl, (blk_cell BK466.out 1).trans rfl, (blk_cell BK466.out 2).trans rfl, (blk_cell BK431.out 0).trans rfl, (blk_cell BK431.out 1).trans rfl, (blk_cell BK431.out 2).trans rfl⟩ (fun hHeld => ?_)
        clear hK K
        refine norm_ (a' := ?_) ?_ ?_
        rotate_left
        ·show Act.put _ (some 60) _ = _
         simp only [Act.put, List.setIfInBounds_toArray, List.set_cons_zero, List.set_cons_succ, i64_w, i32_w]
         rfl
        refine one_ (i := 3) (N := some 61) #[true, true, true, true, false] rfl rfl (by kernel_rfl) (by decide) (fun K hK => ?_)
        refine goes_ Try.func22 (by kernel_rfl) rfl #[.agg #[.slice Ao51 t457.length co51, .slice Ao54 t460.length co54, .slice Ao55 t463.length co55], .agg #[.slice Ao67 t476.length co67, .slice Ao68 t479.length co68, .slice Ao69 t482.length co69]] (by rfl) rfl rfl (by (try simp only [List.map_toArray, List.map_cons, List.map_nil]); first | done | rfl | (simp only [List.length_drop, List.length_take]; rfl)) ?_
        with_reducible refine (laws_eqCost.calls k _ _ t457 _ _ t460 _ _ t463 _ _ t476 _ _ t479 _ _ t482 true _ ?side1 ?side2 ?side3 ?side4 ?side5 ?side6 ?side7 ?side8 ?side9 ?side10 ?side11 ?side12 A31.out).mono ?_
        (case side1 => exact laC (Kd.R_reads' HO459.out).2.2)
        (case side2 => exact (Kd.R_reads' HO459.out).2.1)
        (case side3 => exact laC (Kd.R_reads' HO462.out).2.2)
        (case side4 => exact (Kd.R_reads' HO462.out).2.1)
        (case side5 => exact laC (Kd.R_reads' HO465.out).2.2)
        (case side6 => exact (Kd.R_reads' HO465.out).2.1)
        (case side7 => exact laC (Kd.R_reads' HO478.out).2.2)
        (case side8 => exact (Kd.R_reads' HO478.out).2.1)
        (case side9 => exact laC (Kd.R_reads' HO481.out).2.2)
        (case side10 => exact (Kd.R_reads' HO481.out).2.1)
        (case side11 => exact laC (Kd.R_reads' HO484.out).2.2)
        (case side12 => exact (Kd.R_reads' HO484.out).2.1)
        rintro e w70 ⟨rfl, hb⟩
        refine ⟨_, rfl, ?_⟩
        replace HO437 := Aside0.mk (laRb HO437.out hb)
        replace HO440 := Aside0.mk (laRb HO440.out hb)
        replace HO443 := Aside0.mk (laRb HO443.out hb)
        replace HO446 := Aside0.mk (laRb HO446.out hb)
        replace HO449 := Aside0.mk (laRb HO449.out hb)
        replace HO453 := Aside0.mk (laRb HO453.out hb)
        replace HO456 := Aside0.mk (laRb HO456.out hb)
        replace HO459 := Aside0.mk (laRb HO459.out hb)
        replace HO462 := Aside0.mk (laRb HO462.out hb)
        replace HO465 := Aside0.mk (laRb HO465.out hb)
        replace HO470 := Aside0.mk (laRb HO470.out hb)
        replace HO474 := Aside0.mk (laRb HO474.out hb)
        replace HO478 := Aside0.mk (laRb HO478.out hb)
        replace HO481 := Aside0.mk (laRb HO481.out hb)
        replace HO484 := Aside0.mk (laRb HO484.out hb)
        replace BK431 := Aside0.mk (laKb BK431.out hb)
        replace BK466 := Aside0.mk (laKb BK466.out hb)
        replace HB := Aside0.mk (below_step (laB HB.out) hb)
        (try clear hb)
        (try clear hb2)
        (try clear hk)
        (try clear hi)
        refine hK.out _ _ ⟨(blk_cell BK466.out 0).trans rfl, (blk_cell BK466.out 1).trans rfl, (blk_cell BK466.out 2).trans rfl, (blk_cell BK431.out 0).trans rfl, (blk_cell BK431.out 1).trans rfl, (blk_cell BK431.out 2).trans rfl⟩ (fun hHeld => ?_)
        clear hK K
        refine norm_ (a' := ?_) ?_ ?_
        rotate_left
        ·show Act.put _ (some 61) _ = _
         simp only [Act.put, List.setIfInBounds_toArray, List.set_cons_zero, List.set_cons_succ, i64_w, i32_w]
         rfl
        refine pure_ (i := 4) (N := some 62) (v := ?_) (a' := ?_) #[true, true, true, true, true] rfl rfl (by kernel_rfl) (fun _ _ _ h => h) (Or.inl ⟨by rfl, ?_⟩) ?_ ?_
        rotate_left
        ·intro w'
         go_simp
         with_reducible rfl
        rotate_left
        ·simp only [Act.put, List.setIfInBounds_toArray, List.set_cons_zero, List.set_cons_succ, i64_w, i32_w]
         rfl
        refine done_ (by kernel_rfl) ?_
        try go_wp2
        go_ret
        exact ⟨by first | rfl | (simp [errW_none, errW_some] <;> rfl) | (simp [*, errW_none, errW_some] <;> rfl), laB HB.out⟩
       ·replace c32 := Bool.eq_false_iff.mpr c32
        subst c32
        rw [if_neg (show ¬ (false = true) by decide)] at H
        exact absurd ((Option.some.inj H).trans HRT_.out) (by decide)
      ·replace c29 := Bool.eq_false_iff.mpr c29
       subst c29
       rw [if_neg (show ¬ (false = true) by decide)] at H
       exact absurd ((Option.some.inj H).trans HRT_.out) (by decide)
     ·replace c26 := Bool.eq_false_iff.mpr c26
      subst c26
      rw [if_neg (show ¬ (false = true) by decide)] at H
      exact absurd ((Option.some.inj H).trans HRT_.out) (by decide)
    ·rw [if_neg c23] at H
     have c23b0 : (t467 == t450) = false := beq_eq_false_iff_ne.mpr c23
     have c23b1 : (t467 != t450) = true := bne_iff_ne.mpr c23
     exact absurd ((Option.some.inj H).trans HRT_.out) (by decide)
end Go.Proofs.Ytockkelkdimehaa.P
