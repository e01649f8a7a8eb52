-- Written by this session's program mk.py with the kit's print program, out of the translation; not by hand. Lean checks it.
import Derived.Test.YtockkelkdimehaaP0
import Derived.Test.YtockkelkdimehaaHand
import Derived.Test.YtockkelkdimehaaG102
import Derived.Test.YtockkelkdimehaaG56
import Derived.Test.YtockkelkdimehaaG9
namespace Go.Proofs.Ytockkelkdimehaa.P
open Go.RowKit Go.Proofs.YtockkelkdimehaaW.PrintWords Go.Proofs.YtockkelkdimehaaW.PrintLast Go.Proofs.YtockkelkdimehaaW.PrintMore
attribute [local go_sem] max2_int min2_int max_two min_two max_three min_three max_four min_four   -- for this text's walks alone
set_option linter.unusedVariables false
set_option linter.unusedSimpArgs false


/-! ### laws_szIntS: function 43 -/
def laws_szIntS.f (l0 : List Int) (a1 : Int) : Option (Int) := if (wrap64 (a1 - (l0.length : Int))) < 0 then (some (-1)) else (some (wrap64 (a1 - (l0.length : Int))))
set_option maxHeartbeats 8000000 in
set_option maxRecDepth 100000 in
theorem laws_szIntS.calls (A0 : Option Addr) (c0 : Nat) (l0 : List Int) (a1 : Int) (r : Int) (w : World) (hr0 : Kd.C (Kd.int .i64) w A0 l0.length l0) (hc0 : l0.length ≤ c0) (h : laws_szIntS.f l0 a1 = some r) :
  Calls Try.prog 43 #[.slice A0 l0.length c0, .int .i64 a1] w fun e w' => e = .returned (.int .i64 r) ∧ Drawn0 w w' := by
 have HR0 := Aside0.mk hr0
 have HC0 := Aside0.mk hc0
 clear hr0 hc0
 have H : (if (wrap64 (a1 - (l0.length : Int))) < 0 then (some (-1)) else (some (wrap64 (a1 - (l0.length : Int))))) = some r := h
 clear h
 by_cases c3 : (wrap64 (a1 - (l0.length : Int))) < 0
 ·rw [if_pos c3] at H
  have c3b0 : decide ((wrap64 (a1 - (l0.length : Int))) < 0) = true := decide_eq_true c3
  clear c3
  obtain rfl := Option.some.inj H
  go_enter Try.func43, Try.ntmps43
  go_wp2
  go_ret
  exact ⟨by first | rfl | (simp; done) | (simp [*]; done), by repeat (first | exact Drawn0.refl _ | apply Drawn0.step)⟩
 ·rw [if_neg c3] at H
  have c3b0 : decide ((wrap64 (a1 - (l0.length : Int))) < 0) = false := decide_eq_false c3
  clear c3
  obtain rfl := Option.some.inj H
  go_enter Try.func43, Try.ntmps43
  go_wp2
  go_ret
  exact ⟨by first | rfl | (simp; done) | (simp [*]; done), by repeat (first | exact Drawn0.refl _ | apply Drawn0.step)⟩



/-! ### laws_szCost: function 18 -/
def laws_szCost.f (l0_0 : List Int) (l0_1 : List Int) (l0_2 : List Int) (a1 : Int) : Option (Int) := (laws_szIntS.f l0_0 a1).bind fun t276 => (if t276 < 0 then (some (-1)) else ((laws_szIntS.f l0_1 t276).bind fun t277 => (if t277 < 0 then (some (-1)) else ((laws_szIntS.f l0_2 t277).bind fun t278 => (if t278 < 0 then (some (-1)) else (some t278))))))
set_option maxHeartbeats 8000000 in
set_option maxRecDepth 100000 in
theorem laws_szCost.calls (A0_0 : Option Addr) (c0_0 : Nat) (l0_0 : List Int) (A0_1 : Option Addr) (c0_1 : Nat) (l0_1 : List Int) (A0_2 : Option Addr) (c0_2 : Nat) (l0_2 : List Int) (a1 : Int) (r : Int) (w : World) (hr0_0 : Kd.C (Kd.int .i64) w A0_0 l0_0.length l0_0) (hc0_0 : l0_0.length ≤ c0_0) (hr0_1 : Kd.C (Kd.int .i64) w A0_1 l0_1.length l0_1) (hc0_1 : l0_1.length ≤ c0_1) (hr0_2 : Kd.C (Kd.int .i64) w A0_2 l0_2.length l0_2) (hc0_2 : l0_2.length ≤ c0_2) (h : laws_szCost.f l0_0 l0_1 l0_2 a1 = some r) :
  Calls Try.prog 18 #[.agg #[.slice A0_0 l0_0.length c0_0, .slice A0_1 l0_1.length c0_1, .slice A0_2 l0_2.length c0_2], .int .i64 a1] w fun e w' => e = .returned (.int .i64 r) ∧ Below w.heap.size w w' := by
 have hu34 := Try.underlying34
 have HR0_0 := Aside0.mk hr0_0
 have HC0_0 := Aside0.mk hc0_0
 clear hr0_0 hc0_0
 have HR0_1 := Aside0.mk hr0_1
 have HC0_1 := Aside0.mk hc0_1
 clear hr0_1 hc0_1
 have HR0_2 := Aside0.mk hr0_2
 have HC0_2 := Aside0.mk hc0_2
 clear hr0_2 hc0_2
 have HB := Aside0.mk (Below.refl w.heap.size w)
 have H : ((laws_szIntS.f l0_0 a1).bind fun t276 => (if t276 < 0 then (some (-1)) else ((laws_szIntS.f l0_1 t276).bind fun t277 => (if t277 < 0 then (some (-1)) else ((laws_szIntS.f l0_2 t277).bind fun t278 => (if t278 < 0 then (some (-1)) else (some t278))))))) = some r := h
 clear h
 replace H := Option.bind_eq_some_iff.mp H
 obtain ⟨t276, A30, H⟩ := H
 have A3 := Aside0.mk A30
 clear A30
 by_cases c4 : t276 < 0
 ·rw [if_pos c4] at H
  have c4b0 : decide (t276 < 0) = true := decide_eq_true c4
  clear c4
  obtain rfl := Option.some.inj H
  go_enter Try.func18, Try.ntmps18
  go_wp2_with (first | ((with_reducible refine gate_dst (N := 2) rfl ?_); refine box_event ?hg (N := 2) ?hd (cs := #[.slice A0_0 l0_0.length c0_0, .slice A0_1 l0_1.length c0_1, .slice A0_2 l0_2.length c0_2]) (t := 34) ?hr ?_; (case hd => rfl); (case hg => rfl); (case hr => first | (go_simp; done) | (go_simp; rfl)); intro gb275 hg w5 hbox hb; have BK275 := Aside0.mk (hbox); have GW275 := Aside0.mk ((by rw [hg]; exact (below_size (laB HB.out)) : w.heap.size ≤ gb275)); have GE275 := Aside0.mk ((by rw [hg]; exact (below_size (laB HB.out)) : w.heap.size ≤ gb275)); have ge275_ := Nonempty.intro GE275.out; replace HB := Aside0.mk (below_step (laB HB.out) hb); clear hb hbox hg; have hcz6_0 : w5.cell? ⟨gb275, 0, none⟩ = some (.slice A0_0 l0_0.length c0_0) := (blk_cell BK275.out 0).trans rfl; have hcz6_1 : w5.cell? ⟨gb275, 1, none⟩ = some (.slice A0_1 l0_1.length c0_1) := (blk_cell BK275.out 1).trans rfl; have hcz6_2 : w5.cell? ⟨gb275, 2, none⟩ = some (.slice A0_2 l0_2.length c0_2) := (blk_cell BK275.out 2).trans rfl; have hfz6_0 := blk_frozen BK275.out 0; have hfz6_1 := blk_frozen BK275.out 1; have hfz6_2 := blk_frozen BK275.out 2) | ((with_reducible refine gate_callee (f := 43) rfl ?_); refine goesL_ (some 8) rfl rfl Try.func43 (by kernel_rfl) rfl #[.slice A0_0 l0_0.length c0_0, .int .i64 a1] rfl (by (try simp only [List.map_toArray, List.map_cons, List.map_nil]); first | done | rfl | (simp only [List.length_drop, List.length_take]; rfl)) ?_; (with_reducible refine (laws_szIntS.calls _ _ l0_0 a1 t276 _ ?side1 ?side2 A3.out).mono ?_); (case side1 => exact laC (Kd.C_below HR0_0.out HB.out)); (case side2 => exact HC0_0.out); rintro e w' ⟨rfl, ⟨nd, rfl⟩⟩; refine ⟨_, rfl, ?_⟩))
  go_ret
  exact ⟨by first | rfl | (simp [errW_none, errW_some] <;> rfl) | (simp [*, errW_none, errW_some] <;> rfl), laB HB.out⟩
 ·rw [if_neg c4] at H
  have c4b0 : decide (t276 < 0) = false := decide_eq_false c4
  clear c4
  replace H := Option.bind_eq_some_iff.mp H
  obtain ⟨t277, A70, H⟩ := H
  have A7 := Aside0.mk A70
  clear A70
  by_cases c8 : t277 < 0
  ·rw [if_pos c8] at H
   have c8b0 : decide (t277 < 0) = true := decide_eq_true c8
   clear c8
   obtain rfl := Option.some.inj H
   go_enter Try.func18, Try.ntmps18
   go_wp2_with (first | ((with_reducible refine gate_dst (N := 2) rfl ?_); refine box_event ?hg (N := 2) ?hd (cs := #[.slice A0_0 l0_0.length c0_0, .slice A0_1 l0_1.length c0_1, .slice A0_2 l0_2.length c0_2]) (t := 34) ?hr ?_; (case hd => rfl); (case hg => rfl); (case hr => first | (go_simp; done) | (go_simp; rfl)); intro gb275 hg w9 hbox hb; have BK275 := Aside0.mk (hbox); have GW275 := Aside0.mk ((by rw [hg]; exact (below_size (laB HB.out)) : w.heap.size ≤ gb275)); have GE275 := Aside0.mk ((by rw [hg]; exact (below_size (laB HB.out)) : w.heap.size ≤ gb275)); have ge275_ := Nonempty.intro GE275.out; replace HB := Aside0.mk (below_step (laB HB.out) hb); clear hb hbox hg; have hcz10_0 : w9.cell? ⟨gb275, 0, none⟩ = some (.slice A0_0 l0_0.length c0_0) := (blk_cell BK275.out 0).trans rfl; have hcz10_1 : w9.cell? ⟨gb275, 1, none⟩ = some (.slice A0_1 l0_1.length c0_1) := (blk_cell BK275.out 1).trans rfl; have hcz10_2 : w9.cell? ⟨gb275, 2, none⟩ = some (.slice A0_2 l0_2.length c0_2) := (blk_cell BK275.out 2).trans rfl; have hfz10_0 := blk_frozen BK275.out 0; have hfz10_1 := blk_frozen BK275.out 1; have hfz10_2 := blk_frozen BK275.out 2) | ((with_reducible refine gate_callee (f := 43) rfl ?_); refine goesL_ (some 8) rfl rfl Try.func43 (by kernel_rfl) rfl #[.slice A0_0 l0_0.length c0_0, .int .i64 a1] rfl (by (try simp only [List.map_toArray, List.map_cons, List.map_nil]); first | done | rfl | (simp only [List.length_drop, List.length_take]; rfl)) ?_; (with_reducible refine (laws_szIntS.calls _ _ l0_0 a1 t276 _ ?side1 ?side2 A3.out).mono ?_); (case side1 => exact laC (Kd.C_below HR0_0.out HB.out)); (case side2 => exact HC0_0.out); rintro e w' ⟨rfl, ⟨nd, rfl⟩⟩; refine ⟨_, rfl, ?_⟩) | ((with_reducible refine gate_callee (f := 43) rfl ?_); refine goesL_ (some 14) rfl rfl Try.func43 (by kernel_rfl) rfl #[.slice A0_1 l0_1.length c0_1, .int .i64 t276] rfl (by (try simp only [List.map_toArray, List.map_cons, List.map_nil]); first | done | rfl | (simp only [List.length_drop, List.length_take]; rfl)) ?_; (with_reducible refine (laws_szIntS.calls _ _ l0_1 t276 t277 _ ?side1 ?side2 A7.out).mono ?_); (case side1 => repeat (first | exact (Kd.C_below HR0_1.out (laB HB.out)) | (with_reducible refine Kd.C_alloc ?_ _) | (with_reducible refine Kd.C_drewN ?_ _) | (with_reducible refine Kd.C_drew ?_))); (case side2 => exact HC0_1.out); rintro e w' ⟨rfl, ⟨nd, rfl⟩⟩; refine ⟨_, rfl, ?_⟩))
   go_ret
   exact ⟨by first | rfl | (simp [errW_none, errW_some] <;> rfl) | (simp [*, errW_none, errW_some] <;> rfl), laB HB.out⟩
  ·rw [if_neg c8] at H
   have c8b0 : decide (t277 < 0) = false := decide_eq_false c8
   clear c8
   replace H := Option.bind_eq_some_iff.mp H
   obtain ⟨t278, A110, H⟩ := H
   have A11 := Aside0.mk A110
   clear A110
   by_cases c12 : t278 < 0
   ·rw [if_pos c12] at H
    have c12b0 : decide (t278 < 0) = true := decide_eq_true c12
    clear c12
    obtain rfl := Option.some.inj H
    go_enter Try.func18, Try.ntmps18
    go_wp2_with (first | ((with_reducible refine gate_dst (N := 2) rfl ?_); refine box_event ?hg (N := 2) ?hd (cs := #[.slice A0_0 l0_0.length c0_0, .slice A0_1 l0_1.length c0_1, .slice A0_2 l0_2.length c0_2]) (t := 34) ?hr ?_; (case hd => rfl); (case hg => rfl); (case hr => first | (go_simp; done) | (go_simp; rfl)); intro gb275 hg w13 hbox hb; have BK275 := Aside0.mk (hbox); have GW275 := Aside0.mk ((by rw [hg]; exact (below_size (laB HB.out)) : w.heap.size ≤ gb275)); have GE275 := Aside0.mk ((by rw [hg]; exact (below_size (laB HB.out)) : w.heap.size ≤ gb275)); have ge275_ := Nonempty.intro GE275.out; replace HB := Aside0.mk (below_step (laB HB.out) hb); clear hb hbox hg; have hcz14_0 : w13.cell? ⟨gb275, 0, none⟩ = some (.slice A0_0 l0_0.length c0_0) := (blk_cell BK275.out 0).trans rfl; have hcz14_1 : w13.cell? ⟨gb275, 1, none⟩ = some (.slice A0_1 l0_1.length c0_1) := (blk_cell BK275.out 1).trans rfl; have hcz14_2 : w13.cell? ⟨gb275, 2, none⟩ = some (.slice A0_2 l0_2.length c0_2) := (blk_cell BK275.out 2).trans rfl; have hfz14_0 := blk_frozen BK275.out 0; have hfz14_1 := blk_frozen BK275.out 1; have hfz14_2 := blk_frozen BK275.out 2) | ((with_reducible refine gate_callee (f := 43) rfl ?_); refine goesL_ (some 8) rfl rfl Try.func43 (by kernel_rfl) rfl #[.slice A0_0 l0_0.length c0_0, .int .i64 a1] rfl (by (try simp only [List.map_toArray, List.map_cons, List.map_nil]); first | done | rfl | (simp only [List.length_drop, List.length_take]; rfl)) ?_; (with_reducible refine (laws_szIntS.calls _ _ l0_0 a1 t276 _ ?side1 ?side2 A3.out).mono ?_); (case side1 => exact laC (Kd.C_below HR0_0.out HB.out)); (case side2 => exact HC0_0.out); rintro e w' ⟨rfl, ⟨nd, rfl⟩⟩; refine ⟨_, rfl, ?_⟩) | ((with_reducible refine gate_callee (f := 43) rfl ?_); refine goesL_ (some 14) rfl rfl Try.func43 (by kernel_rfl) rfl #[.slice A0_1 l0_1.length c0_1, .int .i64 t276] rfl (by (try simp only [List.map_toArray, List.map_cons, List.map_nil]); first | done | rfl | (simp only [List.length_drop, List.length_take]; rfl)) ?_; (with_reducible refine (laws_szIntS.calls _ _ l0_1 t276 t277 _ ?side1 ?side2 A7.out).mono ?_); (case side1 => repeat (first | exact (Kd.C_below HR0_1.out (laB HB.out)) | (with_reducible refine Kd.C_alloc ?_ _) | (with_reducible refine Kd.C_drewN ?_ _) | (with_reducible refine Kd.C_drew ?_))); (case side2 => exact HC0_1.out); rintro e w' ⟨rfl, ⟨nd, rfl⟩⟩; refine ⟨_, rfl, ?_⟩) | ((with_reducible refine gate_callee (f := 43) rfl ?_); refine goesL_ (some 20) rfl rfl Try.func43 (by kernel_rfl) rfl #[.slice A0_2 l0_2.length c0_2, .int .i64 t277] rfl (by (try simp only [List.map_toArray, List.map_cons, List.map_nil]); first | done | rfl | (simp only [List.length_drop, List.length_take]; rfl)) ?_; (with_reducible refine (laws_szIntS.calls _ _ l0_2 t277 t278 _ ?side1 ?side2 A11.out).mono ?_); (case side1 => repeat (first | exact (Kd.C_below HR0_2.out (laB HB.out)) | (with_reducible refine Kd.C_alloc ?_ _) | (with_reducible refine Kd.C_drewN ?_ _) | (with_reducible refine Kd.C_drew ?_))); (case side2 => exact HC0_2.out); rintro e w' ⟨rfl, ⟨nd, rfl⟩⟩; refine ⟨_, rfl, ?_⟩))
    go_ret
    exact ⟨by first | rfl | (simp [errW_none, errW_some] <;> rfl) | (simp [*, errW_none, errW_some] <;> rfl), laB HB.out⟩
   ·rw [if_neg c12] at H
    have c12b0 : decide (t278 < 0) = false := decide_eq_false c12
    clear c12
    obtain rfl := Option.some.inj H
    go_enter Try.func18, Try.ntmps18
    go_wp2_with (first | ((with_reducible refine gate_dst (N := 2) rfl ?_); refine box_event ?hg (N := 2) ?hd (cs := #[.slice A0_0 l0_0.length c0_0, .slice A0_1 l0_1.length c0_1, .slice A0_2 l0_2.length c0_2]) (t := 34) ?hr ?_; (case hd => rfl); (case hg => rfl); (case hr => first | (go_simp; done) | (go_simp; rfl)); intro gb275 hg w15 hbox hb; have BK275 := Aside0.mk (hbox); have GW275 := Aside0.mk ((by rw [hg]; exact (below_size (laB HB.out)) : w.heap.size ≤ gb275)); have GE275 := Aside0.mk ((by rw [hg]; exact (below_size (laB HB.out)) : w.heap.size ≤ gb275)); have ge275_ := Nonempty.intro GE275.out; replace HB := Aside0.mk (below_step (laB HB.out) hb); clear hb hbox hg; have hcz16_0 : w15.cell? ⟨gb275, 0, none⟩ = some (.slice A0_0 l0_0.length c0_0) := (blk_cell BK275.out 0).trans rfl; have hcz16_1 : w15.cell? ⟨gb275, 1, none⟩ = some (.slice A0_1 l0_1.length c0_1) := (blk_cell BK275.out 1).trans rfl; have hcz16_2 : w15.cell? ⟨gb275, 2, none⟩ = some (.slice A0_2 l0_2.length c0_2) := (blk_cell BK275.out 2).trans rfl; have hfz16_0 := blk_frozen BK275.out 0; have hfz16_1 := blk_frozen BK275.out 1; have hfz16_2 := blk_frozen BK275.out 2) | ((with_reducible refine gate_callee (f := 43) rfl ?_); refine goesL_ (some 8) rfl rfl Try.func43 (by kernel_rfl) rfl #[.slice A0_0 l0_0.length c0_0, .int .i64 a1] rfl (by (try simp only [List.map_toArray, List.map_cons, List.map_nil]); first | done | rfl | (simp only [List.length_drop, List.length_take]; rfl)) ?_; (with_reducible refine (laws_szIntS.calls _ _ l0_0 a1 t276 _ ?side1 ?side2 A3.out).mono ?_); (case side1 => exact laC (Kd.C_below HR0_0.out HB.out)); (case side2 => exact HC0_0.out); rintro e w' ⟨rfl, ⟨nd, rfl⟩⟩; refine ⟨_, rfl, ?_⟩) | ((with_reducible refine gate_callee (f := 43) rfl ?_); refine goesL_ (some 14) rfl rfl Try.func43 (by kernel_rfl) rfl #[.slice A0_1 l0_1.length c0_1, .int .i64 t276] rfl (by (try simp only [List.map_toArray, List.map_cons, List.map_nil]); first | done | rfl | (simp only [List.length_drop, List.length_take]; rfl)) ?_; (with_reducible refine (laws_szIntS.calls _ _ l0_1 t276 t277 _ ?side1 ?side2 A7.out).mono ?_); (case side1 => repeat (first | exact (Kd.C_below HR0_1.out (laB HB.out)) | (with_reducible refine Kd.C_alloc ?_ _) | (with_reducible refine Kd.C_drewN ?_ _) | (with_reducible refine Kd.C_drew ?_))); (case side2 => exact HC0_1.out); rintro e w' ⟨rfl, ⟨nd, rfl⟩⟩; refine ⟨_, rfl, ?_⟩) | ((with_reducible refine gate_callee (f := 43) rfl ?_); refine goesL_ (some 20) rfl rfl Try.func43 (by kernel_rfl) rfl #[.slice A0_2 l0_2.length c0_2, .int .i64 t277] rfl (by (try simp only [List.map_toArray, List.map_cons, List.map_nil]); first | done | rfl | (simp only [List.length_drop, List.length_take]; rfl)) ?_; (with_reducible refine (laws_szIntS.calls _ _ l0_2 t277 t278 _ ?side1 ?side2 A11.out).mono ?_); (case side1 => repeat (first | exact (Kd.C_below HR0_2.out (laB HB.out)) | (with_reducible refine Kd.C_alloc ?_ _) | (with_reducible refine Kd.C_drewN ?_ _) | (with_reducible refine Kd.C_drew ?_))); (case side2 => exact HC0_2.out); rintro e w' ⟨rfl, ⟨nd, rfl⟩⟩; refine ⟨_, rfl, ?_⟩))
    go_ret
    exact ⟨by first | rfl | (simp [errW_none, errW_some] <;> rfl) | (simp [*, errW_none, errW_some] <;> rfl), laB HB.out⟩



/-! ### spec_l7In: function 58 -/
def spec_l7In.l0 : Nat → List Int → Int → Int → Option (Bool)
 | 0, _, _, _ => none
 | k + 1, x0, x1, x5 => if x5 < (x0.length : Int) then (if 0 ≤ x5 then ((spec_l1In.f (rd x0 x5) 0 1000).bind fun t280 => (if t280 = true then (spec_l7In.l0 k x0 x1 (wrap64 (x5 + 1))) else (some false))) else (none)) else (some ((x0.length : Int) == x1))
def spec_l7In.f (k : Nat) (l0 : List Int) (a1 : Int) : Option (Bool) := spec_l7In.l0 k l0 a1 0
theorem spec_l7In.mono_l : ∀ k, (∀ y0 y1 y2, LeO (spec_l7In.l0 k y0 y1 y2) (spec_l7In.l0 (k + 1) y0 y1 y2))
 | 0 => fun _ _ _ r h => by simp [spec_l7In.l0] at h
 | k + 1 => by
  have ih0 := spec_l7In.mono_l k
  ·intro y0 y1 y2
   unfold spec_l7In.l0
   repeat' first
   | (with_reducible exact ih0 _ _ _)
   | (with_reducible exact LeO.refl _)
   | (with_reducible exact LeO.none _)
   | (with_reducible refine LeO.ite ?_ ?_)
   | (with_reducible refine LeO.bind ?_ (fun _ => ?_))
   | exact ih0 _ _ _
   | exact LeO.none _
   | refine LeO.ite ?_ ?_
   | refine LeO.bind ?_ (fun _ => ?_)
theorem spec_l7In.mono : ∀ a0 a1 k, LeO (spec_l7In.f k a0 a1) (spec_l7In.f (k + 1) a0 a1) := by
 intro a0 a1 k
 have ih0 := spec_l7In.mono_l k
 unfold spec_l7In.f
 repeat' first
   | (with_reducible exact ih0 _ _ _)
   | (with_reducible exact LeO.refl _)
   | (with_reducible exact LeO.none _)
   | (with_reducible refine LeO.ite ?_ ?_)
   | (with_reducible refine LeO.bind ?_ (fun _ => ?_))
   | exact ih0 _ _ _
   | exact LeO.none _
   | refine LeO.ite ?_ ?_
   | refine LeO.bind ?_ (fun _ => ?_)
set_option maxHeartbeats 8000000 in
set_option maxRecDepth 100000 in
theorem spec_l7In.calls (k : Nat) (A0 : Option Addr) (c0 : Nat) (l0 : List Int) (a1 : Int) (r : Bool) (w : World) (hr0 : Kd.C (Kd.int .i64) w A0 l0.length l0) (hc0 : l0.length ≤ c0) (h : spec_l7In.f k l0 a1 = some r) :
  Calls Try.prog 58 #[.slice A0 l0.length c0, .int .i64 a1] w fun e w' => e = .returned (.bool r) ∧ Drawn0 w w' := by
 have HR0 := Aside0.mk hr0
 have HC0 := Aside0.mk hc0
 clear hr0 hc0
 have H : (spec_l7In.l0 k l0 a1 0) = some r := h
 clear h
 have H' := Aside0.mk H
 clear H
 go_enter Try.func58, Try.ntmps58
 go_wp2
 go_loopg [5] k (fun kq v5 w' => ∃ (x5_1 : Int), v5 = .int .i64 x5_1 ∧ Aside0 (spec_l7In.l0 kq l0 a1 x5_1 = some r) ∧ Aside0 (kq ≤ k) ∧ Drawn0 w w')
 case atStart => exact ⟨(0), (by first | rfl | (simp; done) | (simp [*]; done)), H', ⟨Nat.le_refl _⟩, by repeat (first | exact Drawn0.refl _ | apply Drawn0.step)⟩
 case round =>
  clear H'
  try clear p2
  obtain ⟨x5_1, rfl, HA, HK1, ⟨m1, rfl⟩⟩ := hrel
  cases gk with
  | zero => exact absurd HA.out (by simp [spec_l7In.l0])
  | succ k1 =>
   have H := HA.out
   clear HA
   simp only [spec_l7In.l0] at H
   by_cases c3 : x5_1 < (l0.length : Int)
   ·rw [if_pos c3] at H
    have c3b0 : decide (x5_1 < (l0.length : Int)) = true := decide_eq_true c3
    clear c3
    by_cases c4 : 0 ≤ x5_1
    ·rw [if_pos c4] at H
     have c4b0 : decide (0 ≤ x5_1) = true := decide_eq_true c4
     clear c4
     replace H := Option.bind_eq_some_iff.mp H
     obtain ⟨t280, A50, H⟩ := H
     have A5 := Aside0.mk A50
     clear A50
     by_cases c6 : t280 = true
     ·subst c6
      rw [if_pos rfl] at H
      have H' := Aside0.mk H
      clear H
      have p279 : 0 ≤ (x5_1 : Int) := of_decide_eq_true (by first | (with_reducible assumption) | assumption)
      have q279 : x5_1 < (l0.length : Int) := of_decide_eq_true (by first | (with_reducible assumption) | assumption)
      obtain ⟨ad279, e279, hx279_0⟩ := Kd.at_int HR0.out x5_1 p279 q279
      cases e279
      replace p279 := eq_true p279
      replace q279 := eq_true q279
      go_wp2_with (first | ((with_reducible refine gate_callee (f := 99) rfl ?_); refine goesL_ (some 16) rfl rfl Try.func99 (by kernel_rfl) rfl #[.int .i64 (rd l0 x5_1), .int .i64 0, .int .i64 1000] rfl (by (try simp only [List.map_toArray, List.map_cons, List.map_nil]); first | done | rfl | (simp only [List.length_drop, List.length_take]; rfl)) ?_; (with_reducible refine (spec_l1In.calls (rd l0 x5_1) 0 1000 true _ A5.out).mono ?_); rintro e w' ⟨rfl, ⟨nd, rfl⟩⟩; refine ⟨_, rfl, ?_⟩))
      go_roundg k1
      case measure => have := HK1.out; omega
      case rel => exact ⟨(wrap64 (x5_1 + 1)), (by first | rfl | (simp; done) | (simp [*]; done)), H', ⟨by have := HK1.out; omega⟩, by repeat (first | exact Drawn0.refl _ | apply Drawn0.step)⟩
     ·replace c6 := Bool.eq_false_iff.mpr c6
      subst c6
      rw [if_neg (show ¬ (false = true) by decide)] at H
      obtain rfl := Option.some.inj H
      have p279 : 0 ≤ (x5_1 : Int) := of_decide_eq_true (by first | (with_reducible assumption) | assumption)
      have q279 : x5_1 < (l0.length : Int) := of_decide_eq_true (by first | (with_reducible assumption) | assumption)
      obtain ⟨ad279, e279, hx279_0⟩ := Kd.at_int HR0.out x5_1 p279 q279
      cases e279
      replace p279 := eq_true p279
      replace q279 := eq_true q279
      go_wp2_with (first | ((with_reducible refine gate_callee (f := 99) rfl ?_); refine goesL_ (some 16) rfl rfl Try.func99 (by kernel_rfl) rfl #[.int .i64 (rd l0 x5_1), .int .i64 0, .int .i64 1000] rfl (by (try simp only [List.map_toArray, List.map_cons, List.map_nil]); first | done | rfl | (simp only [List.length_drop, List.length_take]; rfl)) ?_; (with_reducible refine (spec_l1In.calls (rd l0 x5_1) 0 1000 false _ A5.out).mono ?_); rintro e w' ⟨rfl, ⟨nd, rfl⟩⟩; refine ⟨_, rfl, ?_⟩))
      go_ret
      exact ⟨by first | rfl | (simp; done) | (simp [*]; done), by repeat (first | exact Drawn0.refl _ | apply Drawn0.step)⟩
    ·rw [if_neg c4] at H
     exact absurd H (by simp)
   ·rw [if_neg c3] at H
    have c3b0 : decide (x5_1 < (l0.length : Int)) = false := decide_eq_false c3
    clear c3
    obtain rfl := Option.some.inj H
    go_wp2
    go_ret
    exact ⟨by first | rfl | (simp; done) | (simp [*]; done), by repeat (first | exact Drawn0.refl _ | apply Drawn0.step)⟩



/-! ### spec_CostOk: function 28 -/
mutual
def spec_CostOk.j0 : Nat → Bool → List Int → List Int → List Int → Option (Bool)
 | 0, _, _, _, _ => none
 | k + 1, x19, x282000, x282001, x282002 => if x19 = true then (some false) else (spec_CostOk.l0 k 0 x282000 x282001 x282002)
def spec_CostOk.l0 : Nat → Int → List Int → List Int → List Int → Option (Bool)
 | 0, _, _, _, _ => none
 | k + 1, x3, x282000, x282001, x282002 => if x3 < 6 then (if 0 ≤ (wrap64 ((wrap64 (x3 * 6)) + x3)) then (if (wrap64 ((wrap64 (x3 * 6)) + x3)) < (x282002.length : Int) then (if (rd x282002 (wrap64 ((wrap64 (x3 * 6)) + x3))) = 0 then (spec_CostOk.l0 k (wrap64 (x3 + 1)) x282000 x282001 x282002) else (some false)) else (none)) else (none)) else (some true)
end
def spec_CostOk.f (k : Nat) (l0_0 : List Int) (l0_1 : List Int) (l0_2 : List Int) : Option (Bool) := (spec_l7In.f k l0_0 6).bind fun t282 => (if t282 = true then ((spec_l7In.f k l0_1 6).bind fun t283 => (if t283 = true then ((spec_l7In.f k l0_2 36).bind fun t284 => (spec_CostOk.j0 k (!t284) l0_0 l0_1 l0_2)) else (spec_CostOk.j0 k true l0_0 l0_1 l0_2))) else (spec_CostOk.j0 k true l0_0 l0_1 l0_2))
theorem spec_CostOk.mono_l : ∀ k, (∀ y0 y1 y2 y3, LeO (spec_CostOk.j0 k y0 y1 y2 y3) (spec_CostOk.j0 (k + 1) y0 y1 y2 y3)) ∧ (∀ y0 y1 y2 y3, LeO (spec_CostOk.l0 k y0 y1 y2 y3) (spec_CostOk.l0 (k + 1) y0 y1 y2 y3))
 | 0 => ⟨fun _ _ _ _ r h => by simp [spec_CostOk.j0] at h, fun _ _ _ _ r h => by simp [spec_CostOk.l0] at h⟩
 | k + 1 => by
  obtain ⟨ih0, ih1⟩ := spec_CostOk.mono_l k
  refine ⟨?_, ?_⟩
  ·intro y0 y1 y2 y3
   unfold spec_CostOk.j0
   repeat' first
   | (with_reducible exact ih0 _ _ _ _)
   | (with_reducible exact ih1 _ _ _ _)
   | (with_reducible exact spec_l7In.mono _ _ _)
   | (with_reducible exact LeO.refl _)
   | (with_reducible exact LeO.none _)
   | (with_reducible refine LeO.ite ?_ ?_)
   | (with_reducible refine LeO.bind ?_ (fun _ => ?_))
   | exact ih0 _ _ _ _
   | exact ih1 _ _ _ _
   | exact spec_l7In.mono _ _ _
   | exact LeO.none _
   | refine LeO.ite ?_ ?_
   | refine LeO.bind ?_ (fun _ => ?_)
  ·intro y0 y1 y2 y3
   unfold spec_CostOk.l0
   repeat' first
   | (with_reducible exact ih0 _ _ _ _)
   | (with_reducible exact ih1 _ _ _ _)
   | (with_reducible exact spec_l7In.mono _ _ _)
   | (with_reducible exact LeO.refl _)
   | (with_reducible exact LeO.none _)
   | (with_reducible refine LeO.ite ?_ ?_)
   | (with_reducible refine LeO.bind ?_ (fun _ => ?_))
   | exact ih0 _ _ _ _
   | exact ih1 _ _ _ _
   | exact spec_l7In.mono _ _ _
   | exact LeO.none _
   | refine LeO.ite ?_ ?_
   | refine LeO.bind ?_ (fun _ => ?_)
theorem spec_CostOk.mono : ∀ a0 a1 a2 k, LeO (spec_CostOk.f k a0 a1 a2) (spec_CostOk.f (k + 1) a0 a1 a2) := by
 intro a0 a1 a2 k
 obtain ⟨ih0, ih1⟩ := spec_CostOk.mono_l k
 unfold spec_CostOk.f
 repeat' first
   | (with_reducible exact ih0 _ _ _ _)
   | (with_reducible exact ih1 _ _ _ _)
   | (with_reducible exact spec_l7In.mono _ _ _)
   | (with_reducible exact LeO.refl _)
   | (with_reducible exact LeO.none _)
   | (with_reducible refine LeO.ite ?_ ?_)
   | (with_reducible refine LeO.bind ?_ (fun _ => ?_))
   | exact ih0 _ _ _ _
   | exact ih1 _ _ _ _
   | exact spec_l7In.mono _ _ _
   | exact LeO.none _
   | refine LeO.ite ?_ ?_
   | refine LeO.bind ?_ (fun _ => ?_)
set_option maxHeartbeats 8000000 in
set_option maxRecDepth 100000 in
theorem spec_CostOk.calls (k : Nat) (A0_0 : Option Addr) (c0_0 : Nat) (l0_0 : List Int) (A0_1 : Option Addr) (c0_1 : Nat) (l0_1 : List Int) (A0_2 : Option Addr) (c0_2 : Nat) (l0_2 : List Int) (r : Bool) (w : World) (hr0_0 : Kd.C (Kd.int .i64) w A0_0 l0_0.length l0_0) (hc0_0 : l0_0.length ≤ c0_0) (hr0_1 : Kd.C (Kd.int .i64) w A0_1 l0_1.length l0_1) (hc0_1 : l0_1.length ≤ c0_1) (hr0_2 : Kd.C (Kd.int .i64) w A0_2 l0_2.length l0_2) (hc0_2 : l0_2.length ≤ c0_2) (h : spec_CostOk.f k l0_0 l0_1 l0_2 = some r) :
  Calls Try.prog 28 #[.agg #[.slice A0_0 l0_0.length c0_0, .slice A0_1 l0_1.length c0_1, .slice A0_2 l0_2.length c0_2]] w fun e w' => e = .returned (.bool r) ∧ Below w.heap.size w w' := by
 have hu37 := Try.underlying37
 have HR0_0 := Aside0.mk hr0_0
 have HC0_0 := Aside0.mk hc0_0
 clear hr0_0 hc0_0
 have HR0_1 := Aside0.mk hr0_1
 have HC0_1 := Aside0.mk hc0_1
 clear hr0_1 hc0_1
 have HR0_2 := Aside0.mk hr0_2
 have HC0_2 := Aside0.mk hc0_2
 clear hr0_2 hc0_2
 have HB := Aside0.mk (Below.refl w.heap.size w)
 have H : ((spec_l7In.f k l0_0 6).bind fun t282 => (if t282 = true then ((spec_l7In.f k l0_1 6).bind fun t283 => (if t283 = true then ((spec_l7In.f k l0_2 36).bind fun t284 => (spec_CostOk.j0 k (!t284) l0_0 l0_1 l0_2)) else (spec_CostOk.j0 k true l0_0 l0_1 l0_2))) else (spec_CostOk.j0 k true l0_0 l0_1 l0_2))) = some r := h
 clear h
 have HC2 := Aside0.mk H
 clear H
 go_enter Try.func28, Try.ntmps28
 go_upto_region 1 with (first | ((with_reducible refine gate_dst (N := 1) rfl ?_); refine box_event ?hg (N := 1) ?hd (cs := #[.slice A0_0 l0_0.length c0_0, .slice A0_1 l0_1.length c0_1, .slice A0_2 l0_2.length c0_2]) (t := 37) ?hr ?_; (case hd => rfl); (case hg => rfl); (case hr => first | (go_simp; done) | (go_simp; rfl)); intro gb281 hg w3 hbox hb; have BK281 := Aside0.mk (hbox); have GW281 := Aside0.mk ((by rw [hg]; exact (below_size (laB HB.out)) : w.heap.size ≤ gb281)); have GE281 := Aside0.mk ((by rw [hg]; exact (below_size (laB HB.out)) : w.heap.size ≤ gb281)); have ge281_ := Nonempty.intro GE281.out; replace HB := Aside0.mk (below_step (laB HB.out) hb); clear hb hbox hg))
 (try simp only [Act.put, List.setIfInBounds_toArray, List.set_cons_zero, List.set_cons_succ])
 go_cut [19] (fun v19 wc => ∃ (kq : Nat) (x19_1 : Bool), v19 = .bool x19_1 ∧ Aside0 (spec_CostOk.j0 kq x19_1 l0_0 l0_1 l0_2 = some r) ∧ Aside0 (kq ≤ k) ∧ Aside0 (wc.heap[gb281]? = some (.cells #[(.slice A0_0 l0_0.length c0_0), (.slice A0_1 l0_1.length c0_1), (.slice A0_2 l0_2.length c0_2)] 37 (0, 0))) ∧ Aside0 (Below w.heap.size w wc))
 case first =>
  have H := HC2.out
  clear HC2
  replace H := Option.bind_eq_some_iff.mp H
  obtain ⟨t282, A40, H⟩ := H
  have A4 := Aside0.mk A40
  clear A40
  by_cases c5 : t282 = true
  ·subst c5
   rw [if_pos rfl] at H
   replace H := Option.bind_eq_some_iff.mp H
   obtain ⟨t283, A60, H⟩ := H
   have A6 := Aside0.mk A60
   clear A60
   by_cases c7 : t283 = true
   ·subst c7
    rw [if_pos rfl] at H
    replace H := Option.bind_eq_some_iff.mp H
    obtain ⟨t284, A80, H⟩ := H
    have A8 := Aside0.mk A80
    clear A80
    have H' := Aside0.mk H
    clear H
    have hcz9_0 : w3.cell? ⟨gb281, 0, none⟩ = some (.slice A0_0 l0_0.length c0_0) := (blk_cell BK281.out 0).trans rfl
    have hcz9_1 : w3.cell? ⟨gb281, 1, none⟩ = some (.slice A0_1 l0_1.length c0_1) := (blk_cell BK281.out 1).trans rfl
    have hcz9_2 : w3.cell? ⟨gb281, 2, none⟩ = some (.slice A0_2 l0_2.length c0_2) := (blk_cell BK281.out 2).trans rfl
    have hfz9_0 := blk_frozen BK281.out 0
    have hfz9_1 := blk_frozen BK281.out 1
    have hfz9_2 := blk_frozen BK281.out 2
    go_wp2_with (first | ((with_reducible refine gate_callee (f := 58) rfl ?_); refine goesL_ (some 6) rfl rfl Try.func58 (by kernel_rfl) rfl #[.slice A0_0 l0_0.length c0_0, .int .i64 6] rfl (by (try simp only [List.map_toArray, List.map_cons, List.map_nil]); first | done | rfl | (simp only [List.length_drop, List.length_take]; rfl)) ?_; (with_reducible refine (spec_l7In.calls k _ _ l0_0 6 true _ ?side1 ?side2 A4.out).mono ?_); (case side1 => exact laC (Kd.C_below HR0_0.out HB.out)); (case side2 => exact HC0_0.out); rintro e w' ⟨rfl, ⟨nd, rfl⟩⟩; refine ⟨_, rfl, ?_⟩) | (go_at_call 58; (with_reducible refine (spec_l7In.calls k _ _ l0_1 6 true _ ?side1 ?side2 A6.out).mono ?_); (case side1 => repeat (first | exact (Kd.C_below HR0_1.out (laB HB.out)) | (with_reducible refine Kd.C_alloc ?_ _) | (with_reducible refine Kd.C_drewN ?_ _) | (with_reducible refine Kd.C_drew ?_))); (case side2 => exact HC0_1.out); rintro e w' ⟨rfl, ⟨nd, rfl⟩⟩) | (go_at_call 58; (with_reducible refine (spec_l7In.calls k _ _ l0_2 36 t284 _ ?side1 ?side2 A8.out).mono ?_); (case side1 => repeat (first | exact (Kd.C_below HR0_2.out (laB HB.out)) | (with_reducible refine Kd.C_alloc ?_ _) | (with_reducible refine Kd.C_drewN ?_ _) | (with_reducible refine Kd.C_drew ?_))); (case side2 => exact HC0_2.out); rintro e w' ⟨rfl, ⟨nd, rfl⟩⟩))
    go_meet
    case rel => exact ⟨_, (!t284), (by first | rfl | (simp; done) | (simp [*]; done)), H', ⟨by first | omega | exact Nat.le_refl _⟩, ⟨laK BK281.out⟩, ⟨laB HB.out⟩⟩
   ·replace c7 := Bool.eq_false_iff.mpr c7
    subst c7
    rw [if_neg (show ¬ (false = true) by decide)] at H
    have H' := Aside0.mk H
    clear H
    have hcz10_0 : w3.cell? ⟨gb281, 0, none⟩ = some (.slice A0_0 l0_0.length c0_0) := (blk_cell BK281.out 0).trans rfl
    have hcz10_1 : w3.cell? ⟨gb281, 1, none⟩ = some (.slice A0_1 l0_1.length c0_1) := (blk_cell BK281.out 1).trans rfl
    have hcz10_2 : w3.cell? ⟨gb281, 2, none⟩ = some (.slice A0_2 l0_2.length c0_2) := (blk_cell BK281.out 2).trans rfl
    have hfz10_0 := blk_frozen BK281.out 0
    have hfz10_1 := blk_frozen BK281.out 1
    have hfz10_2 := blk_frozen BK281.out 2
    go_wp2_with (first | ((with_reducible refine gate_callee (f := 58) rfl ?_); refine goesL_ (some 6) rfl rfl Try.func58 (by kernel_rfl) rfl #[.slice A0_0 l0_0.length c0_0, .int .i64 6] rfl (by (try simp only [List.map_toArray, List.map_cons, List.map_nil]); first | done | rfl | (simp only [List.length_drop, List.length_take]; rfl)) ?_; (with_reducible refine (spec_l7In.calls k _ _ l0_0 6 true _ ?side1 ?side2 A4.out).mono ?_); (case side1 => exact laC (Kd.C_below HR0_0.out HB.out)); (case side2 => exact HC0_0.out); rintro e w' ⟨rfl, ⟨nd, rfl⟩⟩; refine ⟨_, rfl, ?_⟩) | (go_at_call 58; (with_reducible refine (spec_l7In.calls k _ _ l0_1 6 false _ ?side1 ?side2 A6.out).mono ?_); (case side1 => repeat (first | exact (Kd.C_below HR0_1.out (laB HB.out)) | (with_reducible refine Kd.C_alloc ?_ _) | (with_reducible refine Kd.C_drewN ?_ _) | (with_reducible refine Kd.C_drew ?_))); (case side2 => exact HC0_1.out); rintro e w' ⟨rfl, ⟨nd, rfl⟩⟩))
    go_meet
    case rel => exact ⟨_, (true), (by first | rfl | (simp; done) | (simp [*]; done)), H', ⟨by first | omega | exact Nat.le_refl _⟩, ⟨laK BK281.out⟩, ⟨laB HB.out⟩⟩
  ·replace c5 := Bool.eq_false_iff.mpr c5
   subst c5
   rw [if_neg (show ¬ (false = true) by decide)] at H
   have H' := Aside0.mk H
   clear H
   have hcz11_0 : w3.cell? ⟨gb281, 0, none⟩ = some (.slice A0_0 l0_0.length c0_0) := (blk_cell BK281.out 0).trans rfl
   have hcz11_1 : w3.cell? ⟨gb281, 1, none⟩ = some (.slice A0_1 l0_1.length c0_1) := (blk_cell BK281.out 1).trans rfl
   have hcz11_2 : w3.cell? ⟨gb281, 2, none⟩ = some (.slice A0_2 l0_2.length c0_2) := (blk_cell BK281.out 2).trans rfl
   have hfz11_0 := blk_frozen BK281.out 0
   have hfz11_1 := blk_frozen BK281.out 1
   have hfz11_2 := blk_frozen BK281.out 2
   go_wp2_with (first | ((with_reducible refine gate_callee (f := 58) rfl ?_); refine goesL_ (some 6) rfl rfl Try.func58 (by kernel_rfl) rfl #[.slice A0_0 l0_0.length c0_0, .int .i64 6] rfl (by (try simp only [List.map_toArray, List.map_cons, List.map_nil]); first | done | rfl | (simp only [List.length_drop, List.length_take]; rfl)) ?_; (with_reducible refine (spec_l7In.calls k _ _ l0_0 6 false _ ?side1 ?side2 A4.out).mono ?_); (case side1 => exact laC (Kd.C_below HR0_0.out HB.out)); (case side2 => exact HC0_0.out); rintro e w' ⟨rfl, ⟨nd, rfl⟩⟩; refine ⟨_, rfl, ?_⟩))
   go_meet
   case rel => exact ⟨_, (true), (by first | rfl | (simp; done) | (simp [*]; done)), H', ⟨by first | omega | exact Nat.le_refl _⟩, ⟨laK BK281.out⟩, ⟨laB HB.out⟩⟩
 case rest =>
  clear HC2
  try clear c2
  try clear p2
  try clear c5
  try clear c7
  try clear hcz10_0
  try clear hcz10_1
  try clear hcz10_2
  try clear hcz11_0
  try clear hcz11_1
  try clear hcz11_2
  try clear hcz9_0
  try clear hcz9_1
  try clear hcz9_2
  try clear hfz10_0
  try clear hfz10_1
  try clear hfz10_2
  try clear hfz11_0
  try clear hfz11_1
  try clear hfz11_2
  try clear hfz9_0
  try clear hfz9_1
  try clear hfz9_2
  obtain ⟨kq, x19_1, rfl, HA, HJ1, BK281, HB⟩ := hcut
  cases kq with
  | zero => exact absurd HA.out (by simp [spec_CostOk.j0])
  | succ kj1 =>
   have H := HA.out
   clear HA
   simp only [spec_CostOk.j0] at H
   by_cases c12 : x19_1 = true
   ·subst c12
    rw [if_pos rfl] at H
    obtain rfl := Option.some.inj H
    go_wp2
    go_ret
    exact ⟨by first | rfl | (simp [errW_none, errW_some] <;> rfl) | (simp [*, errW_none, errW_some] <;> rfl), laB HB.out⟩
   ·replace c12 := Bool.eq_false_iff.mpr c12
    subst c12
    rw [if_neg (show ¬ (false = true) by decide)] at H
    have H' := Aside0.mk H
    clear H
    go_wp2
    go_loopg [3] kj1 (fun kq v3 w' => ∃ (x3_2 : Int), v3 = .int .i64 x3_2 ∧ Aside0 (spec_CostOk.l0 kq x3_2 l0_0 l0_1 l0_2 = some r) ∧ Aside0 (kq ≤ kj1) ∧ Aside0 (w'.heap[gb281]? = some (.cells #[(.slice A0_0 l0_0.length c0_0), (.slice A0_1 l0_1.length c0_1), (.slice A0_2 l0_2.length c0_2)] 37 (0, 0))) ∧ Aside0 (Below w.heap.size w w'))
    case atStart => exact ⟨(0), (by first | rfl | (simp; done) | (simp [*]; done)), H', ⟨Nat.le_refl _⟩, ⟨laK BK281.out⟩, ⟨laB HB.out⟩⟩
    case round =>
     clear H'
     try clear c1
     try clear c2
     try clear p2
     try clear c5
     try clear c7
     try clear c12
     try clear hcz10_0
     try clear hcz10_1
     try clear hcz10_2
     try clear hcz11_0
     try clear hcz11_1
     try clear hcz11_2
     try clear hcz9_0
     try clear hcz9_1
     try clear hcz9_2
     try clear hfz10_0
     try clear hfz10_1
     try clear hfz10_2
     try clear hfz11_0
     try clear hfz11_1
     try clear hfz11_2
     try clear hfz9_0
     try clear hfz9_1
     try clear hfz9_2
     try clear p2
     obtain ⟨x3_2, rfl, HA, HK2, BK281, HB⟩ := hrel
     cases gk with
     | zero => exact absurd HA.out (by simp [spec_CostOk.l0])
     | succ k2 =>
      have H := HA.out
      clear HA
      simp only [spec_CostOk.l0] at H
      by_cases c13 : x3_2 < 6
      ·rw [if_pos c13] at H
       have c13b0 : decide (x3_2 < 6) = true := decide_eq_true c13
       clear c13
       obtain ⟨ji14, hji14⟩ : ∃ j_ : Int, (wrap64 ((wrap64 (x3_2 * 6)) + x3_2)) = j_ := ⟨_, rfl⟩
       replace H : (if 0 ≤ (ji14) then (if (ji14) < (l0_2.length : Int) then (if (rd l0_2 (ji14)) = 0 then (spec_CostOk.l0 k2 (wrap64 (x3_2 + 1)) l0_0 l0_1 l0_2) else (some false)) else (none)) else (none)) = some r := by first | (rw [hji14] at H; exact H) | (simp only [hji14] at H ⊢; exact H)
       have hji14w : (IntKind.i64.wrap ((wrap64 (x3_2 * 6)) + x3_2)) = ji14 := (i64_w _).trans hji14
       by_cases c15 : 0 ≤ (ji14)
       ·rw [if_pos c15] at H
        have c15b0 : decide (0 ≤ (ji14)) = true := decide_eq_true c15
        clear c15
        by_cases c16 : (ji14) < (l0_2.length : Int)
        ·rw [if_pos c16] at H
         have c16b0 : decide ((ji14) < (l0_2.length : Int)) = true := decide_eq_true c16
         clear c16
         by_cases c17 : (rd l0_2 (ji14)) = 0
         ·rw [if_pos c17] at H
          have c17b0 : ((rd l0_2 (ji14)) == 0) = true := beq_iff_eq.mpr c17
          have c17b1 : ((rd l0_2 (ji14)) != 0) = false := bne_eq_false_iff_eq.mpr c17
          clear c17
          have H' := Aside0.mk H
          clear H
          have hcz18_0 : wr.cell? ⟨gb281, 0, none⟩ = some (.slice A0_0 l0_0.length c0_0) := (blk_cell BK281.out 0).trans rfl
          have hcz18_1 : wr.cell? ⟨gb281, 1, none⟩ = some (.slice A0_1 l0_1.length c0_1) := (blk_cell BK281.out 1).trans rfl
          have hcz18_2 : wr.cell? ⟨gb281, 2, none⟩ = some (.slice A0_2 l0_2.length c0_2) := (blk_cell BK281.out 2).trans rfl
          have hfz18_0 := blk_frozen BK281.out 0
          have hfz18_1 := blk_frozen BK281.out 1
          have hfz18_2 := blk_frozen BK281.out 2
          have p285 : 0 ≤ ((ji14) : Int) := of_decide_eq_true (by first | (with_reducible assumption) | assumption)
          have q285 : (ji14) < (l0_2.length : Int) := of_decide_eq_true (by first | (with_reducible assumption) | assumption)
          obtain ⟨ad285, e285, hx285_0⟩ := Kd.at_int HR0_2.out (ji14) p285 q285
          cases e285
          replace hx285_0 := (HB.out.cell (World.block_lt_of_cell? w _ hx285_0)).trans hx285_0
          replace p285 := eq_true p285
          replace q285 := eq_true q285
          go_wp2
          go_roundg k2
          case measure => have := HJ1.out; have := HK2.out; omega
          case rel => exact ⟨(wrap64 (x3_2 + 1)), (by first | rfl | (simp; done) | (simp [*]; done)), H', ⟨by have := HJ1.out; have := HK2.out; omega⟩, ⟨laK BK281.out⟩, ⟨laB HB.out⟩⟩
         ·rw [if_neg c17] at H
          have c17b0 : ((rd l0_2 (ji14)) == 0) = false := beq_eq_false_iff_ne.mpr c17
          have c17b1 : ((rd l0_2 (ji14)) != 0) = true := bne_iff_ne.mpr c17
          obtain rfl := Option.some.inj H
          have hcz19_0 : wr.cell? ⟨gb281, 0, none⟩ = some (.slice A0_0 l0_0.length c0_0) := (blk_cell BK281.out 0).trans rfl
          have hcz19_1 : wr.cell? ⟨gb281, 1, none⟩ = some (.slice A0_1 l0_1.length c0_1) := (blk_cell BK281.out 1).trans rfl
          have hcz19_2 : wr.cell? ⟨gb281, 2, none⟩ = some (.slice A0_2 l0_2.length c0_2) := (blk_cell BK281.out 2).trans rfl
          have hfz19_0 := blk_frozen BK281.out 0
          have hfz19_1 := blk_frozen BK281.out 1
          have hfz19_2 := blk_frozen BK281.out 2
          have p285 : 0 ≤ ((ji14) : Int) := of_decide_eq_true (by first | (with_reducible assumption) | assumption)
          have q285 : (ji14) < (l0_2.length : Int) := of_decide_eq_true (by first | (with_reducible assumption) | assumption)
          obtain ⟨ad285, e285, hx285_0⟩ := Kd.at_int HR0_2.out (ji14) p285 q285
          cases e285
          replace hx285_0 := (HB.out.cell (World.block_lt_of_cell? w _ hx285_0)).trans hx285_0
          replace p285 := eq_true p285
          replace q285 := eq_true q285
          go_wp2
          go_ret
          exact ⟨by first | rfl | (simp [errW_none, errW_some] <;> rfl) | (simp only [← hji14]; first | rfl | (simp [errW_none, errW_some] <;> rfl)) | (simp [*, errW_none, errW_some] <;> rfl), laB HB.out⟩
        ·rw [if_neg c16] at H
         exact absurd H (by simp)
       ·rw [if_neg c15] at H
        exact absurd H (by simp)
      ·rw [if_neg c13] at H
       have c13b0 : decide (x3_2 < 6) = false := decide_eq_false c13
       clear c13
       obtain rfl := Option.some.inj H
       go_wp2
       go_ret
       exact ⟨by first | rfl | (simp [errW_none, errW_some] <;> rfl) | (simp [*, errW_none, errW_some] <;> rfl), laB HB.out⟩



/-! ### spec_l8Three: function 44 -/
def spec_l8Three.f (k : Nat) (l0 : List (S59)) (l1 : List (S59)) (l2_0 : List Int) (l2_1 : List Int) (l2_2 : List Int) : Option (Bool) := (spec_TreeOk.f k l0).bind fun t287 => (if t287 = true then ((spec_TreeOk.f k l1).bind fun t288 => (if t288 = true then ((spec_CostOk.f k l2_0 l2_1 l2_2).bind fun t289 => (some t289)) else (some false))) else (some false))
theorem spec_l8Three.mono : ∀ a0 a1 a2 a3 a4 k, LeO (spec_l8Three.f k a0 a1 a2 a3 a4) (spec_l8Three.f (k + 1) a0 a1 a2 a3 a4) := by
 intro a0 a1 a2 a3 a4 k
 unfold spec_l8Three.f
 repeat' first
   | (with_reducible exact spec_CostOk.mono _ _ _ _)
   | (with_reducible exact spec_TreeOk.mono _ _)
   | (with_reducible exact LeO.refl _)
   | (with_reducible exact LeO.none _)
   | (with_reducible refine LeO.ite ?_ ?_)
   | (with_reducible refine LeO.bind ?_ (fun _ => ?_))
   | exact spec_CostOk.mono _ _ _ _
   | exact spec_TreeOk.mono _ _
   | exact LeO.none _
   | refine LeO.ite ?_ ?_
   | refine LeO.bind ?_ (fun _ => ?_)
set_option maxHeartbeats 8000000 in
set_option maxRecDepth 100000 in
theorem spec_l8Three.calls (k : Nat) (A0 : Option Addr) (c0 : Nat) (l0 : List (S59)) (A1 : Option Addr) (c1 : Nat) (l1 : List (S59)) (A2_0 : Option Addr) (c2_0 : Nat) (l2_0 : List Int) (A2_1 : Option Addr) (c2_1 : Nat) (l2_1 : List Int) (A2_2 : Option Addr) (c2_2 : Nat) (l2_2 : List Int) (r : Bool) (w : World) (hr0 : Kd.C k59 w A0 l0.length l0) (hc0 : l0.length ≤ c0) (hr1 : Kd.C k59 w A1 l1.length l1) (hc1 : l1.length ≤ c1) (hr2_0 : Kd.C (Kd.int .i64) w A2_0 l2_0.length l2_0) (hc2_0 : l2_0.length ≤ c2_0) (hr2_1 : Kd.C (Kd.int .i64) w A2_1 l2_1.length l2_1) (hc2_1 : l2_1.length ≤ c2_1) (hr2_2 : Kd.C (Kd.int .i64) w A2_2 l2_2.length l2_2) (hc2_2 : l2_2.length ≤ c2_2) (h : spec_l8Three.f k l0 l1 l2_0 l2_1 l2_2 = some r) :
  Calls Try.prog 44 #[.slice A0 l0.length c0, .slice A1 l1.length c1, .agg #[.slice A2_0 l2_0.length c2_0, .slice A2_1 l2_1.length c2_1, .slice A2_2 l2_2.length c2_2]] w fun e w' => e = .returned (.bool r) ∧ Below w.heap.size w w' := by
 have hu37 := Try.underlying37
 have HR0 := Aside0.mk hr0
 have HC0 := Aside0.mk hc0
 clear hr0 hc0
 have HR1 := Aside0.mk hr1
 have HC1 := Aside0.mk hc1
 clear hr1 hc1
 have HR2_0 := Aside0.mk hr2_0
 have HC2_0 := Aside0.mk hc2_0
 clear hr2_0 hc2_0
 have HR2_1 := Aside0.mk hr2_1
 have HC2_1 := Aside0.mk hc2_1
 clear hr2_1 hc2_1
 have HR2_2 := Aside0.mk hr2_2
 have HC2_2 := Aside0.mk hc2_2
 clear hr2_2 hc2_2
 have HB := Aside0.mk (Below.refl w.heap.size w)
 have H : ((spec_TreeOk.f k l0).bind fun t287 => (if t287 = true then ((spec_TreeOk.f k l1).bind fun t288 => (if t288 = true then ((spec_CostOk.f k l2_0 l2_1 l2_2).bind fun t289 => (some t289)) else (some false))) else (some false))) = some r := h
 clear h
 replace H := Option.bind_eq_some_iff.mp H
 obtain ⟨t287, A40, H⟩ := H
 have A4 := Aside0.mk A40
 clear A40
 by_cases c5 : t287 = true
 ·subst c5
  rw [if_pos rfl] at H
  replace H := Option.bind_eq_some_iff.mp H
  obtain ⟨t288, A60, H⟩ := H
  have A6 := Aside0.mk A60
  clear A60
  by_cases c7 : t288 = true
  ·subst c7
   rw [if_pos rfl] at H
   replace H := Option.bind_eq_some_iff.mp H
   obtain ⟨t289, A80, H⟩ := H
   have A8 := Aside0.mk A80
   clear A80
   obtain rfl := Option.some.inj H
   go_enter Try.func44, Try.ntmps44
   go_wp2_with (first | ((with_reducible refine gate_dst (N := 5) rfl ?_); refine box_event ?hg (N := 5) ?hd (cs := #[.slice A2_0 l2_0.length c2_0, .slice A2_1 l2_1.length c2_1, .slice A2_2 l2_2.length c2_2]) (t := 37) ?hr ?_; (case hd => rfl); (case hg => rfl); (case hr => first | (go_simp; done) | (go_simp; rfl)); intro gb286 hg w9 hbox hb; have BK286 := Aside0.mk (hbox); have GW286 := Aside0.mk ((by rw [hg]; exact (below_size (laB HB.out)) : w.heap.size ≤ gb286)); have GE286 := Aside0.mk ((by rw [hg]; exact (below_size (laB HB.out)) : w.heap.size ≤ gb286)); have ge286_ := Nonempty.intro GE286.out; replace HB := Aside0.mk (below_step (laB HB.out) hb); clear hb hbox hg) | ((with_reducible refine gate_callee (f := 56) rfl ?_); refine goesL_ (some 8) rfl rfl Try.func56 (by kernel_rfl) rfl #[.slice A0 l0.length c0] rfl (by (try simp only [List.map_toArray, List.map_cons, List.map_nil]); first | done | rfl | (simp only [List.length_drop, List.length_take]; rfl)) ?_; (with_reducible refine (spec_TreeOk.calls k _ _ l0 true _ ?side1 ?side2 A4.out).mono ?_); (case side1 => exact laC (Kd.C_below HR0.out HB.out)); (case side2 => exact HC0.out); rintro e w10 ⟨rfl, hb⟩; refine ⟨_, rfl, ?_⟩; replace BK286 := Aside0.mk (laKb BK286.out hb); replace HB := Aside0.mk (below_step (laB HB.out) hb); (try clear hb); (try clear hb2); (try clear hk); (try clear hi)) | (go_at_call 56; (with_reducible refine (spec_TreeOk.calls k _ _ l1 true _ ?side1 ?side2 A6.out).mono ?_); (case side1 => exact laC (Kd.C_below HR1.out HB.out)); (case side2 => exact HC1.out); rintro e w11 ⟨rfl, hb⟩; replace BK286 := Aside0.mk (laKb BK286.out hb); replace HB := Aside0.mk (below_step (laB HB.out) hb); (try clear hb); (try clear hb2); (try clear hk); (try clear hi); have hcz12_0 : w11.cell? ⟨gb286, 0, none⟩ = some (.slice A2_0 l2_0.length c2_0) := (blk_cell BK286.out 0).trans rfl; have hcz12_1 : w11.cell? ⟨gb286, 1, none⟩ = some (.slice A2_1 l2_1.length c2_1) := (blk_cell BK286.out 1).trans rfl; have hcz12_2 : w11.cell? ⟨gb286, 2, none⟩ = some (.slice A2_2 l2_2.length c2_2) := (blk_cell BK286.out 2).trans rfl; have hfz12_0 := blk_frozen BK286.out 0; have hfz12_1 := blk_frozen BK286.out 1; have hfz12_2 := blk_frozen BK286.out 2) | (go_at_call 28; (with_reducible refine (spec_CostOk.calls k _ _ l2_0 _ _ l2_1 _ _ l2_2 t289 _ ?side1 ?side2 ?side3 ?side4 ?side5 ?side6 A8.out).mono ?_); (case side1 => exact laC (Kd.C_below HR2_0.out HB.out)); (case side2 => exact HC2_0.out); (case side3 => exact laC (Kd.C_below HR2_1.out HB.out)); (case side4 => exact HC2_1.out); (case side5 => exact laC (Kd.C_below HR2_2.out HB.out)); (case side6 => exact HC2_2.out); rintro e w13 ⟨rfl, hb⟩; replace BK286 := Aside0.mk (laKb BK286.out hb); replace HB := Aside0.mk (below_step (laB HB.out) hb); (try clear hb); (try clear hb2); (try clear hk); (try clear hi)))
   go_ret
   exact ⟨by first | rfl | (simp [errW_none, errW_some] <;> rfl) | (simp [*, errW_none, errW_some] <;> rfl), laB HB.out⟩
  ·replace c7 := Bool.eq_false_iff.mpr c7
   subst c7
   rw [if_neg (show ¬ (false = true) by decide)] at H
   obtain rfl := Option.some.inj H
   go_enter Try.func44, Try.ntmps44
   go_wp2_with (first | ((with_reducible refine gate_dst (N := 5) rfl ?_); refine box_event ?hg (N := 5) ?hd (cs := #[.slice A2_0 l2_0.length c2_0, .slice A2_1 l2_1.length c2_1, .slice A2_2 l2_2.length c2_2]) (t := 37) ?hr ?_; (case hd => rfl); (case hg => rfl); (case hr => first | (go_simp; done) | (go_simp; rfl)); intro gb286 hg w14 hbox hb; have BK286 := Aside0.mk (hbox); have GW286 := Aside0.mk ((by rw [hg]; exact (below_size (laB HB.out)) : w.heap.size ≤ gb286)); have GE286 := Aside0.mk ((by rw [hg]; exact (below_size (laB HB.out)) : w.heap.size ≤ gb286)); have ge286_ := Nonempty.intro GE286.out; replace HB := Aside0.mk (below_step (laB HB.out) hb); clear hb hbox hg) | ((with_reducible refine gate_callee (f := 56) rfl ?_); refine goesL_ (some 8) rfl rfl Try.func56 (by kernel_rfl) rfl #[.slice A0 l0.length c0] rfl (by (try simp only [List.map_toArray, List.map_cons, List.map_nil]); first | done | rfl | (simp only [List.length_drop, List.length_take]; rfl)) ?_; (with_reducible refine (spec_TreeOk.calls k _ _ l0 true _ ?side1 ?side2 A4.out).mono ?_); (case side1 => exact laC (Kd.C_below HR0.out HB.out)); (case side2 => exact HC0.out); rintro e w15 ⟨rfl, hb⟩; refine ⟨_, rfl, ?_⟩; replace BK286 := Aside0.mk (laKb BK286.out hb); replace HB := Aside0.mk (below_step (laB HB.out) hb); (try clear hb); (try clear hb2); (try clear hk); (try clear hi)) | (go_at_call 56; (with_reducible refine (spec_TreeOk.calls k _ _ l1 false _ ?side1 ?side2 A6.out).mono ?_); (case side1 => exact laC (Kd.C_below HR1.out HB.out)); (case side2 => exact HC1.out); rintro e w16 ⟨rfl, hb⟩; replace BK286 := Aside0.mk (laKb BK286.out hb); replace HB := Aside0.mk (below_step (laB HB.out) hb); (try clear hb); (try clear hb2); (try clear hk); (try clear hi)))
   go_ret
   exact ⟨by first | rfl | (simp [errW_none, errW_some] <;> rfl) | (simp [*, errW_none, errW_some] <;> rfl), laB HB.out⟩
 ·replace c5 := Bool.eq_false_iff.mpr c5
  subst c5
  rw [if_neg (show ¬ (false = true) by decide)] at H
  obtain rfl := Option.some.inj H
  go_enter Try.func44, Try.ntmps44
  go_wp2_with (first | ((with_reducible refine gate_dst (N := 5) rfl ?_); refine box_event ?hg (N := 5) ?hd (cs := #[.slice A2_0 l2_0.length c2_0, .slice A2_1 l2_1.length c2_1, .slice A2_2 l2_2.length c2_2]) (t := 37) ?hr ?_; (case hd => rfl); (case hg => rfl); (case hr => first | (go_simp; done) | (go_simp; rfl)); intro gb286 hg w17 hbox hb; have BK286 := Aside0.mk (hbox); have GW286 := Aside0.mk ((by rw [hg]; exact (below_size (laB HB.out)) : w.heap.size ≤ gb286)); have GE286 := Aside0.mk ((by rw [hg]; exact (below_size (laB HB.out)) : w.heap.size ≤ gb286)); have ge286_ := Nonempty.intro GE286.out; replace HB := Aside0.mk (below_step (laB HB.out) hb); clear hb hbox hg) | ((with_reducible refine gate_callee (f := 56) rfl ?_); refine goesL_ (some 8) rfl rfl Try.func56 (by kernel_rfl) rfl #[.slice A0 l0.length c0] rfl (by (try simp only [List.map_toArray, List.map_cons, List.map_nil]); first | done | rfl | (simp only [List.length_drop, List.length_take]; rfl)) ?_; (with_reducible refine (spec_TreeOk.calls k _ _ l0 false _ ?side1 ?side2 A4.out).mono ?_); (case side1 => exact laC (Kd.C_below HR0.out HB.out)); (case side2 => exact HC0.out); rintro e w18 ⟨rfl, hb⟩; refine ⟨_, rfl, ?_⟩; replace BK286 := Aside0.mk (laKb BK286.out hb); replace HB := Aside0.mk (below_step (laB HB.out) hb); (try clear hb); (try clear hb2); (try clear hk); (try clear hi)))
  go_ret
  exact ⟨by first | rfl | (simp [errW_none, errW_some] <;> rfl) | (simp [*, errW_none, errW_some] <;> rfl), laB HB.out⟩



/-! ### spec_l25Labels: function 82 -/
def spec_l25Labels.l0 : Nat → List Int → Int → Option (Bool)
 | 0, _, _ => none
 | k + 1, x0, x3 => if x3 < (x0.length : Int) then (if 0 ≤ x3 then ((spec_LabelOk.f (rd x0 x3)).bind fun t291 => (if t291 = true then (spec_l25Labels.l0 k x0 (wrap64 (x3 + 1))) else (some false))) else (none)) else (some (decide ((x0.length : Int) ≤ 24)))
def spec_l25Labels.f (k : Nat) (l0 : List Int) : Option (Bool) := spec_l25Labels.l0 k l0 0
theorem spec_l25Labels.mono_l : ∀ k, (∀ y0 y1, LeO (spec_l25Labels.l0 k y0 y1) (spec_l25Labels.l0 (k + 1) y0 y1))
 | 0 => fun _ _ r h => by simp [spec_l25Labels.l0] at h
 | k + 1 => by
  have ih0 := spec_l25Labels.mono_l k
  ·intro y0 y1
   unfold spec_l25Labels.l0
   repeat' first
   | (with_reducible exact ih0 _ _)
   | (with_reducible exact LeO.refl _)
   | (with_reducible exact LeO.none _)
   | (with_reducible refine LeO.ite ?_ ?_)
   | (with_reducible refine LeO.bind ?_ (fun _ => ?_))
   | exact ih0 _ _
   | exact LeO.none _
   | refine LeO.ite ?_ ?_
   | refine LeO.bind ?_ (fun _ => ?_)
theorem spec_l25Labels.mono : ∀ a0 k, LeO (spec_l25Labels.f k a0) (spec_l25Labels.f (k + 1) a0) := by
 intro a0 k
 have ih0 := spec_l25Labels.mono_l k
 unfold spec_l25Labels.f
 repeat' first
   | (with_reducible exact ih0 _ _)
   | (with_reducible exact LeO.refl _)
   | (with_reducible exact LeO.none _)
   | (with_reducible refine LeO.ite ?_ ?_)
   | (with_reducible refine LeO.bind ?_ (fun _ => ?_))
   | exact ih0 _ _
   | exact LeO.none _
   | refine LeO.ite ?_ ?_
   | refine LeO.bind ?_ (fun _ => ?_)
set_option maxHeartbeats 8000000 in
set_option maxRecDepth 100000 in
theorem spec_l25Labels.calls (k : Nat) (A0 : Option Addr) (c0 : Nat) (l0 : List Int) (r : Bool) (w : World) (hr0 : Kd.C (Kd.int .i64) w A0 l0.length l0) (hc0 : l0.length ≤ c0) (h : spec_l25Labels.f k l0 = some r) :
  Calls Try.prog 82 #[.slice A0 l0.length c0] w fun e w' => e = .returned (.bool r) ∧ Drawn0 w w' := by
 have HR0 := Aside0.mk hr0
 have HC0 := Aside0.mk hc0
 clear hr0 hc0
 have H : (spec_l25Labels.l0 k l0 0) = some r := h
 clear h
 have H' := Aside0.mk H
 clear H
 go_enter Try.func82, Try.ntmps82
 go_wp2
 go_loopg [3] k (fun kq v3 w' => ∃ (x3_1 : Int), v3 = .int .i64 x3_1 ∧ Aside0 (spec_l25Labels.l0 kq l0 x3_1 = some r) ∧ Aside0 (kq ≤ k) ∧ Drawn0 w w')
 case atStart => exact ⟨(0), (by first | rfl | (simp; done) | (simp [*]; done)), H', ⟨Nat.le_refl _⟩, by repeat (first | exact Drawn0.refl _ | apply Drawn0.step)⟩
 case round =>
  clear H'
  obtain ⟨x3_1, rfl, HA, HK1, ⟨m1, rfl⟩⟩ := hrel
  cases gk with
  | zero => exact absurd HA.out (by simp [spec_l25Labels.l0])
  | succ k1 =>
   have H := HA.out
   clear HA
   simp only [spec_l25Labels.l0] at H
   by_cases c2 : x3_1 < (l0.length : Int)
   ·rw [if_pos c2] at H
    have c2b0 : decide (x3_1 < (l0.length : Int)) = true := decide_eq_true c2
    clear c2
    by_cases c3 : 0 ≤ x3_1
    ·rw [if_pos c3] at H
     have c3b0 : decide (0 ≤ x3_1) = true := decide_eq_true c3
     clear c3
     replace H := Option.bind_eq_some_iff.mp H
     obtain ⟨t291, A40, H⟩ := H
     have A4 := Aside0.mk A40
     clear A40
     by_cases c5 : t291 = true
     ·subst c5
      rw [if_pos rfl] at H
      have H' := Aside0.mk H
      clear H
      have p290 : 0 ≤ (x3_1 : Int) := of_decide_eq_true (by first | (with_reducible assumption) | assumption)
      have q290 : x3_1 < (l0.length : Int) := of_decide_eq_true (by first | (with_reducible assumption) | assumption)
      obtain ⟨ad290, e290, hx290_0⟩ := Kd.at_int HR0.out x3_1 p290 q290
      cases e290
      replace p290 := eq_true p290
      replace q290 := eq_true q290
      go_wp2_with (first | ((with_reducible refine gate_callee (f := 98) rfl ?_); refine goesL_ (some 14) rfl rfl Try.func98 (by kernel_rfl) rfl #[.int .i64 (rd l0 x3_1)] rfl (by (try simp only [List.map_toArray, List.map_cons, List.map_nil]); first | done | rfl | (simp only [List.length_drop, List.length_take]; rfl)) ?_; (with_reducible refine (spec_LabelOk.calls (rd l0 x3_1) true _ A4.out).mono ?_); rintro e w' ⟨rfl, ⟨nd, rfl⟩⟩; refine ⟨_, rfl, ?_⟩))
      go_roundg k1
      case measure => have := HK1.out; omega
      case rel => exact ⟨(wrap64 (x3_1 + 1)), (by first | rfl | (simp; done) | (simp [*]; done)), H', ⟨by have := HK1.out; omega⟩, by repeat (first | exact Drawn0.refl _ | apply Drawn0.step)⟩
     ·replace c5 := Bool.eq_false_iff.mpr c5
      subst c5
      rw [if_neg (show ¬ (false = true) by decide)] at H
      obtain rfl := Option.some.inj H
      have p290 : 0 ≤ (x3_1 : Int) := of_decide_eq_true (by first | (with_reducible assumption) | assumption)
      have q290 : x3_1 < (l0.length : Int) := of_decide_eq_true (by first | (with_reducible assumption) | assumption)
      obtain ⟨ad290, e290, hx290_0⟩ := Kd.at_int HR0.out x3_1 p290 q290
      cases e290
      replace p290 := eq_true p290
      replace q290 := eq_true q290
      go_wp2_with (first | ((with_reducible refine gate_callee (f := 98) rfl ?_); refine goesL_ (some 14) rfl rfl Try.func98 (by kernel_rfl) rfl #[.int .i64 (rd l0 x3_1)] rfl (by (try simp only [List.map_toArray, List.map_cons, List.map_nil]); first | done | rfl | (simp only [List.length_drop, List.length_take]; rfl)) ?_; (with_reducible refine (spec_LabelOk.calls (rd l0 x3_1) false _ A4.out).mono ?_); rintro e w' ⟨rfl, ⟨nd, rfl⟩⟩; refine ⟨_, rfl, ?_⟩))
      go_ret
      exact ⟨by first | rfl | (simp; done) | (simp [*]; done), by repeat (first | exact Drawn0.refl _ | apply Drawn0.step)⟩
    ·rw [if_neg c3] at H
     exact absurd H (by simp)
   ·rw [if_neg c2] at H
    have c2b0 : decide (x3_1 < (l0.length : Int)) = false := decide_eq_false c2
    clear c2
    obtain rfl := Option.some.inj H
    go_wp2
    go_ret
    exact ⟨by first | rfl | (simp; done) | (simp [*]; done), by repeat (first | exact Drawn0.refl _ | apply Drawn0.step)⟩



/-! ### spec_StrDist: function 45 -/
mutual
def spec_StrDist.j0 : Nat → List Int → List Int → Bool → List Int → List Int → List Int → Option (Int)
 | 0, _, _, _, _, _, _ => none
 | k + 1, x0, x1, x24, x293000, x293001, x293002 => if x24 = true then (some (-1)) else (if 0 ≤ (wrap64 ((wrap64 ((x0.length : Int) + 1)) * (wrap64 ((x1.length : Int) + 1)))) then (if (wrap64 ((wrap64 ((x0.length : Int) + 1)) * (wrap64 ((x1.length : Int) + 1))) : Int).toNat ≤ 35184372088832 then (spec_StrDist.l0 k x0 x1 (wrap64 ((x1.length : Int) + 1)) (List.replicate (wrap64 ((wrap64 ((x0.length : Int) + 1)) * (wrap64 ((x1.length : Int) + 1))) : Int).toNat 0) 0 x293000 x293001 x293002) else (none)) else (none))
def spec_StrDist.l0 : Nat → List Int → List Int → Int → List Int → Int → List Int → List Int → List Int → Option (Int)
 | 0, _, _, _, _, _, _, _, _ => none
 | k + 1, x0, x1, x7, x8, x9, x293000, x293001, x293002 => if x9 ≤ (x0.length : Int) then (spec_StrDist.l1 k x0 x1 x7 x8 x9 0 x293000 x293001 x293002) else (if 0 ≤ (wrap64 ((x8.length : Int) - 1)) then (if (wrap64 ((x8.length : Int) - 1)) < (x8.length : Int) then (some (rd x8 (wrap64 ((x8.length : Int) - 1)))) else (none)) else (none))
def spec_StrDist.l1 : Nat → List Int → List Int → Int → List Int → Int → Int → List Int → List Int → List Int → Option (Int)
 | 0, _, _, _, _, _, _, _, _, _ => none
 | k + 1, x0, x1, x7, x8, x9, x10, x293000, x293001, x293002 => if x10 ≤ (x1.length : Int) then (if x9 = 0 then (spec_StrDist.j3 k x0 x1 x7 x8 x9 x10 (x10 == 0) x293000 x293001 x293002) else (spec_StrDist.j3 k x0 x1 x7 x8 x9 x10 false x293000 x293001 x293002)) else (spec_StrDist.l0 k x0 x1 x7 x8 (wrap64 (x9 + 1)) x293000 x293001 x293002)
def spec_StrDist.j3 : Nat → List Int → List Int → Int → List Int → Int → Int → Bool → List Int → List Int → List Int → Option (Int)
 | 0, _, _, _, _, _, _, _, _, _, _ => none
 | k + 1, x0, x1, x7, x8, x9, x10, x51, x293000, x293001, x293002 => if x51 = true then (spec_StrDist.l1 k x0 x1 x7 x8 x9 (wrap64 (x10 + 1)) x293000 x293001 x293002) else (if x9 > 0 then (if 0 ≤ (wrap64 ((wrap64 ((wrap64 (x9 - 1)) * x7)) + x10)) then (if (wrap64 ((wrap64 ((wrap64 (x9 - 1)) * x7)) + x10)) < (x8.length : Int) then (if 0 ≤ (wrap64 (x9 - 1)) then (if (wrap64 (x9 - 1)) < (x0.length : Int) then (if 0 ≤ (rd x0 (wrap64 (x9 - 1))) then (if (rd x0 (wrap64 (x9 - 1))) < (x293000.length : Int) then (spec_StrDist.j4 k x0 x1 x7 x8 x9 x10 (mn 1000000000 (wrap64 ((rd x8 (wrap64 ((wrap64 ((wrap64 (x9 - 1)) * x7)) + x10))) + (rd x293000 (rd x0 (wrap64 (x9 - 1))))))) x293000 x293001 x293002) else (none)) else (none)) else (none)) else (none)) else (none)) else (none)) else (spec_StrDist.j4 k x0 x1 x7 x8 x9 x10 1000000000 x293000 x293001 x293002))
def spec_StrDist.j4 : Nat → List Int → List Int → Int → List Int → Int → Int → Int → List Int → List Int → List Int → Option (Int)
 | 0, _, _, _, _, _, _, _, _, _, _ => none
 | k + 1, x0, x1, x7, x8, x9, x10, x11, x293000, x293001, x293002 => if x10 > 0 then (if 0 ≤ (wrap64 ((wrap64 ((wrap64 (x9 * x7)) + x10)) - 1)) then (if (wrap64 ((wrap64 ((wrap64 (x9 * x7)) + x10)) - 1)) < (x8.length : Int) then (if 0 ≤ (wrap64 (x10 - 1)) then (if (wrap64 (x10 - 1)) < (x1.length : Int) then (if 0 ≤ (rd x1 (wrap64 (x10 - 1))) then (if (rd x1 (wrap64 (x10 - 1))) < (x293001.length : Int) then (if x9 > 0 then (if 0 ≤ (wrap64 ((wrap64 ((wrap64 ((wrap64 (x9 - 1)) * x7)) + x10)) - 1)) then (if (wrap64 ((wrap64 ((wrap64 ((wrap64 (x9 - 1)) * x7)) + x10)) - 1)) < (x8.length : Int) then (if 0 ≤ (wrap64 (x9 - 1)) then (if (wrap64 (x9 - 1)) < (x0.length : Int) then (if 0 ≤ (wrap64 ((wrap64 ((rd x0 (wrap64 (x9 - 1))) * 6)) + (rd x1 (wrap64 (x10 - 1))))) then (if (wrap64 ((wrap64 ((rd x0 (wrap64 (x9 - 1))) * 6)) + (rd x1 (wrap64 (x10 - 1))))) < (x293002.length : Int) then (if 0 ≤ (wrap64 ((wrap64 (x9 * x7)) + x10)) then (if (wrap64 ((wrap64 (x9 * x7)) + x10)) < (x8.length : Int) then (spec_StrDist.l1 k x0 x1 x7 (x8.set ((wrap64 ((wrap64 (x9 * x7)) + x10)) : Int).toNat (mn (mn x11 (wrap64 ((rd x8 (wrap64 ((wrap64 ((wrap64 (x9 * x7)) + x10)) - 1))) + (rd x293001 (rd x1 (wrap64 (x10 - 1))))))) (wrap64 ((rd x8 (wrap64 ((wrap64 ((wrap64 ((wrap64 (x9 - 1)) * x7)) + x10)) - 1))) + (rd x293002 (wrap64 ((wrap64 ((rd x0 (wrap64 (x9 - 1))) * 6)) + (rd x1 (wrap64 (x10 - 1)))))))))) x9 (wrap64 (x10 + 1)) x293000 x293001 x293002) else (none)) else (none)) else (none)) else (none)) else (none)) else (none)) else (none)) else (none)) else (if 0 ≤ (wrap64 ((wrap64 (x9 * x7)) + x10)) then (if (wrap64 ((wrap64 (x9 * x7)) + x10)) < (x8.length : Int) then (spec_StrDist.l1 k x0 x1 x7 (x8.set ((wrap64 ((wrap64 (x9 * x7)) + x10)) : Int).toNat (mn x11 (wrap64 ((rd x8 (wrap64 ((wrap64 ((wrap64 (x9 * x7)) + x10)) - 1))) + (rd x293001 (rd x1 (wrap64 (x10 - 1)))))))) x9 (wrap64 (x10 + 1)) x293000 x293001 x293002) else (none)) else (none))) else (none)) else (none)) else (none)) else (none)) else (none)) else (none)) else (if x9 > 0 then (if 0 ≤ (wrap64 ((wrap64 (x9 * x7)) + x10)) then (if (wrap64 ((wrap64 (x9 * x7)) + x10)) < (x8.length : Int) then (spec_StrDist.l1 k x0 x1 x7 (x8.set ((wrap64 ((wrap64 (x9 * x7)) + x10)) : Int).toNat x11) x9 (wrap64 (x10 + 1)) x293000 x293001 x293002) else (none)) else (none)) else (if 0 ≤ (wrap64 ((wrap64 (x9 * x7)) + x10)) then (if (wrap64 ((wrap64 (x9 * x7)) + x10)) < (x8.length : Int) then (spec_StrDist.l1 k x0 x1 x7 (x8.set ((wrap64 ((wrap64 (x9 * x7)) + x10)) : Int).toNat x11) x9 (wrap64 (x10 + 1)) x293000 x293001 x293002) else (none)) else (none)))
end
def spec_StrDist.f (k : Nat) (l0 : List Int) (l1 : List Int) (l2_0 : List Int) (l2_1 : List Int) (l2_2 : List Int) : Option (Int) := (spec_l25Labels.f k l0).bind fun t293 => (if t293 = true then ((spec_l25Labels.f k l1).bind fun t294 => (if t294 = true then ((spec_CostOk.f k l2_0 l2_1 l2_2).bind fun t295 => (spec_StrDist.j0 k l0 l1 (!t295) l2_0 l2_1 l2_2)) else (spec_StrDist.j0 k l0 l1 true l2_0 l2_1 l2_2))) else (spec_StrDist.j0 k l0 l1 true l2_0 l2_1 l2_2))
theorem spec_StrDist.mono_l : ∀ k, (∀ y0 y1 y2 y3 y4 y5, LeO (spec_StrDist.j0 k y0 y1 y2 y3 y4 y5) (spec_StrDist.j0 (k + 1) y0 y1 y2 y3 y4 y5)) ∧ (∀ y0 y1 y2 y3 y4 y5 y6 y7, LeO (spec_StrDist.l0 k y0 y1 y2 y3 y4 y5 y6 y7) (spec_StrDist.l0 (k + 1) y0 y1 y2 y3 y4 y5 y6 y7)) ∧ (∀ y0 y1 y2 y3 y4 y5 y6 y7 y8, LeO (spec_StrDist.l1 k y0 y1 y2 y3 y4 y5 y6 y7 y8) (spec_StrDist.l1 (k + 1) y0 y1 y2 y3 y4 y5 y6 y7 y8)) ∧ (∀ y0 y1 y2 y3 y4 y5 y6 y7 y8 y9, LeO (spec_StrDist.j3 k y0 y1 y2 y3 y4 y5 y6 y7 y8 y9) (spec_StrDist.j3 (k + 1) y0 y1 y2 y3 y4 y5 y6 y7 y8 y9)) ∧ (∀ y0 y1 y2 y3 y4 y5 y6 y7 y8 y9, LeO (spec_StrDist.j4 k y0 y1 y2 y3 y4 y5 y6 y7 y8 y9) (spec_StrDist.j4 (k + 1) y0 y1 y2 y3 y4 y5 y6 y7 y8 y9))
 | 0 => ⟨fun _ _ _ _ _ _ r h => by simp [spec_StrDist.j0] at h, fun _ _ _ _ _ _ _ _ r h => by simp [spec_StrDist.l0] at h, fun _ _ _ _ _ _ _ _ _ r h => by simp [spec_StrDist.l1] at h, fun _ _ _ _ _ _ _ _ _ _ r h => by simp [spec_StrDist.j3] at h, fun _ _ _ _ _ _ _ _ _ _ r h => by simp [spec_StrDist.j4] at h⟩
 | k + 1 => by
  obtain ⟨ih0, ih1, ih2, ih3, ih4⟩ := spec_StrDist.mono_l k
  refine ⟨?_, ?_, ?_, ?_, ?_⟩
  ·intro y0 y1 y2 y3 y4 y5
   unfold spec_StrDist.j0
   repeat' first
   | (with_reducible exact ih0 _ _ _ _ _ _)
   | (with_reducible exact ih1 _ _ _ _ _ _ _ _)
   | (with_reducible exact ih2 _ _ _ _ _ _ _ _ _)
   | (with_reducible exact ih3 _ _ _ _ _ _ _ _ _ _)
   | (with_reducible exact ih4 _ _ _ _ _ _ _ _ _ _)
   | (with_reducible exact spec_CostOk.mono _ _ _ _)
   | (with_reducible exact spec_l25Labels.mono _ _)
   | (with_reducible exact LeO.refl _)
   | (with_reducible exact LeO.none _)
   | (with_reducible refine LeO.ite ?_ ?_)
   | (with_reducible refine LeO.bind ?_ (fun _ => ?_))
   | exact ih0 _ _ _ _ _ _
   | exact ih1 _ _ _ _ _ _ _ _
   | exact ih2 _ _ _ _ _ _ _ _ _
   | exact ih3 _ _ _ _ _ _ _ _ _ _
   | exact ih4 _ _ _ _ _ _ _ _ _ _
   | exact spec_CostOk.mono _ _ _ _
   | exact spec_l25Labels.mono _ _
   | exact LeO.none _
   | refine LeO.ite ?_ ?_
   | refine LeO.bind ?_ (fun _ => ?_)
  ·intro y0 y1 y2 y3 y4 y5 y6 y7
   unfold spec_StrDist.l0
   repeat' first
   | (with_reducible exact ih0 _ _ _ _ _ _)
   | (with_reducible exact ih1 _ _ _ _ _ _ _ _)
   | (with_reducible exact ih2 _ _ _ _ _ _ _ _ _)
   | (with_reducible exact ih3 _ _ _ _ _ _ _ _ _ _)
   | (with_reducible exact ih4 _ _ _ _ _ _ _ _ _ _)
   | (with_reducible exact spec_CostOk.mono _ _ _ _)
   | (with_reducible exact spec_l25Labels.mono _ _)
   | (with_reducible exact LeO.refl _)
   | (with_reducible exact LeO.none _)
   | (with_reducible refine LeO.ite ?_ ?_)
   | (with_reducible refine LeO.bind ?_ (fun _ => ?_))
   | exact ih0 _ _ _ _ _ _
   | exact ih1 _ _ _ _ _ _ _ _
   | exact ih2 _ _ _ _ _ _ _ _ _
   | exact ih3 _ _ _ _ _ _ _ _ _ _
   | exact ih4 _ _ _ _ _ _ _ _ _ _
   | exact spec_CostOk.mono _ _ _ _
   | exact spec_l25Labels.mono _ _
   | exact LeO.none _
   | refine LeO.ite ?_ ?_
   | refine LeO.bind ?_ (fun _ => ?_)
  ·intro y0 y1 y2 y3 y4 y5 y6 y7 y8
   unfold spec_StrDist.l1
   repeat' first
   | (with_reducible exact ih0 _ _ _ _ _ _)
   | (with_reducible exact ih1 _ _ _ _ _ _ _ _)
   | (with_reducible exact ih2 _ _ _ _ _ _ _ _ _)
   | (with_reducible exact ih3 _ _ _ _ _ _ _ _ _ _)
   | (with_reducible exact ih4 _ _ _ _ _ _ _ _ _ _)
   | (with_reducible exact spec_CostOk.mono _ _ _ _)
   | (with_reducible exact spec_l25Labels.mono _ _)
   | (with_reducible exact LeO.refl _)
   | (with_reducible exact LeO.none _)
   | (with_reducible refine LeO.ite ?_ ?_)
   | (with_reducible refine LeO.bind ?_ (fun _ => ?_))
   | exact ih0 _ _ _ _ _ _
   | exact ih1 _ _ _ _ _ _ _ _
   | exact ih2 _ _ _ _ _ _ _ _ _
   | exact ih3 _ _ _ _ _ _ _ _ _ _
   | exact ih4 _ _ _ _ _ _ _ _ _ _
   | exact spec_CostOk.mono _ _ _ _
   | exact spec_l25Labels.mono _ _
   | exact LeO.none _
   | refine LeO.ite ?_ ?_
   | refine LeO.bind ?_ (fun _ => ?_)
  ·intro y0 y1 y2 y3 y4 y5 y6 y7 y8 y9
   unfold spec_StrDist.j3
   repeat' first
   | (with_reducible exact ih0 _ _ _ _ _ _)
   | (with_reducible exact ih1 _ _ _ _ _ _ _ _)
   | (with_reducible exact ih2 _ _ _ _ _ _ _ _ _)
   | (with_reducible exact ih3 _ _ _ _ _ _ _ _ _ _)
   | (with_reducible exact ih4 _ _ _ _ _ _ _ _ _ _)
   | (with_reducible exact spec_CostOk.mono _ _ _ _)
   | (with_reducible exact spec_l25Labels.mono _ _)
   | (with_reducible exact LeO.refl _)
   | (with_reducible exact LeO.none _)
   | (with_reducible refine LeO.ite ?_ ?_)
   | (with_reducible refine LeO.bind ?_ (fun _ => ?_))
   | exact ih0 _ _ _ _ _ _
   | exact ih1 _ _ _ _ _ _ _ _
   | exact ih2 _ _ _ _ _ _ _ _ _
   | exact ih3 _ _ _ _ _ _ _ _ _ _
   | exact ih4 _ _ _ _ _ _ _ _ _ _
   | exact spec_CostOk.mono _ _ _ _
   | exact spec_l25Labels.mono _ _
   | exact LeO.none _
   | refine LeO.ite ?_ ?_
   | refine LeO.bind ?_ (fun _ => ?_)
  ·intro y0 y1 y2 y3 y4 y5 y6 y7 y8 y9
   unfold spec_StrDist.j4
   repeat' first
   | (with_reducible exact ih0 _ _ _ _ _ _)
   | (with_reducible exact ih1 _ _ _ _ _ _ _ _)
   | (with_reducible exact ih2 _ _ _ _ _ _ _ _ _)
   | (with_reducible exact ih3 _ _ _ _ _ _ _ _ _ _)
   | (with_reducible exact ih4 _ _ _ _ _ _ _ _ _ _)
   | (with_reducible exact spec_CostOk.mono _ _ _ _)
   | (with_reducible exact spec_l25Labels.mono _ _)
   | (with_reducible exact LeO.refl _)
   | (with_reducible exact LeO.none _)
   | (with_reducible refine LeO.ite ?_ ?_)
   | (with_reducible refine LeO.bind ?_ (fun _ => ?_))
   | exact ih0 _ _ _ _ _ _
   | exact ih1 _ _ _ _ _ _ _ _
   | exact ih2 _ _ _ _ _ _ _ _ _
   | exact ih3 _ _ _ _ _ _ _ _ _ _
   | exact ih4 _ _ _ _ _ _ _ _ _ _
   | exact spec_CostOk.mono _ _ _ _
   | exact spec_l25Labels.mono _ _
   | exact LeO.none _
   | refine LeO.ite ?_ ?_
   | refine LeO.bind ?_ (fun _ => ?_)
theorem spec_StrDist.mono : ∀ a0 a1 a2 a3 a4 k, LeO (spec_StrDist.f k a0 a1 a2 a3 a4) (spec_StrDist.f (k + 1) a0 a1 a2 a3 a4) := by
 intro a0 a1 a2 a3 a4 k
 obtain ⟨ih0, ih1, ih2, ih3, ih4⟩ := spec_StrDist.mono_l k
 unfold spec_StrDist.f
 repeat' first
   | (with_reducible exact ih0 _ _ _ _ _ _)
   | (with_reducible exact ih1 _ _ _ _ _ _ _ _)
   | (with_reducible exact ih2 _ _ _ _ _ _ _ _ _)
   | (with_reducible exact ih3 _ _ _ _ _ _ _ _ _ _)
   | (with_reducible exact ih4 _ _ _ _ _ _ _ _ _ _)
   | (with_reducible exact spec_CostOk.mono _ _ _ _)
   | (with_reducible exact spec_l25Labels.mono _ _)
   | (with_reducible exact LeO.refl _)
   | (with_reducible exact LeO.none _)
   | (with_reducible refine LeO.ite ?_ ?_)
   | (with_reducible refine LeO.bind ?_ (fun _ => ?_))
   | exact ih0 _ _ _ _ _ _
   | exact ih1 _ _ _ _ _ _ _ _
   | exact ih2 _ _ _ _ _ _ _ _ _
   | exact ih3 _ _ _ _ _ _ _ _ _ _
   | exact ih4 _ _ _ _ _ _ _ _ _ _
   | exact spec_CostOk.mono _ _ _ _
   | exact spec_l25Labels.mono _ _
   | exact LeO.none _
   | refine LeO.ite ?_ ?_
   | refine LeO.bind ?_ (fun _ => ?_)
set_option maxHeartbeats 8000000 in
set_option maxRecDepth 100000 in
theorem spec_StrDist.calls (k : Nat) (A0 : Option Addr) (c0 : Nat) (l0 : List Int) (A1 : Option Addr) (c1 : Nat) (l1 : List Int) (A2_0 : Option Addr) (c2_0 : Nat) (l2_0 : List Int) (A2_1 : Option Addr) (c2_1 : Nat) (l2_1 : List Int) (A2_2 : Option Addr) (c2_2 : Nat) (l2_2 : List Int) (r : Int) (w : World) (hr0 : Kd.C (Kd.int .i64) w A0 l0.length l0) (hc0 : l0.length ≤ c0) (hr1 : Kd.C (Kd.int .i64) w A1 l1.length l1) (hc1 : l1.length ≤ c1) (hr2_0 : Kd.C (Kd.int .i64) w A2_0 l2_0.length l2_0) (hc2_0 : l2_0.length ≤ c2_0) (hr2_1 : Kd.C (Kd.int .i64) w A2_1 l2_1.length l2_1) (hc2_1 : l2_1.length ≤ c2_1) (hr2_2 : Kd.C (Kd.int .i64) w A2_2 l2_2.length l2_2) (hc2_2 : l2_2.length ≤ c2_2) (h : spec_StrDist.f k l0 l1 l2_0 l2_1 l2_2 = some r) :
  Calls Try.prog 45 #[.slice A0 l0.length c0, .slice A1 l1.length c1, .agg #[.slice A2_0 l2_0.length c2_0, .slice A2_1 l2_1.length c2_1, .slice A2_2 l2_2.length c2_2]] w fun e w' => e = .returned (.int .i64 r) ∧ Below w.heap.size w w' := by
 have hu37 := Try.underlying37
 have HR0 := Aside0.mk hr0
 have HC0 := Aside0.mk hc0
 clear hr0 hc0
 have HR1 := Aside0.mk hr1
 have HC1 := Aside0.mk hc1
 clear hr1 hc1
 have HR2_0 := Aside0.mk hr2_0
 have HC2_0 := Aside0.mk hc2_0
 clear hr2_0 hc2_0
 have HR2_1 := Aside0.mk hr2_1
 have HC2_1 := Aside0.mk hc2_1
 clear hr2_1 hc2_1
 have HR2_2 := Aside0.mk hr2_2
 have HC2_2 := Aside0.mk hc2_2
 clear hr2_2 hc2_2
 have HB := Aside0.mk (Below.refl w.heap.size w)
 have H : ((spec_l25Labels.f k l0).bind fun t293 => (if t293 = true then ((spec_l25Labels.f k l1).bind fun t294 => (if t294 = true then ((spec_CostOk.f k l2_0 l2_1 l2_2).bind fun t295 => (spec_StrDist.j0 k l0 l1 (!t295) l2_0 l2_1 l2_2)) else (spec_StrDist.j0 k l0 l1 true l2_0 l2_1 l2_2))) else (spec_StrDist.j0 k l0 l1 true l2_0 l2_1 l2_2))) = some r := h
 clear h
 have HC4 := Aside0.mk H
 clear H
 go_enter Try.func45, Try.ntmps45
 go_upto_region 1 with (first | ((with_reducible refine gate_dst (N := 5) rfl ?_); refine box_event ?hg (N := 5) ?hd (cs := #[.slice A2_0 l2_0.length c2_0, .slice A2_1 l2_1.length c2_1, .slice A2_2 l2_2.length c2_2]) (t := 37) ?hr ?_; (case hd => rfl); (case hg => rfl); (case hr => first | (go_simp; done) | (go_simp; rfl)); intro gb292 hg w5 hbox hb; have BK292 := Aside0.mk (hbox); have GW292 := Aside0.mk ((by rw [hg]; exact (below_size (laB HB.out)) : w.heap.size ≤ gb292)); have GE292 := Aside0.mk ((by rw [hg]; exact (below_size (laB HB.out)) : w.heap.size ≤ gb292)); have ge292_ := Nonempty.intro GE292.out; replace HB := Aside0.mk (below_step (laB HB.out) hb); clear hb hbox hg))
 repeat (go_quiet (first | ((with_reducible refine gate_dst (N := 5) rfl ?_); refine box_event ?hg (N := 5) ?hd (cs := #[.slice A2_0 l2_0.length c2_0, .slice A2_1 l2_1.length c2_1, .slice A2_2 l2_2.length c2_2]) (t := 37) ?hr ?_; (case hd => rfl); (case hg => rfl); (case hr => first | (go_simp; done) | (go_simp; rfl)); intro gb292 hg w5 hbox hb; have BK292 := Aside0.mk (hbox); have GW292 := Aside0.mk ((by rw [hg]; exact (below_size (laB HB.out)) : w.heap.size ≤ gb292)); have GE292 := Aside0.mk ((by rw [hg]; exact (below_size (laB HB.out)) : w.heap.size ≤ gb292)); have ge292_ := Nonempty.intro GE292.out; replace HB := Aside0.mk (below_step (laB HB.out) hb); clear hb hbox hg)); go_upto_region 1 with (first | ((with_reducible refine gate_dst (N := 5) rfl ?_); refine box_event ?hg (N := 5) ?hd (cs := #[.slice A2_0 l2_0.length c2_0, .slice A2_1 l2_1.length c2_1, .slice A2_2 l2_2.length c2_2]) (t := 37) ?hr ?_; (case hd => rfl); (case hg => rfl); (case hr => first | (go_simp; done) | (go_simp; rfl)); intro gb292 hg w5 hbox hb; have BK292 := Aside0.mk (hbox); have GW292 := Aside0.mk ((by rw [hg]; exact (below_size (laB HB.out)) : w.heap.size ≤ gb292)); have GE292 := Aside0.mk ((by rw [hg]; exact (below_size (laB HB.out)) : w.heap.size ≤ gb292)); have ge292_ := Nonempty.intro GE292.out; replace HB := Aside0.mk (below_step (laB HB.out) hb); clear hb hbox hg)))
 (try simp only [Act.put, List.setIfInBounds_toArray, List.set_cons_zero, List.set_cons_succ])
 go_cut [24] (fun v24 wc => ∃ (kq : Nat) (x24_3 : Bool), v24 = .bool x24_3 ∧ Aside0 (spec_StrDist.j0 kq l0 l1 x24_3 l2_0 l2_1 l2_2 = some r) ∧ Aside0 (kq ≤ k) ∧ Aside0 (wc.heap[gb292]? = some (.cells #[(.slice A2_0 l2_0.length c2_0), (.slice A2_1 l2_1.length c2_1), (.slice A2_2 l2_2.length c2_2)] 37 (0, 0))) ∧ Aside0 (Below w.heap.size w wc))
 case first =>
  have H := HC4.out
  clear HC4
  replace H := Option.bind_eq_some_iff.mp H
  obtain ⟨t293, A60, H⟩ := H
  have A6 := Aside0.mk A60
  clear A60
  by_cases c7 : t293 = true
  ·subst c7
   rw [if_pos rfl] at H
   replace H := Option.bind_eq_some_iff.mp H
   obtain ⟨t294, A80, H⟩ := H
   have A8 := Aside0.mk A80
   clear A80
   by_cases c9 : t294 = true
   ·subst c9
    rw [if_pos rfl] at H
    replace H := Option.bind_eq_some_iff.mp H
    obtain ⟨t295, A100, H⟩ := H
    have A10 := Aside0.mk A100
    clear A100
    have H' := Aside0.mk H
    clear H
    go_wp2_with (first | (go_at_call 82; (with_reducible refine (spec_l25Labels.calls k _ _ l0 true _ ?side1 ?side2 A6.out).mono ?_); (case side1 => exact laC (Kd.C_below HR0.out HB.out)); (case side2 => exact HC0.out); rintro e w' ⟨rfl, ⟨nd, rfl⟩⟩; (try first | exact ⟨rfl, _, World.drewN_drewN _ _ _⟩ | exact ⟨rfl, _, Eq.trans (World.drewN_drewN _ _ _) (congrArg (World.drewN _) (Nat.add_assoc _ _ _))⟩)) | (go_at_call 82; (with_reducible refine (spec_l25Labels.calls k _ _ l1 true _ ?side1 ?side2 A8.out).mono ?_); (case side1 => repeat (first | exact (Kd.C_below HR1.out (laB HB.out)) | (with_reducible refine Kd.C_alloc ?_ _) | (with_reducible refine Kd.C_drewN ?_ _) | (with_reducible refine Kd.C_drew ?_))); (case side2 => exact HC1.out); rintro e w' ⟨rfl, ⟨nd, rfl⟩⟩; (try first | exact ⟨rfl, _, World.drewN_drewN _ _ _⟩ | exact ⟨rfl, _, Eq.trans (World.drewN_drewN _ _ _) (congrArg (World.drewN _) (Nat.add_assoc _ _ _))⟩); have hcz11_0 : w5.cell? ⟨gb292, 0, none⟩ = some (.slice A2_0 l2_0.length c2_0) := (blk_cell BK292.out 0).trans rfl; have hcz11_1 : w5.cell? ⟨gb292, 1, none⟩ = some (.slice A2_1 l2_1.length c2_1) := (blk_cell BK292.out 1).trans rfl; have hcz11_2 : w5.cell? ⟨gb292, 2, none⟩ = some (.slice A2_2 l2_2.length c2_2) := (blk_cell BK292.out 2).trans rfl; have hfz11_0 := blk_frozen BK292.out 0; have hfz11_1 := blk_frozen BK292.out 1; have hfz11_2 := blk_frozen BK292.out 2) | (go_at_call 28; (with_reducible refine (spec_CostOk.calls k _ _ l2_0 _ _ l2_1 _ _ l2_2 t295 _ ?side1 ?side2 ?side3 ?side4 ?side5 ?side6 A10.out).mono ?_); (case side1 => repeat (first | exact (Kd.C_below HR2_0.out (laB HB.out)) | (with_reducible refine Kd.C_alloc ?_ _) | (with_reducible refine Kd.C_drewN ?_ _) | (with_reducible refine Kd.C_drew ?_))); (case side2 => exact HC2_0.out); (case side3 => repeat (first | exact (Kd.C_below HR2_1.out (laB HB.out)) | (with_reducible refine Kd.C_alloc ?_ _) | (with_reducible refine Kd.C_drewN ?_ _) | (with_reducible refine Kd.C_drew ?_))); (case side4 => exact HC2_1.out); (case side5 => repeat (first | exact (Kd.C_below HR2_2.out (laB HB.out)) | (with_reducible refine Kd.C_alloc ?_ _) | (with_reducible refine Kd.C_drewN ?_ _) | (with_reducible refine Kd.C_drew ?_))); (case side6 => exact HC2_2.out); rintro e w12 ⟨rfl, hb⟩; replace BK292 := Aside0.mk (laKb BK292.out hb); replace HB := Aside0.mk (below_step (laB HB.out) hb); (try clear hb); (try clear hb2); (try clear hk); (try clear hi)))
    repeat (go_quiet (first | (go_at_call 82; (with_reducible refine (spec_l25Labels.calls k _ _ l0 true _ ?side1 ?side2 A6.out).mono ?_); (case side1 => exact laC (Kd.C_below HR0.out HB.out)); (case side2 => exact HC0.out); rintro e w' ⟨rfl, ⟨nd, rfl⟩⟩; (try first | exact ⟨rfl, _, World.drewN_drewN _ _ _⟩ | exact ⟨rfl, _, Eq.trans (World.drewN_drewN _ _ _) (congrArg (World.drewN _) (Nat.add_assoc _ _ _))⟩)) | (go_at_call 82; (with_reducible refine (spec_l25Labels.calls k _ _ l1 true _ ?side1 ?side2 A8.out).mono ?_); (case side1 => repeat (first | exact (Kd.C_below HR1.out (laB HB.out)) | (with_reducible refine Kd.C_alloc ?_ _) | (with_reducible refine Kd.C_drewN ?_ _) | (with_reducible refine Kd.C_drew ?_))); (case side2 => exact HC1.out); rintro e w' ⟨rfl, ⟨nd, rfl⟩⟩; (try first | exact ⟨rfl, _, World.drewN_drewN _ _ _⟩ | exact ⟨rfl, _, Eq.trans (World.drewN_drewN _ _ _) (congrArg (World.drewN _) (Nat.add_assoc _ _ _))⟩); have hcz11_0 : w5.cell? ⟨gb292, 0, none⟩ = some (.slice A2_0 l2_0.length c2_0) := (blk_cell BK292.out 0).trans rfl; have hcz11_1 : w5.cell? ⟨gb292, 1, none⟩ = some (.slice A2_1 l2_1.length c2_1) := (blk_cell BK292.out 1).trans rfl; have hcz11_2 : w5.cell? ⟨gb292, 2, none⟩ = some (.slice A2_2 l2_2.length c2_2) := (blk_cell BK292.out 2).trans rfl; have hfz11_0 := blk_frozen BK292.out 0; have hfz11_1 := blk_frozen BK292.out 1; have hfz11_2 := blk_frozen BK292.out 2) | (go_at_call 28; (with_reducible refine (spec_CostOk.calls k _ _ l2_0 _ _ l2_1 _ _ l2_2 t295 _ ?side1 ?side2 ?side3 ?side4 ?side5 ?side6 A10.out).mono ?_); (case side1 => repeat (first | exact (Kd.C_below HR2_0.out (laB HB.out)) | (with_reducible refine Kd.C_alloc ?_ _) | (with_reducible refine Kd.C_drewN ?_ _) | (with_reducible refine Kd.C_drew ?_))); (case side2 => exact HC2_0.out); (case side3 => repeat (first | exact (Kd.C_below HR2_1.out (laB HB.out)) | (with_reducible refine Kd.C_alloc ?_ _) | (with_reducible refine Kd.C_drewN ?_ _) | (with_reducible refine Kd.C_drew ?_))); (case side4 => exact HC2_1.out); (case side5 => repeat (first | exact (Kd.C_below HR2_2.out (laB HB.out)) | (with_reducible refine Kd.C_alloc ?_ _) | (with_reducible refine Kd.C_drewN ?_ _) | (with_reducible refine Kd.C_drew ?_))); (case side6 => exact HC2_2.out); rintro e w12 ⟨rfl, hb⟩; replace BK292 := Aside0.mk (laKb BK292.out hb); replace HB := Aside0.mk (below_step (laB HB.out) hb); (try clear hb); (try clear hb2); (try clear hk); (try clear hi))); try go_wp2_with (first | (go_at_call 82; (with_reducible refine (spec_l25Labels.calls k _ _ l0 true _ ?side1 ?side2 A6.out).mono ?_); (case side1 => exact laC (Kd.C_below HR0.out HB.out)); (case side2 => exact HC0.out); rintro e w' ⟨rfl, ⟨nd, rfl⟩⟩; (try first | exact ⟨rfl, _, World.drewN_drewN _ _ _⟩ | exact ⟨rfl, _, Eq.trans (World.drewN_drewN _ _ _) (congrArg (World.drewN _) (Nat.add_assoc _ _ _))⟩)) | (go_at_call 82; (with_reducible refine (spec_l25Labels.calls k _ _ l1 true _ ?side1 ?side2 A8.out).mono ?_); (case side1 => repeat (first | exact (Kd.C_below HR1.out (laB HB.out)) | (with_reducible refine Kd.C_alloc ?_ _) | (with_reducible refine Kd.C_drewN ?_ _) | (with_reducible refine Kd.C_drew ?_))); (case side2 => exact HC1.out); rintro e w' ⟨rfl, ⟨nd, rfl⟩⟩; (try first | exact ⟨rfl, _, World.drewN_drewN _ _ _⟩ | exact ⟨rfl, _, Eq.trans (World.drewN_drewN _ _ _) (congrArg (World.drewN _) (Nat.add_assoc _ _ _))⟩); have hcz11_0 : w5.cell? ⟨gb292, 0, none⟩ = some (.slice A2_0 l2_0.length c2_0) := (blk_cell BK292.out 0).trans rfl; have hcz11_1 : w5.cell? ⟨gb292, 1, none⟩ = some (.slice A2_1 l2_1.length c2_1) := (blk_cell BK292.out 1).trans rfl; have hcz11_2 : w5.cell? ⟨gb292, 2, none⟩ = some (.slice A2_2 l2_2.length c2_2) := (blk_cell BK292.out 2).trans rfl; have hfz11_0 := blk_frozen BK292.out 0; have hfz11_1 := blk_frozen BK292.out 1; have hfz11_2 := blk_frozen BK292.out 2) | (go_at_call 28; (with_reducible refine (spec_CostOk.calls k _ _ l2_0 _ _ l2_1 _ _ l2_2 t295 _ ?side1 ?side2 ?side3 ?side4 ?side5 ?side6 A10.out).mono ?_); (case side1 => repeat (first | exact (Kd.C_below HR2_0.out (laB HB.out)) | (with_reducible refine Kd.C_alloc ?_ _) | (with_reducible refine Kd.C_drewN ?_ _) | (with_reducible refine Kd.C_drew ?_))); (case side2 => exact HC2_0.out); (case side3 => repeat (first | exact (Kd.C_below HR2_1.out (laB HB.out)) | (with_reducible refine Kd.C_alloc ?_ _) | (with_reducible refine Kd.C_drewN ?_ _) | (with_reducible refine Kd.C_drew ?_))); (case side4 => exact HC2_1.out); (case side5 => repeat (first | exact (Kd.C_below HR2_2.out (laB HB.out)) | (with_reducible refine Kd.C_alloc ?_ _) | (with_reducible refine Kd.C_drewN ?_ _) | (with_reducible refine Kd.C_drew ?_))); (case side6 => exact HC2_2.out); rintro e w12 ⟨rfl, hb⟩; replace BK292 := Aside0.mk (laKb BK292.out hb); replace HB := Aside0.mk (below_step (laB HB.out) hb); (try clear hb); (try clear hb2); (try clear hk); (try clear hi))))
    go_meet
    case rel => exact ⟨_, (!t295), (by first | rfl | (simp; done) | (simp [*]; done)), H', ⟨by first | omega | exact Nat.le_refl _⟩, ⟨laK BK292.out⟩, ⟨laB HB.out⟩⟩
   ·replace c9 := Bool.eq_false_iff.mpr c9
    subst c9
    rw [if_neg (show ¬ (false = true) by decide)] at H
    have H' := Aside0.mk H
    clear H
    go_wp2_with (first | (go_at_call 82; (with_reducible refine (spec_l25Labels.calls k _ _ l0 true _ ?side1 ?side2 A6.out).mono ?_); (case side1 => exact laC (Kd.C_below HR0.out HB.out)); (case side2 => exact HC0.out); rintro e w' ⟨rfl, ⟨nd, rfl⟩⟩; (try first | exact ⟨rfl, _, World.drewN_drewN _ _ _⟩ | exact ⟨rfl, _, Eq.trans (World.drewN_drewN _ _ _) (congrArg (World.drewN _) (Nat.add_assoc _ _ _))⟩)) | (go_at_call 82; (with_reducible refine (spec_l25Labels.calls k _ _ l1 false _ ?side1 ?side2 A8.out).mono ?_); (case side1 => repeat (first | exact (Kd.C_below HR1.out (laB HB.out)) | (with_reducible refine Kd.C_alloc ?_ _) | (with_reducible refine Kd.C_drewN ?_ _) | (with_reducible refine Kd.C_drew ?_))); (case side2 => exact HC1.out); rintro e w' ⟨rfl, ⟨nd, rfl⟩⟩; (try first | exact ⟨rfl, _, World.drewN_drewN _ _ _⟩ | exact ⟨rfl, _, Eq.trans (World.drewN_drewN _ _ _) (congrArg (World.drewN _) (Nat.add_assoc _ _ _))⟩)))
    repeat (go_quiet (first | (go_at_call 82; (with_reducible refine (spec_l25Labels.calls k _ _ l0 true _ ?side1 ?side2 A6.out).mono ?_); (case side1 => exact laC (Kd.C_below HR0.out HB.out)); (case side2 => exact HC0.out); rintro e w' ⟨rfl, ⟨nd, rfl⟩⟩; (try first | exact ⟨rfl, _, World.drewN_drewN _ _ _⟩ | exact ⟨rfl, _, Eq.trans (World.drewN_drewN _ _ _) (congrArg (World.drewN _) (Nat.add_assoc _ _ _))⟩)) | (go_at_call 82; (with_reducible refine (spec_l25Labels.calls k _ _ l1 false _ ?side1 ?side2 A8.out).mono ?_); (case side1 => repeat (first | exact (Kd.C_below HR1.out (laB HB.out)) | (with_reducible refine Kd.C_alloc ?_ _) | (with_reducible refine Kd.C_drewN ?_ _) | (with_reducible refine Kd.C_drew ?_))); (case side2 => exact HC1.out); rintro e w' ⟨rfl, ⟨nd, rfl⟩⟩; (try first | exact ⟨rfl, _, World.drewN_drewN _ _ _⟩ | exact ⟨rfl, _, Eq.trans (World.drewN_drewN _ _ _) (congrArg (World.drewN _) (Nat.add_assoc _ _ _))⟩))); try go_wp2_with (first | (go_at_call 82; (with_reducible refine (spec_l25Labels.calls k _ _ l0 true _ ?side1 ?side2 A6.out).mono ?_); (case side1 => exact laC (Kd.C_below HR0.out HB.out)); (case side2 => exact HC0.out); rintro e w' ⟨rfl, ⟨nd, rfl⟩⟩; (try first | exact ⟨rfl, _, World.drewN_drewN _ _ _⟩ | exact ⟨rfl, _, Eq.trans (World.drewN_drewN _ _ _) (congrArg (World.drewN _) (Nat.add_assoc _ _ _))⟩)) | (go_at_call 82; (with_reducible refine (spec_l25Labels.calls k _ _ l1 false _ ?side1 ?side2 A8.out).mono ?_); (case side1 => repeat (first | exact (Kd.C_below HR1.out (laB HB.out)) | (with_reducible refine Kd.C_alloc ?_ _) | (with_reducible refine Kd.C_drewN ?_ _) | (with_reducible refine Kd.C_drew ?_))); (case side2 => exact HC1.out); rintro e w' ⟨rfl, ⟨nd, rfl⟩⟩; (try first | exact ⟨rfl, _, World.drewN_drewN _ _ _⟩ | exact ⟨rfl, _, Eq.trans (World.drewN_drewN _ _ _) (congrArg (World.drewN _) (Nat.add_assoc _ _ _))⟩))))
    go_meet
    case rel => exact ⟨_, (true), (by first | rfl | (simp; done) | (simp [*]; done)), H', ⟨by first | omega | exact Nat.le_refl _⟩, ⟨laK BK292.out⟩, ⟨laB HB.out⟩⟩
  ·replace c7 := Bool.eq_false_iff.mpr c7
   subst c7
   rw [if_neg (show ¬ (false = true) by decide)] at H
   have H' := Aside0.mk H
   clear H
   go_wp2_with (first | (go_at_call 82; (with_reducible refine (spec_l25Labels.calls k _ _ l0 false _ ?side1 ?side2 A6.out).mono ?_); (case side1 => exact laC (Kd.C_below HR0.out HB.out)); (case side2 => exact HC0.out); rintro e w' ⟨rfl, ⟨nd, rfl⟩⟩; (try first | exact ⟨rfl, _, World.drewN_drewN _ _ _⟩ | exact ⟨rfl, _, Eq.trans (World.drewN_drewN _ _ _) (congrArg (World.drewN _) (Nat.add_assoc _ _ _))⟩)))
   repeat (go_quiet (first | (go_at_call 82; (with_reducible refine (spec_l25Labels.calls k _ _ l0 false _ ?side1 ?side2 A6.out).mono ?_); (case side1 => exact laC (Kd.C_below HR0.out HB.out)); (case side2 => exact HC0.out); rintro e w' ⟨rfl, ⟨nd, rfl⟩⟩; (try first | exact ⟨rfl, _, World.drewN_drewN _ _ _⟩ | exact ⟨rfl, _, Eq.trans (World.drewN_drewN _ _ _) (congrArg (World.drewN _) (Nat.add_assoc _ _ _))⟩))); try go_wp2_with (first | (go_at_call 82; (with_reducible refine (spec_l25Labels.calls k _ _ l0 false _ ?side1 ?side2 A6.out).mono ?_); (case side1 => exact laC (Kd.C_below HR0.out HB.out)); (case side2 => exact HC0.out); rintro e w' ⟨rfl, ⟨nd, rfl⟩⟩; (try first | exact ⟨rfl, _, World.drewN_drewN _ _ _⟩ | exact ⟨rfl, _, Eq.trans (World.drewN_drewN _ _ _) (congrArg (World.drewN _) (Nat.add_assoc _ _ _))⟩))))
   go_meet
   case rel => exact ⟨_, (true), (by first | rfl | (simp; done) | (simp [*]; done)), H', ⟨by first | omega | exact Nat.le_refl _⟩, ⟨laK BK292.out⟩, ⟨laB HB.out⟩⟩
 case rest =>
  clear HC4
  try clear c1
  try clear c2
  try clear p2
  try clear c4
  try clear c7
  try clear c9
  try clear hcz11_0
  try clear hcz11_1
  try clear hcz11_2
  try clear hfz11_0
  try clear hfz11_1
  try clear hfz11_2
  obtain ⟨kq, x24_3, rfl, HA, HJ3, BK292, HB⟩ := hcut
  cases kq with
  | zero => exact absurd HA.out (by simp [spec_StrDist.j0])
  | succ kj3 =>
   have H := HA.out
   clear HA
   simp only [spec_StrDist.j0] at H
   by_cases c13 : x24_3 = true
   ·subst c13
    rw [if_pos rfl] at H
    obtain rfl := Option.some.inj H
    go_wp2
    repeat (go_quiet (fail); try go_wp2)
    go_ret
    exact ⟨by first | rfl | (simp [errW_none, errW_some] <;> rfl) | (simp [*, errW_none, errW_some] <;> rfl), laB HB.out⟩
   ·replace c13 := Bool.eq_false_iff.mpr c13
    subst c13
    rw [if_neg (show ¬ (false = true) by decide)] at H
    obtain ⟨ji14, hji14⟩ : ∃ j_ : Int, (wrap64 ((wrap64 ((l0.length : Int) + 1)) * (wrap64 ((l1.length : Int) + 1)))) = j_ := ⟨_, rfl⟩
    replace H : (if 0 ≤ (ji14) then (if (ji14 : Int).toNat ≤ 35184372088832 then (spec_StrDist.l0 kj3 l0 l1 (wrap64 ((l1.length : Int) + 1)) (List.replicate (ji14 : Int).toNat 0) 0 l2_0 l2_1 l2_2) else (none)) else (none)) = some r := by first | (rw [hji14] at H; exact H) | (simp only [hji14] at H ⊢; exact H)
    have hji14w : (IntKind.i64.wrap ((wrap64 ((l0.length : Int) + 1)) * (wrap64 ((l1.length : Int) + 1)))) = ji14 := (i64_w _).trans hji14
    by_cases c15 : 0 ≤ (ji14)
    ·rw [if_pos c15] at H
     have c15b0 := eq_true c15
     have c15b1 : decide (0 ≤ (ji14)) = true := decide_eq_true c15
     clear c15
     by_cases c16 : (ji14 : Int).toNat ≤ 35184372088832
     ·rw [if_pos c16] at H
      have c16b0 := eq_true c16
      have c16b1 : decide ((ji14 : Int).toNat ≤ 35184372088832) = true := decide_eq_true c16
      clear c16
      obtain ⟨y296, hy296⟩ : ∃ y_ : List Int, y_ = (List.replicate (ji14 : Int).toNat 0) := ⟨_, rfl⟩
      replace H : (spec_StrDist.l0 kj3 l0 l1 (wrap64 ((l1.length : Int) + 1)) y296 0 l2_0 l2_1 l2_2) = some r := by first | (rw [hy296]; with_reducible exact H) | (have H2_ := (Option.bind_some _ _).symm.trans H; rw [hy296]; with_reducible exact H2_) | (have H2_ := (Option.bind_some _ _).symm.trans H; with_reducible exact H2_) | with_reducible exact H | (rw [hy296]; exact H) | exact H
      have Ny296 := Aside0.mk hy296
      clear hy296
      have H' := Aside0.mk H
      clear H
      go_wp2_with (first | ((with_reducible refine gate_dst (N := 33) rfl ?_); refine Kd.R_make (Kd.int .i64) _ 3 rfl (N := 33) rfl 24 _ _ rfl ji14 rfl rfl Try.underlying24 (.int .i64 0) 8 info3 rfl (by decide) (by omega) 0 (ok := fun _ => True) (okp := fun _ => True) rfl (fun _ hk => hk) trivial (of_decide_eq_true (by first | (with_reducible assumption) | assumption)) (Nat.le_trans (Nat.mul_le_mul_right _ (of_decide_eq_true (by first | (with_reducible assumption) | assumption) : ji14.toNat ≤ 35184372088832)) (by omega)) (Below.refl _ _) (Nat.le_refl _) ?_; intro v297 w17 ho18 hb hg_ hnew_; clear hg_ hnew_; (first | rw [← Ny296.out] at ho18 | (simp only [Int.reduceToNat] at ho18; rw [← Ny296.out] at ho18)); have HO298 := Aside0.mk (Kd.R_lower ho18 (below_size (laB HB.out))); replace BK292 := Aside0.mk (laKb BK292.out hb); replace HB := Aside0.mk (below_step (laB HB.out) hb); clear hb ho18))
      repeat (go_quiet (first | ((with_reducible refine gate_dst (N := 33) rfl ?_); refine Kd.R_make (Kd.int .i64) _ 3 rfl (N := 33) rfl 24 _ _ rfl ji14 rfl rfl Try.underlying24 (.int .i64 0) 8 info3 rfl (by decide) (by omega) 0 (ok := fun _ => True) (okp := fun _ => True) rfl (fun _ hk => hk) trivial (of_decide_eq_true (by first | (with_reducible assumption) | assumption)) (Nat.le_trans (Nat.mul_le_mul_right _ (of_decide_eq_true (by first | (with_reducible assumption) | assumption) : ji14.toNat ≤ 35184372088832)) (by omega)) (Below.refl _ _) (Nat.le_refl _) ?_; intro v297 w17 ho18 hb hg_ hnew_; clear hg_ hnew_; (first | rw [← Ny296.out] at ho18 | (simp only [Int.reduceToNat] at ho18; rw [← Ny296.out] at ho18)); have HO298 := Aside0.mk (Kd.R_lower ho18 (below_size (laB HB.out))); replace BK292 := Aside0.mk (laKb BK292.out hb); replace HB := Aside0.mk (below_step (laB HB.out) hb); clear hb ho18)); try go_wp2_with (first | ((with_reducible refine gate_dst (N := 33) rfl ?_); refine Kd.R_make (Kd.int .i64) _ 3 rfl (N := 33) rfl 24 _ _ rfl ji14 rfl rfl Try.underlying24 (.int .i64 0) 8 info3 rfl (by decide) (by omega) 0 (ok := fun _ => True) (okp := fun _ => True) rfl (fun _ hk => hk) trivial (of_decide_eq_true (by first | (with_reducible assumption) | assumption)) (Nat.le_trans (Nat.mul_le_mul_right _ (of_decide_eq_true (by first | (with_reducible assumption) | assumption) : ji14.toNat ≤ 35184372088832)) (by omega)) (Below.refl _ _) (Nat.le_refl _) ?_; intro v297 w17 ho18 hb hg_ hnew_; clear hg_ hnew_; (first | rw [← Ny296.out] at ho18 | (simp only [Int.reduceToNat] at ho18; rw [← Ny296.out] at ho18)); have HO298 := Aside0.mk (Kd.R_lower ho18 (below_size (laB HB.out))); replace BK292 := Aside0.mk (laKb BK292.out hb); replace HB := Aside0.mk (below_step (laB HB.out) hb); clear hb ho18)))
      go_loopg [9] kj3 (fun kq v9 w' => ∃ (x8_2 : List Int) (x9_2 : Int), v9 = .int .i64 x9_2 ∧ Aside0 (spec_StrDist.l0 kq l0 l1 (wrap64 ((l1.length : Int) + 1)) x8_2 x9_2 l2_0 l2_1 l2_2 = some r) ∧ Aside0 (kq ≤ kj3) ∧ Aside0 (Kd.R (Kd.int .i64) 3 w' w.heap.size (fun _ => True) v297 x8_2) ∧ Aside0 (w'.heap[gb292]? = some (.cells #[(.slice A2_0 l2_0.length c2_0), (.slice A2_1 l2_1.length c2_1), (.slice A2_2 l2_2.length c2_2)] 37 (0, 0))) ∧ Aside0 (Below w.heap.size w w'))
      case atStart => exact ⟨(y296), (0), (by first | rfl | (simp; done) | (simp [*]; done)), H', ⟨Nat.le_refl _⟩, ⟨laR HO298.out⟩, ⟨laK BK292.out⟩, ⟨laB HB.out⟩⟩
      case round =>
       clear H'
       try clear c1
       try clear c2
       try clear p2
       try clear c4
       try clear p6
       try clear c7
       try clear c9
       try clear c13
       try clear c15
       try clear c15b0
       try clear c15b1
       try clear c16
       try clear c16b0
       try clear c16b1
       try clear hcz11_0
       try clear hcz11_1
       try clear hcz11_2
       try clear hfz11_0
       try clear hfz11_1
       try clear hfz11_2
       try clear p2
       obtain ⟨x8_2, x9_2, rfl, HA, HK2, HO_8, BK292, HB⟩ := hrel
       cases gk with
       | zero => exact absurd HA.out (by simp [spec_StrDist.l0])
       | succ k2 =>
        have H := HA.out
        clear HA
        simp only [spec_StrDist.l0] at H
        by_cases c19 : x9_2 ≤ (l0.length : Int)
        ·rw [if_pos c19] at H
         have c19b0 : decide (x9_2 ≤ (l0.length : Int)) = true := decide_eq_true c19
         clear c19
         have H' := Aside0.mk H
         clear H
         go_wp2
         repeat (go_quiet (fail); try go_wp2)
         go_loopg [10] k2 (fun kq v10 w' => ∃ (x8_3 : List Int) (x10_3 : Int), v10 = .int .i64 x10_3 ∧ Aside0 (spec_StrDist.l1 kq l0 l1 (wrap64 ((l1.length : Int) + 1)) x8_3 x9_2 x10_3 l2_0 l2_1 l2_2 = some r) ∧ Aside0 (kq ≤ k2) ∧ Aside0 (Kd.R (Kd.int .i64) 3 w' w.heap.size (fun _ => True) v297 x8_3) ∧ Aside0 (w'.heap[gb292]? = some (.cells #[(.slice A2_0 l2_0.length c2_0), (.slice A2_1 l2_1.length c2_1), (.slice A2_2 l2_2.length c2_2)] 37 (0, 0))) ∧ Aside0 (Below w.heap.size w w'))
         case atStart => exact ⟨(x8_2), (0), (by first | rfl | (simp; done) | (simp [*]; done)), H', ⟨Nat.le_refl _⟩, ⟨laR HO_8.out⟩, ⟨laK BK292.out⟩, ⟨laB HB.out⟩⟩
         case round =>
          clear H'
          try clear c1
          try clear c2
          try clear p2
          try clear c4
          try clear p6
          try clear c7
          try clear c9
          try clear c13
          try clear c15
          try clear c15b0
          try clear c15b1
          try clear c16
          try clear c16b0
          try clear c16b1
          try clear c19
          try clear c19b0
          try clear hcz11_0
          try clear hcz11_1
          try clear hcz11_2
          try clear hfz11_0
          try clear hfz11_1
          try clear hfz11_2
          try clear p2
          try clear p6
          obtain ⟨x8_3, x10_3, rfl, HA, HK3, HO_8, BK292, HB⟩ := hrel
          cases gk with
          | zero => exact absurd HA.out (by simp [spec_StrDist.l1])
          | succ k3 =>
           have H := HA.out
           clear HA
           simp only [spec_StrDist.l1] at H
           by_cases c20 : x10_3 ≤ (l1.length : Int)
           ·rw [if_pos c20] at H
            have c20b0 : decide (x10_3 ≤ (l1.length : Int)) = true := decide_eq_true c20
            clear c20
            have HC21 := Aside0.mk H
            clear H
            go_upto_region 11 with (fail)
            repeat (go_quiet (fail); go_upto_region 11 with (fail))
            go_cut [51] (fun v51 wc => ∃ (kq : Nat) (x51_20 : Bool), v51 = .bool x51_20 ∧ Aside0 (spec_StrDist.j3 kq l0 l1 (wrap64 ((l1.length : Int) + 1)) x8_3 x9_2 x10_3 x51_20 l2_0 l2_1 l2_2 = some r) ∧ Aside0 (kq ≤ k3) ∧ Aside0 (Kd.R (Kd.int .i64) 3 wc w.heap.size (fun _ => True) v297 x8_3) ∧ Aside0 (wc.heap[gb292]? = some (.cells #[(.slice A2_0 l2_0.length c2_0), (.slice A2_1 l2_1.length c2_1), (.slice A2_2 l2_2.length c2_2)] 37 (0, 0))) ∧ Aside0 (Below w.heap.size w wc))
            case first =>
             have H := HC21.out
             clear HC21
             by_cases c22 : x9_2 = 0
             ·rw [if_pos c22] at H
              have c22b0 : (x9_2 == 0) = true := beq_iff_eq.mpr c22
              have c22b1 : (x9_2 != 0) = false := bne_eq_false_iff_eq.mpr c22
              clear c22
              (first | rw [c22b0] | (simp only [i64_w, i32_w]; rw [c22b0]) | skip)
              have H' := Aside0.mk H
              clear H
              go_wp2
              repeat (go_quiet (fail); try go_wp2)
              go_meet
              case rel => exact ⟨_, ((x10_3 == 0)), (by first | rfl | (simp; done) | (simp [*]; done)), H', ⟨by have := HJ3.out; have := HK2.out; have := HK3.out; first | omega | exact Nat.le_refl _⟩, ⟨laR HO_8.out⟩, ⟨laK BK292.out⟩, ⟨laB HB.out⟩⟩
             ·rw [if_neg c22] at H
              have c22b0 : (x9_2 == 0) = false := beq_eq_false_iff_ne.mpr c22
              have c22b1 : (x9_2 != 0) = true := bne_iff_ne.mpr c22
              (first | rw [c22b0] | (simp only [i64_w, i32_w]; rw [c22b0]) | skip)
              have H' := Aside0.mk H
              clear H
              go_wp2
              repeat (go_quiet (fail); try go_wp2)
              go_meet
              case rel => exact ⟨_, (false), (by first | rfl | (simp; done) | (simp [*]; done)), H', ⟨by have := HJ3.out; have := HK2.out; have := HK3.out; first | omega | exact Nat.le_refl _⟩, ⟨laR HO_8.out⟩, ⟨laK BK292.out⟩, ⟨laB HB.out⟩⟩
            case rest =>
             clear HC21
             try clear c1
             try clear c2
             try clear p2
             try clear c4
             try clear p6
             try clear c7
             try clear c9
             try clear c13
             try clear c15
             try clear c15b0
             try clear c15b1
             try clear c16
             try clear c16b0
             try clear c16b1
             try clear c19
             try clear c19b0
             try clear c20
             try clear c20b0
             try clear c22
             try clear c22b0
             try clear c22b1
             try clear hcz11_0
             try clear hcz11_1
             try clear hcz11_2
             try clear hfz11_0
             try clear hfz11_1
             try clear hfz11_2
             try clear p2
             try clear p6
             obtain ⟨kq, x51_20, rfl, HA, HJ20, HO_8, BK292, HB⟩ := hcut
             cases kq with
             | zero => exact absurd HA.out (by simp [spec_StrDist.j3])
             | succ kj20 =>
              have H := HA.out
              clear HA
              simp only [spec_StrDist.j3] at H
              by_cases c23 : x51_20 = true
              ·subst c23
               rw [if_pos rfl] at H
               have H' := Aside0.mk H
               clear H
               go_wp2
               repeat (go_quiet (fail); try go_wp2)
               go_roundg kj20
               case measure => have := HJ3.out; have := HK2.out; have := HK3.out; have := HJ20.out; omega
               case rel => exact ⟨(x8_3), (wrap64 (x10_3 + 1)), (by first | rfl | (simp; done) | (simp [*]; done)), H', ⟨by have := HJ3.out; have := HK2.out; have := HK3.out; have := HJ20.out; omega⟩, ⟨laR HO_8.out⟩, ⟨laK BK292.out⟩, ⟨laB HB.out⟩⟩
              ·replace c23 := Bool.eq_false_iff.mpr c23
               subst c23
               rw [if_neg (show ¬ (false = true) by decide)] at H
               have HC24 := Aside0.mk H
               clear H
               go_upto_if 53 with (fail)
               repeat (go_quiet (fail); go_upto_if 53 with (fail))
               go_cut [11] (fun v11 wc => ∃ (kq : Nat) (x11_23 : Int), v11 = .int .i64 x11_23 ∧ Aside0 (spec_StrDist.j4 kq l0 l1 (wrap64 ((l1.length : Int) + 1)) x8_3 x9_2 x10_3 x11_23 l2_0 l2_1 l2_2 = some r) ∧ Aside0 (kq ≤ kj20) ∧ Aside0 (Kd.R (Kd.int .i64) 3 wc w.heap.size (fun _ => True) v297 x8_3) ∧ Aside0 (wc.heap[gb292]? = some (.cells #[(.slice A2_0 l2_0.length c2_0), (.slice A2_1 l2_1.length c2_1), (.slice A2_2 l2_2.length c2_2)] 37 (0, 0))) ∧ Aside0 (Below w.heap.size w wc))
               case first =>
                have H := HC24.out
                clear HC24
                by_cases c25 : x9_2 > 0
                ·rw [if_pos c25] at H
                 have c25b0 : decide (0 < x9_2) = true := decide_eq_true c25
                 clear c25
                 (first | rw [c25b0] | (simp only [i64_w, i32_w]; rw [c25b0]) | skip)
                 obtain ⟨ji26, hji26⟩ : ∃ j_ : Int, (wrap64 ((wrap64 ((wrap64 (x9_2 - 1)) * (wrap64 ((l1.length : Int) + 1)))) + x10_3)) = j_ := ⟨_, rfl⟩
                 replace H : (if 0 ≤ (ji26) then (if (ji26) < (x8_3.length : Int) then (if 0 ≤ (wrap64 (x9_2 - 1)) then (if (wrap64 (x9_2 - 1)) < (l0.length : Int) then (if 0 ≤ (rd l0 (wrap64 (x9_2 - 1))) then (if (rd l0 (wrap64 (x9_2 - 1))) < (l2_0.length : Int) then (spec_StrDist.j4 kj20 l0 l1 (wrap64 ((l1.length : Int) + 1)) x8_3 x9_2 x10_3 (mn 1000000000 (wrap64 ((rd x8_3 (ji26)) + (rd l2_0 (rd l0 (wrap64 (x9_2 - 1))))))) l2_0 l2_1 l2_2) else (none)) else (none)) else (none)) else (none)) else (none)) else (none)) = some r := by first | (rw [hji26] at H; exact H) | (simp only [hji26] at H ⊢; exact H)
                 have hji26w : (IntKind.i64.wrap ((wrap64 ((wrap64 (x9_2 - 1)) * (wrap64 ((l1.length : Int) + 1)))) + x10_3)) = ji26 := (i64_w _).trans hji26
                 by_cases c27 : 0 ≤ (ji26)
                 ·rw [if_pos c27] at H
                  have c27b0 : decide (0 ≤ (ji26)) = true := decide_eq_true c27
                  clear c27
                  by_cases c28 : (ji26) < (x8_3.length : Int)
                  ·rw [if_pos c28] at H
                   have c28b0 : decide ((ji26) < (x8_3.length : Int)) = true := decide_eq_true c28
                   clear c28
                   obtain ⟨ji29, hji29⟩ : ∃ j_ : Int, (wrap64 (x9_2 - 1)) = j_ := ⟨_, rfl⟩
                   replace H : (if 0 ≤ (ji29) then (if (ji29) < (l0.length : Int) then (if 0 ≤ (rd l0 (ji29)) then (if (rd l0 (ji29)) < (l2_0.length : Int) then (spec_StrDist.j4 kj20 l0 l1 (wrap64 ((l1.length : Int) + 1)) x8_3 x9_2 x10_3 (mn 1000000000 (wrap64 ((rd x8_3 (ji26)) + (rd l2_0 (rd l0 (ji29)))))) l2_0 l2_1 l2_2) else (none)) else (none)) else (none)) else (none)) = some r := by first | (rw [hji29] at H; exact H) | (simp only [hji29] at H ⊢; exact H)
                   have hji29w : (IntKind.i64.wrap (x9_2 - 1)) = ji29 := (i64_w _).trans hji29
                   by_cases c30 : 0 ≤ (ji29)
                   ·rw [if_pos c30] at H
                    have c30b0 : decide (0 ≤ (ji29)) = true := decide_eq_true c30
                    clear c30
                    by_cases c31 : (ji29) < (l0.length : Int)
                    ·rw [if_pos c31] at H
                     have c31b0 : decide ((ji29) < (l0.length : Int)) = true := decide_eq_true c31
                     clear c31
                     by_cases c32 : 0 ≤ (rd l0 (ji29))
                     ·rw [if_pos c32] at H
                      have c32b0 : decide (0 ≤ (rd l0 (ji29))) = true := decide_eq_true c32
                      clear c32
                      by_cases c33 : (rd l0 (ji29)) < (l2_0.length : Int)
                      ·rw [if_pos c33] at H
                       have c33b0 : decide ((rd l0 (ji29)) < (l2_0.length : Int)) = true := decide_eq_true c33
                       clear c33
                       obtain ⟨ji34, hji34⟩ : ∃ j_ : Int, (mn 1000000000 (wrap64 ((rd x8_3 (ji26)) + (rd l2_0 (rd l0 (ji29)))))) = j_ := ⟨_, rfl⟩
                       replace H : (spec_StrDist.j4 kj20 l0 l1 (wrap64 ((l1.length : Int) + 1)) x8_3 x9_2 x10_3 ji34 l2_0 l2_1 l2_2) = some r := by first | (rw [hji34] at H; exact H) | (simp only [hji34] at H ⊢; exact H)
                       have hji34_ : (if (wrap64 ((rd x8_3 (ji26)) + (rd l2_0 (rd l0 (ji29))))) < 1000000000 then (wrap64 ((rd x8_3 (ji26)) + (rd l2_0 (rd l0 (ji29))))) else 1000000000) = ji34 := hji34
                       have H' := Aside0.mk H
                       clear H
                       obtain ⟨Ao35, co35, eo35⟩ := Kd.R_slice HO_8.out
                       subst eo35
                       have p300 : 0 ≤ ((ji26) : Int) := of_decide_eq_true (by first | (with_reducible assumption) | assumption)
                       have q300 : (ji26) < (x8_3.length : Int) := of_decide_eq_true (by first | (with_reducible assumption) | assumption)
                       obtain ⟨ad300, e300, hx300_0⟩ := Kd.at_int (Kd.R_reads' HO_8.out).2.2 (ji26) p300 q300
                       cases e300
                       replace p300 := eq_true p300
                       replace q300 := eq_true q300
                       have hcz36_0 : wc.cell? ⟨gb292, 0, none⟩ = some (.slice A2_0 l2_0.length c2_0) := (blk_cell BK292.out 0).trans rfl
                       have hcz36_1 : wc.cell? ⟨gb292, 1, none⟩ = some (.slice A2_1 l2_1.length c2_1) := (blk_cell BK292.out 1).trans rfl
                       have hcz36_2 : wc.cell? ⟨gb292, 2, none⟩ = some (.slice A2_2 l2_2.length c2_2) := (blk_cell BK292.out 2).trans rfl
                       have hfz36_0 := blk_frozen BK292.out 0
                       have hfz36_1 := blk_frozen BK292.out 1
                       have hfz36_2 := blk_frozen BK292.out 2
                       have p301 : 0 ≤ ((ji29) : Int) := of_decide_eq_true (by first | (with_reducible assumption) | assumption)
                       have q301 : (ji29) < (l0.length : Int) := of_decide_eq_true (by first | (with_reducible assumption) | assumption)
                       obtain ⟨ad301, e301, hx301_0⟩ := Kd.at_int HR0.out (ji29) p301 q301
                       cases e301
                       replace hx301_0 := (HB.out.cell (World.block_lt_of_cell? w _ hx301_0)).trans hx301_0
                       replace p301 := eq_true p301
                       replace q301 := eq_true q301
                       have p302 : 0 ≤ ((rd l0 (ji29)) : Int) := of_decide_eq_true (by first | (with_reducible assumption) | assumption)
                       have q302 : (rd l0 (ji29)) < (l2_0.length : Int) := of_decide_eq_true (by first | (with_reducible assumption) | assumption)
                       obtain ⟨ad302, e302, hx302_0⟩ := Kd.at_int HR2_0.out (rd l0 (ji29)) p302 q302
                       cases e302
                       replace hx302_0 := (HB.out.cell (World.block_lt_of_cell? w _ hx302_0)).trans hx302_0
                       replace p302 := eq_true p302
                       replace q302 := eq_true q302
                       try rw [hji29] at hji26w
                       try rw [hji29] at hji26
                       obtain ⟨q1_, hq1_⟩ : ∃ j_ : Int, (wrap64 ((ji29) * (wrap64 ((l1.length : Int) + 1)))) = j_ := ⟨_, rfl⟩
                       have hq1_w : (IntKind.i64.wrap ((ji29) * (wrap64 ((l1.length : Int) + 1)))) = q1_ := (i64_w _).trans hq1_
                       try rw [hq1_] at hji26w
                       try rw [hq1_] at hji26
                       go_wp2
                       repeat (go_quiet (fail); try go_wp2)
                       go_meet
                       case rel => exact ⟨_, (ji34), (by first | rfl | (simp; done) | (simp only [← hji34] <;> (first | rfl | simp)) | (simp [*]; done)), H', ⟨by have := HJ3.out; have := HK2.out; have := HK3.out; have := HJ20.out; first | omega | exact Nat.le_refl _⟩, ⟨laR HO_8.out⟩, ⟨laK BK292.out⟩, ⟨laB HB.out⟩⟩
                      ·rw [if_neg c33] at H
                       exact absurd H (by simp)
                     ·rw [if_neg c32] at H
                      exact absurd H (by simp)
                    ·rw [if_neg c31] at H
                     exact absurd H (by simp)
                   ·rw [if_neg c30] at H
                    exact absurd H (by simp)
                  ·rw [if_neg c28] at H
                   exact absurd H (by simp)
                 ·rw [if_neg c27] at H
                  exact absurd H (by simp)
                ·rw [if_neg c25] at H
                 have c25b0 : decide (0 < x9_2) = false := decide_eq_false c25
                 clear c25
                 (first | rw [c25b0] | (simp only [i64_w, i32_w]; rw [c25b0]) | skip)
                 have H' := Aside0.mk H
                 clear H
                 go_wp2
                 repeat (go_quiet (fail); try go_wp2)
                 go_meet
                 case rel => exact ⟨_, (1000000000), (by first | rfl | (simp; done) | (simp [*]; done)), H', ⟨by have := HJ3.out; have := HK2.out; have := HK3.out; have := HJ20.out; first | omega | exact Nat.le_refl _⟩, ⟨laR HO_8.out⟩, ⟨laK BK292.out⟩, ⟨laB HB.out⟩⟩
               case rest =>
                clear HC24
                try clear c1
                try clear c2
                try clear p2
                try clear c3
                try clear p3
                try clear q3
                try clear hx3
                try clear c4
                try clear p6
                try clear c7
                try clear c9
                try clear c13
                try clear c15
                try clear c15b0
                try clear c15b1
                try clear c16
                try clear c16b0
                try clear c16b1
                try clear c19
                try clear c19b0
                try clear c20
                try clear c20b0
                try clear c22
                try clear c22b0
                try clear c22b1
                try clear c23
                try clear c25
                try clear c25b0
                try clear c27
                try clear c27b0
                try clear c28
                try clear c28b0
                try clear c30
                try clear c30b0
                try clear p30
                try clear q30
                try clear hx30
                try clear c31
                try clear c31b0
                try clear c32
                try clear c32b0
                try clear c33
                try clear c33b0
                try clear hcz11_0
                try clear hcz11_1
                try clear hcz11_2
                try clear hcz36_0
                try clear hcz36_1
                try clear hcz36_2
                try clear hfz11_0
                try clear hfz11_1
                try clear hfz11_2
                try clear hfz36_0
                try clear hfz36_1
                try clear hfz36_2
                try clear hx300_0
                try clear hx301_0
                try clear hx302_0
                try clear p2
                try clear p300
                try clear p301
                try clear p302
                try clear p6
                try clear q300
                try clear q301
                try clear q302
                obtain ⟨kq, x11_23, rfl, HA, HJ23, HO_8, BK292, HB⟩ := hcut
                cases kq with
                | zero => exact absurd HA.out (by simp [spec_StrDist.j4])
                | succ kj23 =>
                 have H := HA.out
                 clear HA
                 simp only [spec_StrDist.j4] at H
                 by_cases c37 : x10_3 > 0
                 ·rw [if_pos c37] at H
                  have c37b0 : decide (0 < x10_3) = true := decide_eq_true c37
                  clear c37
                  obtain ⟨ji38, hji38⟩ : ∃ j_ : Int, (wrap64 ((wrap64 ((wrap64 (x9_2 * (wrap64 ((l1.length : Int) + 1)))) + x10_3)) - 1)) = j_ := ⟨_, rfl⟩
                  replace H : (if 0 ≤ (ji38) then (if (ji38) < (x8_3.length : Int) then (if 0 ≤ (wrap64 (x10_3 - 1)) then (if (wrap64 (x10_3 - 1)) < (l1.length : Int) then (if 0 ≤ (rd l1 (wrap64 (x10_3 - 1))) then (if (rd l1 (wrap64 (x10_3 - 1))) < (l2_1.length : Int) then (if x9_2 > 0 then (if 0 ≤ (wrap64 ((wrap64 ((wrap64 ((wrap64 (x9_2 - 1)) * (wrap64 ((l1.length : Int) + 1)))) + x10_3)) - 1)) then (if (wrap64 ((wrap64 ((wrap64 ((wrap64 (x9_2 - 1)) * (wrap64 ((l1.length : Int) + 1)))) + x10_3)) - 1)) < (x8_3.length : Int) then (if 0 ≤ (wrap64 (x9_2 - 1)) then (if (wrap64 (x9_2 - 1)) < (l0.length : Int) then (if 0 ≤ (wrap64 ((wrap64 ((rd l0 (wrap64 (x9_2 - 1))) * 6)) + (rd l1 (wrap64 (x10_3 - 1))))) then (if (wrap64 ((wrap64 ((rd l0 (wrap64 (x9_2 - 1))) * 6)) + (rd l1 (wrap64 (x10_3 - 1))))) < (l2_2.length : Int) then (if 0 ≤ (wrap64 ((wrap64 (x9_2 * (wrap64 ((l1.length : Int) + 1)))) + x10_3)) then (if (wrap64 ((wrap64 (x9_2 * (wrap64 ((l1.length : Int) + 1)))) + x10_3)) < (x8_3.length : Int) then (spec_StrDist.l1 kj23 l0 l1 (wrap64 ((l1.length : Int) + 1)) (x8_3.set ((wrap64 ((wrap64 (x9_2 * (wrap64 ((l1.length : Int) + 1)))) + x10_3)) : Int).toNat (mn (mn x11_23 (wrap64 ((rd x8_3 (ji38)) + (rd l2_1 (rd l1 (wrap64 (x10_3 - 1))))))) (wrap64 ((rd x8_3 (wrap64 ((wrap64 ((wrap64 ((wrap64 (x9_2 - 1)) * (wrap64 ((l1.length : Int) + 1)))) + x10_3)) - 1))) + (rd l2_2 (wrap64 ((wrap64 ((rd l0 (wrap64 (x9_2 - 1))) * 6)) + (rd l1 (wrap64 (x10_3 - 1)))))))))) x9_2 (wrap64 (x10_3 + 1)) l2_0 l2_1 l2_2) else (none)) else (none)) else (none)) else (none)) else (none)) else (none)) else (none)) else (none)) else (if 0 ≤ (wrap64 ((wrap64 (x9_2 * (wrap64 ((l1.length : Int) + 1)))) + x10_3)) then (if (wrap64 ((wrap64 (x9_2 * (wrap64 ((l1.length : Int) + 1)))) + x10_3)) < (x8_3.length : Int) then (spec_StrDist.l1 kj23 l0 l1 (wrap64 ((l1.length : Int) + 1)) (x8_3.set ((wrap64 ((wrap64 (x9_2 * (wrap64 ((l1.length : Int) + 1)))) + x10_3)) : Int).toNat (mn x11_23 (wrap64 ((rd x8_3 (ji38)) + (rd l2_1 (rd l1 (wrap64 (x10_3 - 1)))))))) x9_2 (wrap64 (x10_3 + 1)) l2_0 l2_1 l2_2) else (none)) else (none))) else (none)) else (none)) else (none)) else (none)) else (none)) else (none)) = some r := by first | (rw [hji38] at H; exact H) | (simp only [hji38] at H ⊢; exact H)
                  have hji38w : (IntKind.i64.wrap ((wrap64 ((wrap64 (x9_2 * (wrap64 ((l1.length : Int) + 1)))) + x10_3)) - 1)) = ji38 := (i64_w _).trans hji38
                  by_cases c39 : 0 ≤ (ji38)
                  ·rw [if_pos c39] at H
                   have c39b0 : decide (0 ≤ (ji38)) = true := decide_eq_true c39
                   clear c39
                   by_cases c40 : (ji38) < (x8_3.length : Int)
                   ·rw [if_pos c40] at H
                    have c40b0 : decide ((ji38) < (x8_3.length : Int)) = true := decide_eq_true c40
                    clear c40
                    obtain ⟨ji41, hji41⟩ : ∃ j_ : Int, (wrap64 (x10_3 - 1)) = j_ := ⟨_, rfl⟩
                    replace H : (if 0 ≤ (ji41) then (if (ji41) < (l1.length : Int) then (if 0 ≤ (rd l1 (ji41)) then (if (rd l1 (ji41)) < (l2_1.length : Int) then (if x9_2 > 0 then (if 0 ≤ (wrap64 ((wrap64 ((wrap64 ((wrap64 (x9_2 - 1)) * (wrap64 ((l1.length : Int) + 1)))) + x10_3)) - 1)) then (if (wrap64 ((wrap64 ((wrap64 ((wrap64 (x9_2 - 1)) * (wrap64 ((l1.length : Int) + 1)))) + x10_3)) - 1)) < (x8_3.length : Int) then (if 0 ≤ (wrap64 (x9_2 - 1)) then (if (wrap64 (x9_2 - 1)) < (l0.length : Int) then (if 0 ≤ (wrap64 ((wrap64 ((rd l0 (wrap64 (x9_2 - 1))) * 6)) + (rd l1 (ji41)))) then (if (wrap64 ((wrap64 ((rd l0 (wrap64 (x9_2 - 1))) * 6)) + (rd l1 (ji41)))) < (l2_2.length : Int) then (if 0 ≤ (wrap64 ((wrap64 (x9_2 * (wrap64 ((l1.length : Int) + 1)))) + x10_3)) then (if (wrap64 ((wrap64 (x9_2 * (wrap64 ((l1.length : Int) + 1)))) + x10_3)) < (x8_3.length : Int) then (spec_StrDist.l1 kj23 l0 l1 (wrap64 ((l1.length : Int) + 1)) (x8_3.set ((wrap64 ((wrap64 (x9_2 * (wrap64 ((l1.length : Int) + 1)))) + x10_3)) : Int).toNat (mn (mn x11_23 (wrap64 ((rd x8_3 (ji38)) + (rd l2_1 (rd l1 (ji41)))))) (wrap64 ((rd x8_3 (wrap64 ((wrap64 ((wrap64 ((wrap64 (x9_2 - 1)) * (wrap64 ((l1.length : Int) + 1)))) + x10_3)) - 1))) + (rd l2_2 (wrap64 ((wrap64 ((rd l0 (wrap64 (x9_2 - 1))) * 6)) + (rd l1 (ji41))))))))) x9_2 (wrap64 (x10_3 + 1)) l2_0 l2_1 l2_2) else (none)) else (none)) else (none)) else (none)) else (none)) else (none)) else (none)) else (none)) else (if 0 ≤ (wrap64 ((wrap64 (x9_2 * (wrap64 ((l1.length : Int) + 1)))) + x10_3)) then (if (wrap64 ((wrap64 (x9_2 * (wrap64 ((l1.length : Int) + 1)))) + x10_3)) < (x8_3.length : Int) then (spec_StrDist.l1 kj23 l0 l1 (wrap64 ((l1.length : Int) + 1)) (x8_3.set ((wrap64 ((wrap64 (x9_2 * (wrap64 ((l1.length : Int) + 1)))) + x10_3)) : Int).toNat (mn x11_23 (wrap64 ((rd x8_3 (ji38)) + (rd l2_1 (rd l1 (ji41))))))) x9_2 (wrap64 (x10_3 + 1)) l2_0 l2_1 l2_2) else (none)) else (none))) else (none)) else (none)) else (none)) else (none)) = some r := by first | (rw [hji41] at H; exact H) | (simp only [hji41] at H ⊢; exact H)
                    have hji41w : (IntKind.i64.wrap (x10_3 - 1)) = ji41 := (i64_w _).trans hji41
                    by_cases c42 : 0 ≤ (ji41)
                    ·rw [if_pos c42] at H
                     have c42b0 : decide (0 ≤ (ji41)) = true := decide_eq_true c42
                     clear c42
                     by_cases c43 : (ji41) < (l1.length : Int)
                     ·rw [if_pos c43] at H
                      have c43b0 : decide ((ji41) < (l1.length : Int)) = true := decide_eq_true c43
                      clear c43
                      by_cases c44 : 0 ≤ (rd l1 (ji41))
                      ·rw [if_pos c44] at H
                       have c44b0 : decide (0 ≤ (rd l1 (ji41))) = true := decide_eq_true c44
                       clear c44
                       by_cases c45 : (rd l1 (ji41)) < (l2_1.length : Int)
                       ·rw [if_pos c45] at H
                        have c45b0 : decide ((rd l1 (ji41)) < (l2_1.length : Int)) = true := decide_eq_true c45
                        clear c45
                        obtain ⟨ji46, hji46⟩ : ∃ j_ : Int, (mn x11_23 (wrap64 ((rd x8_3 (ji38)) + (rd l2_1 (rd l1 (ji41)))))) = j_ := ⟨_, rfl⟩
                        replace H : (if x9_2 > 0 then (if 0 ≤ (wrap64 ((wrap64 ((wrap64 ((wrap64 (x9_2 - 1)) * (wrap64 ((l1.length : Int) + 1)))) + x10_3)) - 1)) then (if (wrap64 ((wrap64 ((wrap64 ((wrap64 (x9_2 - 1)) * (wrap64 ((l1.length : Int) + 1)))) + x10_3)) - 1)) < (x8_3.length : Int) then (if 0 ≤ (wrap64 (x9_2 - 1)) then (if (wrap64 (x9_2 - 1)) < (l0.length : Int) then (if 0 ≤ (wrap64 ((wrap64 ((rd l0 (wrap64 (x9_2 - 1))) * 6)) + (rd l1 (ji41)))) then (if (wrap64 ((wrap64 ((rd l0 (wrap64 (x9_2 - 1))) * 6)) + (rd l1 (ji41)))) < (l2_2.length : Int) then (if 0 ≤ (wrap64 ((wrap64 (x9_2 * (wrap64 ((l1.length : Int) + 1)))) + x10_3)) then (if (wrap64 ((wrap64 (x9_2 * (wrap64 ((l1.length : Int) + 1)))) + x10_3)) < (x8_3.length : Int) then (spec_StrDist.l1 kj23 l0 l1 (wrap64 ((l1.length : Int) + 1)) (x8_3.set ((wrap64 ((wrap64 (x9_2 * (wrap64 ((l1.length : Int) + 1)))) + x10_3)) : Int).toNat (mn (ji46) (wrap64 ((rd x8_3 (wrap64 ((wrap64 ((wrap64 ((wrap64 (x9_2 - 1)) * (wrap64 ((l1.length : Int) + 1)))) + x10_3)) - 1))) + (rd l2_2 (wrap64 ((wrap64 ((rd l0 (wrap64 (x9_2 - 1))) * 6)) + (rd l1 (ji41))))))))) x9_2 (wrap64 (x10_3 + 1)) l2_0 l2_1 l2_2) else (none)) else (none)) else (none)) else (none)) else (none)) else (none)) else (none)) else (none)) else (if 0 ≤ (wrap64 ((wrap64 (x9_2 * (wrap64 ((l1.length : Int) + 1)))) + x10_3)) then (if (wrap64 ((wrap64 (x9_2 * (wrap64 ((l1.length : Int) + 1)))) + x10_3)) < (x8_3.length : Int) then (spec_StrDist.l1 kj23 l0 l1 (wrap64 ((l1.length : Int) + 1)) (x8_3.set ((wrap64 ((wrap64 (x9_2 * (wrap64 ((l1.length : Int) + 1)))) + x10_3)) : Int).toNat (ji46)) x9_2 (wrap64 (x10_3 + 1)) l2_0 l2_1 l2_2) else (none)) else (none))) = some r := by first | (rw [hji46] at H; exact H) | (simp only [hji46] at H ⊢; exact H)
                        have hji46_ : (if (wrap64 ((rd x8_3 (ji38)) + (rd l2_1 (rd l1 (ji41))))) < x11_23 then (wrap64 ((rd x8_3 (ji38)) + (rd l2_1 (rd l1 (ji41))))) else x11_23) = ji46 := hji46
                        by_cases c47 : x9_2 > 0
                        ·rw [if_pos c47] at H
                         have c47b0 : decide (0 < x9_2) = true := decide_eq_true c47
                         clear c47
                         obtain ⟨ji48, hji48⟩ : ∃ j_ : Int, (wrap64 ((wrap64 ((wrap64 ((wrap64 (x9_2 - 1)) * (wrap64 ((l1.length : Int) + 1)))) + x10_3)) - 1)) = j_ := ⟨_, rfl⟩
                         replace H : (if 0 ≤ (ji48) then (if (ji48) < (x8_3.length : Int) then (if 0 ≤ (wrap64 (x9_2 - 1)) then (if (wrap64 (x9_2 - 1)) < (l0.length : Int) then (if 0 ≤ (wrap64 ((wrap64 ((rd l0 (wrap64 (x9_2 - 1))) * 6)) + (rd l1 (ji41)))) then (if (wrap64 ((wrap64 ((rd l0 (wrap64 (x9_2 - 1))) * 6)) + (rd l1 (ji41)))) < (l2_2.length : Int) then (if 0 ≤ (wrap64 ((wrap64 (x9_2 * (wrap64 ((l1.length : Int) + 1)))) + x10_3)) then (if (wrap64 ((wrap64 (x9_2 * (wrap64 ((l1.length : Int) + 1)))) + x10_3)) < (x8_3.length : Int) then (spec_StrDist.l1 kj23 l0 l1 (wrap64 ((l1.length : Int) + 1)) (x8_3.set ((wrap64 ((wrap64 (x9_2 * (wrap64 ((l1.length : Int) + 1)))) + x10_3)) : Int).toNat (mn (ji46) (wrap64 ((rd x8_3 (ji48)) + (rd l2_2 (wrap64 ((wrap64 ((rd l0 (wrap64 (x9_2 - 1))) * 6)) + (rd l1 (ji41))))))))) x9_2 (wrap64 (x10_3 + 1)) l2_0 l2_1 l2_2) else (none)) else (none)) else (none)) else (none)) else (none)) else (none)) else (none)) else (none)) = some r := by first | (rw [hji48] at H; exact H) | (simp only [hji48] at H ⊢; exact H)
                         have hji48w : (IntKind.i64.wrap ((wrap64 ((wrap64 ((wrap64 (x9_2 - 1)) * (wrap64 ((l1.length : Int) + 1)))) + x10_3)) - 1)) = ji48 := (i64_w _).trans hji48
                         by_cases c49 : 0 ≤ (ji48)
                         ·rw [if_pos c49] at H
                          have c49b0 : decide (0 ≤ (ji48)) = true := decide_eq_true c49
                          clear c49
                          by_cases c50 : (ji48) < (x8_3.length : Int)
                          ·rw [if_pos c50] at H
                           have c50b0 : decide ((ji48) < (x8_3.length : Int)) = true := decide_eq_true c50
                           clear c50
                           obtain ⟨ji51, hji51⟩ : ∃ j_ : Int, (wrap64 (x9_2 - 1)) = j_ := ⟨_, rfl⟩
                           replace H : (if 0 ≤ (ji51) then (if (ji51) < (l0.length : Int) then (if 0 ≤ (wrap64 ((wrap64 ((rd l0 (ji51)) * 6)) + (rd l1 (ji41)))) then (if (wrap64 ((wrap64 ((rd l0 (ji51)) * 6)) + (rd l1 (ji41)))) < (l2_2.length : Int) then (if 0 ≤ (wrap64 ((wrap64 (x9_2 * (wrap64 ((l1.length : Int) + 1)))) + x10_3)) then (if (wrap64 ((wrap64 (x9_2 * (wrap64 ((l1.length : Int) + 1)))) + x10_3)) < (x8_3.length : Int) then (spec_StrDist.l1 kj23 l0 l1 (wrap64 ((l1.length : Int) + 1)) (x8_3.set ((wrap64 ((wrap64 (x9_2 * (wrap64 ((l1.length : Int) + 1)))) + x10_3)) : Int).toNat (mn (ji46) (wrap64 ((rd x8_3 (ji48)) + (rd l2_2 (wrap64 ((wrap64 ((rd l0 (ji51)) * 6)) + (rd l1 (ji41))))))))) x9_2 (wrap64 (x10_3 + 1)) l2_0 l2_1 l2_2) else (none)) else (none)) else (none)) else (none)) else (none)) else (none)) = some r := by first | (rw [hji51] at H; exact H) | (simp only [hji51] at H ⊢; exact H)
                           have hji51w : (IntKind.i64.wrap (x9_2 - 1)) = ji51 := (i64_w _).trans hji51
                           by_cases c52 : 0 ≤ (ji51)
                           ·rw [if_pos c52] at H
                            have c52b0 : decide (0 ≤ (ji51)) = true := decide_eq_true c52
                            clear c52
                            by_cases c53 : (ji51) < (l0.length : Int)
                            ·rw [if_pos c53] at H
                             have c53b0 : decide ((ji51) < (l0.length : Int)) = true := decide_eq_true c53
                             clear c53
                             obtain ⟨ji54, hji54⟩ : ∃ j_ : Int, (wrap64 ((wrap64 ((rd l0 (ji51)) * 6)) + (rd l1 (ji41)))) = j_ := ⟨_, rfl⟩
                             replace H : (if 0 ≤ (ji54) then (if (ji54) < (l2_2.length : Int) then (if 0 ≤ (wrap64 ((wrap64 (x9_2 * (wrap64 ((l1.length : Int) + 1)))) + x10_3)) then (if (wrap64 ((wrap64 (x9_2 * (wrap64 ((l1.length : Int) + 1)))) + x10_3)) < (x8_3.length : Int) then (spec_StrDist.l1 kj23 l0 l1 (wrap64 ((l1.length : Int) + 1)) (x8_3.set ((wrap64 ((wrap64 (x9_2 * (wrap64 ((l1.length : Int) + 1)))) + x10_3)) : Int).toNat (mn (ji46) (wrap64 ((rd x8_3 (ji48)) + (rd l2_2 (ji54)))))) x9_2 (wrap64 (x10_3 + 1)) l2_0 l2_1 l2_2) else (none)) else (none)) else (none)) else (none)) = some r := by first | (rw [hji54] at H; exact H) | (simp only [hji54] at H ⊢; exact H)
                             have hji54w : (IntKind.i64.wrap ((wrap64 ((rd l0 (ji51)) * 6)) + (rd l1 (ji41)))) = ji54 := (i64_w _).trans hji54
                             by_cases c55 : 0 ≤ (ji54)
                             ·rw [if_pos c55] at H
                              have c55b0 : decide (0 ≤ (ji54)) = true := decide_eq_true c55
                              clear c55
                              by_cases c56 : (ji54) < (l2_2.length : Int)
                              ·rw [if_pos c56] at H
                               have c56b0 : decide ((ji54) < (l2_2.length : Int)) = true := decide_eq_true c56
                               clear c56
                               obtain ⟨ji57, hji57⟩ : ∃ j_ : Int, (mn (ji46) (wrap64 ((rd x8_3 (ji48)) + (rd l2_2 (ji54))))) = j_ := ⟨_, rfl⟩
                               replace H : (if 0 ≤ (wrap64 ((wrap64 (x9_2 * (wrap64 ((l1.length : Int) + 1)))) + x10_3)) then (if (wrap64 ((wrap64 (x9_2 * (wrap64 ((l1.length : Int) + 1)))) + x10_3)) < (x8_3.length : Int) then (spec_StrDist.l1 kj23 l0 l1 (wrap64 ((l1.length : Int) + 1)) (x8_3.set ((wrap64 ((wrap64 (x9_2 * (wrap64 ((l1.length : Int) + 1)))) + x10_3)) : Int).toNat (ji57)) x9_2 (wrap64 (x10_3 + 1)) l2_0 l2_1 l2_2) else (none)) else (none)) = some r := by first | (rw [hji57] at H; exact H) | (simp only [hji57] at H ⊢; exact H)
                               have hji57_ : (if (wrap64 ((rd x8_3 (ji48)) + (rd l2_2 (ji54)))) < (ji46) then (wrap64 ((rd x8_3 (ji48)) + (rd l2_2 (ji54)))) else (ji46)) = ji57 := hji57
                               obtain ⟨ji58, hji58⟩ : ∃ j_ : Int, (wrap64 ((wrap64 (x9_2 * (wrap64 ((l1.length : Int) + 1)))) + x10_3)) = j_ := ⟨_, rfl⟩
                               replace H : (if 0 ≤ (ji58) then (if (ji58) < (x8_3.length : Int) then (spec_StrDist.l1 kj23 l0 l1 (wrap64 ((l1.length : Int) + 1)) (x8_3.set ((ji58) : Int).toNat (ji57)) x9_2 (wrap64 (x10_3 + 1)) l2_0 l2_1 l2_2) else (none)) else (none)) = some r := by first | (rw [hji58] at H; exact H) | (simp only [hji58] at H ⊢; exact H)
                               have hji58w : (IntKind.i64.wrap ((wrap64 (x9_2 * (wrap64 ((l1.length : Int) + 1)))) + x10_3)) = ji58 := (i64_w _).trans hji58
                               by_cases c59 : 0 ≤ (ji58)
                               ·rw [if_pos c59] at H
                                have c59b0 : decide (0 ≤ (ji58)) = true := decide_eq_true c59
                                clear c59
                                by_cases c60 : (ji58) < (x8_3.length : Int)
                                ·rw [if_pos c60] at H
                                 have c60b0 : decide ((ji58) < (x8_3.length : Int)) = true := decide_eq_true c60
                                 clear c60
                                 obtain ⟨y310, hy310⟩ : ∃ y_ : List Int, y_ = (x8_3.set ((ji58) : Int).toNat (ji57)) := ⟨_, rfl⟩
                                 replace H : (spec_StrDist.l1 kj23 l0 l1 (wrap64 ((l1.length : Int) + 1)) y310 x9_2 (wrap64 (x10_3 + 1)) l2_0 l2_1 l2_2) = some r := by first | (rw [hy310]; with_reducible exact H) | (have H2_ := (Option.bind_some _ _).symm.trans H; rw [hy310]; with_reducible exact H2_) | (have H2_ := (Option.bind_some _ _).symm.trans H; with_reducible exact H2_) | with_reducible exact H | (rw [hy310]; exact H) | exact H
                                 have Ny310 := Aside0.mk hy310
                                 clear hy310
                                 have H' := Aside0.mk H
                                 clear H
                                 obtain ⟨Ao62, co62, eo62⟩ := Kd.R_slice HO_8.out
                                 subst eo62
                                 have p303 : 0 ≤ ((ji38) : Int) := of_decide_eq_true (by first | (with_reducible assumption) | assumption)
                                 have q303 : (ji38) < (x8_3.length : Int) := of_decide_eq_true (by first | (with_reducible assumption) | assumption)
                                 obtain ⟨ad303, e303, hx303_0⟩ := Kd.at_int (Kd.R_reads' HO_8.out).2.2 (ji38) p303 q303
                                 cases e303
                                 replace p303 := eq_true p303
                                 replace q303 := eq_true q303
                                 have hcz63_0 : wc.cell? ⟨gb292, 0, none⟩ = some (.slice A2_0 l2_0.length c2_0) := (blk_cell BK292.out 0).trans rfl
                                 have hcz63_1 : wc.cell? ⟨gb292, 1, none⟩ = some (.slice A2_1 l2_1.length c2_1) := (blk_cell BK292.out 1).trans rfl
                                 have hcz63_2 : wc.cell? ⟨gb292, 2, none⟩ = some (.slice A2_2 l2_2.length c2_2) := (blk_cell BK292.out 2).trans rfl
                                 have hfz63_0 := blk_frozen BK292.out 0
                                 have hfz63_1 := blk_frozen BK292.out 1
                                 have hfz63_2 := blk_frozen BK292.out 2
                                 have p304 : 0 ≤ ((ji41) : Int) := of_decide_eq_true (by first | (with_reducible assumption) | assumption)
                                 have q304 : (ji41) < (l1.length : Int) := of_decide_eq_true (by first | (with_reducible assumption) | assumption)
                                 obtain ⟨ad304, e304, hx304_0⟩ := Kd.at_int HR1.out (ji41) p304 q304
                                 cases e304
                                 replace hx304_0 := (HB.out.cell (World.block_lt_of_cell? w _ hx304_0)).trans hx304_0
                                 replace p304 := eq_true p304
                                 replace q304 := eq_true q304
                                 have p305 : 0 ≤ ((rd l1 (ji41)) : Int) := of_decide_eq_true (by first | (with_reducible assumption) | assumption)
                                 have q305 : (rd l1 (ji41)) < (l2_1.length : Int) := of_decide_eq_true (by first | (with_reducible assumption) | assumption)
                                 obtain ⟨ad305, e305, hx305_0⟩ := Kd.at_int HR2_1.out (rd l1 (ji41)) p305 q305
                                 cases e305
                                 replace hx305_0 := (HB.out.cell (World.block_lt_of_cell? w _ hx305_0)).trans hx305_0
                                 replace p305 := eq_true p305
                                 replace q305 := eq_true q305
                                 have p306 : 0 ≤ ((ji48) : Int) := of_decide_eq_true (by first | (with_reducible assumption) | assumption)
                                 have q306 : (ji48) < (x8_3.length : Int) := of_decide_eq_true (by first | (with_reducible assumption) | assumption)
                                 obtain ⟨ad306, e306, hx306_0⟩ := Kd.at_int (Kd.R_reads' HO_8.out).2.2 (ji48) p306 q306
                                 obtain rfl : ad303 = ad306 := (by injection e306)
                                 replace p306 := eq_true p306
                                 replace q306 := eq_true q306
                                 have p307 : 0 ≤ ((ji51) : Int) := of_decide_eq_true (by first | (with_reducible assumption) | assumption)
                                 have q307 : (ji51) < (l0.length : Int) := of_decide_eq_true (by first | (with_reducible assumption) | assumption)
                                 obtain ⟨ad307, e307, hx307_0⟩ := Kd.at_int HR0.out (ji51) p307 q307
                                 cases e307
                                 replace hx307_0 := (HB.out.cell (World.block_lt_of_cell? w _ hx307_0)).trans hx307_0
                                 replace p307 := eq_true p307
                                 replace q307 := eq_true q307
                                 have p308 : 0 ≤ ((ji41) : Int) := of_decide_eq_true (by first | (with_reducible assumption) | assumption)
                                 have q308 : (ji41) < (l1.length : Int) := of_decide_eq_true (by first | (with_reducible assumption) | assumption)
                                 obtain ⟨ad308, e308, hx308_0⟩ := Kd.at_int HR1.out (ji41) p308 q308
                                 obtain rfl : ad304 = ad308 := (by injection e308)
                                 replace hx308_0 := (HB.out.cell (World.block_lt_of_cell? w _ hx308_0)).trans hx308_0
                                 replace p308 := eq_true p308
                                 replace q308 := eq_true q308
                                 have p309 : 0 ≤ ((ji54) : Int) := of_decide_eq_true (by first | (with_reducible assumption) | assumption)
                                 have q309 : (ji54) < (l2_2.length : Int) := of_decide_eq_true (by first | (with_reducible assumption) | assumption)
                                 obtain ⟨ad309, e309, hx309_0⟩ := Kd.at_int HR2_2.out (ji54) p309 q309
                                 cases e309
                                 replace hx309_0 := (HB.out.cell (World.block_lt_of_cell? w _ hx309_0)).trans hx309_0
                                 replace p309 := eq_true p309
                                 replace q309 := eq_true q309
                                 have p61 : 0 ≤ ((ji58) : Int) := of_decide_eq_true (by first | (with_reducible assumption) | assumption)
                                 have q61 : ((ji58) : Int) < ((x8_3.length : Int) : Int) := of_decide_eq_true (by first | (with_reducible assumption) | assumption)
                                 obtain ⟨go61, co61, eo61, gb61, gl61, cl61, HG61⟩ := Kd.R_form HO_8.out (by omega)
                                 (first | cases eo61 | (injection eo61 with ea_ en_ ec_; (first | subst ea_ | (injection ea_ with ea_; subst ea_)); subst ec_; clear en_))
                                 have GB61 := Aside0.mk gb61
                                 have GG61 := Aside0.mk HG61
                                 clear gb61 gl61 HG61
                                 (first | simp only [add_plain] at hx303_0 | skip)
                                 (first | simp only [add_plain] at hx306_0 | skip)
                                 obtain ⟨hx61_0, hf61_0⟩ := Kd.R_celln 0 HO_8.out ((ji58) : Int) p61 q61
                                 replace p61 := eq_true p61
                                 replace q61 := eq_true q61
                                 have HP64 := Kd.R_putg HO_8.out ((ji58) : Int) ji57
                                 try rw [hji51] at hji48w
                                 try rw [hji51] at hji48
                                 obtain ⟨q2_, hq2_⟩ : ∃ j_ : Int, (wrap64 ((rd l0 (ji51)) * 6)) = j_ := ⟨_, rfl⟩
                                 have hq2_w : (IntKind.i64.wrap ((rd l0 (ji51)) * 6)) = q2_ := (i64_w _).trans hq2_
                                 try rw [hq2_] at hji54w
                                 try rw [hq2_] at hji54
                                 obtain ⟨q3_, hq3_⟩ : ∃ j_ : Int, (wrap64 (x9_2 * (wrap64 ((l1.length : Int) + 1)))) = j_ := ⟨_, rfl⟩
                                 have hq3_w : (IntKind.i64.wrap (x9_2 * (wrap64 ((l1.length : Int) + 1)))) = q3_ := (i64_w _).trans hq3_
                                 try rw [hq3_] at hji38w
                                 try rw [hq3_] at hji38
                                 try rw [hq3_] at hji58w
                                 try rw [hq3_] at hji58
                                 try rw [hji58] at hji38w
                                 try rw [hji58] at hji38
                                 obtain ⟨q4_, hq4_⟩ : ∃ j_ : Int, (wrap64 ((ji51) * (wrap64 ((l1.length : Int) + 1)))) = j_ := ⟨_, rfl⟩
                                 have hq4_w : (IntKind.i64.wrap ((ji51) * (wrap64 ((l1.length : Int) + 1)))) = q4_ := (i64_w _).trans hq4_
                                 try rw [hq4_] at hji48w
                                 try rw [hq4_] at hji48
                                 obtain ⟨q5_, hq5_⟩ : ∃ j_ : Int, (wrap64 ((q4_) + x10_3)) = j_ := ⟨_, rfl⟩
                                 have hq5_w : (IntKind.i64.wrap ((q4_) + x10_3)) = q5_ := (i64_w _).trans hq5_
                                 try rw [hq5_] at hji48w
                                 try rw [hq5_] at hji48
                                 go_wp2_with (first | ((with_reducible refine gate_store (t := 3) (p := 140) rfl ?_); (try (rw [drewN_self wc]; generalize hq_ : World.drewN wc _ = wc; have n0_ := Aside0.mk (Kd.R_at hq_ HO_8.out); have n1_ := Aside0.mk (blk_at hq_ BK292.out); have n2_ := Aside0.mk (below_at hq_ HB.out); clear hq_ HO_8 BK292 HB; have HO_8 := n0_; have BK292 := n1_; have HB := n2_; clear n0_ n1_ n2_; (try (have HP64 := Kd.R_putg HO_8.out ((ji58) : Int) ji57)); (try (have hz_ := Kd.R_celln 0 HO_8.out ((ji58) : Int) (of_eq_true p61) (of_eq_true q61); have hxn_ := hz_.1; have hfn_ := hz_.2; clear hz_)))); refine store_event (t := 3) (p := 140) (v := ?vo_w65) (w1 := (wc.setCell ⟨go61, ((ji58) : Int).toNat, none⟩ (.int .i64 ji57))) ?hg ?ho ?hn ?hr ?_; (case ho => rfl); (case hg => rfl); (case hn => rfl); (case hr => first | (go_simp; done) | (go_simp; rfl)); intro w65 hw; have hg : wc.grownBy w65 (some go61) := (by rw [hw]; exact HP64.2); have hp_ : Kd.R (Kd.int .i64) 3 w65 w.heap.size (fun _ => True) (.slice (some ⟨go61, 0, none⟩) x8_3.length co62) y310 := (by rw [hw, Ny310.out]; exact HP64.1); clear HP64; replace BK292 := Aside0.mk (blk_grown (g := gb292) (o := .cells #[.slice A2_0 l2_0.length c2_0, .slice (some ad305) l2_1.length c2_1, .slice (some ad309) l2_2.length c2_2] 37 (0, 0)) (laK BK292.out) hg (Kd.R_ne HO_8.out BK292.out (by decide))); replace HO_8 := Aside0.mk (hp_); replace HB := Aside0.mk ((by rw [hw]; exact below_set (HB.out) GB61.out : Below w.heap.size w w65)); clear hg hw hp_))
                                 repeat (go_quiet (first | ((with_reducible refine gate_store (t := 3) (p := 140) rfl ?_); (try (rw [drewN_self wc]; generalize hq_ : World.drewN wc _ = wc; have n0_ := Aside0.mk (Kd.R_at hq_ HO_8.out); have n1_ := Aside0.mk (blk_at hq_ BK292.out); have n2_ := Aside0.mk (below_at hq_ HB.out); clear hq_ HO_8 BK292 HB; have HO_8 := n0_; have BK292 := n1_; have HB := n2_; clear n0_ n1_ n2_; (try (have HP64 := Kd.R_putg HO_8.out ((ji58) : Int) ji57)); (try (have hz_ := Kd.R_celln 0 HO_8.out ((ji58) : Int) (of_eq_true p61) (of_eq_true q61); have hxn_ := hz_.1; have hfn_ := hz_.2; clear hz_)))); refine store_event (t := 3) (p := 140) (v := ?vo_w65) (w1 := (wc.setCell ⟨go61, ((ji58) : Int).toNat, none⟩ (.int .i64 ji57))) ?hg ?ho ?hn ?hr ?_; (case ho => rfl); (case hg => rfl); (case hn => rfl); (case hr => first | (go_simp; done) | (go_simp; rfl)); intro w65 hw; have hg : wc.grownBy w65 (some go61) := (by rw [hw]; exact HP64.2); have hp_ : Kd.R (Kd.int .i64) 3 w65 w.heap.size (fun _ => True) (.slice (some ⟨go61, 0, none⟩) x8_3.length co62) y310 := (by rw [hw, Ny310.out]; exact HP64.1); clear HP64; replace BK292 := Aside0.mk (blk_grown (g := gb292) (o := .cells #[.slice A2_0 l2_0.length c2_0, .slice (some ad305) l2_1.length c2_1, .slice (some ad309) l2_2.length c2_2] 37 (0, 0)) (laK BK292.out) hg (Kd.R_ne HO_8.out BK292.out (by decide))); replace HO_8 := Aside0.mk (hp_); replace HB := Aside0.mk ((by rw [hw]; exact below_set (HB.out) GB61.out : Below w.heap.size w w65)); clear hg hw hp_)); try go_wp2_with (first | ((with_reducible refine gate_store (t := 3) (p := 140) rfl ?_); (try (rw [drewN_self wc]; generalize hq_ : World.drewN wc _ = wc; have n0_ := Aside0.mk (Kd.R_at hq_ HO_8.out); have n1_ := Aside0.mk (blk_at hq_ BK292.out); have n2_ := Aside0.mk (below_at hq_ HB.out); clear hq_ HO_8 BK292 HB; have HO_8 := n0_; have BK292 := n1_; have HB := n2_; clear n0_ n1_ n2_; (try (have HP64 := Kd.R_putg HO_8.out ((ji58) : Int) ji57)); (try (have hz_ := Kd.R_celln 0 HO_8.out ((ji58) : Int) (of_eq_true p61) (of_eq_true q61); have hxn_ := hz_.1; have hfn_ := hz_.2; clear hz_)))); refine store_event (t := 3) (p := 140) (v := ?vo_w65) (w1 := (wc.setCell ⟨go61, ((ji58) : Int).toNat, none⟩ (.int .i64 ji57))) ?hg ?ho ?hn ?hr ?_; (case ho => rfl); (case hg => rfl); (case hn => rfl); (case hr => first | (go_simp; done) | (go_simp; rfl)); intro w65 hw; have hg : wc.grownBy w65 (some go61) := (by rw [hw]; exact HP64.2); have hp_ : Kd.R (Kd.int .i64) 3 w65 w.heap.size (fun _ => True) (.slice (some ⟨go61, 0, none⟩) x8_3.length co62) y310 := (by rw [hw, Ny310.out]; exact HP64.1); clear HP64; replace BK292 := Aside0.mk (blk_grown (g := gb292) (o := .cells #[.slice A2_0 l2_0.length c2_0, .slice (some ad305) l2_1.length c2_1, .slice (some ad309) l2_2.length c2_2] 37 (0, 0)) (laK BK292.out) hg (Kd.R_ne HO_8.out BK292.out (by decide))); replace HO_8 := Aside0.mk (hp_); replace HB := Aside0.mk ((by rw [hw]; exact below_set (HB.out) GB61.out : Below w.heap.size w w65)); clear hg hw hp_)))
                                 go_roundg kj23
                                 case measure => have := HJ3.out; have := HK2.out; have := HK3.out; have := HJ20.out; have := HJ23.out; omega
                                 case rel => exact ⟨(y310), (wrap64 (x10_3 + 1)), (by first | rfl | (simp; done) | (simp [*]; done)), H', ⟨by have := HJ3.out; have := HK2.out; have := HK3.out; have := HJ20.out; have := HJ23.out; omega⟩, ⟨laR HO_8.out⟩, ⟨laK BK292.out⟩, ⟨laB HB.out⟩⟩
                                ·rw [if_neg c60] at H
                                 exact absurd H (by simp)
                               ·rw [if_neg c59] at H
                                exact absurd H (by simp)
                              ·rw [if_neg c56] at H
                               exact absurd H (by simp)
                             ·rw [if_neg c55] at H
                              exact absurd H (by simp)
                            ·rw [if_neg c53] at H
                             exact absurd H (by simp)
                           ·rw [if_neg c52] at H
                            exact absurd H (by simp)
                          ·rw [if_neg c50] at H
                           exact absurd H (by simp)
                         ·rw [if_neg c49] at H
                          exact absurd H (by simp)
                        ·rw [if_neg c47] at H
                         have c47b0 : decide (0 < x9_2) = false := decide_eq_false c47
                         clear c47
                         obtain ⟨ji66, hji66⟩ : ∃ j_ : Int, (wrap64 ((wrap64 (x9_2 * (wrap64 ((l1.length : Int) + 1)))) + x10_3)) = j_ := ⟨_, rfl⟩
                         replace H : (if 0 ≤ (ji66) then (if (ji66) < (x8_3.length : Int) then (spec_StrDist.l1 kj23 l0 l1 (wrap64 ((l1.length : Int) + 1)) (x8_3.set ((ji66) : Int).toNat (ji46)) x9_2 (wrap64 (x10_3 + 1)) l2_0 l2_1 l2_2) else (none)) else (none)) = some r := by first | (rw [hji66] at H; exact H) | (simp only [hji66] at H ⊢; exact H)
                         have hji66w : (IntKind.i64.wrap ((wrap64 (x9_2 * (wrap64 ((l1.length : Int) + 1)))) + x10_3)) = ji66 := (i64_w _).trans hji66
                         by_cases c67 : 0 ≤ (ji66)
                         ·rw [if_pos c67] at H
                          have c67b0 : decide (0 ≤ (ji66)) = true := decide_eq_true c67
                          clear c67
                          by_cases c68 : (ji66) < (x8_3.length : Int)
                          ·rw [if_pos c68] at H
                           have c68b0 : decide ((ji66) < (x8_3.length : Int)) = true := decide_eq_true c68
                           clear c68
                           obtain ⟨y311, hy311⟩ : ∃ y_ : List Int, y_ = (x8_3.set ((ji66) : Int).toNat (ji46)) := ⟨_, rfl⟩
                           replace H : (spec_StrDist.l1 kj23 l0 l1 (wrap64 ((l1.length : Int) + 1)) y311 x9_2 (wrap64 (x10_3 + 1)) l2_0 l2_1 l2_2) = some r := by first | (rw [hy311]; with_reducible exact H) | (have H2_ := (Option.bind_some _ _).symm.trans H; rw [hy311]; with_reducible exact H2_) | (have H2_ := (Option.bind_some _ _).symm.trans H; with_reducible exact H2_) | with_reducible exact H | (rw [hy311]; exact H) | exact H
                           have Ny311 := Aside0.mk hy311
                           clear hy311
                           have H' := Aside0.mk H
                           clear H
                           obtain ⟨Ao70, co70, eo70⟩ := Kd.R_slice HO_8.out
                           subst eo70
                           have p303 : 0 ≤ ((ji38) : Int) := of_decide_eq_true (by first | (with_reducible assumption) | assumption)
                           have q303 : (ji38) < (x8_3.length : Int) := of_decide_eq_true (by first | (with_reducible assumption) | assumption)
                           obtain ⟨ad303, e303, hx303_0⟩ := Kd.at_int (Kd.R_reads' HO_8.out).2.2 (ji38) p303 q303
                           cases e303
                           replace p303 := eq_true p303
                           replace q303 := eq_true q303
                           have hcz71_0 : wc.cell? ⟨gb292, 0, none⟩ = some (.slice A2_0 l2_0.length c2_0) := (blk_cell BK292.out 0).trans rfl
                           have hcz71_1 : wc.cell? ⟨gb292, 1, none⟩ = some (.slice A2_1 l2_1.length c2_1) := (blk_cell BK292.out 1).trans rfl
                           have hcz71_2 : wc.cell? ⟨gb292, 2, none⟩ = some (.slice A2_2 l2_2.length c2_2) := (blk_cell BK292.out 2).trans rfl
                           have hfz71_0 := blk_frozen BK292.out 0
                           have hfz71_1 := blk_frozen BK292.out 1
                           have hfz71_2 := blk_frozen BK292.out 2
                           have p304 : 0 ≤ ((ji41) : Int) := of_decide_eq_true (by first | (with_reducible assumption) | assumption)
                           have q304 : (ji41) < (l1.length : Int) := of_decide_eq_true (by first | (with_reducible assumption) | assumption)
                           obtain ⟨ad304, e304, hx304_0⟩ := Kd.at_int HR1.out (ji41) p304 q304
                           cases e304
                           replace hx304_0 := (HB.out.cell (World.block_lt_of_cell? w _ hx304_0)).trans hx304_0
                           replace p304 := eq_true p304
                           replace q304 := eq_true q304
                           have p305 : 0 ≤ ((rd l1 (ji41)) : Int) := of_decide_eq_true (by first | (with_reducible assumption) | assumption)
                           have q305 : (rd l1 (ji41)) < (l2_1.length : Int) := of_decide_eq_true (by first | (with_reducible assumption) | assumption)
                           obtain ⟨ad305, e305, hx305_0⟩ := Kd.at_int HR2_1.out (rd l1 (ji41)) p305 q305
                           cases e305
                           replace hx305_0 := (HB.out.cell (World.block_lt_of_cell? w _ hx305_0)).trans hx305_0
                           replace p305 := eq_true p305
                           replace q305 := eq_true q305
                           have p69 : 0 ≤ ((ji66) : Int) := of_decide_eq_true (by first | (with_reducible assumption) | assumption)
                           have q69 : ((ji66) : Int) < ((x8_3.length : Int) : Int) := of_decide_eq_true (by first | (with_reducible assumption) | assumption)
                           obtain ⟨go69, co69, eo69, gb69, gl69, cl69, HG69⟩ := Kd.R_form HO_8.out (by omega)
                           (first | cases eo69 | (injection eo69 with ea_ en_ ec_; (first | subst ea_ | (injection ea_ with ea_; subst ea_)); subst ec_; clear en_))
                           have GB69 := Aside0.mk gb69
                           have GG69 := Aside0.mk HG69
                           clear gb69 gl69 HG69
                           (first | simp only [add_plain] at hx303_0 | skip)
                           obtain ⟨hx69_0, hf69_0⟩ := Kd.R_celln 0 HO_8.out ((ji66) : Int) p69 q69
                           replace p69 := eq_true p69
                           replace q69 := eq_true q69
                           have HP72 := Kd.R_putg HO_8.out ((ji66) : Int) ji46
                           obtain ⟨q6_, hq6_⟩ : ∃ j_ : Int, (wrap64 (x9_2 * (wrap64 ((l1.length : Int) + 1)))) = j_ := ⟨_, rfl⟩
                           have hq6_w : (IntKind.i64.wrap (x9_2 * (wrap64 ((l1.length : Int) + 1)))) = q6_ := (i64_w _).trans hq6_
                           try rw [hq6_] at hji38w
                           try rw [hq6_] at hji38
                           try rw [hq6_] at hji66w
                           try rw [hq6_] at hji66
                           try rw [hji66] at hji38w
                           try rw [hji66] at hji38
                           go_wp2_with (first | ((with_reducible refine gate_store (t := 3) (p := 140) rfl ?_); (try (rw [drewN_self wc]; generalize hq_ : World.drewN wc _ = wc; have n0_ := Aside0.mk (Kd.R_at hq_ HO_8.out); have n1_ := Aside0.mk (blk_at hq_ BK292.out); have n2_ := Aside0.mk (below_at hq_ HB.out); clear hq_ HO_8 BK292 HB; have HO_8 := n0_; have BK292 := n1_; have HB := n2_; clear n0_ n1_ n2_; (try (have HP72 := Kd.R_putg HO_8.out ((ji66) : Int) ji46)); (try (have hz_ := Kd.R_celln 0 HO_8.out ((ji66) : Int) (of_eq_true p69) (of_eq_true q69); have hxn_ := hz_.1; have hfn_ := hz_.2; clear hz_)))); refine store_event (t := 3) (p := 140) (v := ?vo_w73) (w1 := (wc.setCell ⟨go69, ((ji66) : Int).toNat, none⟩ (.int .i64 ji46))) ?hg ?ho ?hn ?hr ?_; (case ho => rfl); (case hg => rfl); (case hn => rfl); (case hr => first | (go_simp; done) | (go_simp; rfl)); intro w73 hw; have hg : wc.grownBy w73 (some go69) := (by rw [hw]; exact HP72.2); have hp_ : Kd.R (Kd.int .i64) 3 w73 w.heap.size (fun _ => True) (.slice (some ⟨go69, 0, none⟩) x8_3.length co70) y311 := (by rw [hw, Ny311.out]; exact HP72.1); clear HP72; replace BK292 := Aside0.mk (blk_grown (g := gb292) (o := .cells #[.slice A2_0 l2_0.length c2_0, .slice (some ad305) l2_1.length c2_1, .slice A2_2 l2_2.length c2_2] 37 (0, 0)) (laK BK292.out) hg (Kd.R_ne HO_8.out BK292.out (by decide))); replace HO_8 := Aside0.mk (hp_); replace HB := Aside0.mk ((by rw [hw]; exact below_set (HB.out) GB69.out : Below w.heap.size w w73)); clear hg hw hp_))
                           repeat (go_quiet (first | ((with_reducible refine gate_store (t := 3) (p := 140) rfl ?_); (try (rw [drewN_self wc]; generalize hq_ : World.drewN wc _ = wc; have n0_ := Aside0.mk (Kd.R_at hq_ HO_8.out); have n1_ := Aside0.mk (blk_at hq_ BK292.out); have n2_ := Aside0.mk (below_at hq_ HB.out); clear hq_ HO_8 BK292 HB; have HO_8 := n0_; have BK292 := n1_; have HB := n2_; clear n0_ n1_ n2_; (try (have HP72 := Kd.R_putg HO_8.out ((ji66) : Int) ji46)); (try (have hz_ := Kd.R_celln 0 HO_8.out ((ji66) : Int) (of_eq_true p69) (of_eq_true q69); have hxn_ := hz_.1; have hfn_ := hz_.2; clear hz_)))); refine store_event (t := 3) (p := 140) (v := ?vo_w73) (w1 := (wc.setCell ⟨go69, ((ji66) : Int).toNat, none⟩ (.int .i64 ji46))) ?hg ?ho ?hn ?hr ?_; (case ho => rfl); (case hg => rfl); (case hn => rfl); (case hr => first | (go_simp; done) | (go_simp; rfl)); intro w73 hw; have hg : wc.grownBy w73 (some go69) := (by rw [hw]; exact HP72.2); have hp_ : Kd.R (Kd.int .i64) 3 w73 w.heap.size (fun _ => True) (.slice (some ⟨go69, 0, none⟩) x8_3.length co70) y311 := (by rw [hw, Ny311.out]; exact HP72.1); clear HP72; replace BK292 := Aside0.mk (blk_grown (g := gb292) (o := .cells #[.slice A2_0 l2_0.length c2_0, .slice (some ad305) l2_1.length c2_1, .slice A2_2 l2_2.length c2_2] 37 (0, 0)) (laK BK292.out) hg (Kd.R_ne HO_8.out BK292.out (by decide))); replace HO_8 := Aside0.mk (hp_); replace HB := Aside0.mk ((by rw [hw]; exact below_set (HB.out) GB69.out : Below w.heap.size w w73)); clear hg hw hp_)); try go_wp2_with (first | ((with_reducible refine gate_store (t := 3) (p := 140) rfl ?_); (try (rw [drewN_self wc]; generalize hq_ : World.drewN wc _ = wc; have n0_ := Aside0.mk (Kd.R_at hq_ HO_8.out); have n1_ := Aside0.mk (blk_at hq_ BK292.out); have n2_ := Aside0.mk (below_at hq_ HB.out); clear hq_ HO_8 BK292 HB; have HO_8 := n0_; have BK292 := n1_; have HB := n2_; clear n0_ n1_ n2_; (try (have HP72 := Kd.R_putg HO_8.out ((ji66) : Int) ji46)); (try (have hz_ := Kd.R_celln 0 HO_8.out ((ji66) : Int) (of_eq_true p69) (of_eq_true q69); have hxn_ := hz_.1; have hfn_ := hz_.2; clear hz_)))); refine store_event (t := 3) (p := 140) (v := ?vo_w73) (w1 := (wc.setCell ⟨go69, ((ji66) : Int).toNat, none⟩ (.int .i64 ji46))) ?hg ?ho ?hn ?hr ?_; (case ho => rfl); (case hg => rfl); (case hn => rfl); (case hr => first | (go_simp; done) | (go_simp; rfl)); intro w73 hw; have hg : wc.grownBy w73 (some go69) := (by rw [hw]; exact HP72.2); have hp_ : Kd.R (Kd.int .i64) 3 w73 w.heap.size (fun _ => True) (.slice (some ⟨go69, 0, none⟩) x8_3.length co70) y311 := (by rw [hw, Ny311.out]; exact HP72.1); clear HP72; replace BK292 := Aside0.mk (blk_grown (g := gb292) (o := .cells #[.slice A2_0 l2_0.length c2_0, .slice (some ad305) l2_1.length c2_1, .slice A2_2 l2_2.length c2_2] 37 (0, 0)) (laK BK292.out) hg (Kd.R_ne HO_8.out BK292.out (by decide))); replace HO_8 := Aside0.mk (hp_); replace HB := Aside0.mk ((by rw [hw]; exact below_set (HB.out) GB69.out : Below w.heap.size w w73)); clear hg hw hp_)))
                           go_roundg kj23
                           case measure => have := HJ3.out; have := HK2.out; have := HK3.out; have := HJ20.out; have := HJ23.out; omega
                           case rel => exact ⟨(y311), (wrap64 (x10_3 + 1)), (by first | rfl | (simp; done) | (simp [*]; done)), H', ⟨by have := HJ3.out; have := HK2.out; have := HK3.out; have := HJ20.out; have := HJ23.out; omega⟩, ⟨laR HO_8.out⟩, ⟨laK BK292.out⟩, ⟨laB HB.out⟩⟩
                          ·rw [if_neg c68] at H
                           exact absurd H (by simp)
                         ·rw [if_neg c67] at H
                          exact absurd H (by simp)
                       ·rw [if_neg c45] at H
                        exact absurd H (by simp)
                      ·rw [if_neg c44] at H
                       exact absurd H (by simp)
                     ·rw [if_neg c43] at H
                      exact absurd H (by simp)
                    ·rw [if_neg c42] at H
                     exact absurd H (by simp)
                   ·rw [if_neg c40] at H
                    exact absurd H (by simp)
                  ·rw [if_neg c39] at H
                   exact absurd H (by simp)
                 ·rw [if_neg c37] at H
                  have c37b0 : decide (0 < x10_3) = false := decide_eq_false c37
                  clear c37
                  by_cases c74 : x9_2 > 0
                  ·rw [if_pos c74] at H
                   have c74b0 : decide (0 < x9_2) = true := decide_eq_true c74
                   clear c74
                   obtain ⟨ji75, hji75⟩ : ∃ j_ : Int, (wrap64 ((wrap64 (x9_2 * (wrap64 ((l1.length : Int) + 1)))) + x10_3)) = j_ := ⟨_, rfl⟩
                   replace H : (if 0 ≤ (ji75) then (if (ji75) < (x8_3.length : Int) then (spec_StrDist.l1 kj23 l0 l1 (wrap64 ((l1.length : Int) + 1)) (x8_3.set ((ji75) : Int).toNat x11_23) x9_2 (wrap64 (x10_3 + 1)) l2_0 l2_1 l2_2) else (none)) else (none)) = some r := by first | (rw [hji75] at H; exact H) | (simp only [hji75] at H ⊢; exact H)
                   have hji75w : (IntKind.i64.wrap ((wrap64 (x9_2 * (wrap64 ((l1.length : Int) + 1)))) + x10_3)) = ji75 := (i64_w _).trans hji75
                   by_cases c76 : 0 ≤ (ji75)
                   ·rw [if_pos c76] at H
                    have c76b0 : decide (0 ≤ (ji75)) = true := decide_eq_true c76
                    clear c76
                    by_cases c77 : (ji75) < (x8_3.length : Int)
                    ·rw [if_pos c77] at H
                     have c77b0 : decide ((ji75) < (x8_3.length : Int)) = true := decide_eq_true c77
                     clear c77
                     obtain ⟨y312, hy312⟩ : ∃ y_ : List Int, y_ = (x8_3.set ((ji75) : Int).toNat x11_23) := ⟨_, rfl⟩
                     replace H : (spec_StrDist.l1 kj23 l0 l1 (wrap64 ((l1.length : Int) + 1)) y312 x9_2 (wrap64 (x10_3 + 1)) l2_0 l2_1 l2_2) = some r := by first | (rw [hy312]; with_reducible exact H) | (have H2_ := (Option.bind_some _ _).symm.trans H; rw [hy312]; with_reducible exact H2_) | (have H2_ := (Option.bind_some _ _).symm.trans H; with_reducible exact H2_) | with_reducible exact H | (rw [hy312]; exact H) | exact H
                     have Ny312 := Aside0.mk hy312
                     clear hy312
                     have H' := Aside0.mk H
                     clear H
                     have p78 : 0 ≤ ((ji75) : Int) := of_decide_eq_true (by first | (with_reducible assumption) | assumption)
                     have q78 : ((ji75) : Int) < ((x8_3.length : Int) : Int) := of_decide_eq_true (by first | (with_reducible assumption) | assumption)
                     obtain ⟨go78, co78, eo78, gb78, gl78, cl78, HG78⟩ := Kd.R_form HO_8.out (by omega)
                     (first | cases eo78 | (injection eo78 with ea_ en_ ec_; (first | subst ea_ | (injection ea_ with ea_; subst ea_)); subst ec_; clear en_))
                     have GB78 := Aside0.mk gb78
                     have GG78 := Aside0.mk HG78
                     clear gb78 gl78 HG78
                     obtain ⟨hx78_0, hf78_0⟩ := Kd.R_celln 0 HO_8.out ((ji75) : Int) p78 q78
                     replace p78 := eq_true p78
                     replace q78 := eq_true q78
                     have HP79 := Kd.R_putg HO_8.out ((ji75) : Int) x11_23
                     obtain ⟨q7_, hq7_⟩ : ∃ j_ : Int, (wrap64 (x9_2 * (wrap64 ((l1.length : Int) + 1)))) = j_ := ⟨_, rfl⟩
                     have hq7_w : (IntKind.i64.wrap (x9_2 * (wrap64 ((l1.length : Int) + 1)))) = q7_ := (i64_w _).trans hq7_
                     try rw [hq7_] at hji75w
                     try rw [hq7_] at hji75
                     go_wp2_with (first | ((with_reducible refine gate_store (t := 3) (p := 140) rfl ?_); (try (rw [drewN_self wc]; generalize hq_ : World.drewN wc _ = wc; have n0_ := Aside0.mk (Kd.R_at hq_ HO_8.out); have n1_ := Aside0.mk (blk_at hq_ BK292.out); have n2_ := Aside0.mk (below_at hq_ HB.out); clear hq_ HO_8 BK292 HB; have HO_8 := n0_; have BK292 := n1_; have HB := n2_; clear n0_ n1_ n2_; (try (have HP79 := Kd.R_putg HO_8.out ((ji75) : Int) x11_23)); (try (have hz_ := Kd.R_celln 0 HO_8.out ((ji75) : Int) (of_eq_true p78) (of_eq_true q78); have hxn_ := hz_.1; have hfn_ := hz_.2; clear hz_)))); refine store_event (t := 3) (p := 140) (v := ?vo_w80) (w1 := (wc.setCell ⟨go78, ((ji75) : Int).toNat, none⟩ (.int .i64 x11_23))) ?hg ?ho ?hn ?hr ?_; (case ho => rfl); (case hg => rfl); (case hn => rfl); (case hr => first | (go_simp; done) | (go_simp; rfl)); intro w80 hw; have hg : wc.grownBy w80 (some go78) := (by rw [hw]; exact HP79.2); have hp_ : Kd.R (Kd.int .i64) 3 w80 w.heap.size (fun _ => True) (.slice (some ⟨go78, 0, none⟩) x8_3.length co78) y312 := (by rw [hw, Ny312.out]; exact HP79.1); clear HP79; replace BK292 := Aside0.mk (blk_grown (g := gb292) (o := .cells #[.slice A2_0 l2_0.length c2_0, .slice A2_1 l2_1.length c2_1, .slice A2_2 l2_2.length c2_2] 37 (0, 0)) (laK BK292.out) hg (Kd.R_ne HO_8.out BK292.out (by decide))); replace HO_8 := Aside0.mk (hp_); replace HB := Aside0.mk ((by rw [hw]; exact below_set (HB.out) GB78.out : Below w.heap.size w w80)); clear hg hw hp_))
                     repeat (go_quiet (first | ((with_reducible refine gate_store (t := 3) (p := 140) rfl ?_); (try (rw [drewN_self wc]; generalize hq_ : World.drewN wc _ = wc; have n0_ := Aside0.mk (Kd.R_at hq_ HO_8.out); have n1_ := Aside0.mk (blk_at hq_ BK292.out); have n2_ := Aside0.mk (below_at hq_ HB.out); clear hq_ HO_8 BK292 HB; have HO_8 := n0_; have BK292 := n1_; have HB := n2_; clear n0_ n1_ n2_; (try (have HP79 := Kd.R_putg HO_8.out ((ji75) : Int) x11_23)); (try (have hz_ := Kd.R_celln 0 HO_8.out ((ji75) : Int) (of_eq_true p78) (of_eq_true q78); have hxn_ := hz_.1; have hfn_ := hz_.2; clear hz_)))); refine store_event (t := 3) (p := 140) (v := ?vo_w80) (w1 := (wc.setCell ⟨go78, ((ji75) : Int).toNat, none⟩ (.int .i64 x11_23))) ?hg ?ho ?hn ?hr ?_; (case ho => rfl); (case hg => rfl); (case hn => rfl); (case hr => first | (go_simp; done) | (go_simp; rfl)); intro w80 hw; have hg : wc.grownBy w80 (some go78) := (by rw [hw]; exact HP79.2); have hp_ : Kd.R (Kd.int .i64) 3 w80 w.heap.size (fun _ => True) (.slice (some ⟨go78, 0, none⟩) x8_3.length co78) y312 := (by rw [hw, Ny312.out]; exact HP79.1); clear HP79; replace BK292 := Aside0.mk (blk_grown (g := gb292) (o := .cells #[.slice A2_0 l2_0.length c2_0, .slice A2_1 l2_1.length c2_1, .slice A2_2 l2_2.length c2_2] 37 (0, 0)) (laK BK292.out) hg (Kd.R_ne HO_8.out BK292.out (by decide))); replace HO_8 := Aside0.mk (hp_); replace HB := Aside0.mk ((by rw [hw]; exact below_set (HB.out) GB78.out : Below w.heap.size w w80)); clear hg hw hp_)); try go_wp2_with (first | ((with_reducible refine gate_store (t := 3) (p := 140) rfl ?_); (try (rw [drewN_self wc]; generalize hq_ : World.drewN wc _ = wc; have n0_ := Aside0.mk (Kd.R_at hq_ HO_8.out); have n1_ := Aside0.mk (blk_at hq_ BK292.out); have n2_ := Aside0.mk (below_at hq_ HB.out); clear hq_ HO_8 BK292 HB; have HO_8 := n0_; have BK292 := n1_; have HB := n2_; clear n0_ n1_ n2_; (try (have HP79 := Kd.R_putg HO_8.out ((ji75) : Int) x11_23)); (try (have hz_ := Kd.R_celln 0 HO_8.out ((ji75) : Int) (of_eq_true p78) (of_eq_true q78); have hxn_ := hz_.1; have hfn_ := hz_.2; clear hz_)))); refine store_event (t := 3) (p := 140) (v := ?vo_w80) (w1 := (wc.setCell ⟨go78, ((ji75) : Int).toNat, none⟩ (.int .i64 x11_23))) ?hg ?ho ?hn ?hr ?_; (case ho => rfl); (case hg => rfl); (case hn => rfl); (case hr => first | (go_simp; done) | (go_simp; rfl)); intro w80 hw; have hg : wc.grownBy w80 (some go78) := (by rw [hw]; exact HP79.2); have hp_ : Kd.R (Kd.int .i64) 3 w80 w.heap.size (fun _ => True) (.slice (some ⟨go78, 0, none⟩) x8_3.length co78) y312 := (by rw [hw, Ny312.out]; exact HP79.1); clear HP79; replace BK292 := Aside0.mk (blk_grown (g := gb292) (o := .cells #[.slice A2_0 l2_0.length c2_0, .slice A2_1 l2_1.length c2_1, .slice A2_2 l2_2.length c2_2] 37 (0, 0)) (laK BK292.out) hg (Kd.R_ne HO_8.out BK292.out (by decide))); replace HO_8 := Aside0.mk (hp_); replace HB := Aside0.mk ((by rw [hw]; exact below_set (HB.out) GB78.out : Below w.heap.size w w80)); clear hg hw hp_)))
                     go_roundg kj23
                     case measure => have := HJ3.out; have := HK2.out; have := HK3.out; have := HJ20.out; have := HJ23.out; omega
                     case rel => exact ⟨(y312), (wrap64 (x10_3 + 1)), (by first | rfl | (simp; done) | (simp [*]; done)), H', ⟨by have := HJ3.out; have := HK2.out; have := HK3.out; have := HJ20.out; have := HJ23.out; omega⟩, ⟨laR HO_8.out⟩, ⟨laK BK292.out⟩, ⟨laB HB.out⟩⟩
                    ·rw [if_neg c77] at H
                     exact absurd H (by simp)
                   ·rw [if_neg c76] at H
                    exact absurd H (by simp)
                  ·rw [if_neg c74] at H
                   have c74b0 : decide (0 < x9_2) = false := decide_eq_false c74
                   clear c74
                   obtain ⟨ji81, hji81⟩ : ∃ j_ : Int, (wrap64 ((wrap64 (x9_2 * (wrap64 ((l1.length : Int) + 1)))) + x10_3)) = j_ := ⟨_, rfl⟩
                   replace H : (if 0 ≤ (ji81) then (if (ji81) < (x8_3.length : Int) then (spec_StrDist.l1 kj23 l0 l1 (wrap64 ((l1.length : Int) + 1)) (x8_3.set ((ji81) : Int).toNat x11_23) x9_2 (wrap64 (x10_3 + 1)) l2_0 l2_1 l2_2) else (none)) else (none)) = some r := by first | (rw [hji81] at H; exact H) | (simp only [hji81] at H ⊢; exact H)
                   have hji81w : (IntKind.i64.wrap ((wrap64 (x9_2 * (wrap64 ((l1.length : Int) + 1)))) + x10_3)) = ji81 := (i64_w _).trans hji81
                   by_cases c82 : 0 ≤ (ji81)
                   ·rw [if_pos c82] at H
                    have c82b0 : decide (0 ≤ (ji81)) = true := decide_eq_true c82
                    clear c82
                    by_cases c83 : (ji81) < (x8_3.length : Int)
                    ·rw [if_pos c83] at H
                     have c83b0 : decide ((ji81) < (x8_3.length : Int)) = true := decide_eq_true c83
                     clear c83
                     obtain ⟨y313, hy313⟩ : ∃ y_ : List Int, y_ = (x8_3.set ((ji81) : Int).toNat x11_23) := ⟨_, rfl⟩
                     replace H : (spec_StrDist.l1 kj23 l0 l1 (wrap64 ((l1.length : Int) + 1)) y313 x9_2 (wrap64 (x10_3 + 1)) l2_0 l2_1 l2_2) = some r := by first | (rw [hy313]; with_reducible exact H) | (have H2_ := (Option.bind_some _ _).symm.trans H; rw [hy313]; with_reducible exact H2_) | (have H2_ := (Option.bind_some _ _).symm.trans H; with_reducible exact H2_) | with_reducible exact H | (rw [hy313]; exact H) | exact H
                     have Ny313 := Aside0.mk hy313
                     clear hy313
                     have H' := Aside0.mk H
                     clear H
                     have p84 : 0 ≤ ((ji81) : Int) := of_decide_eq_true (by first | (with_reducible assumption) | assumption)
                     have q84 : ((ji81) : Int) < ((x8_3.length : Int) : Int) := of_decide_eq_true (by first | (with_reducible assumption) | assumption)
                     obtain ⟨go84, co84, eo84, gb84, gl84, cl84, HG84⟩ := Kd.R_form HO_8.out (by omega)
                     (first | cases eo84 | (injection eo84 with ea_ en_ ec_; (first | subst ea_ | (injection ea_ with ea_; subst ea_)); subst ec_; clear en_))
                     have GB84 := Aside0.mk gb84
                     have GG84 := Aside0.mk HG84
                     clear gb84 gl84 HG84
                     obtain ⟨hx84_0, hf84_0⟩ := Kd.R_celln 0 HO_8.out ((ji81) : Int) p84 q84
                     replace p84 := eq_true p84
                     replace q84 := eq_true q84
                     have HP85 := Kd.R_putg HO_8.out ((ji81) : Int) x11_23
                     obtain ⟨q8_, hq8_⟩ : ∃ j_ : Int, (wrap64 (x9_2 * (wrap64 ((l1.length : Int) + 1)))) = j_ := ⟨_, rfl⟩
                     have hq8_w : (IntKind.i64.wrap (x9_2 * (wrap64 ((l1.length : Int) + 1)))) = q8_ := (i64_w _).trans hq8_
                     try rw [hq8_] at hji81w
                     try rw [hq8_] at hji81
                     go_wp2_with (first | ((with_reducible refine gate_store (t := 3) (p := 140) rfl ?_); (try (rw [drewN_self wc]; generalize hq_ : World.drewN wc _ = wc; have n0_ := Aside0.mk (Kd.R_at hq_ HO_8.out); have n1_ := Aside0.mk (blk_at hq_ BK292.out); have n2_ := Aside0.mk (below_at hq_ HB.out); clear hq_ HO_8 BK292 HB; have HO_8 := n0_; have BK292 := n1_; have HB := n2_; clear n0_ n1_ n2_; (try (have HP85 := Kd.R_putg HO_8.out ((ji81) : Int) x11_23)); (try (have hz_ := Kd.R_celln 0 HO_8.out ((ji81) : Int) (of_eq_true p84) (of_eq_true q84); have hxn_ := hz_.1; have hfn_ := hz_.2; clear hz_)))); refine store_event (t := 3) (p := 140) (v := ?vo_w86) (w1 := (wc.setCell ⟨go84, ((ji81) : Int).toNat, none⟩ (.int .i64 x11_23))) ?hg ?ho ?hn ?hr ?_; (case ho => rfl); (case hg => rfl); (case hn => rfl); (case hr => first | (go_simp; done) | (go_simp; rfl)); intro w86 hw; have hg : wc.grownBy w86 (some go84) := (by rw [hw]; exact HP85.2); have hp_ : Kd.R (Kd.int .i64) 3 w86 w.heap.size (fun _ => True) (.slice (some ⟨go84, 0, none⟩) x8_3.length co84) y313 := (by rw [hw, Ny313.out]; exact HP85.1); clear HP85; replace BK292 := Aside0.mk (blk_grown (g := gb292) (o := .cells #[.slice A2_0 l2_0.length c2_0, .slice A2_1 l2_1.length c2_1, .slice A2_2 l2_2.length c2_2] 37 (0, 0)) (laK BK292.out) hg (Kd.R_ne HO_8.out BK292.out (by decide))); replace HO_8 := Aside0.mk (hp_); replace HB := Aside0.mk ((by rw [hw]; exact below_set (HB.out) GB84.out : Below w.heap.size w w86)); clear hg hw hp_))
                     repeat (go_quiet (first | ((with_reducible refine gate_store (t := 3) (p := 140) rfl ?_); (try (rw [drewN_self wc]; generalize hq_ : World.drewN wc _ = wc; have n0_ := Aside0.mk (Kd.R_at hq_ HO_8.out); have n1_ := Aside0.mk (blk_at hq_ BK292.out); have n2_ := Aside0.mk (below_at hq_ HB.out); clear hq_ HO_8 BK292 HB; have HO_8 := n0_; have BK292 := n1_; have HB := n2_; clear n0_ n1_ n2_; (try (have HP85 := Kd.R_putg HO_8.out ((ji81) : Int) x11_23)); (try (have hz_ := Kd.R_celln 0 HO_8.out ((ji81) : Int) (of_eq_true p84) (of_eq_true q84); have hxn_ := hz_.1; have hfn_ := hz_.2; clear hz_)))); refine store_event (t := 3) (p := 140) (v := ?vo_w86) (w1 := (wc.setCell ⟨go84, ((ji81) : Int).toNat, none⟩ (.int .i64 x11_23))) ?hg ?ho ?hn ?hr ?_; (case ho => rfl); (case hg => rfl); (case hn => rfl); (case hr => first | (go_simp; done) | (go_simp; rfl)); intro w86 hw; have hg : wc.grownBy w86 (some go84) := (by rw [hw]; exact HP85.2); have hp_ : Kd.R (Kd.int .i64) 3 w86 w.heap.size (fun _ => True) (.slice (some ⟨go84, 0, none⟩) x8_3.length co84) y313 := (by rw [hw, Ny313.out]; exact HP85.1); clear HP85; replace BK292 := Aside0.mk (blk_grown (g := gb292) (o := .cells #[.slice A2_0 l2_0.length c2_0, .slice A2_1 l2_1.length c2_1, .slice A2_2 l2_2.length c2_2] 37 (0, 0)) (laK BK292.out) hg (Kd.R_ne HO_8.out BK292.out (by decide))); replace HO_8 := Aside0.mk (hp_); replace HB := Aside0.mk ((by rw [hw]; exact below_set (HB.out) GB84.out : Below w.heap.size w w86)); clear hg hw hp_)); try go_wp2_with (first | ((with_reducible refine gate_store (t := 3) (p := 140) rfl ?_); (try (rw [drewN_self wc]; generalize hq_ : World.drewN wc _ = wc; have n0_ := Aside0.mk (Kd.R_at hq_ HO_8.out); have n1_ := Aside0.mk (blk_at hq_ BK292.out); have n2_ := Aside0.mk (below_at hq_ HB.out); clear hq_ HO_8 BK292 HB; have HO_8 := n0_; have BK292 := n1_; have HB := n2_; clear n0_ n1_ n2_; (try (have HP85 := Kd.R_putg HO_8.out ((ji81) : Int) x11_23)); (try (have hz_ := Kd.R_celln 0 HO_8.out ((ji81) : Int) (of_eq_true p84) (of_eq_true q84); have hxn_ := hz_.1; have hfn_ := hz_.2; clear hz_)))); refine store_event (t := 3) (p := 140) (v := ?vo_w86) (w1 := (wc.setCell ⟨go84, ((ji81) : Int).toNat, none⟩ (.int .i64 x11_23))) ?hg ?ho ?hn ?hr ?_; (case ho => rfl); (case hg => rfl); (case hn => rfl); (case hr => first | (go_simp; done) | (go_simp; rfl)); intro w86 hw; have hg : wc.grownBy w86 (some go84) := (by rw [hw]; exact HP85.2); have hp_ : Kd.R (Kd.int .i64) 3 w86 w.heap.size (fun _ => True) (.slice (some ⟨go84, 0, none⟩) x8_3.length co84) y313 := (by rw [hw, Ny313.out]; exact HP85.1); clear HP85; replace BK292 := Aside0.mk (blk_grown (g := gb292) (o := .cells #[.slice A2_0 l2_0.length c2_0, .slice A2_1 l2_1.length c2_1, .slice A2_2 l2_2.length c2_2] 37 (0, 0)) (laK BK292.out) hg (Kd.R_ne HO_8.out BK292.out (by decide))); replace HO_8 := Aside0.mk (hp_); replace HB := Aside0.mk ((by rw [hw]; exact below_set (HB.out) GB84.out : Below w.heap.size w w86)); clear hg hw hp_)))
                     go_roundg kj23
                     case measure => have := HJ3.out; have := HK2.out; have := HK3.out; have := HJ20.out; have := HJ23.out; omega
                     case rel => exact ⟨(y313), (wrap64 (x10_3 + 1)), (by first | rfl | (simp; done) | (simp [*]; done)), H', ⟨by have := HJ3.out; have := HK2.out; have := HK3.out; have := HJ20.out; have := HJ23.out; omega⟩, ⟨laR HO_8.out⟩, ⟨laK BK292.out⟩, ⟨laB HB.out⟩⟩
                    ·rw [if_neg c83] at H
                     exact absurd H (by simp)
                   ·rw [if_neg c82] at H
                    exact absurd H (by simp)
           ·rw [if_neg c20] at H
            have c20b0 : decide (x10_3 ≤ (l1.length : Int)) = false := decide_eq_false c20
            clear c20
            have H' := Aside0.mk H
            clear H
            go_wp2
            repeat (go_quiet (fail); try go_wp2)
            go_roundg k3
            case measure => have := HJ3.out; have := HK2.out; have := HK3.out; omega
            case rel => exact ⟨(x8_3), (wrap64 (x9_2 + 1)), (by first | rfl | (simp; done) | (simp [*]; done)), H', ⟨by have := HJ3.out; have := HK2.out; have := HK3.out; omega⟩, ⟨laR HO_8.out⟩, ⟨laK BK292.out⟩, ⟨laB HB.out⟩⟩
        ·rw [if_neg c19] at H
         have c19b0 : decide (x9_2 ≤ (l0.length : Int)) = false := decide_eq_false c19
         clear c19
         obtain ⟨ji87, hji87⟩ : ∃ j_ : Int, (wrap64 ((x8_2.length : Int) - 1)) = j_ := ⟨_, rfl⟩
         replace H : (if 0 ≤ (ji87) then (if (ji87) < (x8_2.length : Int) then (some (rd x8_2 (ji87))) else (none)) else (none)) = some r := by first | (rw [hji87] at H; exact H) | (simp only [hji87] at H ⊢; exact H)
         have hji87w : (IntKind.i64.wrap ((x8_2.length : Int) - 1)) = ji87 := (i64_w _).trans hji87
         by_cases c88 : 0 ≤ (ji87)
         ·rw [if_pos c88] at H
          have c88b0 : decide (0 ≤ (ji87)) = true := decide_eq_true c88
          clear c88
          by_cases c89 : (ji87) < (x8_2.length : Int)
          ·rw [if_pos c89] at H
           have c89b0 : decide ((ji87) < (x8_2.length : Int)) = true := decide_eq_true c89
           clear c89
           obtain rfl := Option.some.inj H
           obtain ⟨Ao90, co90, eo90⟩ := Kd.R_slice HO_8.out
           subst eo90
           have p299 : 0 ≤ ((ji87) : Int) := of_decide_eq_true (by first | (with_reducible assumption) | assumption)
           have q299 : (ji87) < (x8_2.length : Int) := of_decide_eq_true (by first | (with_reducible assumption) | assumption)
           obtain ⟨ad299, e299, hx299_0⟩ := Kd.at_int (Kd.R_reads' HO_8.out).2.2 (ji87) p299 q299
           cases e299
           replace p299 := eq_true p299
           replace q299 := eq_true q299
           go_wp2
           repeat (go_quiet (fail); try go_wp2)
           go_ret
           exact ⟨by first | rfl | (simp [errW_none, errW_some] <;> rfl) | (simp only [← hji14, ← hji87]; first | rfl | (simp [errW_none, errW_some] <;> rfl)) | (simp [*, errW_none, errW_some] <;> rfl), laB HB.out⟩
          ·rw [if_neg c89] at H
           exact absurd H (by simp)
         ·rw [if_neg c88] at H
          exact absurd H (by simp)
     ·rw [if_neg c16] at H
      exact absurd H (by simp)
    ·rw [if_neg c15] at H
     exact absurd H (by simp)



/-! ### spec_PreLabels: function 46 -/
def spec_PreLabels.l0 : Nat → List (S59) → List Int → Int → Option (List Int)
 | 0, _, _, _ => none
 | k + 1, x0, x3, x4 => if x4 < (x0.length : Int) then ((spec_TreeOk.f k x0).bind fun t317 => (if t317 = true then (if 0 ≤ x4 then (if x3.length < 17592186044416 then (spec_PreLabels.l0 k x0 (x3 ++ [(rd_T59 x0 x4).f0]) (wrap64 (x4 + 1))) else (none)) else (none)) else (some x3))) else (some x3)
def spec_PreLabels.f (k : Nat) (l0 : List (S59)) : Option (List Int) := spec_PreLabels.l0 k l0 (([] : List Int)) 0
theorem spec_PreLabels.mono_l : ∀ k, (∀ y0 y1 y2, LeO (spec_PreLabels.l0 k y0 y1 y2) (spec_PreLabels.l0 (k + 1) y0 y1 y2))
 | 0 => fun _ _ _ r h => by simp [spec_PreLabels.l0] at h
 | k + 1 => by
  have ih0 := spec_PreLabels.mono_l k
  ·intro y0 y1 y2
   unfold spec_PreLabels.l0
   repeat' first
   | (with_reducible exact ih0 _ _ _)
   | (with_reducible exact spec_TreeOk.mono _ _)
   | (with_reducible exact LeO.refl _)
   | (with_reducible exact LeO.none _)
   | (with_reducible refine LeO.ite ?_ ?_)
   | (with_reducible refine LeO.bind ?_ (fun _ => ?_))
   | exact ih0 _ _ _
   | exact spec_TreeOk.mono _ _
   | exact LeO.none _
   | refine LeO.ite ?_ ?_
   | refine LeO.bind ?_ (fun _ => ?_)
theorem spec_PreLabels.mono : ∀ a0 k, LeO (spec_PreLabels.f k a0) (spec_PreLabels.f (k + 1) a0) := by
 intro a0 k
 have ih0 := spec_PreLabels.mono_l k
 unfold spec_PreLabels.f
 repeat' first
   | (with_reducible exact ih0 _ _ _)
   | (with_reducible exact spec_TreeOk.mono _ _)
   | (with_reducible exact LeO.refl _)
   | (with_reducible exact LeO.none _)
   | (with_reducible refine LeO.ite ?_ ?_)
   | (with_reducible refine LeO.bind ?_ (fun _ => ?_))
   | exact ih0 _ _ _
   | exact spec_TreeOk.mono _ _
   | exact LeO.none _
   | refine LeO.ite ?_ ?_
   | refine LeO.bind ?_ (fun _ => ?_)
set_option maxHeartbeats 8000000 in
set_option maxRecDepth 100000 in
theorem spec_PreLabels.calls (k : Nat) (A0 : Option Addr) (c0 : Nat) (l0 : List (S59)) (r : List Int) (w : World) (hr0 : Kd.C k59 w A0 l0.length l0) (hc0 : l0.length ≤ c0) (h : spec_PreLabels.f k l0 = some r) :
  Calls Try.prog 46 #[.slice A0 l0.length c0] w fun e w' => ∃ v0_ : Value, e = .returned (v0_) ∧ Kd.R (Kd.int .i64) 3 w' w.heap.size (fun _ => True) v0_ r ∧ Below w.heap.size w w' := by
 have HR0 := Aside0.mk hr0
 have HC0 := Aside0.mk hc0
 clear hr0 hc0
 have HB := Aside0.mk (Below.refl w.heap.size w)
 have H : (spec_PreLabels.l0 k l0 (([] : List Int)) 0) = some r := h
 clear h
 obtain ⟨y314, hy314⟩ : ∃ y_ : List Int, y_ = (([] : List Int)) := ⟨_, rfl⟩
 replace H : (spec_PreLabels.l0 k l0 y314 0) = some r := by first | (rw [hy314]; with_reducible exact H) | (have H2_ := (Option.bind_some _ _).symm.trans H; rw [hy314]; with_reducible exact H2_) | (have H2_ := (Option.bind_some _ _).symm.trans H; with_reducible exact H2_) | with_reducible exact H | (rw [hy314]; exact H) | exact H
 have Ny314 := Aside0.mk hy314
 clear hy314
 have H' := Aside0.mk H
 clear H
 go_enter Try.func46, Try.ntmps46
 go_wp2_with (first | ((with_reducible refine gate_dst (N := 5) rfl ?_); refine Kd.R_lit (Kd.int .i64) _ 3 ?hg (N := 5) ?hd (xs := ([] : List Int)) (inner := []) (ok := fun _ => True) (okp := fun _ => True) ?hr ?hp (fun _ hk => hk) trivial (Below.refl _ _) (Nat.le_refl _) (by simp) ?_; (case hd => rfl); (case hg => rfl); (case hr => first | (go_simp; done) | (go_simp; rfl)); (case hp => exact (Reps.none _ _)); intro v315 w2 ho3 hb hg_ hnew_; clear hg_ hnew_; (first | rw [← Ny314.out] at ho3 | (simp only [Int.reduceToNat] at ho3; rw [← Ny314.out] at ho3)); have HO316 := Aside0.mk (Kd.R_lower ho3 (below_size (laB HB.out))); replace HB := Aside0.mk (below_step (laB HB.out) hb); clear hb ho3))
 go_loopg [3, 4] k (fun kq v3 v4 w' => ∃ (x3_1 : List Int) (x4_1 : Int), v4 = .int .i64 x4_1 ∧ Aside0 (spec_PreLabels.l0 kq l0 x3_1 x4_1 = some r) ∧ Aside0 (kq ≤ k) ∧ Aside0 (Kd.R (Kd.int .i64) 3 w' w.heap.size (fun _ => True) v3 x3_1) ∧ Aside0 (Below w.heap.size w w'))
 case atStart => exact ⟨(y314), (0), (by first | rfl | (simp; done) | (simp [*]; done)), H', ⟨Nat.le_refl _⟩, ⟨laR HO316.out⟩, ⟨laB HB.out⟩⟩
 case round =>
  clear H'
  try clear p2
  obtain ⟨x3_1, x4_1, rfl, HA, HK1, HO_3, HB⟩ := hrel
  cases gk with
  | zero => exact absurd HA.out (by simp [spec_PreLabels.l0])
  | succ k1 =>
   have H := HA.out
   clear HA
   simp only [spec_PreLabels.l0] at H
   by_cases c4 : x4_1 < (l0.length : Int)
   ·rw [if_pos c4] at H
    have c4b0 : decide (x4_1 < (l0.length : Int)) = true := decide_eq_true c4
    clear c4
    replace H := Option.bind_eq_some_iff.mp H
    obtain ⟨t317, A50, H⟩ := H
    have A5 := Aside0.mk A50
    clear A50
    by_cases c6 : t317 = true
    ·subst c6
     rw [if_pos rfl] at H
     by_cases c7 : 0 ≤ x4_1
     ·rw [if_pos c7] at H
      have c7b0 : decide (0 ≤ x4_1) = true := decide_eq_true c7
      clear c7
      by_cases c8 : x3_1.length < 17592186044416
      ·rw [if_pos c8] at H
       have LMc8 := Aside0.mk c8
       clear c8
       obtain ⟨y319, hy319⟩ : ∃ y_ : List Int, y_ = (x3_1 ++ [(rd_T59 l0 x4_1).f0]) := ⟨_, rfl⟩
       replace H : (spec_PreLabels.l0 k1 l0 y319 (wrap64 (x4_1 + 1))) = some r := by first | (rw [hy319]; with_reducible exact H) | (have H2_ := (Option.bind_some _ _).symm.trans H; rw [hy319]; with_reducible exact H2_) | (have H2_ := (Option.bind_some _ _).symm.trans H; with_reducible exact H2_) | with_reducible exact H | (rw [hy319]; exact H) | exact H
       have Ny319 := Aside0.mk hy319
       clear hy319
       have H' := Aside0.mk H
       clear H
       go_wp2_with (first | (go_at_call 56; (with_reducible refine (spec_TreeOk.calls k1 _ _ l0 true _ ?side1 ?side2 A5.out).mono ?_); (case side1 => exact laC (Kd.C_below HR0.out HB.out)); (case side2 => exact HC0.out); rintro e w9 ⟨rfl, hb⟩; replace HO_3 := Aside0.mk (laRb HO_3.out hb); replace HB := Aside0.mk (below_step (laB HB.out) hb); (try clear hb); (try clear hb2); (try clear hk); (try clear hi); have p318 : 0 ≤ (x4_1 : Int) := of_decide_eq_true (by first | (with_reducible assumption) | assumption); have q318 : x4_1 < (l0.length : Int) := of_decide_eq_true (by first | (with_reducible assumption) | assumption); obtain ⟨ad318, e318, hx318_0, hx318_1⟩ := at_T59 HR0.out x4_1 p318 q318; cases e318; replace hx318_0 := (HB.out.cell (World.block_lt_of_cell? w _ hx318_0)).trans hx318_0; replace hx318_1 := (HB.out.cell (World.block_lt_of_cell? w _ hx318_1)).trans hx318_1; replace p318 := eq_true p318; replace q318 := eq_true q318) | ((with_reducible refine gate_builtin (b := .append) (xs := #[.tmp 16, .tmp 22]) rfl ?_); at_builtin; refine Kd.R_append (Kd.int .i64) (w0 := w) w.heap.size rfl (.tmp 16) (.tmp 22) 24 3 (.int .i64 0) 8 rfl Try.underlying24 info3 rfl (by decide) (by omega) u3 x3_1 ((rd_T59 l0 x4_1).f0) [.int .i64 ((rd_T59 l0 x4_1).f0)] (fun _ => True) (fun _ => False) rfl rfl ?aP (fun _ hk => hk.elim) ?aF ?aO ?aB ?aS ?aL ?_; (case aP => exact rfl); (case aB => exact (laB HB.out)); (case aF => exact (fun _ _ => trivial)); (case aO => exact (laR HO_3.out)); (case aS => exact (below_size (laB HB.out))); (case aL => have := LMc8.out; omega); intro v320 w10 ho hb hg hat; rw [← Ny319.out] at ho; have n0_ := Aside0.mk (hb); have n1_ := Aside0.mk (ho); clear HB; clear HO_3; have HB := n0_; have HO321 := n1_; clear n0_ n1_; clear ho hb hg hat))
       go_roundg k1
       case measure => have := HK1.out; omega
       case rel => exact ⟨(y319), (wrap64 (x4_1 + 1)), (by first | rfl | (simp; done) | (simp [*]; done)), H', ⟨by have := HK1.out; omega⟩, ⟨laR HO321.out⟩, ⟨laB HB.out⟩⟩
      ·rw [if_neg c8] at H
       exact absurd H (by simp)
     ·rw [if_neg c7] at H
      exact absurd H (by simp)
    ·replace c6 := Bool.eq_false_iff.mpr c6
     subst c6
     rw [if_neg (show ¬ (false = true) by decide)] at H
     obtain rfl := Option.some.inj H
     go_wp2_with (first | (go_at_call 56; (with_reducible refine (spec_TreeOk.calls k1 _ _ l0 false _ ?side1 ?side2 A5.out).mono ?_); (case side1 => exact laC (Kd.C_below HR0.out HB.out)); (case side2 => exact HC0.out); rintro e w11 ⟨rfl, hb⟩; replace HO_3 := Aside0.mk (laRb HO_3.out hb); replace HB := Aside0.mk (below_step (laB HB.out) hb); (try clear hb); (try clear hb2); (try clear hk); (try clear hi)))
     go_ret
     exact ⟨_, by first | rfl | (simp [errW_none, errW_some] <;> rfl) | (simp [*, errW_none, errW_some] <;> rfl), by (with_reducible repeat (first | apply Kd.R_alloc | apply Kd.R_drewN | apply Kd.R_drew)); exact HO_3.out, laB HB.out⟩
   ·rw [if_neg c4] at H
    have c4b0 : decide (x4_1 < (l0.length : Int)) = false := decide_eq_false c4
    clear c4
    obtain rfl := Option.some.inj H
    go_wp2
    go_ret
    exact ⟨_, by first | rfl | (simp [errW_none, errW_some] <;> rfl) | (simp [*, errW_none, errW_some] <;> rfl), by (with_reducible repeat (first | apply Kd.R_alloc | apply Kd.R_drewN | apply Kd.R_drew)); exact HO_3.out, laB HB.out⟩



/-! ### spec_LowerBound: function 19 -/
def spec_LowerBound.f (k : Nat) (l0 : List (S59)) (l1 : List (S59)) (l2_0 : List Int) (l2_1 : List Int) (l2_2 : List Int) : Option (Int) := (spec_l8Three.f k l0 l1 l2_0 l2_1 l2_2).bind fun t323 => (if t323 = true then ((spec_PreLabels.f k l0).bind fun t324 => ((spec_PreLabels.f k l1).bind fun t327 => ((spec_StrDist.f k t324 t327 l2_0 l2_1 l2_2).bind fun t330 => ((spec_PostLabels.f k l0).bind fun t331 => ((spec_PostLabels.f k l1).bind fun t334 => ((spec_StrDist.f k t331 t334 l2_0 l2_1 l2_2).bind fun t337 => (some (mx t330 t337)))))))) else (some (-1)))
theorem spec_LowerBound.mono : ∀ a0 a1 a2 a3 a4 k, LeO (spec_LowerBound.f k a0 a1 a2 a3 a4) (spec_LowerBound.f (k + 1) a0 a1 a2 a3 a4) := by
 intro a0 a1 a2 a3 a4 k
 unfold spec_LowerBound.f
 repeat' first
   | (with_reducible exact spec_PostLabels.mono _ _)
   | (with_reducible exact spec_PreLabels.mono _ _)
   | (with_reducible exact spec_StrDist.mono _ _ _ _ _ _)
   | (with_reducible exact spec_l8Three.mono _ _ _ _ _ _)
   | (with_reducible exact LeO.refl _)
   | (with_reducible exact LeO.none _)
   | (with_reducible refine LeO.ite ?_ ?_)
   | (with_reducible refine LeO.bind ?_ (fun _ => ?_))
   | exact spec_PostLabels.mono _ _
   | exact spec_PreLabels.mono _ _
   | exact spec_StrDist.mono _ _ _ _ _ _
   | exact spec_l8Three.mono _ _ _ _ _ _
   | exact LeO.none _
   | refine LeO.ite ?_ ?_
   | refine LeO.bind ?_ (fun _ => ?_)
def spec_LowerBound.T3 : Bool × List (List Nat × List Nat) := (true, [([], []), ([0], [0]), ([], []), ([2, 1], [2]), ([], []), ([1, 3, 4, 3], [1, 3, 4]), ([], []), ([6, 5], [6]), ([], []), ([8, 7], [8]), ([], []), ([7, 9, 10, 9], [7, 9, 10]), ([5, 11], [5, 11]), ([12, 11, 0, 1, 2, 3, 4, 5, 6, 7, 8, 9, 10, 11, 12], [12])])
def spec_LowerBound.B3 : List Nat := [0, 1, 0, 7, 0, 31, 0, 127, 0, 511, 0, 2047, 4095, 8191]
theorem spec_LowerBound.tab3 : rtab .any (opsOf Try.f19 3) = spec_LowerBound.T3 := by kernel_rfl
theorem spec_LowerBound.bits3 : waitsOk spec_LowerBound.T3.2 spec_LowerBound.B3 = true := by kernel_rfl
set_option maxHeartbeats 8000000 in
set_option maxRecDepth 100000 in
theorem spec_LowerBound.calls (k : Nat) (A0 : Option Addr) (c0 : Nat) (l0 : List (S59)) (A1 : Option Addr) (c1 : Nat) (l1 : List (S59)) (A2_0 : Option Addr) (c2_0 : Nat) (l2_0 : List Int) (A2_1 : Option Addr) (c2_1 : Nat) (l2_1 : List Int) (A2_2 : Option Addr) (c2_2 : Nat) (l2_2 : List Int) (r : Int) (w : World) (hr0 : Kd.C k59 w A0 l0.length l0) (hc0 : l0.length ≤ c0) (hr1 : Kd.C k59 w A1 l1.length l1) (hc1 : l1.length ≤ c1) (hr2_0 : Kd.C (Kd.int .i64) w A2_0 l2_0.length l2_0) (hc2_0 : l2_0.length ≤ c2_0) (hr2_1 : Kd.C (Kd.int .i64) w A2_1 l2_1.length l2_1) (hc2_1 : l2_1.length ≤ c2_1) (hr2_2 : Kd.C (Kd.int .i64) w A2_2 l2_2.length l2_2) (hc2_2 : l2_2.length ≤ c2_2) (h : spec_LowerBound.f k l0 l1 l2_0 l2_1 l2_2 = some r) :
  Calls Try.prog 19 #[.slice A0 l0.length c0, .slice A1 l1.length c1, .agg #[.slice A2_0 l2_0.length c2_0, .slice A2_1 l2_1.length c2_1, .slice A2_2 l2_2.length c2_2]] w fun e w' => e = .returned (.int .i64 r) ∧ Below w.heap.size w w' := by
 have hu37 := Try.underlying37
 have HR0 := Aside0.mk hr0
 have HC0 := Aside0.mk hc0
 clear hr0 hc0
 have HR1 := Aside0.mk hr1
 have HC1 := Aside0.mk hc1
 clear hr1 hc1
 have HR2_0 := Aside0.mk hr2_0
 have HC2_0 := Aside0.mk hc2_0
 clear hr2_0 hc2_0
 have HR2_1 := Aside0.mk hr2_1
 have HC2_1 := Aside0.mk hc2_1
 clear hr2_1 hc2_1
 have HR2_2 := Aside0.mk hr2_2
 have HC2_2 := Aside0.mk hc2_2
 clear hr2_2 hc2_2
 have HB := Aside0.mk (Below.refl w.heap.size w)
 have H : ((spec_l8Three.f k l0 l1 l2_0 l2_1 l2_2).bind fun t323 => (if t323 = true then ((spec_PreLabels.f k l0).bind fun t324 => ((spec_PreLabels.f k l1).bind fun t327 => ((spec_StrDist.f k t324 t327 l2_0 l2_1 l2_2).bind fun t330 => ((spec_PostLabels.f k l0).bind fun t331 => ((spec_PostLabels.f k l1).bind fun t334 => ((spec_StrDist.f k t331 t334 l2_0 l2_1 l2_2).bind fun t337 => (some (mx t330 t337)))))))) else (some (-1)))) = some r := h
 clear h
 replace H := Option.bind_eq_some_iff.mp H
 obtain ⟨t323, A40, H⟩ := H
 have A4 := Aside0.mk A40
 clear A40
 by_cases c5 : t323 = true
 ·subst c5
  rw [if_pos rfl] at H
  replace H := Option.bind_eq_some_iff.mp H
  obtain ⟨t324, A60, H⟩ := H
  have A6 := Aside0.mk A60
  clear A60
  replace H := Option.bind_eq_some_iff.mp H
  obtain ⟨t327, A70, H⟩ := H
  have A7 := Aside0.mk A70
  clear A70
  replace H := Option.bind_eq_some_iff.mp H
  obtain ⟨t330, A80, H⟩ := H
  have A8 := Aside0.mk A80
  clear A80
  replace H := Option.bind_eq_some_iff.mp H
  obtain ⟨t331, A90, H⟩ := H
  have A9 := Aside0.mk A90
  clear A90
  replace H := Option.bind_eq_some_iff.mp H
  obtain ⟨t334, A100, H⟩ := H
  have A10 := Aside0.mk A100
  clear A100
  replace H := Option.bind_eq_some_iff.mp H
  obtain ⟨t337, A110, H⟩ := H
  have A11 := Aside0.mk A110
  clear A110
  obtain ⟨ji12, hji12⟩ : ∃ j_ : Int, (mx t330 t337) = j_ := ⟨_, rfl⟩
  replace H : (some ji12) = some r := by first | (rw [hji12] at H; exact H) | (simp only [hji12] at H ⊢; exact H)
  (try rw [hji12] at A4)
  (try rw [hji12] at A6)
  (try rw [hji12] at A7)
  (try rw [hji12] at A8)
  (try rw [hji12] at A9)
  (try rw [hji12] at A10)
  (try rw [hji12] at A11)
  have hji12_ : (if t330 < t337 then t337 else t330) = ji12 := hji12
  obtain rfl := Option.some.inj H
  go_enter Try.func19, Try.ntmps19
  try go_wp2_with (first | ((with_reducible refine gate_dst (N := 5) rfl ?_); refine box_event ?hg (N := 5) ?hd (cs := #[.slice A2_0 l2_0.length c2_0, .slice A2_1 l2_1.length c2_1, .slice A2_2 l2_2.length c2_2]) (t := 37) ?hr ?_; (case hd => rfl); (case hg => rfl); (case hr => first | (go_simp; done) | (go_simp; rfl)); intro gb322 hg w13 hbox hb; have BK322 := Aside0.mk (hbox); have GW322 := Aside0.mk ((by rw [hg]; exact (below_size (laB HB.out)) : w.heap.size ≤ gb322)); have GE322 := Aside0.mk ((by rw [hg]; exact (below_size (laB HB.out)) : w.heap.size ≤ gb322)); have ge322_ := Nonempty.intro GE322.out; replace HB := Aside0.mk (below_step (laB HB.out) hb); clear hb hbox hg; have hcz14_0 : w13.cell? ⟨gb322, 0, none⟩ = some (.slice A2_0 l2_0.length c2_0) := (blk_cell BK322.out 0).trans rfl; have hcz14_1 : w13.cell? ⟨gb322, 1, none⟩ = some (.slice A2_1 l2_1.length c2_1) := (blk_cell BK322.out 1).trans rfl; have hcz14_2 : w13.cell? ⟨gb322, 2, none⟩ = some (.slice A2_2 l2_2.length c2_2) := (blk_cell BK322.out 2).trans rfl; have hfz14_0 := blk_frozen BK322.out 0; have hfz14_1 := blk_frozen BK322.out 1; have hfz14_2 := blk_frozen BK322.out 2) | ((with_reducible refine gate_callee (f := 44) rfl ?_); refine goesL_ (some 10) rfl rfl Try.func44 (by kernel_rfl) rfl #[.slice A0 l0.length c0, .slice A1 l1.length c1, .agg #[.slice A2_0 l2_0.length c2_0, .slice A2_1 l2_1.length c2_1, .slice A2_2 l2_2.length c2_2]] rfl (by (try simp only [List.map_toArray, List.map_cons, List.map_nil]); first | done | rfl | (simp only [List.length_drop, List.length_take]; rfl)) ?_; (with_reducible refine (spec_l8Three.calls k _ _ l0 _ _ l1 _ _ l2_0 _ _ l2_1 _ _ l2_2 true _ ?side1 ?side2 ?side3 ?side4 ?side5 ?side6 ?side7 ?side8 ?side9 ?side10 A4.out).mono ?_); (case side1 => exact laC (Kd.C_below HR0.out HB.out)); (case side2 => exact HC0.out); (case side3 => exact laC (Kd.C_below HR1.out HB.out)); (case side4 => exact HC1.out); (case side5 => exact laC (Kd.C_below HR2_0.out HB.out)); (case side6 => exact HC2_0.out); (case side7 => exact laC (Kd.C_below HR2_1.out HB.out)); (case side8 => exact HC2_1.out); (case side9 => exact laC (Kd.C_below HR2_2.out HB.out)); (case side10 => exact HC2_2.out); rintro e w15 ⟨rfl, hb⟩; refine ⟨_, rfl, ?_⟩; replace BK322 := Aside0.mk (laKb BK322.out hb); replace HB := Aside0.mk (below_step (laB HB.out) hb); (try clear hb); (try clear hb2); (try clear hk); (try clear hi)))
  replace BK322 := Aside0.mk (blk_drew BK322.out)
  replace HB := Aside0.mk (below_drew1 HB.out)
  refine start_ (n := 14) (S := fun w' => w'.cell? ⟨gb322, 0, none⟩ = some (.slice A2_0 l2_0.length c2_0) ∧ w'.cell? ⟨gb322, 1, none⟩ = some (.slice A2_1 l2_1.length c2_1) ∧ w'.cell? ⟨gb322, 2, none⟩ = some (.slice A2_2 l2_2.length c2_2)) (ds := []) #[false, false, false, false, false, false, false, false, false, false, false, false, false, false] (by kernel_rfl) rfl rfl ⟨(blk_cell BK322.out 0).trans rfl, (blk_cell BK322.out 1).trans rfl, (blk_cell BK322.out 2).trans rfl⟩ (fun hHeld => ?_); refine with_tabW spec_LowerBound.tab3 spec_LowerBound.bits3 (fun HT_ HW_ => ?_)
  generalize w15.drew = w16 at BK322 HB hHeld ⊢
  refine pure_ (i := 0) (N := some 12) (v := ?_) (a' := ?_) #[true, false, false, false, false, false, false, false, false, false, false, false, false, false] rfl rfl (any_of HT_.out (by kernel_rfl)) (fun _ _ _ h => h) (Or.inl ⟨by rfl, ?_⟩) ?_ ?_
  rotate_left
  ·intro w'
   go_simp
   with_reducible rfl
  rotate_left
  ·simp only [Act.put, List.setIfInBounds_toArray, List.set_cons_zero, List.set_cons_succ, i64_w, i32_w]
   rfl
  refine pure_ (i := 2) (N := some 14) (v := ?_) (a' := ?_) #[true, false, true, false, false, false, false, false, false, false, false, false, false, false] rfl rfl (any_of HT_.out (by kernel_rfl)) (fun _ _ _ h => h) (Or.inl ⟨by rfl, ?_⟩) ?_ ?_
  rotate_left
  ·intro w'
   go_simp
   with_reducible rfl
  rotate_left
  ·simp only [Act.put, List.setIfInBounds_toArray, List.set_cons_zero, List.set_cons_succ, i64_w, i32_w]
   rfl
  refine pure_ (i := 6) (N := some 18) (v := ?_) (a' := ?_) #[true, false, true, false, false, false, true, false, false, false, false, false, false, false] rfl rfl (any_of HT_.out (by kernel_rfl)) (fun _ _ _ h => h) (Or.inl ⟨by rfl, ?_⟩) ?_ ?_
  rotate_left
  ·intro w'
   go_simp
   with_reducible rfl
  rotate_left
  ·simp only [Act.put, List.setIfInBounds_toArray, List.set_cons_zero, List.set_cons_succ, i64_w, i32_w]
   rfl
  refine pure_ (i := 8) (N := some 20) (v := ?_) (a' := ?_) #[true, false, true, false, false, false, true, false, true, false, false, false, false, false] rfl rfl (any_of HT_.out (by kernel_rfl)) (fun _ _ _ h => h) (Or.inl ⟨by rfl, ?_⟩) ?_ ?_
  rotate_left
  ·intro w'
   go_simp
   with_reducible rfl
  rotate_left
  ·simp only [Act.put, List.setIfInBounds_toArray, List.set_cons_zero, List.set_cons_succ, i64_w, i32_w]
   rfl
  refine take_ (i := 4) (N := some 16) (v := ?_) (a' := ?_) #[true, false, true, false, true, false, true, false, true, false, false, false, false, false] rfl rfl (take_ofW HT_.out HW_.out (by kernel_rfl)) (fun _ _ _ h => h) (Or.inl ⟨by rfl, ?_⟩) hHeld ?_ ?_
  rotate_left
  ·rintro w' ⟨s0, s1, s2⟩
   go_simp
   with_reducible rfl
  rotate_left
  ·simp only [Act.put, List.setIfInBounds_toArray, List.set_cons_zero, List.set_cons_succ, i64_w, i32_w]
   rfl
  refine take_ (i := 10) (N := some 22) (v := ?_) (a' := ?_) #[true, false, true, false, true, false, true, false, true, false, true, false, false, false] rfl rfl (take_ofW HT_.out HW_.out (by kernel_rfl)) (fun _ _ _ h => h) (Or.inl ⟨by rfl, ?_⟩) hHeld ?_ ?_
  rotate_left
  ·rintro w' ⟨s0, s1, s2⟩
   go_simp
   with_reducible rfl
  rotate_left
  ·simp only [Act.put, List.setIfInBounds_toArray, List.set_cons_zero, List.set_cons_succ, i64_w, i32_w]
   rfl
  refine one_ (i := 1) (N := some 13) #[true, true, true, false, true, false, true, false, true, false, true, false, false, false] rfl rfl (one_of HT_.out (by kernel_rfl)) (by decide) (fun K hK => ?_)
  refine goes_ Try.func46 (by kernel_rfl) rfl #[.slice A0 l0.length c0] (by rfl) rfl rfl (by (try simp only [List.map_toArray, List.map_cons, List.map_nil]); first | done | rfl | (simp only [List.length_drop, List.length_take]; rfl)) ?_
  with_reducible refine (spec_PreLabels.calls k _ _ l0 t324 _ ?side1 ?side2 A6.out).mono ?_
  (case side1 => exact laC (Kd.C_below HR0.out HB.out))
  (case side2 => exact HC0.out)
  rintro e w17 ⟨v325, rfl, ho0, hb⟩
  refine ⟨_, rfl, ?_⟩
  have HO326 := Aside0.mk (Kd.R_lower ho0 (below_size (laB HB.out)))
  replace BK322 := Aside0.mk (laKb BK322.out hb)
  replace HB := Aside0.mk (below_step (laB HB.out) hb)
  (try clear hb)
  (try clear hb2)
  (try clear hk)
  (try clear hi)
  (try clear ho0)
  refine hK.out _ _ ⟨(blk_cell BK322.out 0).trans rfl, (blk_cell BK322.out 1).trans rfl, (blk_cell BK322.out 2).trans rfl⟩ (fun hHeld => ?_)
  clear hK K
  refine norm_ (a' := ?_) ?_ ?_
  rotate_left
  ·show Act.put _ (some 13) _ = _
   simp only [Act.put, List.setIfInBounds_toArray, List.set_cons_zero, List.set_cons_succ, i64_w, i32_w]
   rfl
  refine one_ (i := 3) (N := some 15) #[true, true, true, true, true, false, true, false, true, false, true, false, false, false] rfl rfl (one_of HT_.out (by kernel_rfl)) (by decide) (fun K hK => ?_)
  refine goes_ Try.func46 (by kernel_rfl) rfl #[.slice A1 l1.length c1] (by rfl) rfl rfl (by (try simp only [List.map_toArray, List.map_cons, List.map_nil]); first | done | rfl | (simp only [List.length_drop, List.length_take]; rfl)) ?_
  with_reducible refine (spec_PreLabels.calls k _ _ l1 t327 _ ?side1 ?side2 A7.out).mono ?_
  (case side1 => exact laC (Kd.C_below HR1.out HB.out))
  (case side2 => exact HC1.out)
  rintro e w18 ⟨v328, rfl, ho0, hb⟩
  refine ⟨_, rfl, ?_⟩
  have HO329 := Aside0.mk (Kd.R_lower (Kd.R_new' ho0 (Kd.R_lt (laR HO326.out))) (below_size (laB HB.out)))
  replace HO326 := Aside0.mk (Kd.R_elder' (laR HO326.out) (Kd.R_base ho0) hb)
  replace BK322 := Aside0.mk (laKb BK322.out hb)
  replace HB := Aside0.mk (below_step (laB HB.out) hb)
  (try clear hb)
  (try clear hb2)
  (try clear hk)
  (try clear hi)
  (try clear ho0)
  obtain ⟨Ao19, co19, eo19⟩ := Kd.R_slice HO326.out
  (first | subst eo19 | (injection eo19 with f1_ f2_ f3_; have f4_ := f1_.symm; have f5_ := f3_.symm; clear f1_ f2_ f3_; subst f4_; subst f5_))
  obtain ⟨Ao20, co20, eo20⟩ := Kd.R_slice HO329.out
  (first | subst eo20 | (injection eo20 with f1_ f2_ f3_; have f4_ := f1_.symm; have f5_ := f3_.symm; clear f1_ f2_ f3_; subst f4_; subst f5_))
  refine hK.out _ _ ⟨(blk_cell BK322.out 0).trans rfl, (blk_cell BK322.out 1).trans rfl, (blk_cell BK322.out 2).trans rfl⟩ (fun hHeld => ?_)
  clear hK K
  refine norm_ (a' := ?_) ?_ ?_
  rotate_left
  ·show Act.put _ (some 15) _ = _
   simp only [Act.put, List.setIfInBounds_toArray, List.set_cons_zero, List.set_cons_succ, i64_w, i32_w]
   rfl
  refine one_ (i := 5) (N := some 17) #[true, true, true, true, true, true, true, false, true, false, true, false, false, false] rfl rfl (one_of HT_.out (by kernel_rfl)) (by decide) (fun K hK => ?_)
  refine goes_ Try.func45 (by kernel_rfl) rfl #[.slice Ao19 t324.length co19, .slice Ao20 t327.length co20, .agg #[.slice A2_0 l2_0.length c2_0, .slice A2_1 l2_1.length c2_1, .slice A2_2 l2_2.length c2_2]] (by rfl) rfl rfl (by (try simp only [List.map_toArray, List.map_cons, List.map_nil]); first | done | rfl | (simp only [List.length_drop, List.length_take]; rfl)) ?_
  with_reducible refine (spec_StrDist.calls k _ _ t324 _ _ t327 _ _ l2_0 _ _ l2_1 _ _ l2_2 t330 _ ?side1 ?side2 ?side3 ?side4 ?side5 ?side6 ?side7 ?side8 ?side9 ?side10 A8.out).mono ?_
  (case side1 => exact laC (Kd.R_reads' HO326.out).2.2)
  (case side2 => exact (Kd.R_reads' HO326.out).2.1)
  (case side3 => exact laC (Kd.R_reads' HO329.out).2.2)
  (case side4 => exact (Kd.R_reads' HO329.out).2.1)
  (case side5 => exact laC (Kd.C_below HR2_0.out HB.out))
  (case side6 => exact HC2_0.out)
  (case side7 => exact laC (Kd.C_below HR2_1.out HB.out))
  (case side8 => exact HC2_1.out)
  (case side9 => exact laC (Kd.C_below HR2_2.out HB.out))
  (case side10 => exact HC2_2.out)
  rintro e w21 ⟨rfl, hb⟩
  refine ⟨_, rfl, ?_⟩
  replace HO326 := Aside0.mk (laRb HO326.out hb)
  replace HO329 := Aside0.mk (laRb HO329.out hb)
  replace BK322 := Aside0.mk (laKb BK322.out hb)
  replace HB := Aside0.mk (below_step (laB HB.out) hb)
  (try clear hb)
  (try clear hb2)
  (try clear hk)
  (try clear hi)
  refine hK.out _ _ ⟨(blk_cell BK322.out 0).trans rfl, (blk_cell BK322.out 1).trans rfl, (blk_cell BK322.out 2).trans rfl⟩ (fun hHeld => ?_)
  clear hK K
  refine norm_ (a' := ?_) ?_ ?_
  rotate_left
  ·show Act.put _ (some 17) _ = _
   simp only [Act.put, List.setIfInBounds_toArray, List.set_cons_zero, List.set_cons_succ, i64_w, i32_w]
   rfl
  refine one_ (i := 7) (N := some 19) #[true, true, true, true, true, true, true, true, true, false, true, false, false, false] rfl rfl (one_of HT_.out (by kernel_rfl)) (by decide) (fun K hK => ?_)
  refine goes_ Try.func10 (by kernel_rfl) rfl #[.slice A0 l0.length c0] (by rfl) rfl rfl (by (try simp only [List.map_toArray, List.map_cons, List.map_nil]); first | done | rfl | (simp only [List.length_drop, List.length_take]; rfl)) ?_
  with_reducible refine (spec_PostLabels.calls k _ _ l0 t331 _ ?side1 ?side2 A9.out).mono ?_
  (case side1 => exact laC (Kd.C_below HR0.out HB.out))
  (case side2 => exact HC0.out)
  rintro e w22 ⟨v332, rfl, ho0, hb⟩
  refine ⟨_, rfl, ?_⟩
  have HO333 := Aside0.mk (Kd.R_lower (Kd.R_new' (Kd.R_new' ho0 (Kd.R_lt (laR HO326.out))) (Kd.R_lt (laR HO329.out))) (below_size (laB HB.out)))
  replace HO326 := Aside0.mk (Kd.R_elder' (laR HO326.out) (Kd.R_base ho0) hb)
  replace HO329 := Aside0.mk (Kd.R_elder' (laR HO329.out) (Kd.R_base ho0) hb)
  replace BK322 := Aside0.mk (laKb BK322.out hb)
  replace HB := Aside0.mk (below_step (laB HB.out) hb)
  (try clear hb)
  (try clear hb2)
  (try clear hk)
  (try clear hi)
  (try clear ho0)
  refine hK.out _ _ ⟨(blk_cell BK322.out 0).trans rfl, (blk_cell BK322.out 1).trans rfl, (blk_cell BK322.out 2).trans rfl⟩ (fun hHeld => ?_)
  clear hK K
  refine norm_ (a' := ?_) ?_ ?_
  rotate_left
  ·show Act.put _ (some 19) _ = _
   simp only [Act.put, List.setIfInBounds_toArray, List.set_cons_zero, List.set_cons_succ, i64_w, i32_w]
   rfl
  refine one_ (i := 9) (N := some 21) #[true, true, true, true, true, true, true, true, true, true, true, false, false, false] rfl rfl (one_of HT_.out (by kernel_rfl)) (by decide) (fun K hK => ?_)
  refine goes_ Try.func10 (by kernel_rfl) rfl #[.slice A1 l1.length c1] (by rfl) rfl rfl (by (try simp only [List.map_toArray, List.map_cons, List.map_nil]); first | done | rfl | (simp only [List.length_drop, List.length_take]; rfl)) ?_
  with_reducible refine (spec_PostLabels.calls k _ _ l1 t334 _ ?side1 ?side2 A10.out).mono ?_
  (case side1 => exact laC (Kd.C_below HR1.out HB.out))
  (case side2 => exact HC1.out)
  rintro e w23 ⟨v335, rfl, ho0, hb⟩
  refine ⟨_, rfl, ?_⟩
  have HO336 := Aside0.mk (Kd.R_lower (Kd.R_new' (Kd.R_new' (Kd.R_new' ho0 (Kd.R_lt (laR HO326.out))) (Kd.R_lt (laR HO329.out))) (Kd.R_lt (laR HO333.out))) (below_size (laB HB.out)))
  replace HO326 := Aside0.mk (Kd.R_elder' (laR HO326.out) (Kd.R_base ho0) hb)
  replace HO329 := Aside0.mk (Kd.R_elder' (laR HO329.out) (Kd.R_base ho0) hb)
  replace HO333 := Aside0.mk (Kd.R_elder' (laR HO333.out) (Kd.R_base ho0) hb)
  replace BK322 := Aside0.mk (laKb BK322.out hb)
  replace HB := Aside0.mk (below_step (laB HB.out) hb)
  (try clear hb)
  (try clear hb2)
  (try clear hk)
  (try clear hi)
  (try clear ho0)
  obtain ⟨Ao24, co24, eo24⟩ := Kd.R_slice HO333.out
  (first | subst eo24 | (injection eo24 with f1_ f2_ f3_; have f4_ := f1_.symm; have f5_ := f3_.symm; clear f1_ f2_ f3_; subst f4_; subst f5_))
  obtain ⟨Ao25, co25, eo25⟩ := Kd.R_slice HO336.out
  (first | subst eo25 | (injection eo25 with f1_ f2_ f3_; have f4_ := f1_.symm; have f5_ := f3_.symm; clear f1_ f2_ f3_; subst f4_; subst f5_))
  refine hK.out _ _ ⟨(blk_cell BK322.out 0).trans rfl, (blk_cell BK322.out 1).trans rfl, (blk_cell BK322.out 2).trans rfl⟩ (fun hHeld => ?_)
  clear hK K
  refine norm_ (a' := ?_) ?_ ?_
  rotate_left
  ·show Act.put _ (some 21) _ = _
   simp only [Act.put, List.setIfInBounds_toArray, List.set_cons_zero, List.set_cons_succ, i64_w, i32_w]
   rfl
  refine one_ (i := 11) (N := some 23) #[true, true, true, true, true, true, true, true, true, true, true, true, false, false] rfl rfl (one_of HT_.out (by kernel_rfl)) (by decide) (fun K hK => ?_)
  refine goes_ Try.func45 (by kernel_rfl) rfl #[.slice Ao24 t331.length co24, .slice Ao25 t334.length co25, .agg #[.slice A2_0 l2_0.length c2_0, .slice A2_1 l2_1.length c2_1, .slice A2_2 l2_2.length c2_2]] (by rfl) rfl rfl (by (try simp only [List.map_toArray, List.map_cons, List.map_nil]); first | done | rfl | (simp only [List.length_drop, List.length_take]; rfl)) ?_
  with_reducible refine (spec_StrDist.calls k _ _ t331 _ _ t334 _ _ l2_0 _ _ l2_1 _ _ l2_2 t337 _ ?side1 ?side2 ?side3 ?side4 ?side5 ?side6 ?side7 ?side8 ?side9 ?side10 A11.out).mono ?_
  (case side1 => exact laC (Kd.R_reads' HO333.out).2.2)
  (case side2 => exact (Kd.R_reads' HO333.out).2.1)
  (case side3 => exact laC (Kd.R_reads' HO336.out).2.2)
  (case side4 => exact (Kd.R_reads' HO336.out).2.1)
  (case side5 => exact laC (Kd.C_below HR2_0.out HB.out))
  (case side6 => exact HC2_0.out)
  (case side7 => exact laC (Kd.C_below HR2_1.out HB.out))
  (case side8 => exact HC2_1.out)
  (case side9 => exact laC (Kd.C_below HR2_2.out HB.out))
  (case side10 => exact HC2_2.out)
  rintro e w26 ⟨rfl, hb⟩
  refine ⟨_, rfl, ?_⟩
  replace HO326 := Aside0.mk (laRb HO326.out hb)
  replace HO329 := Aside0.mk (laRb HO329.out hb)
  replace HO333 := Aside0.mk (laRb HO333.out hb)
  replace HO336 := Aside0.mk (laRb HO336.out hb)
  replace BK322 := Aside0.mk (laKb BK322.out hb)
  replace HB := Aside0.mk (below_step (laB HB.out) hb)
  (try clear hb)
  (try clear hb2)
  (try clear hk)
  (try clear hi)
  refine hK.out _ _ ⟨(blk_cell BK322.out 0).trans rfl, (blk_cell BK322.out 1).trans rfl, (blk_cell BK322.out 2).trans rfl⟩ (fun hHeld => ?_)
  clear hK K
  refine norm_ (a' := ?_) ?_ ?_
  rotate_left
  ·show Act.put _ (some 23) _ = _
   simp only [Act.put, List.setIfInBounds_toArray, List.set_cons_zero, List.set_cons_succ, i64_w, i32_w]
   rfl
  refine pure_ (i := 12) (N := some 24) (v := ?_) (a' := ?_) #[true, true, true, true, true, true, true, true, true, true, true, true, true, false] rfl rfl (any_of HT_.out (by kernel_rfl)) (fun _ _ _ h => h) (Or.inl ⟨by rfl, ?_⟩) ?_ ?_
  rotate_left
  ·intro w'
   go_simp
   with_reducible rfl
  rotate_left
  ·simp only [Act.put, List.setIfInBounds_toArray, List.set_cons_zero, List.set_cons_succ, i64_w, i32_w]
   rfl
  refine pure_ (i := 13) (N := some 6) (v := ?_) (a' := ?_) #[true, true, true, true, true, true, true, true, true, true, true, true, true, true] rfl rfl (any_of HT_.out (by kernel_rfl)) (fun _ _ _ h => h) (Or.inl ⟨by rfl, ?_⟩) ?_ ?_
  rotate_left
  ·intro w'
   go_simp
   with_reducible rfl
  rotate_left
  ·simp only [Act.put, List.setIfInBounds_toArray, List.set_cons_zero, List.set_cons_succ, i64_w, i32_w]
   rfl
  refine done_ (done_of HT_.out (by kernel_rfl)) ?_
  try go_wp2
  go_ret
  exact ⟨by first | rfl | (simp [errW_none, errW_some] <;> rfl) | (simp only [← hji12]; first | rfl | (simp [errW_none, errW_some] <;> rfl)) | (simp [*, errW_none, errW_some] <;> rfl), laB HB.out⟩
 ·replace c5 := Bool.eq_false_iff.mpr c5
  subst c5
  rw [if_neg (show ¬ (false = true) by decide)] at H
  obtain rfl := Option.some.inj H
  go_enter Try.func19, Try.ntmps19
  go_wp2_with (first | ((with_reducible refine gate_dst (N := 5) rfl ?_); refine box_event ?hg (N := 5) ?hd (cs := #[.slice A2_0 l2_0.length c2_0, .slice A2_1 l2_1.length c2_1, .slice A2_2 l2_2.length c2_2]) (t := 37) ?hr ?_; (case hd => rfl); (case hg => rfl); (case hr => first | (go_simp; done) | (go_simp; rfl)); intro gb322 hg w27 hbox hb; have BK322 := Aside0.mk (hbox); have GW322 := Aside0.mk ((by rw [hg]; exact (below_size (laB HB.out)) : w.heap.size ≤ gb322)); have GE322 := Aside0.mk ((by rw [hg]; exact (below_size (laB HB.out)) : w.heap.size ≤ gb322)); have ge322_ := Nonempty.intro GE322.out; replace HB := Aside0.mk (below_step (laB HB.out) hb); clear hb hbox hg; have hcz28_0 : w27.cell? ⟨gb322, 0, none⟩ = some (.slice A2_0 l2_0.length c2_0) := (blk_cell BK322.out 0).trans rfl; have hcz28_1 : w27.cell? ⟨gb322, 1, none⟩ = some (.slice A2_1 l2_1.length c2_1) := (blk_cell BK322.out 1).trans rfl; have hcz28_2 : w27.cell? ⟨gb322, 2, none⟩ = some (.slice A2_2 l2_2.length c2_2) := (blk_cell BK322.out 2).trans rfl; have hfz28_0 := blk_frozen BK322.out 0; have hfz28_1 := blk_frozen BK322.out 1; have hfz28_2 := blk_frozen BK322.out 2) | ((with_reducible refine gate_callee (f := 44) rfl ?_); refine goesL_ (some 10) rfl rfl Try.func44 (by kernel_rfl) rfl #[.slice A0 l0.length c0, .slice A1 l1.length c1, .agg #[.slice A2_0 l2_0.length c2_0, .slice A2_1 l2_1.length c2_1, .slice A2_2 l2_2.length c2_2]] rfl (by (try simp only [List.map_toArray, List.map_cons, List.map_nil]); first | done | rfl | (simp only [List.length_drop, List.length_take]; rfl)) ?_; (with_reducible refine (spec_l8Three.calls k _ _ l0 _ _ l1 _ _ l2_0 _ _ l2_1 _ _ l2_2 false _ ?side1 ?side2 ?side3 ?side4 ?side5 ?side6 ?side7 ?side8 ?side9 ?side10 A4.out).mono ?_); (case side1 => exact laC (Kd.C_below HR0.out HB.out)); (case side2 => exact HC0.out); (case side3 => exact laC (Kd.C_below HR1.out HB.out)); (case side4 => exact HC1.out); (case side5 => exact laC (Kd.C_below HR2_0.out HB.out)); (case side6 => exact HC2_0.out); (case side7 => exact laC (Kd.C_below HR2_1.out HB.out)); (case side8 => exact HC2_1.out); (case side9 => exact laC (Kd.C_below HR2_2.out HB.out)); (case side10 => exact HC2_2.out); rintro e w29 ⟨rfl, hb⟩; refine ⟨_, rfl, ?_⟩; replace BK322 := Aside0.mk (laKb BK322.out hb); replace HB := Aside0.mk (below_step (laB HB.out) hb); (try clear hb); (try clear hb2); (try clear hk); (try clear hi)))
  go_ret
  exact ⟨by first | rfl | (simp [errW_none, errW_some] <;> rfl) | (simp [*, errW_none, errW_some] <;> rfl), laB HB.out⟩



/-! ### laws_toIntS: function 47 -/
def laws_toIntS.l0 : Nat → List Int → List Int → Int → Option (List Int)
 | 0, _, _, _ => none
 | k + 1, x0, x3, x4 => if x4 < (x0.length : Int) then (if 0 ≤ x4 then (if x4 < (x3.length : Int) then (laws_toIntS.l0 k x0 (x3.set (x4 : Int).toNat (rd x0 x4)) (wrap64 (x4 + 1))) else (none)) else (none)) else (some x3)
def laws_toIntS.f (k : Nat) (l0 : List Int) : Option (List Int) := if 0 ≤ (l0.length : Int) then (if ((l0.length : Int) : Int).toNat ≤ 35184372088832 then (laws_toIntS.l0 k l0 (List.replicate ((l0.length : Int) : Int).toNat 0) 0) else (none)) else (none)
theorem laws_toIntS.mono_l : ∀ k, (∀ y0 y1 y2, LeO (laws_toIntS.l0 k y0 y1 y2) (laws_toIntS.l0 (k + 1) y0 y1 y2))
 | 0 => fun _ _ _ r h => by simp [laws_toIntS.l0] at h
 | k + 1 => by
  have ih0 := laws_toIntS.mono_l k
  ·intro y0 y1 y2
   unfold laws_toIntS.l0
   repeat' first
   | (with_reducible exact ih0 _ _ _)
   | (with_reducible exact LeO.refl _)
   | (with_reducible exact LeO.none _)
   | (with_reducible refine LeO.ite ?_ ?_)
   | (with_reducible refine LeO.bind ?_ (fun _ => ?_))
   | exact ih0 _ _ _
   | exact LeO.none _
   | refine LeO.ite ?_ ?_
   | refine LeO.bind ?_ (fun _ => ?_)
theorem laws_toIntS.mono : ∀ a0 k, LeO (laws_toIntS.f k a0) (laws_toIntS.f (k + 1) a0) := by
 intro a0 k
 have ih0 := laws_toIntS.mono_l k
 unfold laws_toIntS.f
 repeat' first
   | (with_reducible exact ih0 _ _ _)
   | (with_reducible exact LeO.refl _)
   | (with_reducible exact LeO.none _)
   | (with_reducible refine LeO.ite ?_ ?_)
   | (with_reducible refine LeO.bind ?_ (fun _ => ?_))
   | exact ih0 _ _ _
   | exact LeO.none _
   | refine LeO.ite ?_ ?_
   | refine LeO.bind ?_ (fun _ => ?_)
set_option maxHeartbeats 8000000 in
set_option maxRecDepth 100000 in
theorem laws_toIntS.calls (k : Nat) (A0 : Option Addr) (c0 : Nat) (l0 : List Int) (r : List Int) (w : World) (hr0 : Kd.C (Kd.int .i64) w A0 l0.length l0) (hc0 : l0.length ≤ c0) (h : laws_toIntS.f k l0 = some r) :
  Calls Try.prog 47 #[.slice A0 l0.length c0] w fun e w' => ∃ v0_ : Value, e = .returned (v0_) ∧ Kd.R (Kd.int .i64) 3 w' w.heap.size (fun _ => True) v0_ r ∧ Below w.heap.size w w' := by
 have HR0 := Aside0.mk hr0
 have HC0 := Aside0.mk hc0
 clear hr0 hc0
 have HB := Aside0.mk (Below.refl w.heap.size w)
 have H : (if 0 ≤ (l0.length : Int) then (if ((l0.length : Int) : Int).toNat ≤ 35184372088832 then (laws_toIntS.l0 k l0 (List.replicate ((l0.length : Int) : Int).toNat 0) 0) else (none)) else (none)) = some r := h
 clear h
 by_cases c2 : 0 ≤ (l0.length : Int)
 ·rw [if_pos c2] at H
  have c2b0 := eq_true c2
  have c2b1 : decide (0 ≤ (l0.length : Int)) = true := decide_eq_true c2
  clear c2
  by_cases c3 : ((l0.length : Int) : Int).toNat ≤ 35184372088832
  ·rw [if_pos c3] at H
   have c3b0 := eq_true c3
   have c3b1 : decide (((l0.length : Int) : Int).toNat ≤ 35184372088832) = true := decide_eq_true c3
   clear c3
   obtain ⟨y338, hy338⟩ : ∃ y_ : List Int, y_ = (List.replicate ((l0.length : Int) : Int).toNat 0) := ⟨_, rfl⟩
   replace H : (laws_toIntS.l0 k l0 y338 0) = some r := by first | (rw [hy338]; with_reducible exact H) | (have H2_ := (Option.bind_some _ _).symm.trans H; rw [hy338]; with_reducible exact H2_) | (have H2_ := (Option.bind_some _ _).symm.trans H; with_reducible exact H2_) | with_reducible exact H | (rw [hy338]; exact H) | exact H
   have Ny338 := Aside0.mk hy338
   clear hy338
   have H' := Aside0.mk H
   clear H
   go_enter Try.func47, Try.ntmps47
   go_wp2_with (first | ((with_reducible refine gate_dst (N := 7) rfl ?_); refine Kd.R_make (Kd.int .i64) _ 3 rfl (N := 7) rfl 24 _ _ rfl (l0.length : Int) rfl rfl Try.underlying24 (.int .i64 0) 8 info3 rfl (by decide) (by omega) 0 (ok := fun _ => True) (okp := fun _ => True) rfl (fun _ hk => hk) trivial (of_decide_eq_true (by first | (with_reducible assumption) | assumption)) (Nat.le_trans (Nat.mul_le_mul_right _ (of_decide_eq_true (by first | (with_reducible assumption) | assumption) : (l0.length : Int).toNat ≤ 35184372088832)) (by omega)) (Below.refl _ _) (Nat.le_refl _) ?_; intro v339 w4 ho5 hb hg_ hnew_; clear hg_ hnew_; (first | rw [← Ny338.out] at ho5 | (simp only [Int.reduceToNat] at ho5; rw [← Ny338.out] at ho5)); have HO340 := Aside0.mk (Kd.R_lower ho5 (below_size (laB HB.out))); replace HB := Aside0.mk (below_step (laB HB.out) hb); clear hb ho5))
   go_loopg [4] k (fun kq v4 w' => ∃ (x3_1 : List Int) (x4_1 : Int), v4 = .int .i64 x4_1 ∧ Aside0 (laws_toIntS.l0 kq l0 x3_1 x4_1 = some r) ∧ Aside0 (kq ≤ k) ∧ Aside0 (Kd.R (Kd.int .i64) 3 w' w.heap.size (fun _ => True) v339 x3_1) ∧ Aside0 (Below w.heap.size w w'))
   case atStart => exact ⟨(y338), (0), (by first | rfl | (simp; done) | (simp [*]; done)), H', ⟨Nat.le_refl _⟩, ⟨laR HO340.out⟩, ⟨laB HB.out⟩⟩
   case round =>
    clear H'
    try clear c2
    try clear c2b0
    try clear c2b1
    try clear p2
    try clear c3
    try clear c3b0
    try clear c3b1
    try clear c4
    obtain ⟨x3_1, x4_1, rfl, HA, HK1, HO_3, HB⟩ := hrel
    cases gk with
    | zero => exact absurd HA.out (by simp [laws_toIntS.l0])
    | succ k1 =>
     have H := HA.out
     clear HA
     simp only [laws_toIntS.l0] at H
     by_cases c6 : x4_1 < (l0.length : Int)
     ·rw [if_pos c6] at H
      have c6b0 : decide (x4_1 < (l0.length : Int)) = true := decide_eq_true c6
      clear c6
      by_cases c7 : 0 ≤ x4_1
      ·rw [if_pos c7] at H
       have c7b0 : decide (0 ≤ x4_1) = true := decide_eq_true c7
       clear c7
       by_cases c8 : x4_1 < (x3_1.length : Int)
       ·rw [if_pos c8] at H
        have c8b0 : decide (x4_1 < (x3_1.length : Int)) = true := decide_eq_true c8
        clear c8
        obtain ⟨y342, hy342⟩ : ∃ y_ : List Int, y_ = (x3_1.set (x4_1 : Int).toNat (rd l0 x4_1)) := ⟨_, rfl⟩
        replace H : (laws_toIntS.l0 k1 l0 y342 (wrap64 (x4_1 + 1))) = some r := by first | (rw [hy342]; with_reducible exact H) | (have H2_ := (Option.bind_some _ _).symm.trans H; rw [hy342]; with_reducible exact H2_) | (have H2_ := (Option.bind_some _ _).symm.trans H; with_reducible exact H2_) | with_reducible exact H | (rw [hy342]; exact H) | exact H
        have Ny342 := Aside0.mk hy342
        clear hy342
        have H' := Aside0.mk H
        clear H
        have p341 : 0 ≤ (x4_1 : Int) := of_decide_eq_true (by first | (with_reducible assumption) | assumption)
        have q341 : x4_1 < (l0.length : Int) := of_decide_eq_true (by first | (with_reducible assumption) | assumption)
        obtain ⟨ad341, e341, hx341_0⟩ := Kd.at_int HR0.out x4_1 p341 q341
        cases e341
        replace hx341_0 := (HB.out.cell (World.block_lt_of_cell? w _ hx341_0)).trans hx341_0
        replace p341 := eq_true p341
        replace q341 := eq_true q341
        have p9 : 0 ≤ (x4_1 : Int) := of_decide_eq_true (by first | (with_reducible assumption) | assumption)
        have q9 : (x4_1 : Int) < ((x3_1.length : Int) : Int) := of_decide_eq_true (by first | (with_reducible assumption) | assumption)
        obtain ⟨go9, co9, eo9, gb9, gl9, cl9, HG9⟩ := Kd.R_form HO_3.out (by omega)
        (first | cases eo9 | (injection eo9 with ea_ en_ ec_; (first | subst ea_ | (injection ea_ with ea_; subst ea_)); subst ec_; clear en_))
        have GB9 := Aside0.mk gb9
        have GG9 := Aside0.mk HG9
        clear gb9 gl9 HG9
        obtain ⟨hx9_0, hf9_0⟩ := Kd.R_celln 0 HO_3.out (x4_1 : Int) p9 q9
        replace p9 := eq_true p9
        replace q9 := eq_true q9
        have HP10 := Kd.R_putg HO_3.out (x4_1 : Int) (rd l0 x4_1)
        go_wp2_with (first | ((with_reducible refine gate_store (t := 3) (p := 20) rfl ?_); refine store_event (t := 3) (p := 20) (v := ?vo_w11) (w1 := (wr.setCell ⟨go9, (x4_1 : Int).toNat, none⟩ (.int .i64 (rd l0 x4_1)))) ?hg ?ho ?hn ?hr ?_; (case ho => rfl); (case hg => rfl); (case hn => rfl); (case hr => first | (go_simp; done) | (go_simp; rfl)); intro w11 hw; have hg : wr.grownBy w11 (some go9) := (by rw [hw]; exact HP10.2); have hp_ : Kd.R (Kd.int .i64) 3 w11 w.heap.size (fun _ => True) (.slice (some ⟨go9, 0, none⟩) x3_1.length co9) y342 := (by rw [hw, Ny342.out]; exact HP10.1); clear HP10; replace HO_3 := Aside0.mk (hp_); replace HB := Aside0.mk ((by rw [hw]; exact below_set (HB.out) GB9.out : Below w.heap.size w w11)); clear hg hw hp_))
        go_roundg k1
        case measure => have := HK1.out; omega
        case rel => exact ⟨(y342), (wrap64 (x4_1 + 1)), (by first | rfl | (simp; done) | (simp [*]; done)), H', ⟨by have := HK1.out; omega⟩, ⟨laR HO_3.out⟩, ⟨laB HB.out⟩⟩
       ·rw [if_neg c8] at H
        exact absurd H (by simp)
      ·rw [if_neg c7] at H
       exact absurd H (by simp)
     ·rw [if_neg c6] at H
      have c6b0 : decide (x4_1 < (l0.length : Int)) = false := decide_eq_false c6
      clear c6
      obtain rfl := Option.some.inj H
      go_wp2
      go_ret
      exact ⟨_, by first | rfl | (simp [errW_none, errW_some] <;> rfl) | (simp [*, errW_none, errW_some] <;> rfl), by (with_reducible repeat (first | apply Kd.R_alloc | apply Kd.R_drewN | apply Kd.R_drew)); exact HO_3.out, laB HB.out⟩
  ·rw [if_neg c3] at H
   exact absurd H (by simp)
 ·rw [if_neg c2] at H
  exact absurd H (by simp)


end Go.Proofs.Ytockkelkdimehaa.P
