-- Written by this session's program mk.py with the kit's print program,out of the translation;not by hand. Lean checks it.
import Derived.Test.YtockkelkdimehaaP0
import Derived.Test.YtockkelkdimehaaSh
import Derived.Test.YtockkelkdimehaaHand
import Derived.Test.YtockkelkdimehaaG102
import Derived.Test.YtockkelkdimehaaG56
import Derived.Test.YtockkelkdimehaaG58
import Derived.Test.YtockkelkdimehaaG99
namespace Go.Proofs.Ytockkelkdimehaa.P
open Go.RowKit Go.Proofs.YtockkelkdimehaaW.PrintWords Go.Proofs.YtockkelkdimehaaW.PrintLast Go.Proofs.YtockkelkdimehaaW.PrintMore
attribute [local go_sem] max2_int min2_int max_two min_two max_three min_three max_four min_four   -- for this text's walks alone
set_option linter.unusedVariables false
set_option linter.unusedSimpArgs false


/-! ### spec_RelCost: function 66 -/
def spec_RelCost.f (k : Nat) (l0_0 : List Int) (l0_1 : List Int) (l0_2 : List Int) (a1 : Int) (a2 : Int) : Option (Int):=(spec_CostOk.f k l0_0 l0_1 l0_2).bind fun t487=>(if t487 = true then ((spec_LabelOk.f a1).bind fun t488=>(if t488 = true then ((spec_LabelOk.f a2).bind fun t489=>(if t489 = true then (if 0 ≤ (wrap64 ((wrap64 (a1 * 6)) + a2)) then (if (wrap64 ((wrap64 (a1 * 6)) + a2)) < (l0_2.length : Int) then (some (rd l0_2 (wrap64 ((wrap64 (a1 * 6)) + a2)))) else (none)) else (none)) else (some 0))) else (some 0))) else (some 0))
theorem spec_RelCost.mono : ∀ a0 a1 a2 a3 a4 k,LeO (spec_RelCost.f k a0 a1 a2 a3 a4) (spec_RelCost.f (k + 1) a0 a1 a2 a3 a4):=by
 intro a0 a1 a2 a3 a4 k
 unfold spec_RelCost.f
 repeat' first
   | (with_reducible exact spec_CostOk.mono _ _ _ _)
   | (with_reducible exact LeO.refl _)
   | (with_reducible exact LeO.none _)
   | (with_reducible refine LeO.ite ?_ ?_)
   | (with_reducible refine LeO.bind ?_ (fun _=>?_))
   | exact spec_CostOk.mono _ _ _ _
   | exact LeO.none _
   | refine LeO.ite ?_ ?_
   | refine LeO.bind ?_ (fun _=>?_)
set_option maxHeartbeats 8000000 in
set_option maxRecDepth 100000 in
theorem spec_RelCost.calls (k : Nat) (A0_0 : Option Addr) (c0_0 : Nat) (l0_0 : List Int) (A0_1 : Option Addr) (c0_1 : Nat) (l0_1 : List Int) (A0_2 : Option Addr) (c0_2 : Nat) (l0_2 : List Int) (a1 : Int) (a2 : Int) (r : Int) (w : World) (hr0_0 : Kd.C (Kd.int .i64) w A0_0 l0_0.length l0_0) (hc0_0 : l0_0.length ≤ c0_0) (hr0_1 : Kd.C (Kd.int .i64) w A0_1 l0_1.length l0_1) (hc0_1 : l0_1.length ≤ c0_1) (hr0_2 : Kd.C (Kd.int .i64) w A0_2 l0_2.length l0_2) (hc0_2 : l0_2.length ≤ c0_2) (h : spec_RelCost.f k l0_0 l0_1 l0_2 a1 a2 = some r) :
  Calls Try.prog 66 #[.agg #[.slice A0_0 l0_0.length c0_0,.slice A0_1 l0_1.length c0_1,.slice A0_2 l0_2.length c0_2],.int .i64 a1,.int .i64 a2] w fun e w'=>e = .returned (.int .i64 r) ∧ Below w.heap.size w w':=by
 have hu37:=Try.underlying37
 have HR0_0:=Aside0.mk hr0_0
 have HC0_0:=Aside0.mk hc0_0
 clear hr0_0 hc0_0
 have HR0_1:=Aside0.mk hr0_1
 have HC0_1:=Aside0.mk hc0_1
 clear hr0_1 hc0_1
 have HR0_2:=Aside0.mk hr0_2
 have HC0_2:=Aside0.mk hc0_2
 clear hr0_2 hc0_2
 have HB:=Aside0.mk (Below.refl w.heap.size w)
 have H : ((spec_CostOk.f k l0_0 l0_1 l0_2).bind fun t487=>(if t487 = true then ((spec_LabelOk.f a1).bind fun t488=>(if t488 = true then ((spec_LabelOk.f a2).bind fun t489=>(if t489 = true then (if 0 ≤ (wrap64 ((wrap64 (a1 * 6)) + a2)) then (if (wrap64 ((wrap64 (a1 * 6)) + a2)) < (l0_2.length : Int) then (some (rd l0_2 (wrap64 ((wrap64 (a1 * 6)) + a2)))) else (none)) else (none)) else (some 0))) else (some 0))) else (some 0))) = some r:=h
 clear h
 replace H:=Option.bind_eq_some_iff.mp H
 obtain ⟨t487,A40,H⟩:=H
 have A4:=Aside0.mk A40
 clear A40
 by_cases c5 : t487 = true
 ·subst c5
  rw [if_pos rfl] at H;replace H:=Option.bind_eq_some_iff.mp H
  obtain ⟨t488,A60,H⟩:=H
  have A6:=Aside0.mk A60;clear A60
  by_cases c7 : t488 = true
  ·subst c7
   rw [if_pos rfl] at H;replace H:=Option.bind_eq_some_iff.mp H
   obtain ⟨t489,A80,H⟩:=H
   have A8:=Aside0.mk A80;clear A80
   by_cases c9 : t489 = true
   ·subst c9
    rw [if_pos rfl] at H
    obtain ⟨ji10,hji10⟩ : ∃ j_ : Int,(wrap64 ((wrap64 (a1 * 6)) + a2)) = j_:=⟨_,rfl⟩
    replace H : (if 0 ≤ (ji10) then (if (ji10) < (l0_2.length : Int) then (some (rd l0_2 (ji10))) else (none)) else (none)) = some r:=by first | (rw [hji10] at H;exact H) | (simp only [hji10] at H ⊢;exact H)
    (try rw [hji10] at A4)
    (try rw [hji10] at A6)
    (try rw [hji10] at A8)
    have hji10w : (IntKind.i64.wrap ((wrap64 (a1 * 6)) + a2)) = ji10:=(i64_w _).trans hji10
    by_cases c11 : 0 ≤ (ji10)
    rotate_left
    ·rw [if_neg c11] at H
     exact absurd H (by simp)
    rw [if_pos c11] at H;have c11b0 : decide (0 ≤ (ji10)) = true:=decide_eq_true c11;clear c11
    by_cases c12 : (ji10) < (l0_2.length : Int)
    rotate_left
    ·rw [if_neg c12] at H
     exact absurd H (by simp)
    rw [if_pos c12] at H;have c12b0 : decide ((ji10) < (l0_2.length : Int)) = true:=decide_eq_true c12;clear c12
    obtain rfl:=Option.some.inj H
    go_enter Try.func66,Try.ntmps66
    go_wp2_with (first | ((with_reducible refine gate_dst (N:=3) rfl ?_);refine box_event ?hg (N:=3) ?hd (cs:=#[.slice A0_0 l0_0.length c0_0,.slice A0_1 l0_1.length c0_1,.slice A0_2 l0_2.length c0_2]) (t:=37) ?hr ?_;(case hd=>rfl);(case hg=>rfl);(case hr=>first | (go_simp;done) | (go_simp;rfl));intro gb486 hg w13 hbox hb;have BK486:=Aside0.mk (hbox);have GW486:=Aside0.mk ((by rw [hg];exact (below_size (laB HB.out)) : w.heap.size ≤ gb486));have GE486:=Aside0.mk ((by rw [hg];exact (below_size (laB HB.out)) : w.heap.size ≤ gb486));have ge486_:=Nonempty.intro GE486.out;replace HB:=Aside0.mk (below_step (laB HB.out) hb);clear hb hbox hg;have hcz14_0 : w13.cell? ⟨gb486,0,none⟩ = some (.slice A0_0 l0_0.length c0_0):=(blk_cell BK486.out 0).trans rfl;have hcz14_1 : w13.cell? ⟨gb486,1,none⟩ = some (.slice A0_1 l0_1.length c0_1):=(blk_cell BK486.out 1).trans rfl;have hcz14_2 : w13.cell? ⟨gb486,2,none⟩ = some (.slice A0_2 l0_2.length c0_2):=(blk_cell BK486.out 2).trans rfl;have hfz14_0:=blk_frozen BK486.out 0;have hfz14_1:=blk_frozen BK486.out 1;have hfz14_2:=blk_frozen BK486.out 2) | ((with_reducible refine gate_callee (f:=28) rfl ?_);refine goesL_ (some 8) rfl rfl Try.func28 (by kernel_rfl) rfl #[.agg #[.slice A0_0 l0_0.length c0_0,.slice A0_1 l0_1.length c0_1,.slice A0_2 l0_2.length c0_2]] rfl (by (try simp only [List.map_toArray,List.map_cons,List.map_nil]);first | done | rfl | (simp only [List.length_drop,List.length_take];rfl)) ?_;(with_reducible refine (spec_CostOk.calls k _ _ l0_0 _ _ l0_1 _ _ l0_2 true _ ?side1 ?side2 ?side3 ?side4 ?side5 ?side6 A4.out).mono ?_);(case side1=>exact laC (Kd.C_below HR0_0.out HB.out));(case side2=>exact HC0_0.out);(case side3=>exact laC (Kd.C_below HR0_1.out HB.out));(case side4=>exact HC0_1.out);(case side5=>exact laC (Kd.C_below HR0_2.out HB.out));(case side6=>exact HC0_2.out);rintro e w15 ⟨rfl,hb⟩;refine ⟨_,rfl,?_⟩;replace BK486:=Aside0.mk (laKb BK486.out hb);replace HB:=Aside0.mk (below_step (laB HB.out) hb);(try clear hb);(try clear hb2);(try clear hk);(try clear hi)) | (go_at_call 98;(with_reducible refine (spec_LabelOk.calls a1 true _ A6.out).mono ?_);rintro e w' ⟨rfl,⟨nd,rfl⟩⟩) | (go_at_call 98;(with_reducible refine (spec_LabelOk.calls a2 true _ A8.out).mono ?_);rintro e w' ⟨rfl,⟨nd,rfl⟩⟩;have hcz16_0 : w15.cell? ⟨gb486,0,none⟩ = some (.slice A0_0 l0_0.length c0_0):=(blk_cell BK486.out 0).trans rfl;have hcz16_1 : w15.cell? ⟨gb486,1,none⟩ = some (.slice A0_1 l0_1.length c0_1):=(blk_cell BK486.out 1).trans rfl;have hcz16_2 : w15.cell? ⟨gb486,2,none⟩ = some (.slice A0_2 l0_2.length c0_2):=(blk_cell BK486.out 2).trans rfl;have hfz16_0:=blk_frozen BK486.out 0;have hfz16_1:=blk_frozen BK486.out 1;have hfz16_2:=blk_frozen BK486.out 2;have p490 : 0 ≤ ((ji10) : Int):=of_decide_eq_true (by first | (with_reducible assumption) | assumption);have q490 : (ji10) < (l0_2.length : Int):=of_decide_eq_true (by first | (with_reducible assumption) | assumption);obtain ⟨ad490,e490,hx490_0⟩:=Kd.at_int HR0_2.out (ji10) p490 q490;cases e490;replace hx490_0:=(HB.out.cell (World.block_lt_of_cell? w _ hx490_0)).trans hx490_0;replace p490:=eq_true p490;replace q490:=eq_true q490))
    go_ret
    exact ⟨by first | rfl | (simp [errW_none,errW_some] <;> rfl) | (simp only [← hji10];first | rfl | (simp [errW_none,errW_some] <;> rfl)) | (simp [*,errW_none,errW_some] <;> rfl),laB HB.out⟩
   ·replace c9:=Bool.eq_false_iff.mpr c9
    subst c9;rw [if_neg (show ¬ (false = true) by decide)] at H
    obtain rfl:=Option.some.inj H
    go_enter Try.func66,Try.ntmps66
    go_wp2_with (first | ((with_reducible refine gate_dst (N:=3) rfl ?_);refine box_event ?hg (N:=3) ?hd (cs:=#[.slice A0_0 l0_0.length c0_0,.slice A0_1 l0_1.length c0_1,.slice A0_2 l0_2.length c0_2]) (t:=37) ?hr ?_;(case hd=>rfl);(case hg=>rfl);(case hr=>first | (go_simp;done) | (go_simp;rfl));intro gb486 hg w17 hbox hb;have BK486:=Aside0.mk (hbox);have GW486:=Aside0.mk ((by rw [hg];exact (below_size (laB HB.out)) : w.heap.size ≤ gb486));have GE486:=Aside0.mk ((by rw [hg];exact (below_size (laB HB.out)) : w.heap.size ≤ gb486));have ge486_:=Nonempty.intro GE486.out;replace HB:=Aside0.mk (below_step (laB HB.out) hb);clear hb hbox hg;have hcz18_0 : w17.cell? ⟨gb486,0,none⟩ = some (.slice A0_0 l0_0.length c0_0):=(blk_cell BK486.out 0).trans rfl;have hcz18_1 : w17.cell? ⟨gb486,1,none⟩ = some (.slice A0_1 l0_1.length c0_1):=(blk_cell BK486.out 1).trans rfl;have hcz18_2 : w17.cell? ⟨gb486,2,none⟩ = some (.slice A0_2 l0_2.length c0_2):=(blk_cell BK486.out 2).trans rfl;have hfz18_0:=blk_frozen BK486.out 0;have hfz18_1:=blk_frozen BK486.out 1;have hfz18_2:=blk_frozen BK486.out 2) | ((with_reducible refine gate_callee (f:=28) rfl ?_);refine goesL_ (some 8) rfl rfl Try.func28 (by kernel_rfl) rfl #[.agg #[.slice A0_0 l0_0.length c0_0,.slice A0_1 l0_1.length c0_1,.slice A0_2 l0_2.length c0_2]] rfl (by (try simp only [List.map_toArray,List.map_cons,List.map_nil]);first | done | rfl | (simp only [List.length_drop,List.length_take];rfl)) ?_;(with_reducible refine (spec_CostOk.calls k _ _ l0_0 _ _ l0_1 _ _ l0_2 true _ ?side1 ?side2 ?side3 ?side4 ?side5 ?side6 A4.out).mono ?_);(case side1=>exact laC (Kd.C_below HR0_0.out HB.out));(case side2=>exact HC0_0.out);(case side3=>exact laC (Kd.C_below HR0_1.out HB.out));(case side4=>exact HC0_1.out);(case side5=>exact laC (Kd.C_below HR0_2.out HB.out));(case side6=>exact HC0_2.out);rintro e w19 ⟨rfl,hb⟩;refine ⟨_,rfl,?_⟩;replace BK486:=Aside0.mk (laKb BK486.out hb);replace HB:=Aside0.mk (below_step (laB HB.out) hb);(try clear hb);(try clear hb2);(try clear hk);(try clear hi)) | (go_at_call 98;(with_reducible refine (spec_LabelOk.calls a1 true _ A6.out).mono ?_);rintro e w' ⟨rfl,⟨nd,rfl⟩⟩) | (go_at_call 98;(with_reducible refine (spec_LabelOk.calls a2 false _ A8.out).mono ?_);rintro e w' ⟨rfl,⟨nd,rfl⟩⟩))
    go_ret
    exact ⟨by first | rfl | (simp [errW_none,errW_some] <;> rfl) | (simp [*,errW_none,errW_some] <;> rfl),laB HB.out⟩
  ·replace c7:=Bool.eq_false_iff.mpr c7
   subst c7;rw [if_neg (show ¬ (false = true) by decide)] at H
   obtain rfl:=Option.some.inj H
   go_enter Try.func66,Try.ntmps66
   go_wp2_with (first | ((with_reducible refine gate_dst (N:=3) rfl ?_);refine box_event ?hg (N:=3) ?hd (cs:=#[.slice A0_0 l0_0.length c0_0,.slice A0_1 l0_1.length c0_1,.slice A0_2 l0_2.length c0_2]) (t:=37) ?hr ?_;(case hd=>rfl);(case hg=>rfl);(case hr=>first | (go_simp;done) | (go_simp;rfl));intro gb486 hg w20 hbox hb;have BK486:=Aside0.mk (hbox);have GW486:=Aside0.mk ((by rw [hg];exact (below_size (laB HB.out)) : w.heap.size ≤ gb486));have GE486:=Aside0.mk ((by rw [hg];exact (below_size (laB HB.out)) : w.heap.size ≤ gb486));have ge486_:=Nonempty.intro GE486.out;replace HB:=Aside0.mk (below_step (laB HB.out) hb);clear hb hbox hg;have hcz21_0 : w20.cell? ⟨gb486,0,none⟩ = some (.slice A0_0 l0_0.length c0_0):=(blk_cell BK486.out 0).trans rfl;have hcz21_1 : w20.cell? ⟨gb486,1,none⟩ = some (.slice A0_1 l0_1.length c0_1):=(blk_cell BK486.out 1).trans rfl;have hcz21_2 : w20.cell? ⟨gb486,2,none⟩ = some (.slice A0_2 l0_2.length c0_2):=(blk_cell BK486.out 2).trans rfl;have hfz21_0:=blk_frozen BK486.out 0;have hfz21_1:=blk_frozen BK486.out 1;have hfz21_2:=blk_frozen BK486.out 2) | ((with_reducible refine gate_callee (f:=28) rfl ?_);refine goesL_ (some 8) rfl rfl Try.func28 (by kernel_rfl) rfl #[.agg #[.slice A0_0 l0_0.length c0_0,.slice A0_1 l0_1.length c0_1,.slice A0_2 l0_2.length c0_2]] rfl (by (try simp only [List.map_toArray,List.map_cons,List.map_nil]);first | done | rfl | (simp only [List.length_drop,List.length_take];rfl)) ?_;(with_reducible refine (spec_CostOk.calls k _ _ l0_0 _ _ l0_1 _ _ l0_2 true _ ?side1 ?side2 ?side3 ?side4 ?side5 ?side6 A4.out).mono ?_);(case side1=>exact laC (Kd.C_below HR0_0.out HB.out));(case side2=>exact HC0_0.out);(case side3=>exact laC (Kd.C_below HR0_1.out HB.out));(case side4=>exact HC0_1.out);(case side5=>exact laC (Kd.C_below HR0_2.out HB.out));(case side6=>exact HC0_2.out);rintro e w22 ⟨rfl,hb⟩;refine ⟨_,rfl,?_⟩;replace BK486:=Aside0.mk (laKb BK486.out hb);replace HB:=Aside0.mk (below_step (laB HB.out) hb);(try clear hb);(try clear hb2);(try clear hk);(try clear hi)) | (go_at_call 98;(with_reducible refine (spec_LabelOk.calls a1 false _ A6.out).mono ?_);rintro e w' ⟨rfl,⟨nd,rfl⟩⟩))
   go_ret
   exact ⟨by first | rfl | (simp [errW_none,errW_some] <;> rfl) | (simp [*,errW_none,errW_some] <;> rfl),laB HB.out⟩
 ·replace c5:=Bool.eq_false_iff.mpr c5
  subst c5;rw [if_neg (show ¬ (false = true) by decide)] at H
  obtain rfl:=Option.some.inj H
  go_enter Try.func66,Try.ntmps66
  go_wp2_with (first | ((with_reducible refine gate_dst (N:=3) rfl ?_);refine box_event ?hg (N:=3) ?hd (cs:=#[.slice A0_0 l0_0.length c0_0,.slice A0_1 l0_1.length c0_1,.slice A0_2 l0_2.length c0_2]) (t:=37) ?hr ?_;(case hd=>rfl);(case hg=>rfl);(case hr=>first | (go_simp;done) | (go_simp;rfl));intro gb486 hg w23 hbox hb;have BK486:=Aside0.mk (hbox);have GW486:=Aside0.mk ((by rw [hg];exact (below_size (laB HB.out)) : w.heap.size ≤ gb486));have GE486:=Aside0.mk ((by rw [hg];exact (below_size (laB HB.out)) : w.heap.size ≤ gb486));have ge486_:=Nonempty.intro GE486.out;replace HB:=Aside0.mk (below_step (laB HB.out) hb);clear hb hbox hg;have hcz24_0 : w23.cell? ⟨gb486,0,none⟩ = some (.slice A0_0 l0_0.length c0_0):=(blk_cell BK486.out 0).trans rfl;have hcz24_1 : w23.cell? ⟨gb486,1,none⟩ = some (.slice A0_1 l0_1.length c0_1):=(blk_cell BK486.out 1).trans rfl;have hcz24_2 : w23.cell? ⟨gb486,2,none⟩ = some (.slice A0_2 l0_2.length c0_2):=(blk_cell BK486.out 2).trans rfl;have hfz24_0:=blk_frozen BK486.out 0;have hfz24_1:=blk_frozen BK486.out 1;have hfz24_2:=blk_frozen BK486.out 2) | ((with_reducible refine gate_callee (f:=28) rfl ?_);refine goesL_ (some 8) rfl rfl Try.func28 (by kernel_rfl) rfl #[.agg #[.slice A0_0 l0_0.length c0_0,.slice A0_1 l0_1.length c0_1,.slice A0_2 l0_2.length c0_2]] rfl (by (try simp only [List.map_toArray,List.map_cons,List.map_nil]);first | done | rfl | (simp only [List.length_drop,List.length_take];rfl)) ?_;(with_reducible refine (spec_CostOk.calls k _ _ l0_0 _ _ l0_1 _ _ l0_2 false _ ?side1 ?side2 ?side3 ?side4 ?side5 ?side6 A4.out).mono ?_);(case side1=>exact laC (Kd.C_below HR0_0.out HB.out));(case side2=>exact HC0_0.out);(case side3=>exact laC (Kd.C_below HR0_1.out HB.out));(case side4=>exact HC0_1.out);(case side5=>exact laC (Kd.C_below HR0_2.out HB.out));(case side6=>exact HC0_2.out);rintro e w25 ⟨rfl,hb⟩;refine ⟨_,rfl,?_⟩;replace BK486:=Aside0.mk (laKb BK486.out hb);replace HB:=Aside0.mk (below_step (laB HB.out) hb);(try clear hb);(try clear hb2);(try clear hk);(try clear hi)))
  go_ret
  exact ⟨by first | rfl | (simp [errW_none,errW_some] <;> rfl) | (simp [*,errW_none,errW_some] <;> rfl),laB HB.out⟩



/-! ### spec_DelCost: function 65 -/
def spec_DelCost.f (k : Nat) (l0_0 : List Int) (l0_1 : List Int) (l0_2 : List Int) (a1 : Int) : Option (Int):=(spec_CostOk.f k l0_0 l0_1 l0_2).bind fun t492=>(if t492 = true then ((spec_LabelOk.f a1).bind fun t493=>(if t493 = true then (if 0 ≤ a1 then (if a1 < (l0_0.length : Int) then (some (rd l0_0 a1)) else (none)) else (none)) else (some 0))) else (some 0))
theorem spec_DelCost.mono : ∀ a0 a1 a2 a3 k,LeO (spec_DelCost.f k a0 a1 a2 a3) (spec_DelCost.f (k + 1) a0 a1 a2 a3):=by
 intro a0 a1 a2 a3 k
 unfold spec_DelCost.f
 repeat' first
   | (with_reducible exact spec_CostOk.mono _ _ _ _)
   | (with_reducible exact LeO.refl _)
   | (with_reducible exact LeO.none _)
   | (with_reducible refine LeO.ite ?_ ?_)
   | (with_reducible refine LeO.bind ?_ (fun _=>?_))
   | exact spec_CostOk.mono _ _ _ _
   | exact LeO.none _
   | refine LeO.ite ?_ ?_
   | refine LeO.bind ?_ (fun _=>?_)
set_option maxHeartbeats 8000000 in
set_option maxRecDepth 100000 in
theorem spec_DelCost.calls (k : Nat) (A0_0 : Option Addr) (c0_0 : Nat) (l0_0 : List Int) (A0_1 : Option Addr) (c0_1 : Nat) (l0_1 : List Int) (A0_2 : Option Addr) (c0_2 : Nat) (l0_2 : List Int) (a1 : Int) (r : Int) (w : World) (hr0_0 : Kd.C (Kd.int .i64) w A0_0 l0_0.length l0_0) (hc0_0 : l0_0.length ≤ c0_0) (hr0_1 : Kd.C (Kd.int .i64) w A0_1 l0_1.length l0_1) (hc0_1 : l0_1.length ≤ c0_1) (hr0_2 : Kd.C (Kd.int .i64) w A0_2 l0_2.length l0_2) (hc0_2 : l0_2.length ≤ c0_2) (h : spec_DelCost.f k l0_0 l0_1 l0_2 a1 = some r) :
  Calls Try.prog 65 #[.agg #[.slice A0_0 l0_0.length c0_0,.slice A0_1 l0_1.length c0_1,.slice A0_2 l0_2.length c0_2],.int .i64 a1] w fun e w'=>e = .returned (.int .i64 r) ∧ Below w.heap.size w w':=by
 have hu37:=Try.underlying37
 have HR0_0:=Aside0.mk hr0_0
 have HC0_0:=Aside0.mk hc0_0
 clear hr0_0 hc0_0
 have HR0_1:=Aside0.mk hr0_1
 have HC0_1:=Aside0.mk hc0_1
 clear hr0_1 hc0_1
 have HR0_2:=Aside0.mk hr0_2
 have HC0_2:=Aside0.mk hc0_2
 clear hr0_2 hc0_2
 have HB:=Aside0.mk (Below.refl w.heap.size w)
 have H : ((spec_CostOk.f k l0_0 l0_1 l0_2).bind fun t492=>(if t492 = true then ((spec_LabelOk.f a1).bind fun t493=>(if t493 = true then (if 0 ≤ a1 then (if a1 < (l0_0.length : Int) then (some (rd l0_0 a1)) else (none)) else (none)) else (some 0))) else (some 0))) = some r:=h
 clear h
 replace H:=Option.bind_eq_some_iff.mp H
 obtain ⟨t492,A30,H⟩:=H
 have A3:=Aside0.mk A30
 clear A30
 by_cases c4 : t492 = true
 ·subst c4
  rw [if_pos rfl] at H;replace H:=Option.bind_eq_some_iff.mp H
  obtain ⟨t493,A50,H⟩:=H
  have A5:=Aside0.mk A50;clear A50
  by_cases c6 : t493 = true
  ·subst c6
   rw [if_pos rfl] at H
   by_cases c7 : 0 ≤ a1
   rotate_left
   ·rw [if_neg c7] at H
    exact absurd H (by simp)
   rw [if_pos c7] at H;have c7b0 : decide (0 ≤ a1) = true:=decide_eq_true c7;clear c7
   by_cases c8 : a1 < (l0_0.length : Int)
   rotate_left
   ·rw [if_neg c8] at H
    exact absurd H (by simp)
   rw [if_pos c8] at H;have c8b0 : decide (a1 < (l0_0.length : Int)) = true:=decide_eq_true c8;clear c8
   obtain rfl:=Option.some.inj H
   go_enter Try.func65,Try.ntmps65
   go_wp2_with (first | ((with_reducible refine gate_dst (N:=2) rfl ?_);refine box_event ?hg (N:=2) ?hd (cs:=#[.slice A0_0 l0_0.length c0_0,.slice A0_1 l0_1.length c0_1,.slice A0_2 l0_2.length c0_2]) (t:=37) ?hr ?_;(case hd=>rfl);(case hg=>rfl);(case hr=>first | (go_simp;done) | (go_simp;rfl));intro gb491 hg w9 hbox hb;have BK491:=Aside0.mk (hbox);have GW491:=Aside0.mk ((by rw [hg];exact (below_size (laB HB.out)) : w.heap.size ≤ gb491));have GE491:=Aside0.mk ((by rw [hg];exact (below_size (laB HB.out)) : w.heap.size ≤ gb491));have ge491_:=Nonempty.intro GE491.out;replace HB:=Aside0.mk (below_step (laB HB.out) hb);clear hb hbox hg;have hcz10_0 : w9.cell? ⟨gb491,0,none⟩ = some (.slice A0_0 l0_0.length c0_0):=(blk_cell BK491.out 0).trans rfl;have hcz10_1 : w9.cell? ⟨gb491,1,none⟩ = some (.slice A0_1 l0_1.length c0_1):=(blk_cell BK491.out 1).trans rfl;have hcz10_2 : w9.cell? ⟨gb491,2,none⟩ = some (.slice A0_2 l0_2.length c0_2):=(blk_cell BK491.out 2).trans rfl;have hfz10_0:=blk_frozen BK491.out 0;have hfz10_1:=blk_frozen BK491.out 1;have hfz10_2:=blk_frozen BK491.out 2) | ((with_reducible refine gate_callee (f:=28) rfl ?_);refine goesL_ (some 6) rfl rfl Try.func28 (by kernel_rfl) rfl #[.agg #[.slice A0_0 l0_0.length c0_0,.slice A0_1 l0_1.length c0_1,.slice A0_2 l0_2.length c0_2]] rfl (by (try simp only [List.map_toArray,List.map_cons,List.map_nil]);first | done | rfl | (simp only [List.length_drop,List.length_take];rfl)) ?_;(with_reducible refine (spec_CostOk.calls k _ _ l0_0 _ _ l0_1 _ _ l0_2 true _ ?side1 ?side2 ?side3 ?side4 ?side5 ?side6 A3.out).mono ?_);(case side1=>exact laC (Kd.C_below HR0_0.out HB.out));(case side2=>exact HC0_0.out);(case side3=>exact laC (Kd.C_below HR0_1.out HB.out));(case side4=>exact HC0_1.out);(case side5=>exact laC (Kd.C_below HR0_2.out HB.out));(case side6=>exact HC0_2.out);rintro e w11 ⟨rfl,hb⟩;refine ⟨_,rfl,?_⟩;replace BK491:=Aside0.mk (laKb BK491.out hb);replace HB:=Aside0.mk (below_step (laB HB.out) hb);(try clear hb);(try clear hb2);(try clear hk);(try clear hi)) | (go_at_call 98;(with_reducible refine (spec_LabelOk.calls a1 true _ A5.out).mono ?_);rintro e w' ⟨rfl,⟨nd,rfl⟩⟩;have hcz12_0 : w11.cell? ⟨gb491,0,none⟩ = some (.slice A0_0 l0_0.length c0_0):=(blk_cell BK491.out 0).trans rfl;have hcz12_1 : w11.cell? ⟨gb491,1,none⟩ = some (.slice A0_1 l0_1.length c0_1):=(blk_cell BK491.out 1).trans rfl;have hcz12_2 : w11.cell? ⟨gb491,2,none⟩ = some (.slice A0_2 l0_2.length c0_2):=(blk_cell BK491.out 2).trans rfl;have hfz12_0:=blk_frozen BK491.out 0;have hfz12_1:=blk_frozen BK491.out 1;have hfz12_2:=blk_frozen BK491.out 2;have p494 : 0 ≤ (a1 : Int):=of_decide_eq_true (by first | (with_reducible assumption) | assumption);have q494 : a1 < (l0_0.length : Int):=of_decide_eq_true (by first | (with_reducible assumption) | assumption);obtain ⟨ad494,e494,hx494_0⟩:=Kd.at_int HR0_0.out a1 p494 q494;cases e494;replace hx494_0:=(HB.out.cell (World.block_lt_of_cell? w _ hx494_0)).trans hx494_0;replace p494:=eq_true p494;replace q494:=eq_true q494))
   go_ret
   exact ⟨by first | rfl | (simp [errW_none,errW_some] <;> rfl) | (simp [*,errW_none,errW_some] <;> rfl),laB HB.out⟩
  ·replace c6:=Bool.eq_false_iff.mpr c6
   subst c6;rw [if_neg (show ¬ (false = true) by decide)] at H
   obtain rfl:=Option.some.inj H
   go_enter Try.func65,Try.ntmps65
   go_wp2_with (first | ((with_reducible refine gate_dst (N:=2) rfl ?_);refine box_event ?hg (N:=2) ?hd (cs:=#[.slice A0_0 l0_0.length c0_0,.slice A0_1 l0_1.length c0_1,.slice A0_2 l0_2.length c0_2]) (t:=37) ?hr ?_;(case hd=>rfl);(case hg=>rfl);(case hr=>first | (go_simp;done) | (go_simp;rfl));intro gb491 hg w13 hbox hb;have BK491:=Aside0.mk (hbox);have GW491:=Aside0.mk ((by rw [hg];exact (below_size (laB HB.out)) : w.heap.size ≤ gb491));have GE491:=Aside0.mk ((by rw [hg];exact (below_size (laB HB.out)) : w.heap.size ≤ gb491));have ge491_:=Nonempty.intro GE491.out;replace HB:=Aside0.mk (below_step (laB HB.out) hb);clear hb hbox hg;have hcz14_0 : w13.cell? ⟨gb491,0,none⟩ = some (.slice A0_0 l0_0.length c0_0):=(blk_cell BK491.out 0).trans rfl;have hcz14_1 : w13.cell? ⟨gb491,1,none⟩ = some (.slice A0_1 l0_1.length c0_1):=(blk_cell BK491.out 1).trans rfl;have hcz14_2 : w13.cell? ⟨gb491,2,none⟩ = some (.slice A0_2 l0_2.length c0_2):=(blk_cell BK491.out 2).trans rfl;have hfz14_0:=blk_frozen BK491.out 0;have hfz14_1:=blk_frozen BK491.out 1;have hfz14_2:=blk_frozen BK491.out 2) | ((with_reducible refine gate_callee (f:=28) rfl ?_);refine goesL_ (some 6) rfl rfl Try.func28 (by kernel_rfl) rfl #[.agg #[.slice A0_0 l0_0.length c0_0,.slice A0_1 l0_1.length c0_1,.slice A0_2 l0_2.length c0_2]] rfl (by (try simp only [List.map_toArray,List.map_cons,List.map_nil]);first | done | rfl | (simp only [List.length_drop,List.length_take];rfl)) ?_;(with_reducible refine (spec_CostOk.calls k _ _ l0_0 _ _ l0_1 _ _ l0_2 true _ ?side1 ?side2 ?side3 ?side4 ?side5 ?side6 A3.out).mono ?_);(case side1=>exact laC (Kd.C_below HR0_0.out HB.out));(case side2=>exact HC0_0.out);(case side3=>exact laC (Kd.C_below HR0_1.out HB.out));(case side4=>exact HC0_1.out);(case side5=>exact laC (Kd.C_below HR0_2.out HB.out));(case side6=>exact HC0_2.out);rintro e w15 ⟨rfl,hb⟩;refine ⟨_,rfl,?_⟩;replace BK491:=Aside0.mk (laKb BK491.out hb);replace HB:=Aside0.mk (below_step (laB HB.out) hb);(try clear hb);(try clear hb2);(try clear hk);(try clear hi)) | (go_at_call 98;(with_reducible refine (spec_LabelOk.calls a1 false _ A5.out).mono ?_);rintro e w' ⟨rfl,⟨nd,rfl⟩⟩))
   go_ret
   exact ⟨by first | rfl | (simp [errW_none,errW_some] <;> rfl) | (simp [*,errW_none,errW_some] <;> rfl),laB HB.out⟩
 ·replace c4:=Bool.eq_false_iff.mpr c4
  subst c4;rw [if_neg (show ¬ (false = true) by decide)] at H
  obtain rfl:=Option.some.inj H
  go_enter Try.func65,Try.ntmps65
  go_wp2_with (first | ((with_reducible refine gate_dst (N:=2) rfl ?_);refine box_event ?hg (N:=2) ?hd (cs:=#[.slice A0_0 l0_0.length c0_0,.slice A0_1 l0_1.length c0_1,.slice A0_2 l0_2.length c0_2]) (t:=37) ?hr ?_;(case hd=>rfl);(case hg=>rfl);(case hr=>first | (go_simp;done) | (go_simp;rfl));intro gb491 hg w16 hbox hb;have BK491:=Aside0.mk (hbox);have GW491:=Aside0.mk ((by rw [hg];exact (below_size (laB HB.out)) : w.heap.size ≤ gb491));have GE491:=Aside0.mk ((by rw [hg];exact (below_size (laB HB.out)) : w.heap.size ≤ gb491));have ge491_:=Nonempty.intro GE491.out;replace HB:=Aside0.mk (below_step (laB HB.out) hb);clear hb hbox hg;have hcz17_0 : w16.cell? ⟨gb491,0,none⟩ = some (.slice A0_0 l0_0.length c0_0):=(blk_cell BK491.out 0).trans rfl;have hcz17_1 : w16.cell? ⟨gb491,1,none⟩ = some (.slice A0_1 l0_1.length c0_1):=(blk_cell BK491.out 1).trans rfl;have hcz17_2 : w16.cell? ⟨gb491,2,none⟩ = some (.slice A0_2 l0_2.length c0_2):=(blk_cell BK491.out 2).trans rfl;have hfz17_0:=blk_frozen BK491.out 0;have hfz17_1:=blk_frozen BK491.out 1;have hfz17_2:=blk_frozen BK491.out 2) | ((with_reducible refine gate_callee (f:=28) rfl ?_);refine goesL_ (some 6) rfl rfl Try.func28 (by kernel_rfl) rfl #[.agg #[.slice A0_0 l0_0.length c0_0,.slice A0_1 l0_1.length c0_1,.slice A0_2 l0_2.length c0_2]] rfl (by (try simp only [List.map_toArray,List.map_cons,List.map_nil]);first | done | rfl | (simp only [List.length_drop,List.length_take];rfl)) ?_;(with_reducible refine (spec_CostOk.calls k _ _ l0_0 _ _ l0_1 _ _ l0_2 false _ ?side1 ?side2 ?side3 ?side4 ?side5 ?side6 A3.out).mono ?_);(case side1=>exact laC (Kd.C_below HR0_0.out HB.out));(case side2=>exact HC0_0.out);(case side3=>exact laC (Kd.C_below HR0_1.out HB.out));(case side4=>exact HC0_1.out);(case side5=>exact laC (Kd.C_below HR0_2.out HB.out));(case side6=>exact HC0_2.out);rintro e w18 ⟨rfl,hb⟩;refine ⟨_,rfl,?_⟩;replace BK491:=Aside0.mk (laKb BK491.out hb);replace HB:=Aside0.mk (below_step (laB HB.out) hb);(try clear hb);(try clear hb2);(try clear hk);(try clear hi)))
  go_ret
  exact ⟨by first | rfl | (simp [errW_none,errW_some] <;> rfl) | (simp [*,errW_none,errW_some] <;> rfl),laB HB.out⟩



/-! ### spec_DelTree: function 105 -/
def spec_DelTree.l0 : Nat → List (S59) → Int → Int → List Int → List Int → List Int → Option (Int)
 | 0,_,_,_,_,_,_=>none
 | k + 1,x0,x5,x6,x496000,x496001,x496002=>if x6 < (x0.length : Int) then ((spec_TreeOk.f k x0).bind fun t496=>(if t496 = true then (if 0 ≤ x6 then ((spec_DelCost.f k x496000 x496001 x496002 ((rd_T59 x0 x6).f0)).bind fun t498=>(spec_DelTree.l0 k x0 (wrap64 (x5 + t498)) (wrap64 (x6 + 1)) x496000 x496001 x496002)) else (none)) else (some x5))) else (some x5)
def spec_DelTree.f (k : Nat) (l0 : List (S59)) (l1_0 : List Int) (l1_1 : List Int) (l1_2 : List Int) : Option (Int):=spec_DelTree.l0 k l0 0 0 l1_0 l1_1 l1_2
theorem spec_DelTree.mono_l : ∀ k,(∀ y0 y1 y2 y3 y4 y5,LeO (spec_DelTree.l0 k y0 y1 y2 y3 y4 y5) (spec_DelTree.l0 (k + 1) y0 y1 y2 y3 y4 y5))
 | 0=>fun _ _ _ _ _ _ r h=>by simp [spec_DelTree.l0] at h
 | k + 1=>by
  have ih0:=spec_DelTree.mono_l k
  ·intro y0 y1 y2 y3 y4 y5
   unfold spec_DelTree.l0
   repeat' first
   | (with_reducible exact ih0 _ _ _ _ _ _)
   | (with_reducible exact spec_DelCost.mono _ _ _ _ _)
   | (with_reducible exact spec_TreeOk.mono _ _)
   | (with_reducible exact LeO.refl _)
   | (with_reducible exact LeO.none _)
   | (with_reducible refine LeO.ite ?_ ?_)
   | (with_reducible refine LeO.bind ?_ (fun _=>?_))
   | exact ih0 _ _ _ _ _ _
   | exact spec_DelCost.mono _ _ _ _ _
   | exact spec_TreeOk.mono _ _
   | exact LeO.none _
   | refine LeO.ite ?_ ?_
   | refine LeO.bind ?_ (fun _=>?_)
theorem spec_DelTree.mono : ∀ a0 a1 a2 a3 k,LeO (spec_DelTree.f k a0 a1 a2 a3) (spec_DelTree.f (k + 1) a0 a1 a2 a3):=by
 intro a0 a1 a2 a3 k
 have ih0:=spec_DelTree.mono_l k
 unfold spec_DelTree.f
 repeat' first
   | (with_reducible exact ih0 _ _ _ _ _ _)
   | (with_reducible exact spec_DelCost.mono _ _ _ _ _)
   | (with_reducible exact spec_TreeOk.mono _ _)
   | (with_reducible exact LeO.refl _)
   | (with_reducible exact LeO.none _)
   | (with_reducible refine LeO.ite ?_ ?_)
   | (with_reducible refine LeO.bind ?_ (fun _=>?_))
   | exact ih0 _ _ _ _ _ _
   | exact spec_DelCost.mono _ _ _ _ _
   | exact spec_TreeOk.mono _ _
   | exact LeO.none _
   | refine LeO.ite ?_ ?_
   | refine LeO.bind ?_ (fun _=>?_)
def spec_DelTree.T5 : Bool × List (List Nat × List Nat):=(true,[([],[]),([],[]),([],[]),([],[]),([2,3],[2,3]),([4],[4]),([5],[5]),([1,6],[1,6]),([0,7],[0,7]),([8,7,0,1,2,3,4,5,6,7,8],[0,8])])
def spec_DelTree.B5 : List Nat:=[0,0,0,0,12,28,60,126,255,511]
theorem spec_DelTree.tab5 : rtab .any (opsOf Try.f105 5) = spec_DelTree.T5:=by kernel_rfl
theorem spec_DelTree.bits5 : waitsOk spec_DelTree.T5.2 spec_DelTree.B5 = true:=by kernel_rfl
set_option maxHeartbeats 8000000 in
set_option maxRecDepth 100000 in
theorem spec_DelTree.calls (k : Nat) (A0 : Option Addr) (c0 : Nat) (l0 : List (S59)) (A1_0 : Option Addr) (c1_0 : Nat) (l1_0 : List Int) (A1_1 : Option Addr) (c1_1 : Nat) (l1_1 : List Int) (A1_2 : Option Addr) (c1_2 : Nat) (l1_2 : List Int) (r : Int) (w : World) (hr0 : Kd.C k59 w A0 l0.length l0) (hc0 : l0.length ≤ c0) (hr1_0 : Kd.C (Kd.int .i64) w A1_0 l1_0.length l1_0) (hc1_0 : l1_0.length ≤ c1_0) (hr1_1 : Kd.C (Kd.int .i64) w A1_1 l1_1.length l1_1) (hc1_1 : l1_1.length ≤ c1_1) (hr1_2 : Kd.C (Kd.int .i64) w A1_2 l1_2.length l1_2) (hc1_2 : l1_2.length ≤ c1_2) (h : spec_DelTree.f k l0 l1_0 l1_1 l1_2 = some r) :
  Calls Try.prog 105 #[.slice A0 l0.length c0,.agg #[.slice A1_0 l1_0.length c1_0,.slice A1_1 l1_1.length c1_1,.slice A1_2 l1_2.length c1_2]] w fun e w'=>e = .returned (.int .i64 r) ∧ Below w.heap.size w w':=by
 have hu37:=Try.underlying37
 have HR0:=Aside0.mk hr0
 have HC0:=Aside0.mk hc0
 clear hr0 hc0
 have HR1_0:=Aside0.mk hr1_0
 have HC1_0:=Aside0.mk hc1_0
 clear hr1_0 hc1_0
 have HR1_1:=Aside0.mk hr1_1
 have HC1_1:=Aside0.mk hc1_1
 clear hr1_1 hc1_1
 have HR1_2:=Aside0.mk hr1_2
 have HC1_2:=Aside0.mk hc1_2
 clear hr1_2 hc1_2
 have HB:=Aside0.mk (Below.refl w.heap.size w)
 have H : (spec_DelTree.l0 k l0 0 0 l1_0 l1_1 l1_2) = some r:=h
 clear h
 have H':=Aside0.mk H
 clear H
 go_enter Try.func105,Try.ntmps105
 go_wp2_with (first | ((with_reducible refine gate_dst (N:=3) rfl ?_);refine box_event ?hg (N:=3) ?hd (cs:=#[.slice A1_0 l1_0.length c1_0,.slice A1_1 l1_1.length c1_1,.slice A1_2 l1_2.length c1_2]) (t:=37) ?hr ?_;(case hd=>rfl);(case hg=>rfl);(case hr=>first | (go_simp;done) | (go_simp;rfl));intro gb495 hg w3 hbox hb;have BK495:=Aside0.mk (hbox);have GW495:=Aside0.mk ((by rw [hg];exact (below_size (laB HB.out)) : w.heap.size ≤ gb495));have GE495:=Aside0.mk ((by rw [hg];exact (below_size (laB HB.out)) : w.heap.size ≤ gb495));have ge495_:=Nonempty.intro GE495.out;replace HB:=Aside0.mk (below_step (laB HB.out) hb);clear hb hbox hg))
 go_loopg [5,6] k (fun kq v5 v6 w'=>∃ (x5_1 : Int) (x6_1 : Int),v5 = .int .i64 x5_1 ∧ v6 = .int .i64 x6_1 ∧ Aside0 (spec_DelTree.l0 kq l0 x5_1 x6_1 l1_0 l1_1 l1_2 = some r) ∧ Aside0 (kq ≤ k) ∧ Aside0 (w'.heap[gb495]? = some (.cells #[(.slice A1_0 l1_0.length c1_0),(.slice A1_1 l1_1.length c1_1),(.slice A1_2 l1_2.length c1_2)] 37 (0,0))) ∧ Aside0 (Below w.heap.size w w'))
 case atStart=>exact ⟨(0),(0),(by first | rfl | (simp;done) | (simp [*];done)),(by first | rfl | (simp;done) | (simp [*];done)),H',⟨Nat.le_refl _⟩,⟨laK BK495.out⟩,⟨laB HB.out⟩⟩
 case round =>
  clear H'
  try clear c1
  try clear p2
  obtain ⟨x5_1,x6_1,rfl,rfl,HA,HK1,BK495,HB⟩:=hrel
  cases gk with
  | zero=>exact absurd HA.out (by simp [spec_DelTree.l0])
  | succ k1 =>
   have H:=HA.out;clear HA;simp only [spec_DelTree.l0] at H
   by_cases c4 : x6_1 < (l0.length : Int)
   rotate_left
   ·rw [if_neg c4] at H
    have c4b0 : decide (x6_1 < (l0.length : Int)) = false:=decide_eq_false c4;clear c4
    obtain rfl:=Option.some.inj H
    go_wp2
    go_ret
    exact ⟨by first | rfl | (simp [errW_none,errW_some] <;> rfl) | (simp [*,errW_none,errW_some] <;> rfl),laB HB.out⟩
   rw [if_pos c4] at H;have c4b0 : decide (x6_1 < (l0.length : Int)) = true:=decide_eq_true c4;clear c4;replace H:=Option.bind_eq_some_iff.mp H
   obtain ⟨t496,A50,H⟩:=H
   have A5:=Aside0.mk A50;clear A50
   by_cases c6 : t496 = true
   ·subst c6
    rw [if_pos rfl] at H
    by_cases c7 : 0 ≤ x6_1
    rotate_left
    ·rw [if_neg c7] at H
     exact absurd H (by simp)
    rw [if_pos c7] at H;have c7b0 : decide (0 ≤ x6_1) = true:=decide_eq_true c7;clear c7;replace H:=Option.bind_eq_some_iff.mp H
    obtain ⟨t498,A80,H⟩:=H
    have A8:=Aside0.mk A80;clear A80;have H':=Aside0.mk H;clear H
    try go_wp2_with (first | (go_at_call 56;(with_reducible refine (spec_TreeOk.calls k1 _ _ l0 true _ ?side1 ?side2 A5.out).mono ?_);(case side1=>exact laC (Kd.C_below HR0.out HB.out));(case side2=>exact HC0.out);rintro e w9 ⟨rfl,hb⟩;replace BK495:=Aside0.mk (laKb BK495.out hb);replace HB:=Aside0.mk (below_step (laB HB.out) hb);(try clear hb);(try clear hb2);(try clear hk);(try clear hi)))
    replace BK495:=Aside0.mk (blk_drew BK495.out);replace HB:=Aside0.mk (below_drew1 HB.out);have p497 : 0 ≤ (x6_1 : Int):=of_decide_eq_true (by first | (with_reducible assumption) | assumption);have q497 : x6_1 < (l0.length : Int):=of_decide_eq_true (by first | (with_reducible assumption) | assumption)
    obtain ⟨ad497,e497,hx497_0,hx497_1⟩:=at_T59 HR0.out x6_1 p497 q497
    have hw497_1:=hx497_1;have hw497_0:=hx497_0
    cases e497
    replace hx497_0:=(HB.out.cell (World.block_lt_of_cell? w _ hx497_0)).trans hx497_0;replace hx497_1:=(HB.out.cell (World.block_lt_of_cell? w _ hx497_1)).trans hx497_1;replace p497:=eq_true p497;replace q497:=eq_true q497;refine start_ (n:=10) (S:=fun w'=>w'.cell? ⟨gb495,0,none⟩ = some (.slice A1_0 l1_0.length c1_0) ∧ w'.cell? ⟨gb495,1,none⟩ = some (.slice A1_1 l1_1.length c1_1) ∧ w'.cell? ⟨gb495,2,none⟩ = some (.slice A1_2 l1_2.length c1_2) ∧ w'.cell? (ad497.add ((x6_1).toNat * 2)) = some (.int .i64 ((rd_T59 l0 x6_1).f0)) ∧ w'.cell? ⟨(ad497.add ((x6_1).toNat * 2)).block,(ad497.add ((x6_1).toNat * 2)).off + 1,none⟩ = some (.int .i64 ((rd_T59 l0 x6_1).f1))) (ds:=[]) (pw 10 0) (by kernel_rfl) rfl rfl ⟨(blk_cell BK495.out 0).trans rfl,(blk_cell BK495.out 1).trans rfl,(blk_cell BK495.out 2).trans rfl,((HB.out.cell (World.block_lt_of_cell? w _ hw497_0)).trans hw497_0),((HB.out.cell (World.block_lt_of_cell? w _ hw497_1)).trans hw497_1)⟩ (fun hHeld=>?_);refine with_tabW spec_DelTree.tab5 spec_DelTree.bits5 (fun HT_ HW_=>?_)
    generalize w9.drew = w10 at BK495 HB hx497_0 hx497_1 hHeld ⊢
    refine pure_ (i:=0) (N:=some 17) (v:=?_) (a':=?_) (pw 10 1) rfl rfl (any_of HT_.out (by kernel_rfl)) (fun _ _ _ h=>h) (Or.inl ⟨by rfl,?_⟩) ?_ ?_;rotate_left
    ·intro w';go_simp;with_reducible rfl
    rotate_left;·simp only [Act.put,za,zb,zc,i64_w,i32_w];rfl
    refine pure_ (i:=2) (N:=some 19) (v:=?_) (a':=?_) (bw 10 5) rfl rfl (any_of HT_.out (by kernel_rfl)) (fun _ _ _ h=>h) (Or.inl ⟨by rfl,?_⟩) ?_ ?_;rotate_left
    ·intro w';go_simp;with_reducible rfl
    rotate_left;·simp only [Act.put,za,zb,zc,i64_w,i32_w];rfl
    refine pure_ (i:=3) (N:=some 20) (v:=?_) (a':=?_) (bw 10 13) rfl rfl (any_of HT_.out (by kernel_rfl)) (fun _ _ _ h=>h) (Or.inl ⟨by rfl,?_⟩) ?_ ?_;rotate_left
    ·intro w';go_simp;with_reducible rfl
    rotate_left;·simp only [Act.put,za,zb,zc,i64_w,i32_w];rfl
    refine pure_ (i:=4) (N:=some 21) (v:=?_) (a':=?_) (bw 10 29) rfl rfl (any_of HT_.out (by kernel_rfl)) (fun _ _ _ h=>h) (Or.inl ⟨by rfl,?_⟩) ?_ ?_;rotate_left
    ·intro w';go_simp;with_reducible rfl
    rotate_left;·simp only [Act.put,za,zb,zc,i64_w,i32_w];rfl
    refine pure_ (i:=5) (N:=some 22) (v:=?_) (a':=?_) (bw 10 61) rfl rfl (any_of HT_.out (by kernel_rfl)) (fun _ _ _ h=>h) (Or.inl ⟨by rfl,?_⟩) ?_ ?_;rotate_left
    ·intro w';go_simp;with_reducible rfl
    rotate_left;·simp only [Act.put,za,zb,zc,i64_w,i32_w];rfl
    refine take_ (i:=1) (N:=some 18) (v:=?_) (a':=?_) (pw 10 6) rfl rfl (take_ofW HT_.out HW_.out (by kernel_rfl)) (fun _ _ _ h=>h) (Or.inl ⟨by rfl,?_⟩) hHeld ?_ ?_;rotate_left
    ·rintro w' ⟨s0,s1,s2,s3,s4⟩
     go_simp;with_reducible rfl
    rotate_left;·simp only [Act.put,za,zb,zc,i64_w,i32_w];rfl
    refine take_ (i:=6) (N:=some 23) (v:=?_) (a':=?_) (pw 10 7) rfl rfl (take_ofW HT_.out HW_.out (by kernel_rfl)) (fun _ _ _ h=>h) (Or.inl ⟨by rfl,?_⟩) hHeld ?_ ?_;rotate_left
    ·rintro w' ⟨s0,s1,s2,s3,s4⟩
     go_simp;with_reducible rfl
    rotate_left;·simp only [Act.put,za,zb,zc,i64_w,i32_w];rfl
    refine one_ (i:=7) (N:=some 24) (pw 10 8) rfl rfl (one_of HT_.out (by kernel_rfl)) (by decide) (fun K hK=>?_);refine goes_ Try.func65 (by kernel_rfl) rfl #[.agg #[.slice A1_0 l1_0.length c1_0,.slice A1_1 l1_1.length c1_1,.slice A1_2 l1_2.length c1_2],.int .i64 ((rd_T59 l0 x6_1).f0)] (by rfl) rfl rfl (by (try simp only [List.map_toArray,List.map_cons,List.map_nil]);first | done | rfl | (simp only [List.length_drop,List.length_take];rfl)) ?_;with_reducible refine (spec_DelCost.calls k1 _ _ l1_0 _ _ l1_1 _ _ l1_2 ((rd_T59 l0 x6_1).f0) t498 _ ?side1 ?side2 ?side3 ?side4 ?side5 ?side6 A8.out).mono ?_
    (case side1=>exact laC (Kd.C_below HR1_0.out HB.out));(case side2=>exact HC1_0.out);(case side3=>exact laC (Kd.C_below HR1_1.out HB.out));(case side4=>exact HC1_1.out);(case side5=>exact laC (Kd.C_below HR1_2.out HB.out));(case side6=>exact HC1_2.out);rintro e w11 ⟨rfl,hb⟩;refine ⟨_,rfl,?_⟩;replace BK495:=Aside0.mk (laKb BK495.out hb);replace HB:=Aside0.mk (below_step (laB HB.out) hb);(try clear hb);(try clear hb2);(try clear hk);(try clear hi);refine hK.out _ _ ⟨(blk_cell BK495.out 0).trans rfl,(blk_cell BK495.out 1).trans rfl,(blk_cell BK495.out 2).trans rfl,((HB.out.cell (World.block_lt_of_cell? w _ hw497_0)).trans hw497_0),((HB.out.cell (World.block_lt_of_cell? w _ hw497_1)).trans hw497_1)⟩ (fun hHeld=>?_);clear hK K;refine norm_ (a':=?_) ?_ ?_;rotate_left
    ·show Act.put _ (some 24) _ = _
     simp only [Act.put,za,zb,zc,i64_w,i32_w];rfl
    refine pure_ (i:=8) (N:=some 25) (v:=?_) (a':=?_) (pw 10 9) rfl rfl (any_of HT_.out (by kernel_rfl)) (fun _ _ _ h=>h) (Or.inl ⟨by rfl,?_⟩) ?_ ?_;rotate_left
    ·intro w';go_simp;with_reducible rfl
    rotate_left;·simp only [Act.put,za,zb,zc,i64_w,i32_w];rfl
    refine pure_ (i:=9) (N:=some 5) (v:=?_) (a':=?_) (pw 10 10) rfl rfl (any_of HT_.out (by kernel_rfl)) (fun _ _ _ h=>h) (Or.inl ⟨by rfl,?_⟩) ?_ ?_;rotate_left
    ·intro w';go_simp;with_reducible rfl
    rotate_left;·simp only [Act.put,za,zb,zc,i64_w,i32_w];rfl
    refine done_ (done_of HT_.out (by kernel_rfl)) ?_
    try go_wp2
    go_roundg k1
    case measure=>have:=HK1.out;omega
    case rel=>exact ⟨(wrap64 (x5_1 + t498)),(wrap64 (x6_1 + 1)),(by first | rfl | (simp;done) | (simp [*];done)),(by first | rfl | (simp;done) | (simp [*];done)),H',⟨by have:=HK1.out;omega⟩,⟨laK BK495.out⟩,⟨laB HB.out⟩⟩
   ·replace c6:=Bool.eq_false_iff.mpr c6
    subst c6;rw [if_neg (show ¬ (false = true) by decide)] at H
    obtain rfl:=Option.some.inj H
    go_wp2_with (first | (go_at_call 56;(with_reducible refine (spec_TreeOk.calls k1 _ _ l0 false _ ?side1 ?side2 A5.out).mono ?_);(case side1=>exact laC (Kd.C_below HR0.out HB.out));(case side2=>exact HC0.out);rintro e w12 ⟨rfl,hb⟩;replace BK495:=Aside0.mk (laKb BK495.out hb);replace HB:=Aside0.mk (below_step (laB HB.out) hb);(try clear hb);(try clear hb2);(try clear hk);(try clear hi)))
    go_ret
    exact ⟨by first | rfl | (simp [errW_none,errW_some] <;> rfl) | (simp [*,errW_none,errW_some] <;> rfl),laB HB.out⟩



/-! ### spec_SubTree: function 106 -/
def spec_SubTree.l0 : Nat → List (S59) → Int → List (S59) → Int → Option ((List (S59)))
 | 0,_,_,_,_=>none
 | k + 1,x0,x1,x5,x6=>(spec_l3At.f k x0 x1).bind fun t502=>(if t502 = true then ((spec_EndOf.f k x0 x1).bind fun t503=>(if x6 < t503 then (if 0 ≤ x6 then (if x6 < (x0.length : Int) then (if 0 ≤ x1 then (if x1 < (x0.length : Int) then (if x5.length < 8796093022208 then (spec_SubTree.l0 k x0 x1 (x5 ++ [(⟨(rd_T59 x0 x6).f0,wrap64 (((rd_T59 x0 x6).f1) - ((rd_T59 x0 x1).f1))⟩ : S59)]) (wrap64 (x6 + 1))) else (none)) else (none)) else (none)) else (none)) else (none)) else (some x5))) else (some x5))
def spec_SubTree.f (k : Nat) (l0 : List (S59)) (a1 : Int) : Option ((List (S59))):=spec_SubTree.l0 k l0 a1 (([] : List (S59))) a1
theorem spec_SubTree.mono_l : ∀ k,(∀ y0 y1 y2 y3,LeO (spec_SubTree.l0 k y0 y1 y2 y3) (spec_SubTree.l0 (k + 1) y0 y1 y2 y3))
 | 0=>fun _ _ _ _ r h=>by simp [spec_SubTree.l0] at h
 | k + 1=>by
  have ih0:=spec_SubTree.mono_l k
  ·intro y0 y1 y2 y3
   unfold spec_SubTree.l0
   repeat' first
   | (with_reducible exact ih0 _ _ _ _)
   | (with_reducible exact spec_EndOf.mono _ _ _)
   | (with_reducible exact spec_l3At.mono _ _ _)
   | (with_reducible exact LeO.refl _)
   | (with_reducible exact LeO.none _)
   | (with_reducible refine LeO.ite ?_ ?_)
   | (with_reducible refine LeO.bind ?_ (fun _=>?_))
   | exact ih0 _ _ _ _
   | exact spec_EndOf.mono _ _ _
   | exact spec_l3At.mono _ _ _
   | exact LeO.none _
   | refine LeO.ite ?_ ?_
   | refine LeO.bind ?_ (fun _=>?_)
theorem spec_SubTree.mono : ∀ a0 a1 k,LeO (spec_SubTree.f k a0 a1) (spec_SubTree.f (k + 1) a0 a1):=by
 intro a0 a1 k
 have ih0:=spec_SubTree.mono_l k
 unfold spec_SubTree.f
 repeat' first
   | (with_reducible exact ih0 _ _ _ _)
   | (with_reducible exact spec_EndOf.mono _ _ _)
   | (with_reducible exact spec_l3At.mono _ _ _)
   | (with_reducible exact LeO.refl _)
   | (with_reducible exact LeO.none _)
   | (with_reducible refine LeO.ite ?_ ?_)
   | (with_reducible refine LeO.bind ?_ (fun _=>?_))
   | exact ih0 _ _ _ _
   | exact spec_EndOf.mono _ _ _
   | exact spec_l3At.mono _ _ _
   | exact LeO.none _
   | refine LeO.ite ?_ ?_
   | refine LeO.bind ?_ (fun _=>?_)
def spec_SubTree.T5 : Bool × List (List Nat × List Nat):=(true,[([],[]),([],[]),([],[]),([1,2],[1,2]),([3],[3]),([4],[4]),([],[]),([],[]),([6,7],[6,7]),([8],[8]),([9],[9]),([],[]),([],[]),([11,12],[11,12]),([13],[13]),([14],[14]),([10,15],[10,15]),([5,16],[5,16]),([17],[17]),([0,18],[0,18]),([19,19,0,1,2,3,4,5,6,7,8,9,10,11,12,13,14,15,16,17,18,19],[0,19])])
def spec_SubTree.B5 : List Nat:=[0,0,0,6,14,30,0,0,192,448,960,0,0,6144,14336,30720,65472,131070,262142,524287,1048575]
theorem spec_SubTree.tab5 : rtab .any (opsOf Try.f106 5) = spec_SubTree.T5:=by kernel_rfl
theorem spec_SubTree.bits5 : waitsOk spec_SubTree.T5.2 spec_SubTree.B5 = true:=by kernel_rfl
set_option maxHeartbeats 8000000 in
set_option maxRecDepth 100000 in
theorem spec_SubTree.calls (k : Nat) (A0 : Option Addr) (c0 : Nat) (l0 : List (S59)) (a1 : Int) (r : List (S59)) (w : World) (hr0 : Kd.C k59 w A0 l0.length l0) (hc0 : l0.length ≤ c0) (h : spec_SubTree.f k l0 a1 = some r) :
  Calls Try.prog 106 #[.slice A0 l0.length c0,.int .i64 a1] w fun e w'=>∃ v0_ : Value,e = .returned (v0_) ∧ Kd.R k59 59 w' w.heap.size (fun _=>True) v0_ r ∧ Below w.heap.size w w':=by
 have hu59:=Try.underlying59
 have HR0:=Aside0.mk hr0
 have HC0:=Aside0.mk hc0
 clear hr0 hc0
 have HB:=Aside0.mk (Below.refl w.heap.size w)
 have H : (spec_SubTree.l0 k l0 a1 (([] : List (S59))) a1) = some r:=h
 clear h
 obtain ⟨y499,hy499⟩ : ∃ y_ : List (S59),y_ = (([] : List (S59))):=⟨_,rfl⟩
 replace H : (spec_SubTree.l0 k l0 a1 y499 a1) = some r:=by first | (rw [hy499];with_reducible exact H) | (have H2_:=(Option.bind_some _ _).symm.trans H;rw [hy499];with_reducible exact H2_) | (have H2_:=(Option.bind_some _ _).symm.trans H;with_reducible exact H2_) | with_reducible exact H | (rw [hy499];exact H) | exact H
 have Ny499:=Aside0.mk hy499
 clear hy499
 have H':=Aside0.mk H
 clear H
 go_enter Try.func106,Try.ntmps106
 go_wp2_with (first | ((with_reducible refine gate_dst (N:=7) rfl ?_);refine Kd.R_lit k59 _ 59 ?hg (N:=7) ?hd (xs:=([] : List (S59))) (inner:=[]) (ok:=fun _=>True) (okp:=fun _=>True) ?hr ?hp (fun _ hk=>hk) trivial (Below.refl _ _) (Nat.le_refl _) (by simp) ?_;(case hd=>rfl);(case hg=>rfl);(case hr=>first | (go_simp;done) | (go_simp;rfl));(case hp=>exact (Reps.none _ _));intro v500 w3 ho4 hb hg_ hnew_;clear hg_ hnew_;(first | rw [← Ny499.out] at ho4 | (simp only [Int.reduceToNat] at ho4;rw [← Ny499.out] at ho4));have HO501:=Aside0.mk (Kd.R_lower ho4 (below_size (laB HB.out)));replace HB:=Aside0.mk (below_step (laB HB.out) hb);clear hb ho4))
 go_loopg [5,6] k (fun kq v5 v6 w'=>∃ (x5_1 : List (S59)) (x6_1 : Int),v6 = .int .i64 x6_1 ∧ Aside0 (spec_SubTree.l0 kq l0 a1 x5_1 x6_1 = some r) ∧ Aside0 (kq ≤ k) ∧ Aside0 (Kd.R k59 59 w' w.heap.size (fun _=>True) v5 x5_1) ∧ Aside0 (Below w.heap.size w w'))
 case atStart=>exact ⟨(y499),(a1),(by first | rfl | (simp;done) | (simp [*];done)),H',⟨Nat.le_refl _⟩,⟨laR HO501.out⟩,⟨laB HB.out⟩⟩
 case round =>
  clear H'
  try clear c1
  try clear p2
  obtain ⟨x5_1,x6_1,rfl,HA,HK1,HO_5,HB⟩:=hrel
  cases gk with
  | zero=>exact absurd HA.out (by simp [spec_SubTree.l0])
  | succ k1 =>
   have H:=HA.out;clear HA;simp only [spec_SubTree.l0] at H;replace H:=Option.bind_eq_some_iff.mp H
   obtain ⟨t502,A50,H⟩:=H
   have A5:=Aside0.mk A50;clear A50
   by_cases c6 : t502 = true
   ·subst c6
    rw [if_pos rfl] at H;replace H:=Option.bind_eq_some_iff.mp H
    obtain ⟨t503,A70,H⟩:=H
    have A7:=Aside0.mk A70;clear A70
    by_cases c8 : x6_1 < t503
    rotate_left
    ·rw [if_neg c8] at H
     have c8b0 : decide (x6_1 < t503) = false:=decide_eq_false c8;clear c8
     obtain rfl:=Option.some.inj H
     go_wp2_with (first | ((with_reducible refine gate_callee (f:=102) rfl ?_);refine goesL_ (some 11) rfl rfl Try.func102 (by kernel_rfl) rfl #[.slice A0 l0.length c0,.int .i64 a1] rfl (by (try simp only [List.map_toArray,List.map_cons,List.map_nil]);first | done | rfl | (simp only [List.length_drop,List.length_take];rfl)) ?_;(with_reducible refine (spec_l3At.calls k1 _ _ l0 a1 true _ ?side1 ?side2 A5.out).mono ?_);(case side1=>exact laC (Kd.C_below HR0.out HB.out));(case side2=>exact HC0.out);rintro e w18 ⟨rfl,hb⟩;refine ⟨_,rfl,?_⟩;replace HO_5:=Aside0.mk (laRb HO_5.out hb);replace HB:=Aside0.mk (below_step (laB HB.out) hb);(try clear hb);(try clear hb2);(try clear hk);(try clear hi)) | (go_at_call 125;(with_reducible refine (spec_EndOf.calls k1 _ _ l0 a1 t503 _ ?side1 ?side2 A7.out).mono ?_);(case side1=>exact laC (Kd.C_below HR0.out HB.out));(case side2=>exact HC0.out);rintro e w19 ⟨rfl,hb⟩;replace HO_5:=Aside0.mk (laRb HO_5.out hb);replace HB:=Aside0.mk (below_step (laB HB.out) hb);(try clear hb);(try clear hb2);(try clear hk);(try clear hi)))
     go_ret
     exact ⟨_,by first | rfl | (simp [errW_none,errW_some] <;> rfl) | (simp [*,errW_none,errW_some] <;> rfl),by (with_reducible repeat (first | apply Kd.R_alloc | apply Kd.R_drewN | apply Kd.R_drew));exact HO_5.out,laB HB.out⟩
    rw [if_pos c8] at H;have c8b0 : decide (x6_1 < t503) = true:=decide_eq_true c8;clear c8
    by_cases c9 : 0 ≤ x6_1
    rotate_left
    ·rw [if_neg c9] at H
     exact absurd H (by simp)
    rw [if_pos c9] at H;have c9b0 : decide (0 ≤ x6_1) = true:=decide_eq_true c9;clear c9
    by_cases c10 : x6_1 < (l0.length : Int)
    rotate_left
    ·rw [if_neg c10] at H
     exact absurd H (by simp)
    rw [if_pos c10] at H;have c10b0 : decide (x6_1 < (l0.length : Int)) = true:=decide_eq_true c10;clear c10
    by_cases c11 : 0 ≤ a1
    rotate_left
    ·rw [if_neg c11] at H
     exact absurd H (by simp)
    rw [if_pos c11] at H;have c11b0 : decide (0 ≤ a1) = true:=decide_eq_true c11;clear c11
    by_cases c12 : a1 < (l0.length : Int)
    rotate_left
    ·rw [if_neg c12] at H
     exact absurd H (by simp)
    rw [if_pos c12] at H;have c12b0 : decide (a1 < (l0.length : Int)) = true:=decide_eq_true c12;clear c12
    by_cases c13 : x5_1.length < 8796093022208
    rotate_left
    ·rw [if_neg c13] at H
     exact absurd H (by simp)
    rw [if_pos c13] at H;have LMc13:=Aside0.mk c13;clear c13
    obtain ⟨y507,hy507⟩ : ∃ y_ : List (S59),y_ = (x5_1 ++ [(⟨(rd_T59 l0 x6_1).f0,wrap64 (((rd_T59 l0 x6_1).f1) - ((rd_T59 l0 a1).f1))⟩ : S59)]):=⟨_,rfl⟩
    replace H : (spec_SubTree.l0 k1 l0 a1 y507 (wrap64 (x6_1 + 1))) = some r:=by first | (rw [hy507];with_reducible exact H) | (have H2_:=(Option.bind_some _ _).symm.trans H;rw [hy507];with_reducible exact H2_) | (have H2_:=(Option.bind_some _ _).symm.trans H;with_reducible exact H2_) | with_reducible exact H | (rw [hy507];exact H) | exact H
    have Ny507:=Aside0.mk hy507;clear hy507;have H':=Aside0.mk H;clear H
    try go_wp2_with (first | ((with_reducible refine gate_callee (f:=102) rfl ?_);refine goesL_ (some 11) rfl rfl Try.func102 (by kernel_rfl) rfl #[.slice A0 l0.length c0,.int .i64 a1] rfl (by (try simp only [List.map_toArray,List.map_cons,List.map_nil]);first | done | rfl | (simp only [List.length_drop,List.length_take];rfl)) ?_;(with_reducible refine (spec_l3At.calls k1 _ _ l0 a1 true _ ?side1 ?side2 A5.out).mono ?_);(case side1=>exact laC (Kd.C_below HR0.out HB.out));(case side2=>exact HC0.out);rintro e w14 ⟨rfl,hb⟩;refine ⟨_,rfl,?_⟩;replace HO_5:=Aside0.mk (laRb HO_5.out hb);replace HB:=Aside0.mk (below_step (laB HB.out) hb);(try clear hb);(try clear hb2);(try clear hk);(try clear hi)) | (go_at_call 125;(with_reducible refine (spec_EndOf.calls k1 _ _ l0 a1 t503 _ ?side1 ?side2 A7.out).mono ?_);(case side1=>exact laC (Kd.C_below HR0.out HB.out));(case side2=>exact HC0.out);rintro e w15 ⟨rfl,hb⟩;replace HO_5:=Aside0.mk (laRb HO_5.out hb);replace HB:=Aside0.mk (below_step (laB HB.out) hb);(try clear hb);(try clear hb2);(try clear hk);(try clear hi)))
    replace HO_5:=Aside0.mk (Kd.R_drew HO_5.out);replace HB:=Aside0.mk (below_drew1 HB.out);have p504 : 0 ≤ (x6_1 : Int):=of_decide_eq_true (by first | (with_reducible assumption) | assumption);have q504 : x6_1 < (l0.length : Int):=of_decide_eq_true (by first | (with_reducible assumption) | assumption)
    obtain ⟨ad504,e504,hx504_0,hx504_1⟩:=at_T59 HR0.out x6_1 p504 q504
    have hw504_1:=hx504_1;have hw504_0:=hx504_0
    cases e504
    replace hx504_0:=(HB.out.cell (World.block_lt_of_cell? w _ hx504_0)).trans hx504_0;replace hx504_1:=(HB.out.cell (World.block_lt_of_cell? w _ hx504_1)).trans hx504_1;replace p504:=eq_true p504;replace q504:=eq_true q504;have p505 : 0 ≤ (x6_1 : Int):=of_decide_eq_true (by first | (with_reducible assumption) | assumption);have q505 : x6_1 < (l0.length : Int):=of_decide_eq_true (by first | (with_reducible assumption) | assumption)
    obtain ⟨ad505,e505,hx505_0,hx505_1⟩:=at_T59 HR0.out x6_1 p505 q505
    have hw505_1:=hx505_1;have hw505_0:=hx505_0
    obtain rfl : ad504 = ad505:=(by injection e505)
    replace hx505_0:=(HB.out.cell (World.block_lt_of_cell? w _ hx505_0)).trans hx505_0;replace hx505_1:=(HB.out.cell (World.block_lt_of_cell? w _ hx505_1)).trans hx505_1;replace p505:=eq_true p505;replace q505:=eq_true q505;have p506 : 0 ≤ (a1 : Int):=of_decide_eq_true (by first | (with_reducible assumption) | assumption);have q506 : a1 < (l0.length : Int):=of_decide_eq_true (by first | (with_reducible assumption) | assumption)
    obtain ⟨ad506,e506,hx506_0,hx506_1⟩:=at_T59 HR0.out a1 p506 q506
    have hw506_1:=hx506_1;have hw506_0:=hx506_0
    obtain rfl : ad504 = ad506:=(by injection e506)
    replace hx506_0:=(HB.out.cell (World.block_lt_of_cell? w _ hx506_0)).trans hx506_0;replace hx506_1:=(HB.out.cell (World.block_lt_of_cell? w _ hx506_1)).trans hx506_1;replace p506:=eq_true p506;replace q506:=eq_true q506;refine start_ (n:=21) (S:=fun w'=>w'.cell? (ad504.add ((x6_1).toNat * 2)) = some (.int .i64 ((rd_T59 l0 x6_1).f0)) ∧ w'.cell? ⟨(ad504.add ((x6_1).toNat * 2)).block,(ad504.add ((x6_1).toNat * 2)).off + 1,none⟩ = some (.int .i64 ((rd_T59 l0 x6_1).f1)) ∧ w'.cell? (ad504.add ((x6_1).toNat * 2)) = some (.int .i64 ((rd_T59 l0 x6_1).f0)) ∧ w'.cell? ⟨(ad504.add ((x6_1).toNat * 2)).block,(ad504.add ((x6_1).toNat * 2)).off + 1,none⟩ = some (.int .i64 ((rd_T59 l0 x6_1).f1)) ∧ w'.cell? (ad504.add ((a1).toNat * 2)) = some (.int .i64 ((rd_T59 l0 a1).f0)) ∧ w'.cell? ⟨(ad504.add ((a1).toNat * 2)).block,(ad504.add ((a1).toNat * 2)).off + 1,none⟩ = some (.int .i64 ((rd_T59 l0 a1).f1))) (ds:=[]) (pw 21 0) (by kernel_rfl) rfl rfl ⟨((HB.out.cell (World.block_lt_of_cell? w _ hw504_0)).trans hw504_0),((HB.out.cell (World.block_lt_of_cell? w _ hw504_1)).trans hw504_1),((HB.out.cell (World.block_lt_of_cell? w _ hw505_0)).trans hw505_0),((HB.out.cell (World.block_lt_of_cell? w _ hw505_1)).trans hw505_1),((HB.out.cell (World.block_lt_of_cell? w _ hw506_0)).trans hw506_0),((HB.out.cell (World.block_lt_of_cell? w _ hw506_1)).trans hw506_1)⟩ (fun hHeld=>?_);refine with_tabW spec_SubTree.tab5 spec_SubTree.bits5 (fun HT_ HW_=>?_)
    generalize w15.drew = w16 at HO_5 HB hx504_0 hx504_1 hx505_0 hx505_1 hx506_0 hx506_1 hHeld ⊢
    refine pure_ (i:=0) (N:=some 21) (v:=?_) (a':=?_) (pw 21 1) rfl rfl (any_of HT_.out (by kernel_rfl)) (fun _ _ _ h=>h) (Or.inl ⟨by rfl,?_⟩) ?_ ?_;rotate_left
    ·intro w';go_simp;with_reducible rfl
    rotate_left;·simp only [Act.put,za,zb,zc,i64_w,i32_w];rfl
    refine pure_ (i:=1) (N:=some 22) (v:=?_) (a':=?_) (pw 21 2) rfl rfl (any_of HT_.out (by kernel_rfl)) (fun _ _ _ h=>h) (Or.inl ⟨by rfl,?_⟩) ?_ ?_;rotate_left
    ·intro w';go_simp;with_reducible rfl
    rotate_left;·simp only [Act.put,za,zb,zc,i64_w,i32_w];rfl
    refine pure_ (i:=2) (N:=some 23) (v:=?_) (a':=?_) (pw 21 3) rfl rfl (any_of HT_.out (by kernel_rfl)) (fun _ _ _ h=>h) (Or.inl ⟨by rfl,?_⟩) ?_ ?_;rotate_left
    ·intro w';go_simp;with_reducible rfl
    rotate_left;·simp only [Act.put,za,zb,zc,i64_w,i32_w];rfl
    refine pure_ (i:=3) (N:=some 24) (v:=?_) (a':=?_) (pw 21 4) rfl rfl (any_of HT_.out (by kernel_rfl)) (fun _ _ _ h=>h) (Or.inl ⟨by rfl,?_⟩) ?_ ?_;rotate_left
    ·intro w';go_simp;with_reducible rfl
    rotate_left;·simp only [Act.put,za,zb,zc,i64_w,i32_w];rfl
    refine pure_ (i:=4) (N:=some 25) (v:=?_) (a':=?_) (pw 21 5) rfl rfl (any_of HT_.out (by kernel_rfl)) (fun _ _ _ h=>h) (Or.inl ⟨by rfl,?_⟩) ?_ ?_;rotate_left
    ·intro w';go_simp;with_reducible rfl
    rotate_left;·simp only [Act.put,za,zb,zc,i64_w,i32_w];rfl
    refine pure_ (i:=6) (N:=some 27) (v:=?_) (a':=?_) (bw 21 95) rfl rfl (any_of HT_.out (by kernel_rfl)) (fun _ _ _ h=>h) (Or.inl ⟨by rfl,?_⟩) ?_ ?_;rotate_left
    ·intro w';go_simp;with_reducible rfl
    rotate_left;·simp only [Act.put,za,zb,zc,i64_w,i32_w];rfl
    refine pure_ (i:=7) (N:=some 28) (v:=?_) (a':=?_) (bw 21 223) rfl rfl (any_of HT_.out (by kernel_rfl)) (fun _ _ _ h=>h) (Or.inl ⟨by rfl,?_⟩) ?_ ?_;rotate_left
    ·intro w';go_simp;with_reducible rfl
    rotate_left;·simp only [Act.put,za,zb,zc,i64_w,i32_w];rfl
    refine pure_ (i:=8) (N:=some 29) (v:=?_) (a':=?_) (bw 21 479) rfl rfl (any_of HT_.out (by kernel_rfl)) (fun _ _ _ h=>h) (Or.inl ⟨by rfl,?_⟩) ?_ ?_;rotate_left
    ·intro w';go_simp;with_reducible rfl
    rotate_left;·simp only [Act.put,za,zb,zc,i64_w,i32_w];rfl
    refine pure_ (i:=9) (N:=some 30) (v:=?_) (a':=?_) (bw 21 991) rfl rfl (any_of HT_.out (by kernel_rfl)) (fun _ _ _ h=>h) (Or.inl ⟨by rfl,?_⟩) ?_ ?_;rotate_left
    ·intro w';go_simp;with_reducible rfl
    rotate_left;·simp only [Act.put,za,zb,zc,i64_w,i32_w];rfl
    refine pure_ (i:=11) (N:=some 32) (v:=?_) (a':=?_) (bw 21 3039) rfl rfl (any_of HT_.out (by kernel_rfl)) (fun _ _ _ h=>h) (Or.inl ⟨by rfl,?_⟩) ?_ ?_;rotate_left
    ·intro w';go_simp;with_reducible rfl
    rotate_left;·simp only [Act.put,za,zb,zc,i64_w,i32_w];rfl
    refine pure_ (i:=12) (N:=some 33) (v:=?_) (a':=?_) (bw 21 7135) rfl rfl (any_of HT_.out (by kernel_rfl)) (fun _ _ _ h=>h) (Or.inl ⟨by rfl,?_⟩) ?_ ?_;rotate_left
    ·intro w';go_simp;with_reducible rfl
    rotate_left;·simp only [Act.put,za,zb,zc,i64_w,i32_w];rfl
    refine pure_ (i:=13) (N:=some 34) (v:=?_) (a':=?_) (bw 21 15327) rfl rfl (any_of HT_.out (by kernel_rfl)) (fun _ _ _ h=>h) (Or.inl ⟨by rfl,?_⟩) ?_ ?_;rotate_left
    ·intro w';go_simp;with_reducible rfl
    rotate_left;·simp only [Act.put,za,zb,zc,i64_w,i32_w];rfl
    refine pure_ (i:=14) (N:=some 35) (v:=?_) (a':=?_) (bw 21 31711) rfl rfl (any_of HT_.out (by kernel_rfl)) (fun _ _ _ h=>h) (Or.inl ⟨by rfl,?_⟩) ?_ ?_;rotate_left
    ·intro w';go_simp;with_reducible rfl
    rotate_left;·simp only [Act.put,za,zb,zc,i64_w,i32_w];rfl
    refine take_ (i:=5) (N:=some 26) (v:=?_) (a':=?_) (bw 21 31743) rfl rfl (take_ofW HT_.out HW_.out (by kernel_rfl)) (fun _ _ _ h=>h) (Or.inl ⟨by rfl,?_⟩) hHeld ?_ ?_;rotate_left
    ·rintro w' ⟨s0,s1,s2,s3,s4,s5⟩
     go_simp;with_reducible rfl
    rotate_left;·simp only [Act.put,za,zb,zc,i64_w,i32_w];rfl
    refine take_ (i:=10) (N:=some 31) (v:=?_) (a':=?_) (pw 21 15) rfl rfl (take_ofW HT_.out HW_.out (by kernel_rfl)) (fun _ _ _ h=>h) (Or.inl ⟨by rfl,?_⟩) hHeld ?_ ?_;rotate_left
    ·rintro w' ⟨s0,s1,s2,s3,s4,s5⟩
     go_simp;with_reducible rfl
    rotate_left;·simp only [Act.put,za,zb,zc,i64_w,i32_w];rfl
    refine take_ (i:=15) (N:=some 36) (v:=?_) (a':=?_) (pw 21 16) rfl rfl (take_ofW HT_.out HW_.out (by kernel_rfl)) (fun _ _ _ h=>h) (Or.inl ⟨by rfl,?_⟩) hHeld ?_ ?_;rotate_left
    ·rintro w' ⟨s0,s1,s2,s3,s4,s5⟩
     go_simp;with_reducible rfl
    rotate_left;·simp only [Act.put,za,zb,zc,i64_w,i32_w];rfl
    refine pure_ (i:=16) (N:=some 37) (v:=?_) (a':=?_) (pw 21 17) rfl rfl (any_of HT_.out (by kernel_rfl)) (fun _ _ _ h=>h) (Or.inl ⟨by rfl,?_⟩) ?_ ?_;rotate_left
    ·intro w';go_simp;with_reducible rfl
    rotate_left;·simp only [Act.put,za,zb,zc,i64_w,i32_w];rfl
    refine pure_ (i:=17) (N:=some 38) (v:=?_) (a':=?_) (pw 21 18) rfl rfl (any_of HT_.out (by kernel_rfl)) (fun _ _ _ h=>h) (Or.inl ⟨by rfl,?_⟩) ?_ ?_;rotate_left
    ·intro w';go_simp;with_reducible rfl
    rotate_left;·simp only [Act.put,za,zb,zc,i64_w,i32_w];rfl
    refine one_ (i:=18) (N:=some 39) (pw 21 19) rfl rfl (one_of HT_.out (by kernel_rfl)) (by decide) (fun K hK=>?_);refine value_ (w1:=?_) (v:=?_) (by rfl) rfl ?_ ?_;rotate_left 2
    ·go_simp
     constructor
     ·rfl
     ·rfl
    refine hK.out _ _ ⟨(World.cell?_alloc_lt _ _ _ (World.block_lt_of_cell? _ _ (((HB.out.cell (World.block_lt_of_cell? w _ hw504_0)).trans hw504_0)))).trans (((HB.out.cell (World.block_lt_of_cell? w _ hw504_0)).trans hw504_0)),(World.cell?_alloc_lt _ _ _ (World.block_lt_of_cell? _ _ (((HB.out.cell (World.block_lt_of_cell? w _ hw504_1)).trans hw504_1)))).trans (((HB.out.cell (World.block_lt_of_cell? w _ hw504_1)).trans hw504_1)),(World.cell?_alloc_lt _ _ _ (World.block_lt_of_cell? _ _ (((HB.out.cell (World.block_lt_of_cell? w _ hw505_0)).trans hw505_0)))).trans (((HB.out.cell (World.block_lt_of_cell? w _ hw505_0)).trans hw505_0)),(World.cell?_alloc_lt _ _ _ (World.block_lt_of_cell? _ _ (((HB.out.cell (World.block_lt_of_cell? w _ hw505_1)).trans hw505_1)))).trans (((HB.out.cell (World.block_lt_of_cell? w _ hw505_1)).trans hw505_1)),(World.cell?_alloc_lt _ _ _ (World.block_lt_of_cell? _ _ (((HB.out.cell (World.block_lt_of_cell? w _ hw506_0)).trans hw506_0)))).trans (((HB.out.cell (World.block_lt_of_cell? w _ hw506_0)).trans hw506_0)),(World.cell?_alloc_lt _ _ _ (World.block_lt_of_cell? _ _ (((HB.out.cell (World.block_lt_of_cell? w _ hw506_1)).trans hw506_1)))).trans (((HB.out.cell (World.block_lt_of_cell? w _ hw506_1)).trans hw506_1))⟩ (fun hHeld=>?_);clear hK K;refine norm_ (a':=?_) ?_ ?_;rotate_left
    ·show Act.put _ (some 39) _ = _
     simp only [Act.put,za,zb,zc,i64_w,i32_w];rfl
    refine one_ (i:=19) (N:=some 40) (pw 21 20) rfl rfl (one_of HT_.out (by kernel_rfl)) (by decide) (fun K hK=>?_);refine Kd.R_append_step k59 (w0:=w) w.heap.size (by rfl) (.tmp 21) (.tmp 39) 26 59 (.agg #[(.int .i64 0),(.int .i64 0)]) 16 rfl Try.underlying26 info59 rfl (by decide) (by omega) u5 x5_1 (⟨(rd_T59 l0 x6_1).f0,wrap64 (((rd_T59 l0 x6_1).f1) - ((rd_T59 l0 a1).f1))⟩ : S59) [.int .i64 ((rd_T59 l0 x6_1).f0),.int .i64 (wrap64 (((rd_T59 l0 x6_1).f1) - ((rd_T59 l0 a1).f1)))] (fun _=>True) (fun _=>False) rfl rfl ?aP (fun _ hk=>hk.elim) ?aF ?aO ?aB ?aS ?aL ?_;(case aP=>exact k59_mkM _ _ _ (⟨(rd_T59 l0 x6_1).f0,wrap64 (((rd_T59 l0 x6_1).f1) - ((rd_T59 l0 a1).f1))⟩ : S59));(case aB=>exact (laB HB.out));(case aF=>exact (fun _ _=>trivial));(case aO=>exact (laR HO_5.out));(case aS=>exact (below_size (laB HB.out)));(case aL=>have:=LMc13.out;omega);intro v508 w17 ho hb hg hat;rw [← Ny507.out] at ho;have n0_:=Aside0.mk (hb);have n1_:=Aside0.mk (ho);clear HB;clear HO_5;have HB:=n0_;have HO509:=n1_;clear n0_ n1_;clear ho hb hg hat;refine hK.out _ _ ⟨((HB.out.cell (World.block_lt_of_cell? w _ hw504_0)).trans hw504_0),((HB.out.cell (World.block_lt_of_cell? w _ hw504_1)).trans hw504_1),((HB.out.cell (World.block_lt_of_cell? w _ hw505_0)).trans hw505_0),((HB.out.cell (World.block_lt_of_cell? w _ hw505_1)).trans hw505_1),((HB.out.cell (World.block_lt_of_cell? w _ hw506_0)).trans hw506_0),((HB.out.cell (World.block_lt_of_cell? w _ hw506_1)).trans hw506_1)⟩ (fun hHeld=>?_);clear hK K;refine norm_ (a':=?_) ?_ ?_;rotate_left
    ·show Act.put _ (some 40) _ = _
     simp only [Act.put,za,zb,zc,i64_w,i32_w];rfl
    refine pure_ (i:=20) (N:=some 5) (v:=?_) (a':=?_) (pw 21 21) rfl rfl (any_of HT_.out (by kernel_rfl)) (fun _ _ _ h=>h) (Or.inl ⟨by rfl,?_⟩) ?_ ?_;rotate_left
    ·intro w';go_simp;with_reducible rfl
    rotate_left;·simp only [Act.put,za,zb,zc,i64_w,i32_w];rfl
    refine done_ (done_of HT_.out (by kernel_rfl)) ?_
    try go_wp2
    go_roundg k1
    case measure=>have:=HK1.out;omega
    case rel=>exact ⟨(y507),(wrap64 (x6_1 + 1)),(by first | rfl | (simp;done) | (simp [*];done)),H',⟨by have:=HK1.out;omega⟩,⟨laR HO509.out⟩,⟨laB HB.out⟩⟩
   ·replace c6:=Bool.eq_false_iff.mpr c6
    subst c6;rw [if_neg (show ¬ (false = true) by decide)] at H
    obtain rfl:=Option.some.inj H
    go_wp2_with (first | ((with_reducible refine gate_callee (f:=102) rfl ?_);refine goesL_ (some 11) rfl rfl Try.func102 (by kernel_rfl) rfl #[.slice A0 l0.length c0,.int .i64 a1] rfl (by (try simp only [List.map_toArray,List.map_cons,List.map_nil]);first | done | rfl | (simp only [List.length_drop,List.length_take];rfl)) ?_;(with_reducible refine (spec_l3At.calls k1 _ _ l0 a1 false _ ?side1 ?side2 A5.out).mono ?_);(case side1=>exact laC (Kd.C_below HR0.out HB.out));(case side2=>exact HC0.out);rintro e w20 ⟨rfl,hb⟩;refine ⟨_,rfl,?_⟩;replace HO_5:=Aside0.mk (laRb HO_5.out hb);replace HB:=Aside0.mk (below_step (laB HB.out) hb);(try clear hb);(try clear hb2);(try clear hk);(try clear hi)))
    go_ret
    exact ⟨_,by first | rfl | (simp [errW_none,errW_some] <;> rfl) | (simp [*,errW_none,errW_some] <;> rfl),by (with_reducible repeat (first | apply Kd.R_alloc | apply Kd.R_drewN | apply Kd.R_drew));exact HO_5.out,laB HB.out⟩



/-! ### spec_InsCost: function 68 -/
def spec_InsCost.f (k : Nat) (l0_0 : List Int) (l0_1 : List Int) (l0_2 : List Int) (a1 : Int) : Option (Int):=(spec_CostOk.f k l0_0 l0_1 l0_2).bind fun t511=>(if t511 = true then ((spec_LabelOk.f a1).bind fun t512=>(if t512 = true then (if 0 ≤ a1 then (if a1 < (l0_1.length : Int) then (some (rd l0_1 a1)) else (none)) else (none)) else (some 0))) else (some 0))
theorem spec_InsCost.mono : ∀ a0 a1 a2 a3 k,LeO (spec_InsCost.f k a0 a1 a2 a3) (spec_InsCost.f (k + 1) a0 a1 a2 a3):=by
 intro a0 a1 a2 a3 k
 unfold spec_InsCost.f
 repeat' first
   | (with_reducible exact spec_CostOk.mono _ _ _ _)
   | (with_reducible exact LeO.refl _)
   | (with_reducible exact LeO.none _)
   | (with_reducible refine LeO.ite ?_ ?_)
   | (with_reducible refine LeO.bind ?_ (fun _=>?_))
   | exact spec_CostOk.mono _ _ _ _
   | exact LeO.none _
   | refine LeO.ite ?_ ?_
   | refine LeO.bind ?_ (fun _=>?_)
set_option maxHeartbeats 8000000 in
set_option maxRecDepth 100000 in
theorem spec_InsCost.calls (k : Nat) (A0_0 : Option Addr) (c0_0 : Nat) (l0_0 : List Int) (A0_1 : Option Addr) (c0_1 : Nat) (l0_1 : List Int) (A0_2 : Option Addr) (c0_2 : Nat) (l0_2 : List Int) (a1 : Int) (r : Int) (w : World) (hr0_0 : Kd.C (Kd.int .i64) w A0_0 l0_0.length l0_0) (hc0_0 : l0_0.length ≤ c0_0) (hr0_1 : Kd.C (Kd.int .i64) w A0_1 l0_1.length l0_1) (hc0_1 : l0_1.length ≤ c0_1) (hr0_2 : Kd.C (Kd.int .i64) w A0_2 l0_2.length l0_2) (hc0_2 : l0_2.length ≤ c0_2) (h : spec_InsCost.f k l0_0 l0_1 l0_2 a1 = some r) :
  Calls Try.prog 68 #[.agg #[.slice A0_0 l0_0.length c0_0,.slice A0_1 l0_1.length c0_1,.slice A0_2 l0_2.length c0_2],.int .i64 a1] w fun e w'=>e = .returned (.int .i64 r) ∧ Below w.heap.size w w':=by
 have hu37:=Try.underlying37
 have HR0_0:=Aside0.mk hr0_0
 have HC0_0:=Aside0.mk hc0_0
 clear hr0_0 hc0_0
 have HR0_1:=Aside0.mk hr0_1
 have HC0_1:=Aside0.mk hc0_1
 clear hr0_1 hc0_1
 have HR0_2:=Aside0.mk hr0_2
 have HC0_2:=Aside0.mk hc0_2
 clear hr0_2 hc0_2
 have HB:=Aside0.mk (Below.refl w.heap.size w)
 have H : ((spec_CostOk.f k l0_0 l0_1 l0_2).bind fun t511=>(if t511 = true then ((spec_LabelOk.f a1).bind fun t512=>(if t512 = true then (if 0 ≤ a1 then (if a1 < (l0_1.length : Int) then (some (rd l0_1 a1)) else (none)) else (none)) else (some 0))) else (some 0))) = some r:=h
 clear h
 replace H:=Option.bind_eq_some_iff.mp H
 obtain ⟨t511,A30,H⟩:=H
 have A3:=Aside0.mk A30
 clear A30
 by_cases c4 : t511 = true
 ·subst c4
  rw [if_pos rfl] at H;replace H:=Option.bind_eq_some_iff.mp H
  obtain ⟨t512,A50,H⟩:=H
  have A5:=Aside0.mk A50;clear A50
  by_cases c6 : t512 = true
  ·subst c6
   rw [if_pos rfl] at H
   by_cases c7 : 0 ≤ a1
   rotate_left
   ·rw [if_neg c7] at H
    exact absurd H (by simp)
   rw [if_pos c7] at H;have c7b0 : decide (0 ≤ a1) = true:=decide_eq_true c7;clear c7
   by_cases c8 : a1 < (l0_1.length : Int)
   rotate_left
   ·rw [if_neg c8] at H
    exact absurd H (by simp)
   rw [if_pos c8] at H;have c8b0 : decide (a1 < (l0_1.length : Int)) = true:=decide_eq_true c8;clear c8
   obtain rfl:=Option.some.inj H
   go_enter Try.func68,Try.ntmps68
   go_wp2_with (first | ((with_reducible refine gate_dst (N:=2) rfl ?_);refine box_event ?hg (N:=2) ?hd (cs:=#[.slice A0_0 l0_0.length c0_0,.slice A0_1 l0_1.length c0_1,.slice A0_2 l0_2.length c0_2]) (t:=37) ?hr ?_;(case hd=>rfl);(case hg=>rfl);(case hr=>first | (go_simp;done) | (go_simp;rfl));intro gb510 hg w9 hbox hb;have BK510:=Aside0.mk (hbox);have GW510:=Aside0.mk ((by rw [hg];exact (below_size (laB HB.out)) : w.heap.size ≤ gb510));have GE510:=Aside0.mk ((by rw [hg];exact (below_size (laB HB.out)) : w.heap.size ≤ gb510));have ge510_:=Nonempty.intro GE510.out;replace HB:=Aside0.mk (below_step (laB HB.out) hb);clear hb hbox hg;have hcz10_0 : w9.cell? ⟨gb510,0,none⟩ = some (.slice A0_0 l0_0.length c0_0):=(blk_cell BK510.out 0).trans rfl;have hcz10_1 : w9.cell? ⟨gb510,1,none⟩ = some (.slice A0_1 l0_1.length c0_1):=(blk_cell BK510.out 1).trans rfl;have hcz10_2 : w9.cell? ⟨gb510,2,none⟩ = some (.slice A0_2 l0_2.length c0_2):=(blk_cell BK510.out 2).trans rfl;have hfz10_0:=blk_frozen BK510.out 0;have hfz10_1:=blk_frozen BK510.out 1;have hfz10_2:=blk_frozen BK510.out 2) | ((with_reducible refine gate_callee (f:=28) rfl ?_);refine goesL_ (some 6) rfl rfl Try.func28 (by kernel_rfl) rfl #[.agg #[.slice A0_0 l0_0.length c0_0,.slice A0_1 l0_1.length c0_1,.slice A0_2 l0_2.length c0_2]] rfl (by (try simp only [List.map_toArray,List.map_cons,List.map_nil]);first | done | rfl | (simp only [List.length_drop,List.length_take];rfl)) ?_;(with_reducible refine (spec_CostOk.calls k _ _ l0_0 _ _ l0_1 _ _ l0_2 true _ ?side1 ?side2 ?side3 ?side4 ?side5 ?side6 A3.out).mono ?_);(case side1=>exact laC (Kd.C_below HR0_0.out HB.out));(case side2=>exact HC0_0.out);(case side3=>exact laC (Kd.C_below HR0_1.out HB.out));(case side4=>exact HC0_1.out);(case side5=>exact laC (Kd.C_below HR0_2.out HB.out));(case side6=>exact HC0_2.out);rintro e w11 ⟨rfl,hb⟩;refine ⟨_,rfl,?_⟩;replace BK510:=Aside0.mk (laKb BK510.out hb);replace HB:=Aside0.mk (below_step (laB HB.out) hb);(try clear hb);(try clear hb2);(try clear hk);(try clear hi)) | (go_at_call 98;(with_reducible refine (spec_LabelOk.calls a1 true _ A5.out).mono ?_);rintro e w' ⟨rfl,⟨nd,rfl⟩⟩;have hcz12_0 : w11.cell? ⟨gb510,0,none⟩ = some (.slice A0_0 l0_0.length c0_0):=(blk_cell BK510.out 0).trans rfl;have hcz12_1 : w11.cell? ⟨gb510,1,none⟩ = some (.slice A0_1 l0_1.length c0_1):=(blk_cell BK510.out 1).trans rfl;have hcz12_2 : w11.cell? ⟨gb510,2,none⟩ = some (.slice A0_2 l0_2.length c0_2):=(blk_cell BK510.out 2).trans rfl;have hfz12_0:=blk_frozen BK510.out 0;have hfz12_1:=blk_frozen BK510.out 1;have hfz12_2:=blk_frozen BK510.out 2;have p513 : 0 ≤ (a1 : Int):=of_decide_eq_true (by first | (with_reducible assumption) | assumption);have q513 : a1 < (l0_1.length : Int):=of_decide_eq_true (by first | (with_reducible assumption) | assumption);obtain ⟨ad513,e513,hx513_0⟩:=Kd.at_int HR0_1.out a1 p513 q513;cases e513;replace hx513_0:=(HB.out.cell (World.block_lt_of_cell? w _ hx513_0)).trans hx513_0;replace p513:=eq_true p513;replace q513:=eq_true q513))
   go_ret
   exact ⟨by first | rfl | (simp [errW_none,errW_some] <;> rfl) | (simp [*,errW_none,errW_some] <;> rfl),laB HB.out⟩
  ·replace c6:=Bool.eq_false_iff.mpr c6
   subst c6;rw [if_neg (show ¬ (false = true) by decide)] at H
   obtain rfl:=Option.some.inj H
   go_enter Try.func68,Try.ntmps68
   go_wp2_with (first | ((with_reducible refine gate_dst (N:=2) rfl ?_);refine box_event ?hg (N:=2) ?hd (cs:=#[.slice A0_0 l0_0.length c0_0,.slice A0_1 l0_1.length c0_1,.slice A0_2 l0_2.length c0_2]) (t:=37) ?hr ?_;(case hd=>rfl);(case hg=>rfl);(case hr=>first | (go_simp;done) | (go_simp;rfl));intro gb510 hg w13 hbox hb;have BK510:=Aside0.mk (hbox);have GW510:=Aside0.mk ((by rw [hg];exact (below_size (laB HB.out)) : w.heap.size ≤ gb510));have GE510:=Aside0.mk ((by rw [hg];exact (below_size (laB HB.out)) : w.heap.size ≤ gb510));have ge510_:=Nonempty.intro GE510.out;replace HB:=Aside0.mk (below_step (laB HB.out) hb);clear hb hbox hg;have hcz14_0 : w13.cell? ⟨gb510,0,none⟩ = some (.slice A0_0 l0_0.length c0_0):=(blk_cell BK510.out 0).trans rfl;have hcz14_1 : w13.cell? ⟨gb510,1,none⟩ = some (.slice A0_1 l0_1.length c0_1):=(blk_cell BK510.out 1).trans rfl;have hcz14_2 : w13.cell? ⟨gb510,2,none⟩ = some (.slice A0_2 l0_2.length c0_2):=(blk_cell BK510.out 2).trans rfl;have hfz14_0:=blk_frozen BK510.out 0;have hfz14_1:=blk_frozen BK510.out 1;have hfz14_2:=blk_frozen BK510.out 2) | ((with_reducible refine gate_callee (f:=28) rfl ?_);refine goesL_ (some 6) rfl rfl Try.func28 (by kernel_rfl) rfl #[.agg #[.slice A0_0 l0_0.length c0_0,.slice A0_1 l0_1.length c0_1,.slice A0_2 l0_2.length c0_2]] rfl (by (try simp only [List.map_toArray,List.map_cons,List.map_nil]);first | done | rfl | (simp only [List.length_drop,List.length_take];rfl)) ?_;(with_reducible refine (spec_CostOk.calls k _ _ l0_0 _ _ l0_1 _ _ l0_2 true _ ?side1 ?side2 ?side3 ?side4 ?side5 ?side6 A3.out).mono ?_);(case side1=>exact laC (Kd.C_below HR0_0.out HB.out));(case side2=>exact HC0_0.out);(case side3=>exact laC (Kd.C_below HR0_1.out HB.out));(case side4=>exact HC0_1.out);(case side5=>exact laC (Kd.C_below HR0_2.out HB.out));(case side6=>exact HC0_2.out);rintro e w15 ⟨rfl,hb⟩;refine ⟨_,rfl,?_⟩;replace BK510:=Aside0.mk (laKb BK510.out hb);replace HB:=Aside0.mk (below_step (laB HB.out) hb);(try clear hb);(try clear hb2);(try clear hk);(try clear hi)) | (go_at_call 98;(with_reducible refine (spec_LabelOk.calls a1 false _ A5.out).mono ?_);rintro e w' ⟨rfl,⟨nd,rfl⟩⟩))
   go_ret
   exact ⟨by first | rfl | (simp [errW_none,errW_some] <;> rfl) | (simp [*,errW_none,errW_some] <;> rfl),laB HB.out⟩
 ·replace c4:=Bool.eq_false_iff.mpr c4
  subst c4;rw [if_neg (show ¬ (false = true) by decide)] at H
  obtain rfl:=Option.some.inj H
  go_enter Try.func68,Try.ntmps68
  go_wp2_with (first | ((with_reducible refine gate_dst (N:=2) rfl ?_);refine box_event ?hg (N:=2) ?hd (cs:=#[.slice A0_0 l0_0.length c0_0,.slice A0_1 l0_1.length c0_1,.slice A0_2 l0_2.length c0_2]) (t:=37) ?hr ?_;(case hd=>rfl);(case hg=>rfl);(case hr=>first | (go_simp;done) | (go_simp;rfl));intro gb510 hg w16 hbox hb;have BK510:=Aside0.mk (hbox);have GW510:=Aside0.mk ((by rw [hg];exact (below_size (laB HB.out)) : w.heap.size ≤ gb510));have GE510:=Aside0.mk ((by rw [hg];exact (below_size (laB HB.out)) : w.heap.size ≤ gb510));have ge510_:=Nonempty.intro GE510.out;replace HB:=Aside0.mk (below_step (laB HB.out) hb);clear hb hbox hg;have hcz17_0 : w16.cell? ⟨gb510,0,none⟩ = some (.slice A0_0 l0_0.length c0_0):=(blk_cell BK510.out 0).trans rfl;have hcz17_1 : w16.cell? ⟨gb510,1,none⟩ = some (.slice A0_1 l0_1.length c0_1):=(blk_cell BK510.out 1).trans rfl;have hcz17_2 : w16.cell? ⟨gb510,2,none⟩ = some (.slice A0_2 l0_2.length c0_2):=(blk_cell BK510.out 2).trans rfl;have hfz17_0:=blk_frozen BK510.out 0;have hfz17_1:=blk_frozen BK510.out 1;have hfz17_2:=blk_frozen BK510.out 2) | ((with_reducible refine gate_callee (f:=28) rfl ?_);refine goesL_ (some 6) rfl rfl Try.func28 (by kernel_rfl) rfl #[.agg #[.slice A0_0 l0_0.length c0_0,.slice A0_1 l0_1.length c0_1,.slice A0_2 l0_2.length c0_2]] rfl (by (try simp only [List.map_toArray,List.map_cons,List.map_nil]);first | done | rfl | (simp only [List.length_drop,List.length_take];rfl)) ?_;(with_reducible refine (spec_CostOk.calls k _ _ l0_0 _ _ l0_1 _ _ l0_2 false _ ?side1 ?side2 ?side3 ?side4 ?side5 ?side6 A3.out).mono ?_);(case side1=>exact laC (Kd.C_below HR0_0.out HB.out));(case side2=>exact HC0_0.out);(case side3=>exact laC (Kd.C_below HR0_1.out HB.out));(case side4=>exact HC0_1.out);(case side5=>exact laC (Kd.C_below HR0_2.out HB.out));(case side6=>exact HC0_2.out);rintro e w18 ⟨rfl,hb⟩;refine ⟨_,rfl,?_⟩;replace BK510:=Aside0.mk (laKb BK510.out hb);replace HB:=Aside0.mk (below_step (laB HB.out) hb);(try clear hb);(try clear hb2);(try clear hk);(try clear hi)))
  go_ret
  exact ⟨by first | rfl | (simp [errW_none,errW_some] <;> rfl) | (simp [*,errW_none,errW_some] <;> rfl),laB HB.out⟩



/-! ### spec_InsTree: function 107 -/
def spec_InsTree.l0 : Nat → List (S59) → Int → Int → List Int → List Int → List Int → Option (Int)
 | 0,_,_,_,_,_,_=>none
 | k + 1,x0,x5,x6,x515000,x515001,x515002=>if x6 < (x0.length : Int) then ((spec_TreeOk.f k x0).bind fun t515=>(if t515 = true then (if 0 ≤ x6 then ((spec_InsCost.f k x515000 x515001 x515002 ((rd_T59 x0 x6).f0)).bind fun t517=>(spec_InsTree.l0 k x0 (wrap64 (x5 + t517)) (wrap64 (x6 + 1)) x515000 x515001 x515002)) else (none)) else (some x5))) else (some x5)
def spec_InsTree.f (k : Nat) (l0 : List (S59)) (l1_0 : List Int) (l1_1 : List Int) (l1_2 : List Int) : Option (Int):=spec_InsTree.l0 k l0 0 0 l1_0 l1_1 l1_2
theorem spec_InsTree.mono_l : ∀ k,(∀ y0 y1 y2 y3 y4 y5,LeO (spec_InsTree.l0 k y0 y1 y2 y3 y4 y5) (spec_InsTree.l0 (k + 1) y0 y1 y2 y3 y4 y5))
 | 0=>fun _ _ _ _ _ _ r h=>by simp [spec_InsTree.l0] at h
 | k + 1=>by
  have ih0:=spec_InsTree.mono_l k
  ·intro y0 y1 y2 y3 y4 y5
   unfold spec_InsTree.l0
   repeat' first
   | (with_reducible exact ih0 _ _ _ _ _ _)
   | (with_reducible exact spec_InsCost.mono _ _ _ _ _)
   | (with_reducible exact spec_TreeOk.mono _ _)
   | (with_reducible exact LeO.refl _)
   | (with_reducible exact LeO.none _)
   | (with_reducible refine LeO.ite ?_ ?_)
   | (with_reducible refine LeO.bind ?_ (fun _=>?_))
   | exact ih0 _ _ _ _ _ _
   | exact spec_InsCost.mono _ _ _ _ _
   | exact spec_TreeOk.mono _ _
   | exact LeO.none _
   | refine LeO.ite ?_ ?_
   | refine LeO.bind ?_ (fun _=>?_)
theorem spec_InsTree.mono : ∀ a0 a1 a2 a3 k,LeO (spec_InsTree.f k a0 a1 a2 a3) (spec_InsTree.f (k + 1) a0 a1 a2 a3):=by
 intro a0 a1 a2 a3 k
 have ih0:=spec_InsTree.mono_l k
 unfold spec_InsTree.f
 repeat' first
   | (with_reducible exact ih0 _ _ _ _ _ _)
   | (with_reducible exact spec_InsCost.mono _ _ _ _ _)
   | (with_reducible exact spec_TreeOk.mono _ _)
   | (with_reducible exact LeO.refl _)
   | (with_reducible exact LeO.none _)
   | (with_reducible refine LeO.ite ?_ ?_)
   | (with_reducible refine LeO.bind ?_ (fun _=>?_))
   | exact ih0 _ _ _ _ _ _
   | exact spec_InsCost.mono _ _ _ _ _
   | exact spec_TreeOk.mono _ _
   | exact LeO.none _
   | refine LeO.ite ?_ ?_
   | refine LeO.bind ?_ (fun _=>?_)
def spec_InsTree.T5 : Bool × List (List Nat × List Nat):=(true,[([],[]),([],[]),([],[]),([],[]),([2,3],[2,3]),([4],[4]),([5],[5]),([1,6],[1,6]),([0,7],[0,7]),([8,7,0,1,2,3,4,5,6,7,8],[0,8])])
def spec_InsTree.B5 : List Nat:=[0,0,0,0,12,28,60,126,255,511]
theorem spec_InsTree.tab5 : rtab .any (opsOf Try.f107 5) = spec_InsTree.T5:=by kernel_rfl
theorem spec_InsTree.bits5 : waitsOk spec_InsTree.T5.2 spec_InsTree.B5 = true:=by kernel_rfl
set_option maxHeartbeats 8000000 in
set_option maxRecDepth 100000 in
theorem spec_InsTree.calls (k : Nat) (A0 : Option Addr) (c0 : Nat) (l0 : List (S59)) (A1_0 : Option Addr) (c1_0 : Nat) (l1_0 : List Int) (A1_1 : Option Addr) (c1_1 : Nat) (l1_1 : List Int) (A1_2 : Option Addr) (c1_2 : Nat) (l1_2 : List Int) (r : Int) (w : World) (hr0 : Kd.C k59 w A0 l0.length l0) (hc0 : l0.length ≤ c0) (hr1_0 : Kd.C (Kd.int .i64) w A1_0 l1_0.length l1_0) (hc1_0 : l1_0.length ≤ c1_0) (hr1_1 : Kd.C (Kd.int .i64) w A1_1 l1_1.length l1_1) (hc1_1 : l1_1.length ≤ c1_1) (hr1_2 : Kd.C (Kd.int .i64) w A1_2 l1_2.length l1_2) (hc1_2 : l1_2.length ≤ c1_2) (h : spec_InsTree.f k l0 l1_0 l1_1 l1_2 = some r) :
  Calls Try.prog 107 #[.slice A0 l0.length c0,.agg #[.slice A1_0 l1_0.length c1_0,.slice A1_1 l1_1.length c1_1,.slice A1_2 l1_2.length c1_2]] w fun e w'=>e = .returned (.int .i64 r) ∧ Below w.heap.size w w':=by
 have hu37:=Try.underlying37
 have HR0:=Aside0.mk hr0
 have HC0:=Aside0.mk hc0
 clear hr0 hc0
 have HR1_0:=Aside0.mk hr1_0
 have HC1_0:=Aside0.mk hc1_0
 clear hr1_0 hc1_0
 have HR1_1:=Aside0.mk hr1_1
 have HC1_1:=Aside0.mk hc1_1
 clear hr1_1 hc1_1
 have HR1_2:=Aside0.mk hr1_2
 have HC1_2:=Aside0.mk hc1_2
 clear hr1_2 hc1_2
 have HB:=Aside0.mk (Below.refl w.heap.size w)
 have H : (spec_InsTree.l0 k l0 0 0 l1_0 l1_1 l1_2) = some r:=h
 clear h
 have H':=Aside0.mk H
 clear H
 go_enter Try.func107,Try.ntmps107
 go_wp2_with (first | ((with_reducible refine gate_dst (N:=3) rfl ?_);refine box_event ?hg (N:=3) ?hd (cs:=#[.slice A1_0 l1_0.length c1_0,.slice A1_1 l1_1.length c1_1,.slice A1_2 l1_2.length c1_2]) (t:=37) ?hr ?_;(case hd=>rfl);(case hg=>rfl);(case hr=>first | (go_simp;done) | (go_simp;rfl));intro gb514 hg w3 hbox hb;have BK514:=Aside0.mk (hbox);have GW514:=Aside0.mk ((by rw [hg];exact (below_size (laB HB.out)) : w.heap.size ≤ gb514));have GE514:=Aside0.mk ((by rw [hg];exact (below_size (laB HB.out)) : w.heap.size ≤ gb514));have ge514_:=Nonempty.intro GE514.out;replace HB:=Aside0.mk (below_step (laB HB.out) hb);clear hb hbox hg))
 go_loopg [5,6] k (fun kq v5 v6 w'=>∃ (x5_1 : Int) (x6_1 : Int),v5 = .int .i64 x5_1 ∧ v6 = .int .i64 x6_1 ∧ Aside0 (spec_InsTree.l0 kq l0 x5_1 x6_1 l1_0 l1_1 l1_2 = some r) ∧ Aside0 (kq ≤ k) ∧ Aside0 (w'.heap[gb514]? = some (.cells #[(.slice A1_0 l1_0.length c1_0),(.slice A1_1 l1_1.length c1_1),(.slice A1_2 l1_2.length c1_2)] 37 (0,0))) ∧ Aside0 (Below w.heap.size w w'))
 case atStart=>exact ⟨(0),(0),(by first | rfl | (simp;done) | (simp [*];done)),(by first | rfl | (simp;done) | (simp [*];done)),H',⟨Nat.le_refl _⟩,⟨laK BK514.out⟩,⟨laB HB.out⟩⟩
 case round =>
  clear H'
  try clear c1
  try clear p2
  obtain ⟨x5_1,x6_1,rfl,rfl,HA,HK1,BK514,HB⟩:=hrel
  cases gk with
  | zero=>exact absurd HA.out (by simp [spec_InsTree.l0])
  | succ k1 =>
   have H:=HA.out;clear HA;simp only [spec_InsTree.l0] at H
   by_cases c4 : x6_1 < (l0.length : Int)
   rotate_left
   ·rw [if_neg c4] at H
    have c4b0 : decide (x6_1 < (l0.length : Int)) = false:=decide_eq_false c4;clear c4
    obtain rfl:=Option.some.inj H
    go_wp2
    go_ret
    exact ⟨by first | rfl | (simp [errW_none,errW_some] <;> rfl) | (simp [*,errW_none,errW_some] <;> rfl),laB HB.out⟩
   rw [if_pos c4] at H;have c4b0 : decide (x6_1 < (l0.length : Int)) = true:=decide_eq_true c4;clear c4;replace H:=Option.bind_eq_some_iff.mp H
   obtain ⟨t515,A50,H⟩:=H
   have A5:=Aside0.mk A50;clear A50
   by_cases c6 : t515 = true
   ·subst c6
    rw [if_pos rfl] at H
    by_cases c7 : 0 ≤ x6_1
    rotate_left
    ·rw [if_neg c7] at H
     exact absurd H (by simp)
    rw [if_pos c7] at H;have c7b0 : decide (0 ≤ x6_1) = true:=decide_eq_true c7;clear c7;replace H:=Option.bind_eq_some_iff.mp H
    obtain ⟨t517,A80,H⟩:=H
    have A8:=Aside0.mk A80;clear A80;have H':=Aside0.mk H;clear H
    try go_wp2_with (first | (go_at_call 56;(with_reducible refine (spec_TreeOk.calls k1 _ _ l0 true _ ?side1 ?side2 A5.out).mono ?_);(case side1=>exact laC (Kd.C_below HR0.out HB.out));(case side2=>exact HC0.out);rintro e w9 ⟨rfl,hb⟩;replace BK514:=Aside0.mk (laKb BK514.out hb);replace HB:=Aside0.mk (below_step (laB HB.out) hb);(try clear hb);(try clear hb2);(try clear hk);(try clear hi)))
    replace BK514:=Aside0.mk (blk_drew BK514.out);replace HB:=Aside0.mk (below_drew1 HB.out);have p516 : 0 ≤ (x6_1 : Int):=of_decide_eq_true (by first | (with_reducible assumption) | assumption);have q516 : x6_1 < (l0.length : Int):=of_decide_eq_true (by first | (with_reducible assumption) | assumption)
    obtain ⟨ad516,e516,hx516_0,hx516_1⟩:=at_T59 HR0.out x6_1 p516 q516
    have hw516_1:=hx516_1;have hw516_0:=hx516_0
    cases e516
    replace hx516_0:=(HB.out.cell (World.block_lt_of_cell? w _ hx516_0)).trans hx516_0;replace hx516_1:=(HB.out.cell (World.block_lt_of_cell? w _ hx516_1)).trans hx516_1;replace p516:=eq_true p516;replace q516:=eq_true q516;refine start_ (n:=10) (S:=fun w'=>w'.cell? ⟨gb514,0,none⟩ = some (.slice A1_0 l1_0.length c1_0) ∧ w'.cell? ⟨gb514,1,none⟩ = some (.slice A1_1 l1_1.length c1_1) ∧ w'.cell? ⟨gb514,2,none⟩ = some (.slice A1_2 l1_2.length c1_2) ∧ w'.cell? (ad516.add ((x6_1).toNat * 2)) = some (.int .i64 ((rd_T59 l0 x6_1).f0)) ∧ w'.cell? ⟨(ad516.add ((x6_1).toNat * 2)).block,(ad516.add ((x6_1).toNat * 2)).off + 1,none⟩ = some (.int .i64 ((rd_T59 l0 x6_1).f1))) (ds:=[]) (pw 10 0) (by kernel_rfl) rfl rfl ⟨(blk_cell BK514.out 0).trans rfl,(blk_cell BK514.out 1).trans rfl,(blk_cell BK514.out 2).trans rfl,((HB.out.cell (World.block_lt_of_cell? w _ hw516_0)).trans hw516_0),((HB.out.cell (World.block_lt_of_cell? w _ hw516_1)).trans hw516_1)⟩ (fun hHeld=>?_);refine with_tabW spec_InsTree.tab5 spec_InsTree.bits5 (fun HT_ HW_=>?_)
    generalize w9.drew = w10 at BK514 HB hx516_0 hx516_1 hHeld ⊢
    refine pure_ (i:=0) (N:=some 17) (v:=?_) (a':=?_) (pw 10 1) rfl rfl (any_of HT_.out (by kernel_rfl)) (fun _ _ _ h=>h) (Or.inl ⟨by rfl,?_⟩) ?_ ?_;rotate_left
    ·intro w';go_simp;with_reducible rfl
    rotate_left;·simp only [Act.put,za,zb,zc,i64_w,i32_w];rfl
    refine pure_ (i:=2) (N:=some 19) (v:=?_) (a':=?_) (bw 10 5) rfl rfl (any_of HT_.out (by kernel_rfl)) (fun _ _ _ h=>h) (Or.inl ⟨by rfl,?_⟩) ?_ ?_;rotate_left
    ·intro w';go_simp;with_reducible rfl
    rotate_left;·simp only [Act.put,za,zb,zc,i64_w,i32_w];rfl
    refine pure_ (i:=3) (N:=some 20) (v:=?_) (a':=?_) (bw 10 13) rfl rfl (any_of HT_.out (by kernel_rfl)) (fun _ _ _ h=>h) (Or.inl ⟨by rfl,?_⟩) ?_ ?_;rotate_left
    ·intro w';go_simp;with_reducible rfl
    rotate_left;·simp only [Act.put,za,zb,zc,i64_w,i32_w];rfl
    refine pure_ (i:=4) (N:=some 21) (v:=?_) (a':=?_) (bw 10 29) rfl rfl (any_of HT_.out (by kernel_rfl)) (fun _ _ _ h=>h) (Or.inl ⟨by rfl,?_⟩) ?_ ?_;rotate_left
    ·intro w';go_simp;with_reducible rfl
    rotate_left;·simp only [Act.put,za,zb,zc,i64_w,i32_w];rfl
    refine pure_ (i:=5) (N:=some 22) (v:=?_) (a':=?_) (bw 10 61) rfl rfl (any_of HT_.out (by kernel_rfl)) (fun _ _ _ h=>h) (Or.inl ⟨by rfl,?_⟩) ?_ ?_;rotate_left
    ·intro w';go_simp;with_reducible rfl
    rotate_left;·simp only [Act.put,za,zb,zc,i64_w,i32_w];rfl
    refine take_ (i:=1) (N:=some 18) (v:=?_) (a':=?_) (pw 10 6) rfl rfl (take_ofW HT_.out HW_.out (by kernel_rfl)) (fun _ _ _ h=>h) (Or.inl ⟨by rfl,?_⟩) hHeld ?_ ?_;rotate_left
    ·rintro w' ⟨s0,s1,s2,s3,s4⟩
     go_simp;with_reducible rfl
    rotate_left;·simp only [Act.put,za,zb,zc,i64_w,i32_w];rfl
    refine take_ (i:=6) (N:=some 23) (v:=?_) (a':=?_) (pw 10 7) rfl rfl (take_ofW HT_.out HW_.out (by kernel_rfl)) (fun _ _ _ h=>h) (Or.inl ⟨by rfl,?_⟩) hHeld ?_ ?_;rotate_left
    ·rintro w' ⟨s0,s1,s2,s3,s4⟩
     go_simp;with_reducible rfl
    rotate_left;·simp only [Act.put,za,zb,zc,i64_w,i32_w];rfl
    refine one_ (i:=7) (N:=some 24) (pw 10 8) rfl rfl (one_of HT_.out (by kernel_rfl)) (by decide) (fun K hK=>?_);refine goes_ Try.func68 (by kernel_rfl) rfl #[.agg #[.slice A1_0 l1_0.length c1_0,.slice A1_1 l1_1.length c1_1,.slice A1_2 l1_2.length c1_2],.int .i64 ((rd_T59 l0 x6_1).f0)] (by rfl) rfl rfl (by (try simp only [List.map_toArray,List.map_cons,List.map_nil]);first | done | rfl | (simp only [List.length_drop,List.length_take];rfl)) ?_;with_reducible refine (spec_InsCost.calls k1 _ _ l1_0 _ _ l1_1 _ _ l1_2 ((rd_T59 l0 x6_1).f0) t517 _ ?side1 ?side2 ?side3 ?side4 ?side5 ?side6 A8.out).mono ?_
    (case side1=>exact laC (Kd.C_below HR1_0.out HB.out));(case side2=>exact HC1_0.out);(case side3=>exact laC (Kd.C_below HR1_1.out HB.out));(case side4=>exact HC1_1.out);(case side5=>exact laC (Kd.C_below HR1_2.out HB.out));(case side6=>exact HC1_2.out);rintro e w11 ⟨rfl,hb⟩;refine ⟨_,rfl,?_⟩;replace BK514:=Aside0.mk (laKb BK514.out hb);replace HB:=Aside0.mk (below_step (laB HB.out) hb);(try clear hb);(try clear hb2);(try clear hk);(try clear hi);refine hK.out _ _ ⟨(blk_cell BK514.out 0).trans rfl,(blk_cell BK514.out 1).trans rfl,(blk_cell BK514.out 2).trans rfl,((HB.out.cell (World.block_lt_of_cell? w _ hw516_0)).trans hw516_0),((HB.out.cell (World.block_lt_of_cell? w _ hw516_1)).trans hw516_1)⟩ (fun hHeld=>?_);clear hK K;refine norm_ (a':=?_) ?_ ?_;rotate_left
    ·show Act.put _ (some 24) _ = _
     simp only [Act.put,za,zb,zc,i64_w,i32_w];rfl
    refine pure_ (i:=8) (N:=some 25) (v:=?_) (a':=?_) (pw 10 9) rfl rfl (any_of HT_.out (by kernel_rfl)) (fun _ _ _ h=>h) (Or.inl ⟨by rfl,?_⟩) ?_ ?_;rotate_left
    ·intro w';go_simp;with_reducible rfl
    rotate_left;·simp only [Act.put,za,zb,zc,i64_w,i32_w];rfl
    refine pure_ (i:=9) (N:=some 5) (v:=?_) (a':=?_) (pw 10 10) rfl rfl (any_of HT_.out (by kernel_rfl)) (fun _ _ _ h=>h) (Or.inl ⟨by rfl,?_⟩) ?_ ?_;rotate_left
    ·intro w';go_simp;with_reducible rfl
    rotate_left;·simp only [Act.put,za,zb,zc,i64_w,i32_w];rfl
    refine done_ (done_of HT_.out (by kernel_rfl)) ?_
    try go_wp2
    go_roundg k1
    case measure=>have:=HK1.out;omega
    case rel=>exact ⟨(wrap64 (x5_1 + t517)),(wrap64 (x6_1 + 1)),(by first | rfl | (simp;done) | (simp [*];done)),(by first | rfl | (simp;done) | (simp [*];done)),H',⟨by have:=HK1.out;omega⟩,⟨laK BK514.out⟩,⟨laB HB.out⟩⟩
   ·replace c6:=Bool.eq_false_iff.mpr c6
    subst c6;rw [if_neg (show ¬ (false = true) by decide)] at H
    obtain rfl:=Option.some.inj H
    go_wp2_with (first | (go_at_call 56;(with_reducible refine (spec_TreeOk.calls k1 _ _ l0 false _ ?side1 ?side2 A5.out).mono ?_);(case side1=>exact laC (Kd.C_below HR0.out HB.out));(case side2=>exact HC0.out);rintro e w12 ⟨rfl,hb⟩;replace BK514:=Aside0.mk (laKb BK514.out hb);replace HB:=Aside0.mk (below_step (laB HB.out) hb);(try clear hb);(try clear hb2);(try clear hk);(try clear hi)))
    go_ret
    exact ⟨by first | rfl | (simp [errW_none,errW_some] <;> rfl) | (simp [*,errW_none,errW_some] <;> rfl),laB HB.out⟩


end Go.Proofs.Ytockkelkdimehaa.P
