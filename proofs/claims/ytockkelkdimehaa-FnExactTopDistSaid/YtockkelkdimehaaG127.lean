-- Written by this session's program mk.py with the kit's print program,out of the translation;not by hand. Lean checks it.
import Derived.Test.YtockkelkdimehaaP0
import Derived.Test.YtockkelkdimehaaSh
import Derived.Test.YtockkelkdimehaaHand
import Derived.Test.YtockkelkdimehaaG102
import Derived.Test.YtockkelkdimehaaG52
import Derived.Test.YtockkelkdimehaaG58
namespace Go.Proofs.Ytockkelkdimehaa.P
open Go.RowKit Go.Proofs.YtockkelkdimehaaW.PrintWords Go.Proofs.YtockkelkdimehaaW.PrintLast Go.Proofs.YtockkelkdimehaaW.PrintMore
attribute [local go_sem] max2_int min2_int max_two min_two max_three min_three max_four min_four   -- for this text's walks alone
set_option linter.unusedVariables false
set_option linter.unusedSimpArgs false


/-! ### impl_SubTree: function 127 -/
def impl_SubTree.l0 : Nat → List (S59) → Int → List (S59) → List (S59) → Int → Int → Option ((List (S59)))
 | 0,_,_,_,_,_,_=>none
 | k + 1,x0,x1,x5,x19,x20,x21=>if x21 < x20 then (if 0 ≤ x21 then (if x21 < (x19.length : Int) then (if 0 ≤ x1 then (if x1 < (x0.length : Int) then (if x5.length < 8796093022208 then (impl_SubTree.l0 k x0 x1 (x5 ++ [(⟨(rd_T59 x19 x21).f0,wrap64 (((rd_T59 x19 x21).f1) - ((rd_T59 x0 x1).f1))⟩ : S59)]) x19 x20 (wrap64 (x21 + 1))) else (none)) else (none)) else (none)) else (none)) else (none)) else (some x5)
def impl_SubTree.f (k : Nat) (l0 : List (S59)) (a1 : Int) : Option ((List (S59))):=(some (([] : List (S59)) : List (S59))).bind fun y585=>((impl_hasNode.f k l0 a1).bind fun t588=>(if t588 = true then ((impl_endOf.f k l0 a1).bind fun t589=>(if 0 ≤ a1 then (if a1 ≤ t589 then (if t589 ≤ (l0.length : Int) then ((some ((l0.take (t589 : Int).toNat).drop (a1 : Int).toNat : List (S59))).bind fun y590=>(impl_SubTree.l0 k l0 a1 y585 y590 (y590.length : Int) 0)) else (none)) else (none)) else (none))) else (some y585)))
theorem impl_SubTree.mono_l : ∀ k,(∀ y0 y1 y2 y3 y4 y5,LeO (impl_SubTree.l0 k y0 y1 y2 y3 y4 y5) (impl_SubTree.l0 (k + 1) y0 y1 y2 y3 y4 y5))
 | 0=>fun _ _ _ _ _ _ r h=>by simp [impl_SubTree.l0] at h
 | k + 1=>by
  have ih0:=impl_SubTree.mono_l k
  ·intro y0 y1 y2 y3 y4 y5
   unfold impl_SubTree.l0
   repeat' first
   | (with_reducible exact ih0 _ _ _ _ _ _)
   | (with_reducible exact impl_endOf.mono _ _ _)
   | (with_reducible exact impl_hasNode.mono _ _ _)
   | (with_reducible exact LeO.refl _)
   | (with_reducible exact LeO.none _)
   | (with_reducible refine LeO.ite ?_ ?_)
   | (with_reducible refine LeO.bind ?_ (fun _=>?_))
   | exact ih0 _ _ _ _ _ _
   | exact impl_endOf.mono _ _ _
   | exact impl_hasNode.mono _ _ _
   | exact LeO.none _
   | refine LeO.ite ?_ ?_
   | refine LeO.bind ?_ (fun _=>?_)
theorem impl_SubTree.mono : ∀ a0 a1 k,LeO (impl_SubTree.f k a0 a1) (impl_SubTree.f (k + 1) a0 a1):=by
 intro a0 a1 k
 have ih0:=impl_SubTree.mono_l k
 unfold impl_SubTree.f
 repeat' first
   | (with_reducible exact ih0 _ _ _ _ _ _)
   | (with_reducible exact impl_endOf.mono _ _ _)
   | (with_reducible exact impl_hasNode.mono _ _ _)
   | (with_reducible exact LeO.refl _)
   | (with_reducible exact LeO.none _)
   | (with_reducible refine LeO.ite ?_ ?_)
   | (with_reducible refine LeO.bind ?_ (fun _=>?_))
   | exact ih0 _ _ _ _ _ _
   | exact impl_endOf.mono _ _ _
   | exact impl_hasNode.mono _ _ _
   | exact LeO.none _
   | refine LeO.ite ?_ ?_
   | refine LeO.bind ?_ (fun _=>?_)
def impl_SubTree.T7 : Bool × List (List Nat × List Nat):=(true,[([],[]),([],[]),([1],[1]),([],[]),([3],[3]),([],[]),([],[]),([5,6],[5,6]),([7],[7]),([8],[8]),([4,9],[4,9]),([2,10],[2,10]),([11],[11]),([0,12],[0,12]),([13,13,0,1,2,3,4,5,6,7,8,9,10,11,12,13],[0,13])])
def impl_SubTree.B7 : List Nat:=[0,0,2,0,8,0,0,96,224,480,1016,2046,4094,8191,16383]
theorem impl_SubTree.tab7 : rtab .any (opsOf Try.f127 7) = impl_SubTree.T7:=by kernel_rfl
theorem impl_SubTree.bits7 : waitsOk impl_SubTree.T7.2 impl_SubTree.B7 = true:=by kernel_rfl
set_option maxHeartbeats 8000000 in
set_option maxRecDepth 100000 in
theorem impl_SubTree.calls (k : Nat) (A0 : Option Addr) (c0 : Nat) (l0 : List (S59)) (a1 : Int) (r : List (S59)) (w : World) (hr0 : Kd.C k59 w A0 l0.length l0) (hc0 : l0.length ≤ c0) (h : impl_SubTree.f k l0 a1 = some r) :
  Calls Try.prog 127 #[.slice A0 l0.length c0,.int .i64 a1] w fun e w'=>∃ v0_ : Value,e = .returned (v0_) ∧ Kd.R k59 59 w' w.heap.size (fun _=>True) v0_ r ∧ Below w.heap.size w w':=by
 have hu59:=Try.underlying59
 have HR0:=Aside0.mk hr0
 have HC0:=Aside0.mk hc0
 clear hr0 hc0
 have HB:=Aside0.mk (Below.refl w.heap.size w)
 have H : ((some (([] : List (S59)) : List (S59))).bind fun y585=>((impl_hasNode.f k l0 a1).bind fun t588=>(if t588 = true then ((impl_endOf.f k l0 a1).bind fun t589=>(if 0 ≤ a1 then (if a1 ≤ t589 then (if t589 ≤ (l0.length : Int) then ((some ((l0.take (t589 : Int).toNat).drop (a1 : Int).toNat : List (S59))).bind fun y590=>(impl_SubTree.l0 k l0 a1 y585 y590 (y590.length : Int) 0)) else (none)) else (none)) else (none))) else (some y585)))) = some r:=h
 clear h
 obtain ⟨y585,hy585⟩ : ∃ y_ : List (S59),y_ = (([] : List (S59))):=⟨_,rfl⟩
 replace H : ((impl_hasNode.f k l0 a1).bind fun t588=>(if t588 = true then ((impl_endOf.f k l0 a1).bind fun t589=>(if 0 ≤ a1 then (if a1 ≤ t589 then (if t589 ≤ (l0.length : Int) then ((some ((l0.take (t589 : Int).toNat).drop (a1 : Int).toNat : List (S59))).bind fun y590=>(impl_SubTree.l0 k l0 a1 y585 y590 (y590.length : Int) 0)) else (none)) else (none)) else (none))) else (some y585))) = some r:=by first | (rw [hy585];with_reducible exact H) | (have H2_:=(Option.bind_some _ _).symm.trans H;rw [hy585];with_reducible exact H2_) | (have H2_:=(Option.bind_some _ _).symm.trans H;with_reducible exact H2_) | with_reducible exact H | (rw [hy585];exact H) | exact H
 have Ny585:=Aside0.mk hy585
 clear hy585
 replace H:=Option.bind_eq_some_iff.mp H
 obtain ⟨t588,A30,H⟩:=H
 have A3:=Aside0.mk A30
 clear A30
 by_cases c4 : t588 = true
 ·subst c4
  rw [if_pos rfl] at H;replace H:=Option.bind_eq_some_iff.mp H
  obtain ⟨t589,A50,H⟩:=H
  have A5:=Aside0.mk A50;clear A50
  by_cases c6 : 0 ≤ a1
  rotate_left
  ·rw [if_neg c6] at H
   exact absurd H (by simp)
  rw [if_pos c6] at H;have c6b0:=eq_true c6;have c6b1 : decide (0 ≤ a1) = true:=decide_eq_true c6;clear c6
  by_cases c7 : a1 ≤ t589
  rotate_left
  ·rw [if_neg c7] at H
   exact absurd H (by simp)
  rw [if_pos c7] at H;have c7b0:=eq_true c7;have c7b1 : decide (a1 ≤ t589) = true:=decide_eq_true c7;clear c7
  by_cases c8 : t589 ≤ (l0.length : Int)
  rotate_left
  ·rw [if_neg c8] at H
   exact absurd H (by simp)
  rw [if_pos c8] at H;have c8b0:=eq_true c8;have c8b1 : decide (t589 ≤ (l0.length : Int)) = true:=decide_eq_true c8;clear c8
  obtain ⟨y590,hy590⟩ : ∃ y_ : List (S59),y_ = ((l0.take (t589 : Int).toNat).drop (a1 : Int).toNat):=⟨_,rfl⟩
  replace H : (impl_SubTree.l0 k l0 a1 y585 y590 (y590.length : Int) 0) = some r:=by first | (rw [hy590];with_reducible exact H) | (have H2_:=(Option.bind_some _ _).symm.trans H;rw [hy590];with_reducible exact H2_) | (have H2_:=(Option.bind_some _ _).symm.trans H;with_reducible exact H2_) | with_reducible exact H | (rw [hy590];exact H) | exact H
  have Ny590:=Aside0.mk hy590;clear hy590;have H':=Aside0.mk H;clear H
  go_enter Try.func127,Try.ntmps127
  go_wp2_with (first | ((with_reducible refine gate_dst (N:=8) rfl ?_);refine Kd.R_lit k59 _ 59 ?hg (N:=8) ?hd (xs:=([] : List (S59))) (inner:=[]) (ok:=fun _=>True) (okp:=fun _=>True) ?hr ?hp (fun _ hk=>hk) trivial (Below.refl _ _) (Nat.le_refl _) (by simp) ?_;(case hd=>rfl);(case hg=>rfl);(case hr=>first | (go_simp;done) | (go_simp;rfl));(case hp=>exact (Reps.none _ _));intro v586 w9 ho10 hb hg_ hnew_;clear hg_ hnew_;(first | rw [← Ny585.out] at ho10 | (simp only [Int.reduceToNat] at ho10;rw [← Ny585.out] at ho10));have HO587:=Aside0.mk (Kd.R_lower ho10 (below_size (laB HB.out)));replace HB:=Aside0.mk (below_step (laB HB.out) hb);clear hb ho10) | ((with_reducible refine gate_callee (f:=100) rfl ?_);refine goesL_ (some 11) rfl rfl Try.func100 (by kernel_rfl) rfl #[.slice A0 l0.length c0,.int .i64 a1] rfl (by (try simp only [List.map_toArray,List.map_cons,List.map_nil]);first | done | rfl | (simp only [List.length_drop,List.length_take];rfl)) ?_;(with_reducible refine (impl_hasNode.calls k _ _ l0 a1 true _ ?side1 ?side2 A3.out).mono ?_);(case side1=>exact laC (Kd.C_below HR0.out HB.out));(case side2=>exact HC0.out);rintro e w11 ⟨rfl,hb⟩;refine ⟨_,rfl,?_⟩;replace HO587:=Aside0.mk (laRb HO587.out hb);replace HB:=Aside0.mk (below_step (laB HB.out) hb);(try clear hb);(try clear hb2);(try clear hk);(try clear hi)) | ((with_reducible refine gate_callee (f:=81) rfl ?_);refine goesL_ (some 18) rfl rfl Try.func81 (by kernel_rfl) rfl #[.slice A0 l0.length c0,.int .i64 a1] rfl (by (try simp only [List.map_toArray,List.map_cons,List.map_nil]);first | done | rfl | (simp only [List.length_drop,List.length_take];rfl)) ?_;(with_reducible refine (impl_endOf.calls k _ _ l0 a1 t589 _ ?side1 ?side2 A5.out).mono ?_);(case side1=>exact laC (Kd.C_below HR0.out HB.out));(case side2=>exact HC0.out);rintro e w' ⟨rfl,⟨nd,rfl⟩⟩;refine ⟨_,rfl,?_⟩;have q12 : (t589 : Int) ≤ ((l0.length : Int) : Int):=of_decide_eq_true (by first | (with_reducible assumption) | assumption);obtain ⟨i012,hi012,_,hsz12,_⟩:=info_parts info59;have hroom12 : l0.length ≤ c0:=HC0.out;have hC12 : Kd.C k59 _ A0 l0.length l0:=HR0.out;have ql12 : (a1 : Int) ≤ (t589 : Int):=of_decide_eq_true (by first | (with_reducible assumption) | assumption);have q012 : (0 : Int) ≤ (a1 : Int):=of_decide_eq_true (by first | (with_reducible assumption) | assumption);have hcut12:=cut_mid (P:=Try.prog) 26 59 .i64 .i64 Try.underlying26 hi012 2 hsz12 A0 l0.length c0 a1 t589 q012 ql12 q12 hroom12;have hr12:=Kd.C_mid (lo:=(a1 : Int).toNat) (hi:=(t589 : Int).toNat) (c:=c0) hC12 (by omega) (by omega) hroom12;obtain ⟨A12,hA12⟩ : ∃ A1,A1 = (if c0 = (a1 : Int).toNat then A0 else (A0 : Option Addr).map (·.add ((a1 : Int).toNat * 2))):=⟨_,rfl⟩;obtain ⟨c12,hc12⟩ : ∃ c1,c1 = c0 - (a1 : Int).toNat:=⟨_,rfl⟩;have hy12 : y590.length = (t589 : Int).toNat - (a1 : Int).toNat:=(by rw [Ny590.out,List.length_drop,List.length_take] <;> omega);rw [show ((l0).take (t589 : Int).toNat).drop (a1 : Int).toNat = y590 from Ny590.out.symm] at hr12;replace hr12 : Kd.C k59 _ A12 y590.length y590:=(by rw [hA12];exact hr12);rw [← hy12,← hA12,← hc12] at hcut12;have HR593:=Aside0.mk hr12;have HC593:=Aside0.mk (show y590.length ≤ c12 from by rw [hy12,hc12];exact Nat.sub_le_sub_right (Nat.le_trans (by omega) hroom12) _);clear hr12 hC12 hroom12 hi012 hsz12 hc12;have KY12:=Aside0.mk hy12;have KA12:=Aside0.mk hA12;clear hy12 hA12;replace q12:=eq_true q12))
  go_loopg [5,21] k (fun kq v5 v21 w'=>∃ (x5_1 : List (S59)) (x21_1 : Int),v21 = .int .i64 x21_1 ∧ Aside0 (impl_SubTree.l0 kq l0 a1 x5_1 y590 (y590.length : Int) x21_1 = some r) ∧ Aside0 (kq ≤ k) ∧ Aside0 (Kd.R k59 59 w' w.heap.size (fun _=>True) v5 x5_1) ∧ Aside0 (Below w.heap.size w w'))
  case atStart=>exact ⟨(y585),(0),(by first | rfl | (simp;done) | (simp [*];done)),H',⟨Nat.le_refl _⟩,⟨laR HO587.out⟩,⟨laB HB.out⟩⟩
  case round =>
   clear H'
   try clear c1
   try clear q1
   try clear p2
   try clear c4
   try clear c6
   try clear c6b0
   try clear c6b1
   try clear c7
   try clear c7b0
   try clear c7b1
   try clear c8
   try clear c8b0
   try clear c8b1
   try clear c10
   try clear c12
   try clear q12
   try clear q012
   try clear q12
   obtain ⟨x5_1,x21_1,rfl,HA,HK1,HO_5,HB⟩:=hrel
   cases gk with
   | zero=>exact absurd HA.out (by simp [impl_SubTree.l0])
   | succ k1 =>
    have H:=HA.out;clear HA;simp only [impl_SubTree.l0] at H
    by_cases c13 : x21_1 < (y590.length : Int)
    rotate_left
    ·rw [if_neg c13] at H
     have c13b0 : decide (x21_1 < (y590.length : Int)) = false:=decide_eq_false c13;clear c13
     obtain rfl:=Option.some.inj H
     go_wp2
     go_ret
     exact ⟨_,by first | rfl | (simp [errW_none,errW_some] <;> rfl) | (simp [*,errW_none,errW_some] <;> rfl),by (with_reducible repeat (first | apply Kd.R_alloc | apply Kd.R_drewN | apply Kd.R_drew));exact HO_5.out,laB HB.out⟩
    rw [if_pos c13] at H;have c13b0 : decide (x21_1 < (y590.length : Int)) = true:=decide_eq_true c13;clear c13
    by_cases c14 : 0 ≤ x21_1
    rotate_left
    ·rw [if_neg c14] at H
     exact absurd H (by simp)
    rw [if_pos c14] at H;have c14b0 : decide (0 ≤ x21_1) = true:=decide_eq_true c14;clear c14
    by_cases c15 : x21_1 < (y590.length : Int)
    rotate_left
    ·rw [if_neg c15] at H
     exact absurd H (by simp)
    rw [if_pos c15] at H;have c15b0 : decide (x21_1 < (y590.length : Int)) = true:=decide_eq_true c15;clear c15
    by_cases c16 : 0 ≤ a1
    rotate_left
    ·rw [if_neg c16] at H
     exact absurd H (by simp)
    rw [if_pos c16] at H;have c16b0 : decide (0 ≤ a1) = true:=decide_eq_true c16;clear c16
    by_cases c17 : a1 < (l0.length : Int)
    rotate_left
    ·rw [if_neg c17] at H
     exact absurd H (by simp)
    rw [if_pos c17] at H;have c17b0 : decide (a1 < (l0.length : Int)) = true:=decide_eq_true c17;clear c17
    by_cases c18 : x5_1.length < 8796093022208
    rotate_left
    ·rw [if_neg c18] at H
     exact absurd H (by simp)
    rw [if_pos c18] at H;have LMc18:=Aside0.mk c18;clear c18
    obtain ⟨y597,hy597⟩ : ∃ y_ : List (S59),y_ = (x5_1 ++ [(⟨(rd_T59 y590 x21_1).f0,wrap64 (((rd_T59 y590 x21_1).f1) - ((rd_T59 l0 a1).f1))⟩ : S59)]):=⟨_,rfl⟩
    replace H : (impl_SubTree.l0 k1 l0 a1 y597 y590 (y590.length : Int) (wrap64 (x21_1 + 1))) = some r:=by first | (rw [hy597];with_reducible exact H) | (have H2_:=(Option.bind_some _ _).symm.trans H;rw [hy597];with_reducible exact H2_) | (have H2_:=(Option.bind_some _ _).symm.trans H;with_reducible exact H2_) | with_reducible exact H | (rw [hy597];exact H) | exact H
    have Ny597:=Aside0.mk hy597;clear hy597;have H':=Aside0.mk H;clear H;have p594 : 0 ≤ (x21_1 : Int):=of_decide_eq_true (by first | (with_reducible assumption) | assumption);have q594 : x21_1 < (y590.length : Int):=of_decide_eq_true (by first | (with_reducible assumption) | assumption)
    obtain ⟨ad594,e594,hx594_0,hx594_1⟩:=at_T59 HR593.out x21_1 p594 q594
    cases e594
    replace hx594_0:=(HB.out.cell (World.block_lt_of_cell? w _ hx594_0)).trans hx594_0;replace hx594_1:=(HB.out.cell (World.block_lt_of_cell? w _ hx594_1)).trans hx594_1;replace p594:=eq_true p594;replace q594:=eq_true q594
    try go_wp2_with (first | ((with_reducible refine gate_dst (N:=7) rfl ?_);refine box_event ?hg (N:=7) ?hd (cs:=#[.int .i64 0,.int .i64 0]) (t:=59) ?hr ?_;(case hd=>rfl);(case hg=>rfl);(case hr=>first | (go_simp;done) | (go_simp;rfl));intro gb595 hg w19 hbox hb;replace HO_5:=Aside0.mk (Kd.R_below (Kd.R_elderB (laR HO_5.out) gb595 (Nat.le_of_eq hg.symm)) hb);have BK595:=Aside0.mk (hbox);have GW595:=Aside0.mk ((by rw [hg];exact (below_size (laB HB.out)) : w.heap.size ≤ gb595));have GE595:=Aside0.mk ((by rw [hg];exact (below_size (laB HB.out)) : w.heap.size ≤ gb595));have ge595_:=Nonempty.intro GE595.out;replace HB:=Aside0.mk (below_step (laB HB.out) hb);clear hb hbox hg;have hcz20_0 : w19.cell? ⟨gb595,0,none⟩ = some (.int .i64 0):=(blk_cell BK595.out 0).trans rfl;have hcz20_1 : w19.cell? ⟨gb595,1,none⟩ = some (.int .i64 0):=(blk_cell BK595.out 1).trans rfl;have hfz20_0:=blk_frozen BK595.out 0;have hfz20_1:=blk_frozen BK595.out 1))
    have n0_ : Aside0 (Kd.R k59 59 ((w19.setCell ⟨gb595,0,none⟩ (.int .i64 ((rd_T59 y590 x21_1).f0))).setCell ⟨gb595,1,none⟩ (.int .i64 ((rd_T59 y590 x21_1).f1))) w.heap.size (fun k_=>k_ ≠ gb595) u5 x5_1):=⟨laR (Kd.R_mono (Kd.R_far (p:=⟨gb595,1,none⟩) (Kd.R_far (p:=⟨gb595,0,none⟩) (Kd.R_mono HO_5.out (fun k_ hk=>(⟨hk,hk.2⟩ : _ ∧ k_ ≠ gb595))) (fun _ hk=>hk.2) (.int .i64 ((rd_T59 y590 x21_1).f0))) (fun _ hk=>hk.2) (.int .i64 ((rd_T59 y590 x21_1).f1))) (fun _ hk=>hk.1.2))⟩;have n1_ : Aside0 (((w19.setCell ⟨gb595,0,none⟩ (.int .i64 ((rd_T59 y590 x21_1).f0))).setCell ⟨gb595,1,none⟩ (.int .i64 ((rd_T59 y590 x21_1).f1))).heap[gb595]? = some (.cells #[.int .i64 ((rd_T59 y590 x21_1).f0),.int .i64 ((rd_T59 y590 x21_1).f1)] 59 (0,0))):=⟨by (with_reducible repeat (first | refine blk_drewN ?_ _ | refine blk_drew ?_ | refine blk_alloc ?_ _));refine blk_put (cs:=#[.int .i64 ((rd_T59 y590 x21_1).f0),.int .i64 0]) ?_ 1 _ rfl;(with_reducible repeat (first | refine blk_drewN ?_ _ | refine blk_drew ?_ | refine blk_alloc ?_ _));refine blk_put (cs:=#[.int .i64 0,.int .i64 0]) ?_ 0 _ rfl;(with_reducible repeat (first | refine blk_drewN ?_ _ | refine blk_drew ?_ | refine blk_alloc ?_ _));exact BK595.out⟩;have n2_ : Aside0 (Below w.heap.size w ((w19.setCell ⟨gb595,0,none⟩ (.int .i64 ((rd_T59 y590 x21_1).f0))).setCell ⟨gb595,1,none⟩ (.int .i64 ((rd_T59 y590 x21_1).f1)))):=⟨laB HB.out⟩;(try clear HO_5);(try clear BK595);(try clear HB)
    generalize ((w19.setCell ⟨gb595,0,none⟩ (.int .i64 ((rd_T59 y590 x21_1).f0))).setCell ⟨gb595,1,none⟩ (.int .i64 ((rd_T59 y590 x21_1).f1))) = w21 at n0_ n1_ n2_ ⊢
    have HO_5:=n0_;have BK595:=n1_;have HB:=n2_;clear n0_ n1_ n2_;replace HO_5:=Aside0.mk (Kd.R_drew HO_5.out);replace BK595:=Aside0.mk (blk_drew BK595.out);replace HB:=Aside0.mk (below_drew1 HB.out);have p596 : 0 ≤ (a1 : Int):=of_decide_eq_true (by first | (with_reducible assumption) | assumption);have q596 : a1 < (l0.length : Int):=of_decide_eq_true (by first | (with_reducible assumption) | assumption)
    obtain ⟨ad596,e596,hx596_0,hx596_1⟩:=at_T59 HR0.out a1 p596 q596
    have hw596_1:=hx596_1;have hw596_0:=hx596_0
    cases e596
    replace hx596_0:=(HB.out.cell (World.block_lt_of_cell? w _ hx596_0)).trans hx596_0;replace hx596_1:=(HB.out.cell (World.block_lt_of_cell? w _ hx596_1)).trans hx596_1;replace p596:=eq_true p596;replace q596:=eq_true q596;refine start_ (n:=15) (S:=fun w'=>w'.cell? ⟨gb595,0,none⟩ = some (.int .i64 ((rd_T59 y590 x21_1).f0)) ∧ w'.cell? ⟨gb595,1,none⟩ = some (.int .i64 ((rd_T59 y590 x21_1).f1)) ∧ w'.cell? (ad596.add ((a1).toNat * 2)) = some (.int .i64 ((rd_T59 l0 a1).f0)) ∧ w'.cell? ⟨(ad596.add ((a1).toNat * 2)).block,(ad596.add ((a1).toNat * 2)).off + 1,none⟩ = some (.int .i64 ((rd_T59 l0 a1).f1))) (ds:=[]) (pw 15 0) (by kernel_rfl) rfl rfl ⟨(blk_cell BK595.out 0).trans rfl,(blk_cell BK595.out 1).trans rfl,((HB.out.cell (World.block_lt_of_cell? w _ hw596_0)).trans hw596_0),((HB.out.cell (World.block_lt_of_cell? w _ hw596_1)).trans hw596_1)⟩ (fun hHeld=>?_);refine with_tabW impl_SubTree.tab7 impl_SubTree.bits7 (fun HT_ HW_=>?_)
    generalize w21.drew = w22 at HO_5 BK595 HB hx596_0 hx596_1 hHeld ⊢
    refine pure_ (i:=0) (N:=some 25) (v:=?_) (a':=?_) (pw 15 1) rfl rfl (any_of HT_.out (by kernel_rfl)) (fun _ _ _ h=>h) (Or.inl ⟨by rfl,?_⟩) ?_ ?_;rotate_left
    ·intro w';go_simp;with_reducible rfl
    rotate_left;·simp only [Act.put,za,zb,zc,i64_w,i32_w];rfl
    refine pure_ (i:=1) (N:=some 26) (v:=?_) (a':=?_) (pw 15 2) rfl rfl (any_of HT_.out (by kernel_rfl)) (fun _ _ _ h=>h) (Or.inl ⟨by rfl,?_⟩) ?_ ?_;rotate_left
    ·intro w';go_simp;with_reducible rfl
    rotate_left;·simp only [Act.put,za,zb,zc,i64_w,i32_w];rfl
    refine pure_ (i:=3) (N:=some 28) (v:=?_) (a':=?_) (bw 15 11) rfl rfl (any_of HT_.out (by kernel_rfl)) (fun _ _ _ h=>h) (Or.inl ⟨by rfl,?_⟩) ?_ ?_;rotate_left
    ·intro w';go_simp;with_reducible rfl
    rotate_left;·simp only [Act.put,za,zb,zc,i64_w,i32_w];rfl
    refine pure_ (i:=5) (N:=some 30) (v:=?_) (a':=?_) (bw 15 43) rfl rfl (any_of HT_.out (by kernel_rfl)) (fun _ _ _ h=>h) (Or.inl ⟨by rfl,?_⟩) ?_ ?_;rotate_left
    ·intro w';go_simp;with_reducible rfl
    rotate_left;·simp only [Act.put,za,zb,zc,i64_w,i32_w];rfl
    refine pure_ (i:=6) (N:=some 31) (v:=?_) (a':=?_) (bw 15 107) rfl rfl (any_of HT_.out (by kernel_rfl)) (fun _ _ _ h=>h) (Or.inl ⟨by rfl,?_⟩) ?_ ?_;rotate_left
    ·intro w';go_simp;with_reducible rfl
    rotate_left;·simp only [Act.put,za,zb,zc,i64_w,i32_w];rfl
    refine pure_ (i:=7) (N:=some 32) (v:=?_) (a':=?_) (bw 15 235) rfl rfl (any_of HT_.out (by kernel_rfl)) (fun _ _ _ h=>h) (Or.inl ⟨by rfl,?_⟩) ?_ ?_;rotate_left
    ·intro w';go_simp;with_reducible rfl
    rotate_left;·simp only [Act.put,za,zb,zc,i64_w,i32_w];rfl
    refine pure_ (i:=8) (N:=some 33) (v:=?_) (a':=?_) (bw 15 491) rfl rfl (any_of HT_.out (by kernel_rfl)) (fun _ _ _ h=>h) (Or.inl ⟨by rfl,?_⟩) ?_ ?_;rotate_left
    ·intro w';go_simp;with_reducible rfl
    rotate_left;·simp only [Act.put,za,zb,zc,i64_w,i32_w];rfl
    refine take_ (i:=2) (N:=some 27) (v:=?_) (a':=?_) (bw 15 495) rfl rfl (take_ofW HT_.out HW_.out (by kernel_rfl)) (fun _ _ _ h=>h) (Or.inl ⟨by rfl,?_⟩) hHeld ?_ ?_;rotate_left
    ·rintro w' ⟨s0,s1,s2,s3⟩
     go_simp;with_reducible rfl
    rotate_left;·simp only [Act.put,za,zb,zc,i64_w,i32_w];rfl
    refine take_ (i:=4) (N:=some 29) (v:=?_) (a':=?_) (pw 15 9) rfl rfl (take_ofW HT_.out HW_.out (by kernel_rfl)) (fun _ _ _ h=>h) (Or.inl ⟨by rfl,?_⟩) hHeld ?_ ?_;rotate_left
    ·rintro w' ⟨s0,s1,s2,s3⟩
     go_simp;with_reducible rfl
    rotate_left;·simp only [Act.put,za,zb,zc,i64_w,i32_w];rfl
    refine take_ (i:=9) (N:=some 34) (v:=?_) (a':=?_) (pw 15 10) rfl rfl (take_ofW HT_.out HW_.out (by kernel_rfl)) (fun _ _ _ h=>h) (Or.inl ⟨by rfl,?_⟩) hHeld ?_ ?_;rotate_left
    ·rintro w' ⟨s0,s1,s2,s3⟩
     go_simp;with_reducible rfl
    rotate_left;·simp only [Act.put,za,zb,zc,i64_w,i32_w];rfl
    refine pure_ (i:=10) (N:=some 35) (v:=?_) (a':=?_) (pw 15 11) rfl rfl (any_of HT_.out (by kernel_rfl)) (fun _ _ _ h=>h) (Or.inl ⟨by rfl,?_⟩) ?_ ?_;rotate_left
    ·intro w';go_simp;with_reducible rfl
    rotate_left;·simp only [Act.put,za,zb,zc,i64_w,i32_w];rfl
    refine pure_ (i:=11) (N:=some 36) (v:=?_) (a':=?_) (pw 15 12) rfl rfl (any_of HT_.out (by kernel_rfl)) (fun _ _ _ h=>h) (Or.inl ⟨by rfl,?_⟩) ?_ ?_;rotate_left
    ·intro w';go_simp;with_reducible rfl
    rotate_left;·simp only [Act.put,za,zb,zc,i64_w,i32_w];rfl
    refine one_ (i:=12) (N:=some 37) (pw 15 13) rfl rfl (one_of HT_.out (by kernel_rfl)) (by decide) (fun K hK=>?_);refine value_ (w1:=?_) (v:=?_) (by rfl) rfl ?_ ?_;rotate_left 2
    ·go_simp
     constructor
     ·rfl
     ·rfl
    refine hK.out _ _ ⟨(blk_cell (blk_alloc BK595.out _) 0).trans rfl,(blk_cell (blk_alloc BK595.out _) 1).trans rfl,(World.cell?_alloc_lt _ _ _ (World.block_lt_of_cell? _ _ (((HB.out.cell (World.block_lt_of_cell? w _ hw596_0)).trans hw596_0)))).trans (((HB.out.cell (World.block_lt_of_cell? w _ hw596_0)).trans hw596_0)),(World.cell?_alloc_lt _ _ _ (World.block_lt_of_cell? _ _ (((HB.out.cell (World.block_lt_of_cell? w _ hw596_1)).trans hw596_1)))).trans (((HB.out.cell (World.block_lt_of_cell? w _ hw596_1)).trans hw596_1))⟩ (fun hHeld=>?_);clear hK K;refine norm_ (a':=?_) ?_ ?_;rotate_left
    ·show Act.put _ (some 37) _ = _
     simp only [Act.put,za,zb,zc,i64_w,i32_w];rfl
    refine one_ (i:=13) (N:=some 38) (pw 15 14) rfl rfl (one_of HT_.out (by kernel_rfl)) (by decide) (fun K hK=>?_);refine Kd.R_append_step k59 (w0:=w) w.heap.size (by rfl) (.tmp 25) (.tmp 37) 26 59 (.agg #[(.int .i64 0),(.int .i64 0)]) 16 rfl Try.underlying26 info59 rfl (by decide) (by omega) u5 x5_1 (⟨(rd_T59 y590 x21_1).f0,wrap64 (((rd_T59 y590 x21_1).f1) - ((rd_T59 l0 a1).f1))⟩ : S59) [.int .i64 ((rd_T59 y590 x21_1).f0),.int .i64 (wrap64 (((rd_T59 y590 x21_1).f1) - ((rd_T59 l0 a1).f1)))] (fun k_=>k_ ≠ gb595) (fun _=>False) rfl rfl ?aP (fun _ hk=>hk.elim) ?aF ?aO ?aB ?aS ?aL ?_;(case aP=>exact k59_mkM _ _ _ (⟨(rd_T59 y590 x21_1).f0,wrap64 (((rd_T59 y590 x21_1).f1) - ((rd_T59 l0 a1).f1))⟩ : S59));(case aB=>exact (laB HB.out));(case aF=>exact (fun k_ hk=>Kd.freshB (g:=gb595) (o:=.cells #[.int .i64 ((rd_T59 y590 x21_1).f0),.int .i64 ((rd_T59 y590 x21_1).f1)] 59 (0,0)) (laK BK595.out) k_ hk));(case aO=>exact (laR HO_5.out));(case aS=>exact (below_size (laB HB.out)));(case aL=>have:=LMc18.out;omega);intro v598 w23 ho hb hg hat;rw [← Ny597.out] at ho;have n0_:=Aside0.mk (blk_grown (g:=gb595) (o:=.cells #[.int .i64 ((rd_T59 y590 x21_1).f0),.int .i64 ((rd_T59 y590 x21_1).f1)] 59 (0,0)) (laK BK595.out) hg (Kd.R_away HO_5.out (fun _ hk=>hk)));have n1_:=Aside0.mk (hb);have n2_:=Aside0.mk (ho);clear BK595;clear HB;clear HO_5;have BK595:=n0_;have HB:=n1_;have HO599:=n2_;clear n0_ n1_ n2_;clear ho hb hg hat;refine hK.out _ _ ⟨(blk_cell BK595.out 0).trans rfl,(blk_cell BK595.out 1).trans rfl,((HB.out.cell (World.block_lt_of_cell? w _ hw596_0)).trans hw596_0),((HB.out.cell (World.block_lt_of_cell? w _ hw596_1)).trans hw596_1)⟩ (fun hHeld=>?_);clear hK K;refine norm_ (a':=?_) ?_ ?_;rotate_left
    ·show Act.put _ (some 38) _ = _
     simp only [Act.put,za,zb,zc,i64_w,i32_w];rfl
    refine pure_ (i:=14) (N:=some 5) (v:=?_) (a':=?_) (pw 15 15) rfl rfl (any_of HT_.out (by kernel_rfl)) (fun _ _ _ h=>h) (Or.inl ⟨by rfl,?_⟩) ?_ ?_;rotate_left
    ·intro w';go_simp;with_reducible rfl
    rotate_left;·simp only [Act.put,za,zb,zc,i64_w,i32_w];rfl
    refine done_ (done_of HT_.out (by kernel_rfl)) ?_
    try go_wp2
    go_roundg k1
    case measure=>have:=HK1.out;omega
    case rel=>exact ⟨(y597),(wrap64 (x21_1 + 1)),(by first | rfl | (simp;done) | (simp [*];done)),H',⟨by have:=HK1.out;omega⟩,⟨laR (Kd.R_mono HO599.out (fun _ hk=>trivial))⟩,⟨laB HB.out⟩⟩
 ·replace c4:=Bool.eq_false_iff.mpr c4
  subst c4;rw [if_neg (show ¬ (false = true) by decide)] at H
  obtain rfl:=Option.some.inj H
  go_enter Try.func127,Try.ntmps127
  go_wp2_with (first | ((with_reducible refine gate_dst (N:=8) rfl ?_);refine Kd.R_lit k59 _ 59 ?hg (N:=8) ?hd (xs:=([] : List (S59))) (inner:=[]) (ok:=fun _=>True) (okp:=fun _=>True) ?hr ?hp (fun _ hk=>hk) trivial (Below.refl _ _) (Nat.le_refl _) (by simp) ?_;(case hd=>rfl);(case hg=>rfl);(case hr=>first | (go_simp;done) | (go_simp;rfl));(case hp=>exact (Reps.none _ _));intro v586 w24 ho25 hb hg_ hnew_;clear hg_ hnew_;(first | rw [← Ny585.out] at ho25 | (simp only [Int.reduceToNat] at ho25;rw [← Ny585.out] at ho25));have HO587:=Aside0.mk (Kd.R_lower ho25 (below_size (laB HB.out)));replace HB:=Aside0.mk (below_step (laB HB.out) hb);clear hb ho25) | ((with_reducible refine gate_callee (f:=100) rfl ?_);refine goesL_ (some 11) rfl rfl Try.func100 (by kernel_rfl) rfl #[.slice A0 l0.length c0,.int .i64 a1] rfl (by (try simp only [List.map_toArray,List.map_cons,List.map_nil]);first | done | rfl | (simp only [List.length_drop,List.length_take];rfl)) ?_;(with_reducible refine (impl_hasNode.calls k _ _ l0 a1 false _ ?side1 ?side2 A3.out).mono ?_);(case side1=>exact laC (Kd.C_below HR0.out HB.out));(case side2=>exact HC0.out);rintro e w26 ⟨rfl,hb⟩;refine ⟨_,rfl,?_⟩;replace HO587:=Aside0.mk (laRb HO587.out hb);replace HB:=Aside0.mk (below_step (laB HB.out) hb);(try clear hb);(try clear hb2);(try clear hk);(try clear hi)))
  go_ret
  exact ⟨_,by first | rfl | (simp [errW_none,errW_some] <;> rfl) | (simp [*,errW_none,errW_some] <;> rfl),by (with_reducible repeat (first | apply Kd.R_alloc | apply Kd.R_drewN | apply Kd.R_drew));exact HO587.out,laB HB.out⟩



/-! ### impl_topdown_del: function 109 -/
def impl_topdown_del.f (k : Nat) (l0_0 : List (S59)) (l0_1 : List (S59)) (l0_2 : List Int) (l0_3 : List Int) (l0_4 : List Int) (a0_5 : Int) (a1 : Int) : Option (Int):=(impl_SubTree.f k l0_0 a1).bind fun t601=>((impl_DelTree.f k t601 l0_2 l0_3 l0_4).bind fun t604=>(some t604))
theorem impl_topdown_del.mono : ∀ a0 a1 a2 a3 a4 a5 a6 k,LeO (impl_topdown_del.f k a0 a1 a2 a3 a4 a5 a6) (impl_topdown_del.f (k + 1) a0 a1 a2 a3 a4 a5 a6):=by
 intro a0 a1 a2 a3 a4 a5 a6 k
 unfold impl_topdown_del.f
 repeat' first
   | (with_reducible exact impl_DelTree.mono _ _ _ _ _)
   | (with_reducible exact impl_SubTree.mono _ _ _)
   | (with_reducible exact LeO.refl _)
   | (with_reducible exact LeO.none _)
   | (with_reducible refine LeO.ite ?_ ?_)
   | (with_reducible refine LeO.bind ?_ (fun _=>?_))
   | exact impl_DelTree.mono _ _ _ _ _
   | exact impl_SubTree.mono _ _ _
   | exact LeO.none _
   | refine LeO.ite ?_ ?_
   | refine LeO.bind ?_ (fun _=>?_)
def impl_topdown_del.T1 : Bool × List (List Nat × List Nat):=(true,[([],[]),([0],[0]),([],[]),([1,2],[1,2]),([],[]),([4],[4]),([3,5,3],[3,5]),([6,6,0,1,2,3,4,5,6],[6])])
def impl_topdown_del.B1 : List Nat:=[0,1,0,7,0,16,63,127]
theorem impl_topdown_del.tab1 : rtab .any (opsOf Try.f109 1) = impl_topdown_del.T1:=by kernel_rfl
theorem impl_topdown_del.bits1 : waitsOk impl_topdown_del.T1.2 impl_topdown_del.B1 = true:=by kernel_rfl
set_option maxHeartbeats 8000000 in
set_option maxRecDepth 100000 in
theorem impl_topdown_del.calls (MB_ : Nat) (k : Nat) (A0_0 : Option Addr) (c0_0 : Nat) (l0_0 : List (S59)) (A0_1 : Option Addr) (c0_1 : Nat) (l0_1 : List (S59)) (A0_2 : Option Addr) (c0_2 : Nat) (l0_2 : List Int) (A0_3 : Option Addr) (c0_3 : Nat) (l0_3 : List Int) (A0_4 : Option Addr) (c0_4 : Nat) (l0_4 : List Int) (a0_5 : Int) (a1 : Int) (r : Int) (w : World) (hr0_0 : Kd.C k59 w A0_0 l0_0.length l0_0) (hc0_0 : l0_0.length ≤ c0_0) (hr0_1 : Kd.C k59 w A0_1 l0_1.length l0_1) (hc0_1 : l0_1.length ≤ c0_1) (hr0_2 : Kd.C (Kd.int .i64) w A0_2 l0_2.length l0_2) (hc0_2 : l0_2.length ≤ c0_2) (hr0_3 : Kd.C (Kd.int .i64) w A0_3 l0_3.length l0_3) (hc0_3 : l0_3.length ≤ c0_3) (hr0_4 : Kd.C (Kd.int .i64) w A0_4 l0_4.length l0_4) (hc0_4 : l0_4.length ≤ c0_4) (h : impl_topdown_del.f k l0_0 l0_1 l0_2 l0_3 l0_4 a0_5 a1 = some r) :
  Calls Try.prog 109 #[.agg #[.slice A0_0 l0_0.length c0_0,.slice A0_1 l0_1.length c0_1,.slice A0_2 l0_2.length c0_2,.slice A0_3 l0_3.length c0_3,.slice A0_4 l0_4.length c0_4,.map (some MB_)],.int .i64 a1] w fun e w'=>e = .returned (.int .i64 r) ∧ Below w.heap.size w w':=by
 have hu70:=Try.underlying70
 have hu37:=Try.underlying37
 have HR0_0:=Aside0.mk hr0_0
 have HC0_0:=Aside0.mk hc0_0
 clear hr0_0 hc0_0
 have HR0_1:=Aside0.mk hr0_1
 have HC0_1:=Aside0.mk hc0_1
 clear hr0_1 hc0_1
 have HR0_2:=Aside0.mk hr0_2
 have HC0_2:=Aside0.mk hc0_2
 clear hr0_2 hc0_2
 have HR0_3:=Aside0.mk hr0_3
 have HC0_3:=Aside0.mk hc0_3
 clear hr0_3 hc0_3
 have HR0_4:=Aside0.mk hr0_4
 have HC0_4:=Aside0.mk hc0_4
 clear hr0_4 hc0_4
 have HB:=Aside0.mk (Below.refl w.heap.size w)
 have H : ((impl_SubTree.f k l0_0 a1).bind fun t601=>((impl_DelTree.f k t601 l0_2 l0_3 l0_4).bind fun t604=>(some t604))) = some r:=h
 clear h
 replace H:=Option.bind_eq_some_iff.mp H
 obtain ⟨t601,A30,H⟩:=H
 have A3:=Aside0.mk A30
 clear A30
 replace H:=Option.bind_eq_some_iff.mp H
 obtain ⟨t604,A40,H⟩:=H
 have A4:=Aside0.mk A40
 clear A40
 obtain rfl:=Option.some.inj H
 go_enter Try.func109,Try.ntmps109
 try go_wp2_with (first | ((with_reducible refine gate_dst (N:=2) rfl ?_);refine box_event ?hg (N:=2) ?hd (cs:=#[.slice A0_0 l0_0.length c0_0,.slice A0_1 l0_1.length c0_1,.slice A0_2 l0_2.length c0_2,.slice A0_3 l0_3.length c0_3,.slice A0_4 l0_4.length c0_4,.map (some MB_)]) (t:=70) ?hr ?_;(case hd=>rfl);(case hg=>rfl);(case hr=>first | (go_simp;done) | (go_simp;rfl));intro gb600 hg w5 hbox hb;have BK600:=Aside0.mk (hbox);have GW600:=Aside0.mk ((by rw [hg];exact (below_size (laB HB.out)) : w.heap.size ≤ gb600));have GE600:=Aside0.mk ((by rw [hg];exact (below_size (laB HB.out)) : w.heap.size ≤ gb600));have ge600_:=Nonempty.intro GE600.out;replace HB:=Aside0.mk (below_step (laB HB.out) hb);clear hb hbox hg))
 replace BK600:=Aside0.mk (blk_drew BK600.out)
 replace HB:=Aside0.mk (below_drew1 HB.out)
 refine start_ (n:=8) (S:=fun w'=>w'.cell? ⟨gb600,0,none⟩ = some (.slice A0_0 l0_0.length c0_0) ∧ w'.cell? ⟨gb600,1,none⟩ = some (.slice A0_1 l0_1.length c0_1) ∧ w'.cell? ⟨gb600,2,none⟩ = some (.slice A0_2 l0_2.length c0_2) ∧ w'.cell? ⟨gb600,3,none⟩ = some (.slice A0_3 l0_3.length c0_3) ∧ w'.cell? ⟨gb600,4,none⟩ = some (.slice A0_4 l0_4.length c0_4) ∧ w'.cell? ⟨gb600,5,none⟩ = some (.map (some MB_))) (ds:=[]) (pw 8 0) (by kernel_rfl) rfl rfl ⟨(blk_cell BK600.out 0).trans rfl,(blk_cell BK600.out 1).trans rfl,(blk_cell BK600.out 2).trans rfl,(blk_cell BK600.out 3).trans rfl,(blk_cell BK600.out 4).trans rfl,(blk_cell BK600.out 5).trans rfl⟩ (fun hHeld=>?_);refine with_tabW impl_topdown_del.tab1 impl_topdown_del.bits1 (fun HT_ HW_=>?_)
 generalize w5.drew = w6 at BK600 HB hHeld ⊢
 refine pure_ (i:=0) (N:=some 5) (v:=?_) (a':=?_) (pw 8 1) rfl rfl (any_of HT_.out (by kernel_rfl)) (fun _ _ _ h=>h) (Or.inl ⟨by rfl,?_⟩) ?_ ?_;rotate_left
 ·intro w';go_simp;with_reducible rfl
 rotate_left;·simp only [Act.put,za,zb,zc,i64_w,i32_w];rfl
 refine pure_ (i:=2) (N:=some 7) (v:=?_) (a':=?_) (bw 8 5) rfl rfl (any_of HT_.out (by kernel_rfl)) (fun _ _ _ h=>h) (Or.inl ⟨by rfl,?_⟩) ?_ ?_;rotate_left
 ·intro w';go_simp;with_reducible rfl
 rotate_left;·simp only [Act.put,za,zb,zc,i64_w,i32_w];rfl
 refine pure_ (i:=4) (N:=some 9) (v:=?_) (a':=?_) (bw 8 21) rfl rfl (any_of HT_.out (by kernel_rfl)) (fun _ _ _ h=>h) (Or.inl ⟨by rfl,?_⟩) ?_ ?_;rotate_left
 ·intro w';go_simp;with_reducible rfl
 rotate_left;·simp only [Act.put,za,zb,zc,i64_w,i32_w];rfl
 refine take_ (i:=1) (N:=some 6) (v:=?_) (a':=?_) (bw 8 23) rfl rfl (take_ofW HT_.out HW_.out (by kernel_rfl)) (fun _ _ _ h=>h) (Or.inl ⟨by rfl,?_⟩) hHeld ?_ ?_;rotate_left
 ·rintro w' ⟨s0,s1,s2,s3,s4,s5⟩
  go_simp;with_reducible rfl
 rotate_left;·simp only [Act.put,za,zb,zc,i64_w,i32_w];rfl
 refine take_ (i:=5) (N:=some 10) (v:=?_) (a':=?_) (bw 8 55) rfl rfl (take_ofW HT_.out HW_.out (by kernel_rfl)) (fun _ _ _ h=>h) (Or.inl ⟨by rfl,?_⟩) hHeld ?_ ?_;rotate_left
 ·rintro w' ⟨s0,s1,s2,s3,s4,s5⟩
  go_simp;with_reducible rfl
 rotate_left;·simp only [Act.put,za,zb,zc,i64_w,i32_w];rfl
 refine one_ (i:=3) (N:=some 8) (pw 8 6) rfl rfl (one_of HT_.out (by kernel_rfl)) (by decide) (fun K hK=>?_)
 refine goes_ Try.func127 (by kernel_rfl) rfl #[.slice A0_0 l0_0.length c0_0,.int .i64 a1] (by rfl) rfl rfl (by (try simp only [List.map_toArray,List.map_cons,List.map_nil]);first | done | rfl | (simp only [List.length_drop,List.length_take];rfl)) ?_
 with_reducible refine (impl_SubTree.calls k _ _ l0_0 a1 t601 _ ?side1 ?side2 A3.out).mono ?_
 (case side1=>exact laC (Kd.C_below HR0_0.out HB.out))
 (case side2=>exact HC0_0.out)
 rintro e w7 ⟨v602,rfl,ho0,hb⟩
 refine ⟨_,rfl,?_⟩
 have HO603:=Aside0.mk (Kd.R_lower ho0 (below_size (laB HB.out)))
 replace BK600:=Aside0.mk (laKb BK600.out hb)
 replace HB:=Aside0.mk (below_step (laB HB.out) hb)
 (try clear hb)
 (try clear hb2)
 (try clear hk)
 (try clear hi)
 (try clear ho0)
 obtain ⟨Ao8,co8,eo8⟩:=Kd.R_slice HO603.out
 (first | subst eo8 | (injection eo8 with f1_ f2_ f3_;have f4_:=f1_.symm;have f5_:=f3_.symm;clear f1_ f2_ f3_;subst f4_;subst f5_))
 refine hK.out _ _ ⟨(blk_cell BK600.out 0).trans rfl,(blk_cell BK600.out 1).trans rfl,(blk_cell BK600.out 2).trans rfl,(blk_cell BK600.out 3).trans rfl,(blk_cell BK600.out 4).trans rfl,(blk_cell BK600.out 5).trans rfl⟩ (fun hHeld=>?_)
 clear hK K
 refine norm_ (a':=?_) ?_ ?_;rotate_left
 ·show Act.put _ (some 8) _ = _
  simp only [Act.put,za,zb,zc,i64_w,i32_w];rfl
 refine one_ (i:=6) (N:=some 11) (pw 8 7) rfl rfl (one_of HT_.out (by kernel_rfl)) (by decide) (fun K hK=>?_)
 refine goes_ Try.func126 (by kernel_rfl) rfl #[.slice Ao8 t601.length co8,.agg #[.slice A0_2 l0_2.length c0_2,.slice A0_3 l0_3.length c0_3,.slice A0_4 l0_4.length c0_4]] (by rfl) rfl rfl (by (try simp only [List.map_toArray,List.map_cons,List.map_nil]);first | done | rfl | (simp only [List.length_drop,List.length_take];rfl)) ?_
 with_reducible refine (impl_DelTree.calls k _ _ t601 _ _ l0_2 _ _ l0_3 _ _ l0_4 t604 _ ?side1 ?side2 ?side3 ?side4 ?side5 ?side6 ?side7 ?side8 A4.out).mono ?_
 (case side1=>exact laC (Kd.R_reads' HO603.out).2.2)
 (case side2=>exact (Kd.R_reads' HO603.out).2.1)
 (case side3=>exact laC (Kd.C_below HR0_2.out HB.out))
 (case side4=>exact HC0_2.out)
 (case side5=>exact laC (Kd.C_below HR0_3.out HB.out))
 (case side6=>exact HC0_3.out)
 (case side7=>exact laC (Kd.C_below HR0_4.out HB.out))
 (case side8=>exact HC0_4.out)
 rintro e w9 ⟨rfl,hb⟩
 refine ⟨_,rfl,?_⟩
 replace HO603:=Aside0.mk (laRb HO603.out hb)
 replace BK600:=Aside0.mk (laKb BK600.out hb)
 replace HB:=Aside0.mk (below_step (laB HB.out) hb)
 (try clear hb)
 (try clear hb2)
 (try clear hk)
 (try clear hi)
 refine hK.out _ _ ⟨(blk_cell BK600.out 0).trans rfl,(blk_cell BK600.out 1).trans rfl,(blk_cell BK600.out 2).trans rfl,(blk_cell BK600.out 3).trans rfl,(blk_cell BK600.out 4).trans rfl,(blk_cell BK600.out 5).trans rfl⟩ (fun hHeld=>?_)
 clear hK K
 refine norm_ (a':=?_) ?_ ?_;rotate_left
 ·show Act.put _ (some 11) _ = _
  simp only [Act.put,za,zb,zc,i64_w,i32_w];rfl
 refine pure_ (i:=7) (N:=some 4) (v:=?_) (a':=?_) (pw 8 8) rfl rfl (any_of HT_.out (by kernel_rfl)) (fun _ _ _ h=>h) (Or.inl ⟨by rfl,?_⟩) ?_ ?_;rotate_left
 ·intro w';go_simp;with_reducible rfl
 rotate_left;·simp only [Act.put,za,zb,zc,i64_w,i32_w];rfl
 refine done_ (done_of HT_.out (by kernel_rfl)) ?_
 try go_wp2
 go_ret
 exact ⟨by first | rfl | (simp [errW_none,errW_some] <;> rfl) | (simp [*,errW_none,errW_some] <;> rfl),laB HB.out⟩



/-! ### impl_InsCost: function 150 -/
def impl_InsCost.f (k : Nat) (l0_0 : List Int) (l0_1 : List Int) (l0_2 : List Int) (a1 : Int) : Option (Int):=(impl_CostOk.f k l0_0 l0_1 l0_2).bind fun t606=>(if t606 = true then ((impl_LabelOk.f a1).bind fun t607=>(if t607 = true then (if 0 ≤ a1 then (if a1 < (l0_1.length : Int) then (some (rd l0_1 a1)) else (none)) else (none)) else (some 0))) else (some 0))
theorem impl_InsCost.mono : ∀ a0 a1 a2 a3 k,LeO (impl_InsCost.f k a0 a1 a2 a3) (impl_InsCost.f (k + 1) a0 a1 a2 a3):=by
 intro a0 a1 a2 a3 k
 unfold impl_InsCost.f
 repeat' first
   | (with_reducible exact impl_CostOk.mono _ _ _ _)
   | (with_reducible exact LeO.refl _)
   | (with_reducible exact LeO.none _)
   | (with_reducible refine LeO.ite ?_ ?_)
   | (with_reducible refine LeO.bind ?_ (fun _=>?_))
   | exact impl_CostOk.mono _ _ _ _
   | exact LeO.none _
   | refine LeO.ite ?_ ?_
   | refine LeO.bind ?_ (fun _=>?_)
set_option maxHeartbeats 8000000 in
set_option maxRecDepth 100000 in
theorem impl_InsCost.calls (k : Nat) (A0_0 : Option Addr) (c0_0 : Nat) (l0_0 : List Int) (A0_1 : Option Addr) (c0_1 : Nat) (l0_1 : List Int) (A0_2 : Option Addr) (c0_2 : Nat) (l0_2 : List Int) (a1 : Int) (r : Int) (w : World) (hr0_0 : Kd.C (Kd.int .i64) w A0_0 l0_0.length l0_0) (hc0_0 : l0_0.length ≤ c0_0) (hr0_1 : Kd.C (Kd.int .i64) w A0_1 l0_1.length l0_1) (hc0_1 : l0_1.length ≤ c0_1) (hr0_2 : Kd.C (Kd.int .i64) w A0_2 l0_2.length l0_2) (hc0_2 : l0_2.length ≤ c0_2) (h : impl_InsCost.f k l0_0 l0_1 l0_2 a1 = some r) :
  Calls Try.prog 150 #[.agg #[.slice A0_0 l0_0.length c0_0,.slice A0_1 l0_1.length c0_1,.slice A0_2 l0_2.length c0_2],.int .i64 a1] w fun e w'=>e = .returned (.int .i64 r) ∧ Below w.heap.size w w':=by
 have hu37:=Try.underlying37
 have HR0_0:=Aside0.mk hr0_0
 have HC0_0:=Aside0.mk hc0_0
 clear hr0_0 hc0_0
 have HR0_1:=Aside0.mk hr0_1
 have HC0_1:=Aside0.mk hc0_1
 clear hr0_1 hc0_1
 have HR0_2:=Aside0.mk hr0_2
 have HC0_2:=Aside0.mk hc0_2
 clear hr0_2 hc0_2
 have HB:=Aside0.mk (Below.refl w.heap.size w)
 have H : ((impl_CostOk.f k l0_0 l0_1 l0_2).bind fun t606=>(if t606 = true then ((impl_LabelOk.f a1).bind fun t607=>(if t607 = true then (if 0 ≤ a1 then (if a1 < (l0_1.length : Int) then (some (rd l0_1 a1)) else (none)) else (none)) else (some 0))) else (some 0))) = some r:=h
 clear h
 replace H:=Option.bind_eq_some_iff.mp H
 obtain ⟨t606,A30,H⟩:=H
 have A3:=Aside0.mk A30
 clear A30
 by_cases c4 : t606 = true
 ·subst c4
  rw [if_pos rfl] at H;replace H:=Option.bind_eq_some_iff.mp H
  obtain ⟨t607,A50,H⟩:=H
  have A5:=Aside0.mk A50;clear A50
  by_cases c6 : t607 = true
  ·subst c6
   rw [if_pos rfl] at H
   by_cases c7 : 0 ≤ a1
   rotate_left
   ·rw [if_neg c7] at H
    exact absurd H (by simp)
   rw [if_pos c7] at H;have c7b0 : decide (0 ≤ a1) = true:=decide_eq_true c7;clear c7
   by_cases c8 : a1 < (l0_1.length : Int)
   rotate_left
   ·rw [if_neg c8] at H
    exact absurd H (by simp)
   rw [if_pos c8] at H;have c8b0 : decide (a1 < (l0_1.length : Int)) = true:=decide_eq_true c8;clear c8
   obtain rfl:=Option.some.inj H
   go_enter Try.func150,Try.ntmps150
   go_wp2_with (first | ((with_reducible refine gate_dst (N:=2) rfl ?_);refine box_event ?hg (N:=2) ?hd (cs:=#[.slice A0_0 l0_0.length c0_0,.slice A0_1 l0_1.length c0_1,.slice A0_2 l0_2.length c0_2]) (t:=37) ?hr ?_;(case hd=>rfl);(case hg=>rfl);(case hr=>first | (go_simp;done) | (go_simp;rfl));intro gb605 hg w9 hbox hb;have BK605:=Aside0.mk (hbox);have GW605:=Aside0.mk ((by rw [hg];exact (below_size (laB HB.out)) : w.heap.size ≤ gb605));have GE605:=Aside0.mk ((by rw [hg];exact (below_size (laB HB.out)) : w.heap.size ≤ gb605));have ge605_:=Nonempty.intro GE605.out;replace HB:=Aside0.mk (below_step (laB HB.out) hb);clear hb hbox hg;have hcz10_0 : w9.cell? ⟨gb605,0,none⟩ = some (.slice A0_0 l0_0.length c0_0):=(blk_cell BK605.out 0).trans rfl;have hcz10_1 : w9.cell? ⟨gb605,1,none⟩ = some (.slice A0_1 l0_1.length c0_1):=(blk_cell BK605.out 1).trans rfl;have hcz10_2 : w9.cell? ⟨gb605,2,none⟩ = some (.slice A0_2 l0_2.length c0_2):=(blk_cell BK605.out 2).trans rfl;have hfz10_0:=blk_frozen BK605.out 0;have hfz10_1:=blk_frozen BK605.out 1;have hfz10_2:=blk_frozen BK605.out 2) | ((with_reducible refine gate_callee (f:=87) rfl ?_);refine goesL_ (some 6) rfl rfl Try.func87 (by kernel_rfl) rfl #[.agg #[.slice A0_0 l0_0.length c0_0,.slice A0_1 l0_1.length c0_1,.slice A0_2 l0_2.length c0_2]] rfl (by (try simp only [List.map_toArray,List.map_cons,List.map_nil]);first | done | rfl | (simp only [List.length_drop,List.length_take];rfl)) ?_;(with_reducible refine (impl_CostOk.calls k _ _ l0_0 _ _ l0_1 _ _ l0_2 true _ ?side1 ?side2 ?side3 ?side4 ?side5 ?side6 A3.out).mono ?_);(case side1=>exact laC (Kd.C_below HR0_0.out HB.out));(case side2=>exact HC0_0.out);(case side3=>exact laC (Kd.C_below HR0_1.out HB.out));(case side4=>exact HC0_1.out);(case side5=>exact laC (Kd.C_below HR0_2.out HB.out));(case side6=>exact HC0_2.out);rintro e w11 ⟨rfl,hb⟩;refine ⟨_,rfl,?_⟩;replace BK605:=Aside0.mk (laKb BK605.out hb);replace HB:=Aside0.mk (below_step (laB HB.out) hb);(try clear hb);(try clear hb2);(try clear hk);(try clear hi)) | (go_at_call 84;(with_reducible refine (impl_LabelOk.calls a1 true _ A5.out).mono ?_);rintro e w' ⟨rfl,⟨nd,rfl⟩⟩;have hcz12_0 : w11.cell? ⟨gb605,0,none⟩ = some (.slice A0_0 l0_0.length c0_0):=(blk_cell BK605.out 0).trans rfl;have hcz12_1 : w11.cell? ⟨gb605,1,none⟩ = some (.slice A0_1 l0_1.length c0_1):=(blk_cell BK605.out 1).trans rfl;have hcz12_2 : w11.cell? ⟨gb605,2,none⟩ = some (.slice A0_2 l0_2.length c0_2):=(blk_cell BK605.out 2).trans rfl;have hfz12_0:=blk_frozen BK605.out 0;have hfz12_1:=blk_frozen BK605.out 1;have hfz12_2:=blk_frozen BK605.out 2;have p608 : 0 ≤ (a1 : Int):=of_decide_eq_true (by first | (with_reducible assumption) | assumption);have q608 : a1 < (l0_1.length : Int):=of_decide_eq_true (by first | (with_reducible assumption) | assumption);obtain ⟨ad608,e608,hx608_0⟩:=Kd.at_int HR0_1.out a1 p608 q608;cases e608;replace hx608_0:=(HB.out.cell (World.block_lt_of_cell? w _ hx608_0)).trans hx608_0;replace p608:=eq_true p608;replace q608:=eq_true q608))
   go_ret
   exact ⟨by first | rfl | (simp [errW_none,errW_some] <;> rfl) | (simp [*,errW_none,errW_some] <;> rfl),laB HB.out⟩
  ·replace c6:=Bool.eq_false_iff.mpr c6
   subst c6;rw [if_neg (show ¬ (false = true) by decide)] at H
   obtain rfl:=Option.some.inj H
   go_enter Try.func150,Try.ntmps150
   go_wp2_with (first | ((with_reducible refine gate_dst (N:=2) rfl ?_);refine box_event ?hg (N:=2) ?hd (cs:=#[.slice A0_0 l0_0.length c0_0,.slice A0_1 l0_1.length c0_1,.slice A0_2 l0_2.length c0_2]) (t:=37) ?hr ?_;(case hd=>rfl);(case hg=>rfl);(case hr=>first | (go_simp;done) | (go_simp;rfl));intro gb605 hg w13 hbox hb;have BK605:=Aside0.mk (hbox);have GW605:=Aside0.mk ((by rw [hg];exact (below_size (laB HB.out)) : w.heap.size ≤ gb605));have GE605:=Aside0.mk ((by rw [hg];exact (below_size (laB HB.out)) : w.heap.size ≤ gb605));have ge605_:=Nonempty.intro GE605.out;replace HB:=Aside0.mk (below_step (laB HB.out) hb);clear hb hbox hg;have hcz14_0 : w13.cell? ⟨gb605,0,none⟩ = some (.slice A0_0 l0_0.length c0_0):=(blk_cell BK605.out 0).trans rfl;have hcz14_1 : w13.cell? ⟨gb605,1,none⟩ = some (.slice A0_1 l0_1.length c0_1):=(blk_cell BK605.out 1).trans rfl;have hcz14_2 : w13.cell? ⟨gb605,2,none⟩ = some (.slice A0_2 l0_2.length c0_2):=(blk_cell BK605.out 2).trans rfl;have hfz14_0:=blk_frozen BK605.out 0;have hfz14_1:=blk_frozen BK605.out 1;have hfz14_2:=blk_frozen BK605.out 2) | ((with_reducible refine gate_callee (f:=87) rfl ?_);refine goesL_ (some 6) rfl rfl Try.func87 (by kernel_rfl) rfl #[.agg #[.slice A0_0 l0_0.length c0_0,.slice A0_1 l0_1.length c0_1,.slice A0_2 l0_2.length c0_2]] rfl (by (try simp only [List.map_toArray,List.map_cons,List.map_nil]);first | done | rfl | (simp only [List.length_drop,List.length_take];rfl)) ?_;(with_reducible refine (impl_CostOk.calls k _ _ l0_0 _ _ l0_1 _ _ l0_2 true _ ?side1 ?side2 ?side3 ?side4 ?side5 ?side6 A3.out).mono ?_);(case side1=>exact laC (Kd.C_below HR0_0.out HB.out));(case side2=>exact HC0_0.out);(case side3=>exact laC (Kd.C_below HR0_1.out HB.out));(case side4=>exact HC0_1.out);(case side5=>exact laC (Kd.C_below HR0_2.out HB.out));(case side6=>exact HC0_2.out);rintro e w15 ⟨rfl,hb⟩;refine ⟨_,rfl,?_⟩;replace BK605:=Aside0.mk (laKb BK605.out hb);replace HB:=Aside0.mk (below_step (laB HB.out) hb);(try clear hb);(try clear hb2);(try clear hk);(try clear hi)) | (go_at_call 84;(with_reducible refine (impl_LabelOk.calls a1 false _ A5.out).mono ?_);rintro e w' ⟨rfl,⟨nd,rfl⟩⟩))
   go_ret
   exact ⟨by first | rfl | (simp [errW_none,errW_some] <;> rfl) | (simp [*,errW_none,errW_some] <;> rfl),laB HB.out⟩
 ·replace c4:=Bool.eq_false_iff.mpr c4
  subst c4;rw [if_neg (show ¬ (false = true) by decide)] at H
  obtain rfl:=Option.some.inj H
  go_enter Try.func150,Try.ntmps150
  go_wp2_with (first | ((with_reducible refine gate_dst (N:=2) rfl ?_);refine box_event ?hg (N:=2) ?hd (cs:=#[.slice A0_0 l0_0.length c0_0,.slice A0_1 l0_1.length c0_1,.slice A0_2 l0_2.length c0_2]) (t:=37) ?hr ?_;(case hd=>rfl);(case hg=>rfl);(case hr=>first | (go_simp;done) | (go_simp;rfl));intro gb605 hg w16 hbox hb;have BK605:=Aside0.mk (hbox);have GW605:=Aside0.mk ((by rw [hg];exact (below_size (laB HB.out)) : w.heap.size ≤ gb605));have GE605:=Aside0.mk ((by rw [hg];exact (below_size (laB HB.out)) : w.heap.size ≤ gb605));have ge605_:=Nonempty.intro GE605.out;replace HB:=Aside0.mk (below_step (laB HB.out) hb);clear hb hbox hg;have hcz17_0 : w16.cell? ⟨gb605,0,none⟩ = some (.slice A0_0 l0_0.length c0_0):=(blk_cell BK605.out 0).trans rfl;have hcz17_1 : w16.cell? ⟨gb605,1,none⟩ = some (.slice A0_1 l0_1.length c0_1):=(blk_cell BK605.out 1).trans rfl;have hcz17_2 : w16.cell? ⟨gb605,2,none⟩ = some (.slice A0_2 l0_2.length c0_2):=(blk_cell BK605.out 2).trans rfl;have hfz17_0:=blk_frozen BK605.out 0;have hfz17_1:=blk_frozen BK605.out 1;have hfz17_2:=blk_frozen BK605.out 2) | ((with_reducible refine gate_callee (f:=87) rfl ?_);refine goesL_ (some 6) rfl rfl Try.func87 (by kernel_rfl) rfl #[.agg #[.slice A0_0 l0_0.length c0_0,.slice A0_1 l0_1.length c0_1,.slice A0_2 l0_2.length c0_2]] rfl (by (try simp only [List.map_toArray,List.map_cons,List.map_nil]);first | done | rfl | (simp only [List.length_drop,List.length_take];rfl)) ?_;(with_reducible refine (impl_CostOk.calls k _ _ l0_0 _ _ l0_1 _ _ l0_2 false _ ?side1 ?side2 ?side3 ?side4 ?side5 ?side6 A3.out).mono ?_);(case side1=>exact laC (Kd.C_below HR0_0.out HB.out));(case side2=>exact HC0_0.out);(case side3=>exact laC (Kd.C_below HR0_1.out HB.out));(case side4=>exact HC0_1.out);(case side5=>exact laC (Kd.C_below HR0_2.out HB.out));(case side6=>exact HC0_2.out);rintro e w18 ⟨rfl,hb⟩;refine ⟨_,rfl,?_⟩;replace BK605:=Aside0.mk (laKb BK605.out hb);replace HB:=Aside0.mk (below_step (laB HB.out) hb);(try clear hb);(try clear hb2);(try clear hk);(try clear hi)))
  go_ret
  exact ⟨by first | rfl | (simp [errW_none,errW_some] <;> rfl) | (simp [*,errW_none,errW_some] <;> rfl),laB HB.out⟩



/-! ### impl_InsTree: function 128 -/
def impl_InsTree.l0 : Nat → Int → List (S59) → Int → Int → List Int → List Int → List Int → Option (Int)
 | 0,_,_,_,_,_,_,_=>none
 | k + 1,x5,x12,x13,x14,x610000,x610001,x610002=>if x14 < x13 then (if 0 ≤ x14 then (if x14 < (x12.length : Int) then ((impl_InsCost.f k x610000 x610001 x610002 ((rd_T59 x12 x14).f0)).bind fun t613=>(impl_InsTree.l0 k (wrap64 (x5 + t613)) x12 x13 (wrap64 (x14 + 1)) x610000 x610001 x610002)) else (none)) else (none)) else (some x5)
def impl_InsTree.f (k : Nat) (l0 : List (S59)) (l1_0 : List Int) (l1_1 : List Int) (l1_2 : List Int) : Option (Int):=(impl_TreeOk.f k l0).bind fun t610=>(if t610 = true then (impl_InsTree.l0 k 0 l0 (l0.length : Int) 0 l1_0 l1_1 l1_2) else (some 0))
theorem impl_InsTree.mono_l : ∀ k,(∀ y0 y1 y2 y3 y4 y5 y6,LeO (impl_InsTree.l0 k y0 y1 y2 y3 y4 y5 y6) (impl_InsTree.l0 (k + 1) y0 y1 y2 y3 y4 y5 y6))
 | 0=>fun _ _ _ _ _ _ _ r h=>by simp [impl_InsTree.l0] at h
 | k + 1=>by
  have ih0:=impl_InsTree.mono_l k
  ·intro y0 y1 y2 y3 y4 y5 y6
   unfold impl_InsTree.l0
   repeat' first
   | (with_reducible exact ih0 _ _ _ _ _ _ _)
   | (with_reducible exact impl_InsCost.mono _ _ _ _ _)
   | (with_reducible exact impl_TreeOk.mono _ _)
   | (with_reducible exact LeO.refl _)
   | (with_reducible exact LeO.none _)
   | (with_reducible refine LeO.ite ?_ ?_)
   | (with_reducible refine LeO.bind ?_ (fun _=>?_))
   | exact ih0 _ _ _ _ _ _ _
   | exact impl_InsCost.mono _ _ _ _ _
   | exact impl_TreeOk.mono _ _
   | exact LeO.none _
   | refine LeO.ite ?_ ?_
   | refine LeO.bind ?_ (fun _=>?_)
theorem impl_InsTree.mono : ∀ a0 a1 a2 a3 k,LeO (impl_InsTree.f k a0 a1 a2 a3) (impl_InsTree.f (k + 1) a0 a1 a2 a3):=by
 intro a0 a1 a2 a3 k
 have ih0:=impl_InsTree.mono_l k
 unfold impl_InsTree.f
 repeat' first
   | (with_reducible exact ih0 _ _ _ _ _ _ _)
   | (with_reducible exact impl_InsCost.mono _ _ _ _ _)
   | (with_reducible exact impl_TreeOk.mono _ _)
   | (with_reducible exact LeO.refl _)
   | (with_reducible exact LeO.none _)
   | (with_reducible refine LeO.ite ?_ ?_)
   | (with_reducible refine LeO.bind ?_ (fun _=>?_))
   | exact ih0 _ _ _ _ _ _ _
   | exact impl_InsCost.mono _ _ _ _ _
   | exact impl_TreeOk.mono _ _
   | exact LeO.none _
   | refine LeO.ite ?_ ?_
   | refine LeO.bind ?_ (fun _=>?_)
set_option maxHeartbeats 8000000 in
set_option maxRecDepth 100000 in
theorem impl_InsTree.calls (k : Nat) (A0 : Option Addr) (c0 : Nat) (l0 : List (S59)) (A1_0 : Option Addr) (c1_0 : Nat) (l1_0 : List Int) (A1_1 : Option Addr) (c1_1 : Nat) (l1_1 : List Int) (A1_2 : Option Addr) (c1_2 : Nat) (l1_2 : List Int) (r : Int) (w : World) (hr0 : Kd.C k59 w A0 l0.length l0) (hc0 : l0.length ≤ c0) (hr1_0 : Kd.C (Kd.int .i64) w A1_0 l1_0.length l1_0) (hc1_0 : l1_0.length ≤ c1_0) (hr1_1 : Kd.C (Kd.int .i64) w A1_1 l1_1.length l1_1) (hc1_1 : l1_1.length ≤ c1_1) (hr1_2 : Kd.C (Kd.int .i64) w A1_2 l1_2.length l1_2) (hc1_2 : l1_2.length ≤ c1_2) (h : impl_InsTree.f k l0 l1_0 l1_1 l1_2 = some r) :
  Calls Try.prog 128 #[.slice A0 l0.length c0,.agg #[.slice A1_0 l1_0.length c1_0,.slice A1_1 l1_1.length c1_1,.slice A1_2 l1_2.length c1_2]] w fun e w'=>e = .returned (.int .i64 r) ∧ Below w.heap.size w w':=by
 have hu37:=Try.underlying37
 have hu59:=Try.underlying59
 have HR0:=Aside0.mk hr0
 have HC0:=Aside0.mk hc0
 clear hr0 hc0
 have HR1_0:=Aside0.mk hr1_0
 have HC1_0:=Aside0.mk hc1_0
 clear hr1_0 hc1_0
 have HR1_1:=Aside0.mk hr1_1
 have HC1_1:=Aside0.mk hc1_1
 clear hr1_1 hc1_1
 have HR1_2:=Aside0.mk hr1_2
 have HC1_2:=Aside0.mk hc1_2
 clear hr1_2 hc1_2
 have HB:=Aside0.mk (Below.refl w.heap.size w)
 have H : ((impl_TreeOk.f k l0).bind fun t610=>(if t610 = true then (impl_InsTree.l0 k 0 l0 (l0.length : Int) 0 l1_0 l1_1 l1_2) else (some 0))) = some r:=h
 clear h
 replace H:=Option.bind_eq_some_iff.mp H
 obtain ⟨t610,A30,H⟩:=H
 have A3:=Aside0.mk A30
 clear A30
 by_cases c4 : t610 = true
 ·subst c4
  rw [if_pos rfl] at H;have H':=Aside0.mk H;clear H
  go_enter Try.func128,Try.ntmps128
  go_wp2_with (first | ((with_reducible refine gate_dst (N:=3) rfl ?_);refine box_event ?hg (N:=3) ?hd (cs:=#[.slice A1_0 l1_0.length c1_0,.slice A1_1 l1_1.length c1_1,.slice A1_2 l1_2.length c1_2]) (t:=37) ?hr ?_;(case hd=>rfl);(case hg=>rfl);(case hr=>first | (go_simp;done) | (go_simp;rfl));intro gb609 hg w5 hbox hb;have BK609:=Aside0.mk (hbox);have GW609:=Aside0.mk ((by rw [hg];exact (below_size (laB HB.out)) : w.heap.size ≤ gb609));have GE609:=Aside0.mk ((by rw [hg];exact (below_size (laB HB.out)) : w.heap.size ≤ gb609));have ge609_:=Nonempty.intro GE609.out;replace HB:=Aside0.mk (below_step (laB HB.out) hb);clear hb hbox hg) | ((with_reducible refine gate_callee (f:=48) rfl ?_);refine goesL_ (some 9) rfl rfl Try.func48 (by kernel_rfl) rfl #[.slice A0 l0.length c0] rfl (by (try simp only [List.map_toArray,List.map_cons,List.map_nil]);first | done | rfl | (simp only [List.length_drop,List.length_take];rfl)) ?_;(with_reducible refine (impl_TreeOk.calls k _ _ l0 true _ ?side1 ?side2 A3.out).mono ?_);(case side1=>exact laC (Kd.C_below HR0.out HB.out));(case side2=>exact HC0.out);rintro e w6 ⟨rfl,hb⟩;refine ⟨_,rfl,?_⟩;replace BK609:=Aside0.mk (laKb BK609.out hb);replace HB:=Aside0.mk (below_step (laB HB.out) hb);(try clear hb);(try clear hb2);(try clear hk);(try clear hi)))
  go_loopg [5,14] k (fun kq v5 v14 w'=>∃ (x5_1 : Int) (x14_1 : Int),v5 = .int .i64 x5_1 ∧ v14 = .int .i64 x14_1 ∧ Aside0 (impl_InsTree.l0 kq x5_1 l0 (l0.length : Int) x14_1 l1_0 l1_1 l1_2 = some r) ∧ Aside0 (kq ≤ k) ∧ Aside0 (w'.heap[gb609]? = some (.cells #[(.slice A1_0 l1_0.length c1_0),(.slice A1_1 l1_1.length c1_1),(.slice A1_2 l1_2.length c1_2)] 37 (0,0))) ∧ Aside0 (Below w.heap.size w w'))
  case atStart=>exact ⟨(0),(0),(by first | rfl | (simp;done) | (simp [*];done)),(by first | rfl | (simp;done) | (simp [*];done)),H',⟨Nat.le_refl _⟩,⟨laK BK609.out⟩,⟨laB HB.out⟩⟩
  case round =>
   clear H'
   try clear c1
   try clear p2
   try clear c4
   obtain ⟨x5_1,x14_1,rfl,rfl,HA,HK1,BK609,HB⟩:=hrel
   cases gk with
   | zero=>exact absurd HA.out (by simp [impl_InsTree.l0])
   | succ k1 =>
    have H:=HA.out;clear HA;simp only [impl_InsTree.l0] at H
    by_cases c7 : x14_1 < (l0.length : Int)
    rotate_left
    ·rw [if_neg c7] at H
     have c7b0 : decide (x14_1 < (l0.length : Int)) = false:=decide_eq_false c7;clear c7
     obtain rfl:=Option.some.inj H
     go_wp2
     go_ret
     exact ⟨by first | rfl | (simp [errW_none,errW_some] <;> rfl) | (simp [*,errW_none,errW_some] <;> rfl),laB HB.out⟩
    rw [if_pos c7] at H;have c7b0 : decide (x14_1 < (l0.length : Int)) = true:=decide_eq_true c7;clear c7
    by_cases c8 : 0 ≤ x14_1
    rotate_left
    ·rw [if_neg c8] at H
     exact absurd H (by simp)
    rw [if_pos c8] at H;have c8b0 : decide (0 ≤ x14_1) = true:=decide_eq_true c8;clear c8
    by_cases c9 : x14_1 < (l0.length : Int)
    rotate_left
    ·rw [if_neg c9] at H
     exact absurd H (by simp)
    rw [if_pos c9] at H;have c9b0 : decide (x14_1 < (l0.length : Int)) = true:=decide_eq_true c9;clear c9;replace H:=Option.bind_eq_some_iff.mp H
    obtain ⟨t613,A100,H⟩:=H
    have A10:=Aside0.mk A100;clear A100;have H':=Aside0.mk H;clear H;have p611 : 0 ≤ (x14_1 : Int):=of_decide_eq_true (by first | (with_reducible assumption) | assumption);have q611 : x14_1 < (l0.length : Int):=of_decide_eq_true (by first | (with_reducible assumption) | assumption)
    obtain ⟨ad611,e611,hx611_0,hx611_1⟩:=at_T59 HR0.out x14_1 p611 q611
    cases e611
    replace hx611_0:=(HB.out.cell (World.block_lt_of_cell? w _ hx611_0)).trans hx611_0;replace hx611_1:=(HB.out.cell (World.block_lt_of_cell? w _ hx611_1)).trans hx611_1;replace p611:=eq_true p611;replace q611:=eq_true q611
    go_wp2_with (first | ((with_reducible refine gate_dst (N:=7) rfl ?_);refine box_event ?hg (N:=7) ?hd (cs:=#[.int .i64 0,.int .i64 0]) (t:=59) ?hr ?_;(case hd=>rfl);(case hg=>rfl);(case hr=>first | (go_simp;done) | (go_simp;rfl));intro gb612 hg w11 hbox hb;have BK612:=Aside0.mk (hbox);have GW612:=Aside0.mk ((by rw [hg];exact (below_size (laB HB.out)) : w.heap.size ≤ gb612));have GE612:=Aside0.mk ((by rw [hg];exact (below_size (laB HB.out)) : w.heap.size ≤ gb612));have ge612_:=Nonempty.intro GE612.out;replace HB:=Aside0.mk (below_step (laB HB.out) hb);have NB609_612:=Aside0.mk ((by rw [hg];exact Nat.ne_of_lt (blk_lt (g:=gb609) (o:=.cells #[.slice A1_0 l1_0.length c1_0,.slice A1_1 l1_1.length c1_1,.slice A1_2 l1_2.length c1_2] 37 (0,0)) (laK BK609.out)) : gb609 ≠ gb612));have NB612_609:=Aside0.mk ((by rw [hg];exact Nat.ne_of_gt (blk_lt (g:=gb609) (o:=.cells #[.slice A1_0 l1_0.length c1_0,.slice A1_1 l1_1.length c1_1,.slice A1_2 l1_2.length c1_2] 37 (0,0)) (laK BK609.out)) : gb612 ≠ gb609));replace BK609:=Aside0.mk (laKb BK609.out hb);clear hb hbox hg;have hnb12:=NB612_609.out;have hnc12:=NB609_612.out;have hcz13_0 : w11.cell? ⟨gb612,0,none⟩ = some (.int .i64 0):=(blk_cell BK612.out 0).trans rfl;have hcz13_1 : w11.cell? ⟨gb612,1,none⟩ = some (.int .i64 0):=(blk_cell BK612.out 1).trans rfl;have hfz13_0:=blk_frozen BK612.out 0;have hfz13_1:=blk_frozen BK612.out 1;have hcz14_0 : w11.cell? ⟨gb609,0,none⟩ = some (.slice A1_0 l1_0.length c1_0):=(blk_cell BK609.out 0).trans rfl;have hcz14_1 : w11.cell? ⟨gb609,1,none⟩ = some (.slice A1_1 l1_1.length c1_1):=(blk_cell BK609.out 1).trans rfl;have hcz14_2 : w11.cell? ⟨gb609,2,none⟩ = some (.slice A1_2 l1_2.length c1_2):=(blk_cell BK609.out 2).trans rfl;have hfz14_0:=blk_frozen BK609.out 0;have hfz14_1:=blk_frozen BK609.out 1;have hfz14_2:=blk_frozen BK609.out 2) | ((with_reducible refine gate_callee (f:=150) rfl ?_);refine goesL_ (some 22) rfl rfl Try.func150 (by kernel_rfl) rfl #[.agg #[.slice A1_0 l1_0.length c1_0,.slice A1_1 l1_1.length c1_1,.slice A1_2 l1_2.length c1_2],.int .i64 ((rd_T59 l0 x14_1).f0)] rfl (by (try simp only [List.map_toArray,List.map_cons,List.map_nil]);first | done | rfl | (simp only [List.length_drop,List.length_take];rfl)) ?_;(with_reducible refine (impl_InsCost.calls k1 _ _ l1_0 _ _ l1_1 _ _ l1_2 ((rd_T59 l0 x14_1).f0) t613 _ ?side1 ?side2 ?side3 ?side4 ?side5 ?side6 A10.out).mono ?_);(case side1=>exact Kd.C_below HR1_0.out (laB HB.out));(case side2=>exact HC1_0.out);(case side3=>exact Kd.C_below HR1_1.out (laB HB.out));(case side4=>exact HC1_1.out);(case side5=>exact Kd.C_below HR1_2.out (laB HB.out));(case side6=>exact HC1_2.out);rintro e w15 ⟨rfl,hb⟩;refine ⟨_,rfl,?_⟩;replace BK609:=Aside0.mk (blk_below (g:=gb609) (o:=.cells #[.slice A1_0 l1_0.length c1_0,.slice A1_1 l1_1.length c1_1,.slice A1_2 l1_2.length c1_2] 37 (0,0)) (by (with_reducible repeat (first | refine blk_drewN ?_ _ | refine blk_drew ?_ | refine blk_alloc ?_ _));refine blk_far ?_ NB609_612.out _;(with_reducible repeat (first | refine blk_drewN ?_ _ | refine blk_drew ?_ | refine blk_alloc ?_ _));refine blk_far ?_ NB609_612.out _;(with_reducible repeat (first | refine blk_drewN ?_ _ | refine blk_drew ?_ | refine blk_alloc ?_ _));exact BK609.out) hb);replace BK612:=Aside0.mk (blk_below (g:=gb612) (o:=.cells #[.int .i64 ((rd_T59 l0 x14_1).f0),.int .i64 ((rd_T59 l0 x14_1).f1)] 59 (0,0)) (by (with_reducible repeat (first | refine blk_drewN ?_ _ | refine blk_drew ?_ | refine blk_alloc ?_ _));refine blk_put (cs:=#[.int .i64 ((rd_T59 l0 x14_1).f0),.int .i64 0]) ?_ 1 _ rfl;(with_reducible repeat (first | refine blk_drewN ?_ _ | refine blk_drew ?_ | refine blk_alloc ?_ _));refine blk_put (cs:=#[.int .i64 0,.int .i64 0]) ?_ 0 _ rfl;(with_reducible repeat (first | refine blk_drewN ?_ _ | refine blk_drew ?_ | refine blk_alloc ?_ _));exact BK612.out) hb);replace HB:=Aside0.mk (below_step (laB HB.out) hb);(try clear hb);(try clear hb2);(try clear hk);(try clear hi)))
    go_roundg k1
    case measure=>have:=HK1.out;omega
    case rel=>exact ⟨(wrap64 (x5_1 + t613)),(wrap64 (x14_1 + 1)),(by first | rfl | (simp;done) | (simp [*];done)),(by first | rfl | (simp;done) | (simp [*];done)),H',⟨by have:=HK1.out;omega⟩,⟨laK BK609.out⟩,⟨laB HB.out⟩⟩
 ·replace c4:=Bool.eq_false_iff.mpr c4
  subst c4;rw [if_neg (show ¬ (false = true) by decide)] at H
  obtain rfl:=Option.some.inj H
  go_enter Try.func128,Try.ntmps128
  go_wp2_with (first | ((with_reducible refine gate_dst (N:=3) rfl ?_);refine box_event ?hg (N:=3) ?hd (cs:=#[.slice A1_0 l1_0.length c1_0,.slice A1_1 l1_1.length c1_1,.slice A1_2 l1_2.length c1_2]) (t:=37) ?hr ?_;(case hd=>rfl);(case hg=>rfl);(case hr=>first | (go_simp;done) | (go_simp;rfl));intro gb609 hg w16 hbox hb;have BK609:=Aside0.mk (hbox);have GW609:=Aside0.mk ((by rw [hg];exact (below_size (laB HB.out)) : w.heap.size ≤ gb609));have GE609:=Aside0.mk ((by rw [hg];exact (below_size (laB HB.out)) : w.heap.size ≤ gb609));have ge609_:=Nonempty.intro GE609.out;replace HB:=Aside0.mk (below_step (laB HB.out) hb);clear hb hbox hg) | ((with_reducible refine gate_callee (f:=48) rfl ?_);refine goesL_ (some 9) rfl rfl Try.func48 (by kernel_rfl) rfl #[.slice A0 l0.length c0] rfl (by (try simp only [List.map_toArray,List.map_cons,List.map_nil]);first | done | rfl | (simp only [List.length_drop,List.length_take];rfl)) ?_;(with_reducible refine (impl_TreeOk.calls k _ _ l0 false _ ?side1 ?side2 A3.out).mono ?_);(case side1=>exact laC (Kd.C_below HR0.out HB.out));(case side2=>exact HC0.out);rintro e w17 ⟨rfl,hb⟩;refine ⟨_,rfl,?_⟩;replace BK609:=Aside0.mk (laKb BK609.out hb);replace HB:=Aside0.mk (below_step (laB HB.out) hb);(try clear hb);(try clear hb2);(try clear hk);(try clear hi)))
  go_ret
  exact ⟨by first | rfl | (simp [errW_none,errW_some] <;> rfl) | (simp [*,errW_none,errW_some] <;> rfl),laB HB.out⟩



/-! ### impl_topdown_ins: function 110 -/
def impl_topdown_ins.f (k : Nat) (l0_0 : List (S59)) (l0_1 : List (S59)) (l0_2 : List Int) (l0_3 : List Int) (l0_4 : List Int) (a0_5 : Int) (a1 : Int) : Option (Int):=(impl_SubTree.f k l0_1 a1).bind fun t615=>((impl_InsTree.f k t615 l0_2 l0_3 l0_4).bind fun t618=>(some t618))
theorem impl_topdown_ins.mono : ∀ a0 a1 a2 a3 a4 a5 a6 k,LeO (impl_topdown_ins.f k a0 a1 a2 a3 a4 a5 a6) (impl_topdown_ins.f (k + 1) a0 a1 a2 a3 a4 a5 a6):=by
 intro a0 a1 a2 a3 a4 a5 a6 k
 unfold impl_topdown_ins.f
 repeat' first
   | (with_reducible exact impl_InsTree.mono _ _ _ _ _)
   | (with_reducible exact impl_SubTree.mono _ _ _)
   | (with_reducible exact LeO.refl _)
   | (with_reducible exact LeO.none _)
   | (with_reducible refine LeO.ite ?_ ?_)
   | (with_reducible refine LeO.bind ?_ (fun _=>?_))
   | exact impl_InsTree.mono _ _ _ _ _
   | exact impl_SubTree.mono _ _ _
   | exact LeO.none _
   | refine LeO.ite ?_ ?_
   | refine LeO.bind ?_ (fun _=>?_)
def impl_topdown_ins.T1 : Bool × List (List Nat × List Nat):=(true,[([],[]),([0],[0]),([],[]),([1,2],[1,2]),([],[]),([4],[4]),([3,5,3],[3,5]),([6,6,0,1,2,3,4,5,6],[6])])
def impl_topdown_ins.B1 : List Nat:=[0,1,0,7,0,16,63,127]
theorem impl_topdown_ins.tab1 : rtab .any (opsOf Try.f110 1) = impl_topdown_ins.T1:=by kernel_rfl
theorem impl_topdown_ins.bits1 : waitsOk impl_topdown_ins.T1.2 impl_topdown_ins.B1 = true:=by kernel_rfl
set_option maxHeartbeats 8000000 in
set_option maxRecDepth 100000 in
theorem impl_topdown_ins.calls (MB_ : Nat) (k : Nat) (A0_0 : Option Addr) (c0_0 : Nat) (l0_0 : List (S59)) (A0_1 : Option Addr) (c0_1 : Nat) (l0_1 : List (S59)) (A0_2 : Option Addr) (c0_2 : Nat) (l0_2 : List Int) (A0_3 : Option Addr) (c0_3 : Nat) (l0_3 : List Int) (A0_4 : Option Addr) (c0_4 : Nat) (l0_4 : List Int) (a0_5 : Int) (a1 : Int) (r : Int) (w : World) (hr0_0 : Kd.C k59 w A0_0 l0_0.length l0_0) (hc0_0 : l0_0.length ≤ c0_0) (hr0_1 : Kd.C k59 w A0_1 l0_1.length l0_1) (hc0_1 : l0_1.length ≤ c0_1) (hr0_2 : Kd.C (Kd.int .i64) w A0_2 l0_2.length l0_2) (hc0_2 : l0_2.length ≤ c0_2) (hr0_3 : Kd.C (Kd.int .i64) w A0_3 l0_3.length l0_3) (hc0_3 : l0_3.length ≤ c0_3) (hr0_4 : Kd.C (Kd.int .i64) w A0_4 l0_4.length l0_4) (hc0_4 : l0_4.length ≤ c0_4) (h : impl_topdown_ins.f k l0_0 l0_1 l0_2 l0_3 l0_4 a0_5 a1 = some r) :
  Calls Try.prog 110 #[.agg #[.slice A0_0 l0_0.length c0_0,.slice A0_1 l0_1.length c0_1,.slice A0_2 l0_2.length c0_2,.slice A0_3 l0_3.length c0_3,.slice A0_4 l0_4.length c0_4,.map (some MB_)],.int .i64 a1] w fun e w'=>e = .returned (.int .i64 r) ∧ Below w.heap.size w w':=by
 have hu70:=Try.underlying70
 have hu37:=Try.underlying37
 have HR0_0:=Aside0.mk hr0_0
 have HC0_0:=Aside0.mk hc0_0
 clear hr0_0 hc0_0
 have HR0_1:=Aside0.mk hr0_1
 have HC0_1:=Aside0.mk hc0_1
 clear hr0_1 hc0_1
 have HR0_2:=Aside0.mk hr0_2
 have HC0_2:=Aside0.mk hc0_2
 clear hr0_2 hc0_2
 have HR0_3:=Aside0.mk hr0_3
 have HC0_3:=Aside0.mk hc0_3
 clear hr0_3 hc0_3
 have HR0_4:=Aside0.mk hr0_4
 have HC0_4:=Aside0.mk hc0_4
 clear hr0_4 hc0_4
 have HB:=Aside0.mk (Below.refl w.heap.size w)
 have H : ((impl_SubTree.f k l0_1 a1).bind fun t615=>((impl_InsTree.f k t615 l0_2 l0_3 l0_4).bind fun t618=>(some t618))) = some r:=h
 clear h
 replace H:=Option.bind_eq_some_iff.mp H
 obtain ⟨t615,A30,H⟩:=H
 have A3:=Aside0.mk A30
 clear A30
 replace H:=Option.bind_eq_some_iff.mp H
 obtain ⟨t618,A40,H⟩:=H
 have A4:=Aside0.mk A40
 clear A40
 obtain rfl:=Option.some.inj H
 go_enter Try.func110,Try.ntmps110
 try go_wp2_with (first | ((with_reducible refine gate_dst (N:=2) rfl ?_);refine box_event ?hg (N:=2) ?hd (cs:=#[.slice A0_0 l0_0.length c0_0,.slice A0_1 l0_1.length c0_1,.slice A0_2 l0_2.length c0_2,.slice A0_3 l0_3.length c0_3,.slice A0_4 l0_4.length c0_4,.map (some MB_)]) (t:=70) ?hr ?_;(case hd=>rfl);(case hg=>rfl);(case hr=>first | (go_simp;done) | (go_simp;rfl));intro gb614 hg w5 hbox hb;have BK614:=Aside0.mk (hbox);have GW614:=Aside0.mk ((by rw [hg];exact (below_size (laB HB.out)) : w.heap.size ≤ gb614));have GE614:=Aside0.mk ((by rw [hg];exact (below_size (laB HB.out)) : w.heap.size ≤ gb614));have ge614_:=Nonempty.intro GE614.out;replace HB:=Aside0.mk (below_step (laB HB.out) hb);clear hb hbox hg))
 replace BK614:=Aside0.mk (blk_drew BK614.out)
 replace HB:=Aside0.mk (below_drew1 HB.out)
 refine start_ (n:=8) (S:=fun w'=>w'.cell? ⟨gb614,0,none⟩ = some (.slice A0_0 l0_0.length c0_0) ∧ w'.cell? ⟨gb614,1,none⟩ = some (.slice A0_1 l0_1.length c0_1) ∧ w'.cell? ⟨gb614,2,none⟩ = some (.slice A0_2 l0_2.length c0_2) ∧ w'.cell? ⟨gb614,3,none⟩ = some (.slice A0_3 l0_3.length c0_3) ∧ w'.cell? ⟨gb614,4,none⟩ = some (.slice A0_4 l0_4.length c0_4) ∧ w'.cell? ⟨gb614,5,none⟩ = some (.map (some MB_))) (ds:=[]) (pw 8 0) (by kernel_rfl) rfl rfl ⟨(blk_cell BK614.out 0).trans rfl,(blk_cell BK614.out 1).trans rfl,(blk_cell BK614.out 2).trans rfl,(blk_cell BK614.out 3).trans rfl,(blk_cell BK614.out 4).trans rfl,(blk_cell BK614.out 5).trans rfl⟩ (fun hHeld=>?_);refine with_tabW impl_topdown_ins.tab1 impl_topdown_ins.bits1 (fun HT_ HW_=>?_)
 generalize w5.drew = w6 at BK614 HB hHeld ⊢
 refine pure_ (i:=0) (N:=some 5) (v:=?_) (a':=?_) (pw 8 1) rfl rfl (any_of HT_.out (by kernel_rfl)) (fun _ _ _ h=>h) (Or.inl ⟨by rfl,?_⟩) ?_ ?_;rotate_left
 ·intro w';go_simp;with_reducible rfl
 rotate_left;·simp only [Act.put,za,zb,zc,i64_w,i32_w];rfl
 refine pure_ (i:=2) (N:=some 7) (v:=?_) (a':=?_) (bw 8 5) rfl rfl (any_of HT_.out (by kernel_rfl)) (fun _ _ _ h=>h) (Or.inl ⟨by rfl,?_⟩) ?_ ?_;rotate_left
 ·intro w';go_simp;with_reducible rfl
 rotate_left;·simp only [Act.put,za,zb,zc,i64_w,i32_w];rfl
 refine pure_ (i:=4) (N:=some 9) (v:=?_) (a':=?_) (bw 8 21) rfl rfl (any_of HT_.out (by kernel_rfl)) (fun _ _ _ h=>h) (Or.inl ⟨by rfl,?_⟩) ?_ ?_;rotate_left
 ·intro w';go_simp;with_reducible rfl
 rotate_left;·simp only [Act.put,za,zb,zc,i64_w,i32_w];rfl
 refine take_ (i:=1) (N:=some 6) (v:=?_) (a':=?_) (bw 8 23) rfl rfl (take_ofW HT_.out HW_.out (by kernel_rfl)) (fun _ _ _ h=>h) (Or.inl ⟨by rfl,?_⟩) hHeld ?_ ?_;rotate_left
 ·rintro w' ⟨s0,s1,s2,s3,s4,s5⟩
  go_simp;with_reducible rfl
 rotate_left;·simp only [Act.put,za,zb,zc,i64_w,i32_w];rfl
 refine take_ (i:=5) (N:=some 10) (v:=?_) (a':=?_) (bw 8 55) rfl rfl (take_ofW HT_.out HW_.out (by kernel_rfl)) (fun _ _ _ h=>h) (Or.inl ⟨by rfl,?_⟩) hHeld ?_ ?_;rotate_left
 ·rintro w' ⟨s0,s1,s2,s3,s4,s5⟩
  go_simp;with_reducible rfl
 rotate_left;·simp only [Act.put,za,zb,zc,i64_w,i32_w];rfl
 refine one_ (i:=3) (N:=some 8) (pw 8 6) rfl rfl (one_of HT_.out (by kernel_rfl)) (by decide) (fun K hK=>?_)
 refine goes_ Try.func127 (by kernel_rfl) rfl #[.slice A0_1 l0_1.length c0_1,.int .i64 a1] (by rfl) rfl rfl (by (try simp only [List.map_toArray,List.map_cons,List.map_nil]);first | done | rfl | (simp only [List.length_drop,List.length_take];rfl)) ?_
 with_reducible refine (impl_SubTree.calls k _ _ l0_1 a1 t615 _ ?side1 ?side2 A3.out).mono ?_
 (case side1=>exact laC (Kd.C_below HR0_1.out HB.out))
 (case side2=>exact HC0_1.out)
 rintro e w7 ⟨v616,rfl,ho0,hb⟩
 refine ⟨_,rfl,?_⟩
 have HO617:=Aside0.mk (Kd.R_lower ho0 (below_size (laB HB.out)))
 replace BK614:=Aside0.mk (laKb BK614.out hb)
 replace HB:=Aside0.mk (below_step (laB HB.out) hb)
 (try clear hb)
 (try clear hb2)
 (try clear hk)
 (try clear hi)
 (try clear ho0)
 obtain ⟨Ao8,co8,eo8⟩:=Kd.R_slice HO617.out
 (first | subst eo8 | (injection eo8 with f1_ f2_ f3_;have f4_:=f1_.symm;have f5_:=f3_.symm;clear f1_ f2_ f3_;subst f4_;subst f5_))
 refine hK.out _ _ ⟨(blk_cell BK614.out 0).trans rfl,(blk_cell BK614.out 1).trans rfl,(blk_cell BK614.out 2).trans rfl,(blk_cell BK614.out 3).trans rfl,(blk_cell BK614.out 4).trans rfl,(blk_cell BK614.out 5).trans rfl⟩ (fun hHeld=>?_)
 clear hK K
 refine norm_ (a':=?_) ?_ ?_;rotate_left
 ·show Act.put _ (some 8) _ = _
  simp only [Act.put,za,zb,zc,i64_w,i32_w];rfl
 refine one_ (i:=6) (N:=some 11) (pw 8 7) rfl rfl (one_of HT_.out (by kernel_rfl)) (by decide) (fun K hK=>?_)
 refine goes_ Try.func128 (by kernel_rfl) rfl #[.slice Ao8 t615.length co8,.agg #[.slice A0_2 l0_2.length c0_2,.slice A0_3 l0_3.length c0_3,.slice A0_4 l0_4.length c0_4]] (by rfl) rfl rfl (by (try simp only [List.map_toArray,List.map_cons,List.map_nil]);first | done | rfl | (simp only [List.length_drop,List.length_take];rfl)) ?_
 with_reducible refine (impl_InsTree.calls k _ _ t615 _ _ l0_2 _ _ l0_3 _ _ l0_4 t618 _ ?side1 ?side2 ?side3 ?side4 ?side5 ?side6 ?side7 ?side8 A4.out).mono ?_
 (case side1=>exact laC (Kd.R_reads' HO617.out).2.2)
 (case side2=>exact (Kd.R_reads' HO617.out).2.1)
 (case side3=>exact laC (Kd.C_below HR0_2.out HB.out))
 (case side4=>exact HC0_2.out)
 (case side5=>exact laC (Kd.C_below HR0_3.out HB.out))
 (case side6=>exact HC0_3.out)
 (case side7=>exact laC (Kd.C_below HR0_4.out HB.out))
 (case side8=>exact HC0_4.out)
 rintro e w9 ⟨rfl,hb⟩
 refine ⟨_,rfl,?_⟩
 replace HO617:=Aside0.mk (laRb HO617.out hb)
 replace BK614:=Aside0.mk (laKb BK614.out hb)
 replace HB:=Aside0.mk (below_step (laB HB.out) hb)
 (try clear hb)
 (try clear hb2)
 (try clear hk)
 (try clear hi)
 refine hK.out _ _ ⟨(blk_cell BK614.out 0).trans rfl,(blk_cell BK614.out 1).trans rfl,(blk_cell BK614.out 2).trans rfl,(blk_cell BK614.out 3).trans rfl,(blk_cell BK614.out 4).trans rfl,(blk_cell BK614.out 5).trans rfl⟩ (fun hHeld=>?_)
 clear hK K
 refine norm_ (a':=?_) ?_ ?_;rotate_left
 ·show Act.put _ (some 11) _ = _
  simp only [Act.put,za,zb,zc,i64_w,i32_w];rfl
 refine pure_ (i:=7) (N:=some 4) (v:=?_) (a':=?_) (pw 8 8) rfl rfl (any_of HT_.out (by kernel_rfl)) (fun _ _ _ h=>h) (Or.inl ⟨by rfl,?_⟩) ?_ ?_;rotate_left
 ·intro w';go_simp;with_reducible rfl
 rotate_left;·simp only [Act.put,za,zb,zc,i64_w,i32_w];rfl
 refine done_ (done_of HT_.out (by kernel_rfl)) ?_
 try go_wp2
 go_ret
 exact ⟨by first | rfl | (simp [errW_none,errW_some] <;> rfl) | (simp [*,errW_none,errW_some] <;> rfl),laB HB.out⟩


end Go.Proofs.Ytockkelkdimehaa.P
