-- Written by this session's program mk.py with the kit's print program,out of the translation;not by hand. Lean checks it.
import Derived.Test.YtockkelkdimehaaP0
import Derived.Test.YtockkelkdimehaaSh
import Derived.Test.YtockkelkdimehaaHand
import Derived.Test.YtockkelkdimehaaG99
namespace Go.Proofs.Ytockkelkdimehaa.P
open Go.RowKit Go.Proofs.YtockkelkdimehaaW.PrintWords Go.Proofs.YtockkelkdimehaaW.PrintLast Go.Proofs.YtockkelkdimehaaW.PrintMore
attribute [local go_sem] max2_int min2_int max_two min_two max_three min_three max_four min_four   -- for this text's walks alone
set_option linter.unusedVariables false
set_option linter.unusedSimpArgs false


/-! ### spec_TreeOk: function 56 -/
def spec_TreeOk.l0 : Nat → List (S59) → Int → Option (Bool)
 | 0,_,_=>none
 | k + 1,x0,x3=>if x3 < (x0.length : Int) then (if 0 ≤ x3 then ((spec_LabelOk.f ((rd_T59 x0 x3).f0)).bind fun t104=>(if t104 = true then ((spec_l1In.f ((rd_T59 x0 x3).f1) 0 12).bind fun t106=>(if t106 = true then (if ((((rd_T59 x0 x3).f1) == 0) != (x3 == 0)) = true then (some false) else (if x3 > 0 then (if 0 ≤ (wrap64 (x3 - 1)) then (if (wrap64 (x3 - 1)) < (x0.length : Int) then (if ((rd_T59 x0 x3).f1) > (wrap64 (((rd_T59 x0 (wrap64 (x3 - 1))).f1) + 1)) then (some false) else (spec_TreeOk.l0 k x0 (wrap64 (x3 + 1)))) else (none)) else (none)) else (spec_TreeOk.l0 k x0 (wrap64 (x3 + 1))))) else (some false))) else (some false))) else (none)) else ((spec_l1In.f (x0.length : Int) 1 24).bind fun t102=>(some t102))
def spec_TreeOk.f (k : Nat) (l0 : List (S59)) : Option (Bool):=spec_TreeOk.l0 k l0 0
theorem spec_TreeOk.mono_l : ∀ k,(∀ y0 y1,LeO (spec_TreeOk.l0 k y0 y1) (spec_TreeOk.l0 (k + 1) y0 y1))
 | 0=>fun _ _ r h=>by simp [spec_TreeOk.l0] at h
 | k + 1=>by
  have ih0:=spec_TreeOk.mono_l k
  ·intro y0 y1
   unfold spec_TreeOk.l0
   repeat' first
   | (with_reducible exact ih0 _ _)
   | (with_reducible exact LeO.refl _)
   | (with_reducible exact LeO.none _)
   | (with_reducible refine LeO.ite ?_ ?_)
   | (with_reducible refine LeO.bind ?_ (fun _=>?_))
   | exact ih0 _ _
   | exact LeO.none _
   | refine LeO.ite ?_ ?_
   | refine LeO.bind ?_ (fun _=>?_)
theorem spec_TreeOk.mono : ∀ a0 k,LeO (spec_TreeOk.f k a0) (spec_TreeOk.f (k + 1) a0):=by
 intro a0 k
 have ih0:=spec_TreeOk.mono_l k
 unfold spec_TreeOk.f
 repeat' first
   | (with_reducible exact ih0 _ _)
   | (with_reducible exact LeO.refl _)
   | (with_reducible exact LeO.none _)
   | (with_reducible refine LeO.ite ?_ ?_)
   | (with_reducible refine LeO.bind ?_ (fun _=>?_))
   | exact ih0 _ _
   | exact LeO.none _
   | refine LeO.ite ?_ ?_
   | refine LeO.bind ?_ (fun _=>?_)
def spec_TreeOk.T4 : Bool × List (List Nat × List Nat):=(true,[([],[]),([],[]),([0,1],[0,1]),([2],[2]),([3],[3]),([4],[4]),([5],[5]),([6,5],[6]),([7],[7]),([7],[7]),([8,9,7],[7,8,9]),([10,7],[7,10]),([11,7],[7,11]),([12,7,7],[7,12]),([13,7],[7,13]),([7,14],[7,14]),([15,13],[15]),([16],[16]),([16],[16]),([17,18,16],[16,17,18]),([19,16],[16,19]),([20,16],[16,20]),([21,16],[16,21]),([16],[16]),([23,16],[16,23]),([22,24,16],[16,22,24]),([16,25],[16,25]),([26,16],[26]),([27],[27]),([28,27],[27,28]),([29,27,27],[27,29]),([30],[30]),([30],[30]),([31,32,30],[30,31,32]),([33,30],[30,33]),([34,30],[30,34]),([30],[30]),([30],[30]),([37,30],[30,37]),([36,38,30],[30,36,38]),([39,30],[30,39]),([40,30],[30,40]),([41,30],[30,41]),([35,42,30],[30,35,42]),([30,43,27],[27,30,43]),([27,44],[27,44])])
def spec_TreeOk.B4 : List Nat:=[0,0,3,7,15,31,63,127,255,255,1023,2047,4095,8191,16383,32767,65535,131071,131071,524287,1048575,2097151,4194303,131071,8519679,33554431,67108863,134217727,268435455,536870911,1073741823,2147483647,2147483647,8589934591,17179869183,34359738367,2147483647,2147483647,139586437119,483183820799,1032939634687,2132451262463,4331474518015,8796093022207,17592186044415,35184372088831]
theorem spec_TreeOk.tab4 : rtab .any (opsOf Try.f56 4) = spec_TreeOk.T4:=by kernel_rfl
theorem spec_TreeOk.bits4 : waitsOk spec_TreeOk.T4.2 spec_TreeOk.B4 = true:=by kernel_rfl
set_option maxHeartbeats 8000000 in
set_option maxRecDepth 100000 in
theorem spec_TreeOk.calls (k : Nat) (A0 : Option Addr) (c0 : Nat) (l0 : List (S59)) (r : Bool) (w : World) (hr0 : Kd.C k59 w A0 l0.length l0) (hc0 : l0.length ≤ c0) (h : spec_TreeOk.f k l0 = some r) :
  Calls Try.prog 56 #[.slice A0 l0.length c0] w fun e w'=>e = .returned (.bool r) ∧ Below w.heap.size w w':=by
 have HR0:=Aside0.mk hr0
 have HC0:=Aside0.mk hc0
 clear hr0 hc0
 have HB:=Aside0.mk (Below.refl w.heap.size w)
 have H : (spec_TreeOk.l0 k l0 0) = some r:=h
 clear h
 have H':=Aside0.mk H
 clear H
 go_enter Try.func56,Try.ntmps56
 go_wp2
 go_loopg [3] k (fun kq v3 w'=>∃ (x3_1 : Int),v3 = .int .i64 x3_1 ∧ Aside0 (spec_TreeOk.l0 kq l0 x3_1 = some r) ∧ Aside0 (kq ≤ k) ∧ Aside0 (Below w.heap.size w w'))
 case atStart=>exact ⟨(0),(by first | rfl | (simp;done) | (simp [*];done)),H',⟨Nat.le_refl _⟩,⟨laB HB.out⟩⟩
 case round =>
  clear H'
  obtain ⟨x3_1,rfl,HA,HK1,HB⟩:=hrel
  cases gk with
  | zero=>exact absurd HA.out (by simp [spec_TreeOk.l0])
  | succ k1 =>
   have H:=HA.out;clear HA;simp only [spec_TreeOk.l0] at H
   by_cases c2 : x3_1 < (l0.length : Int)
   rotate_left
   ·rw [if_neg c2] at H
    have c2b0 : decide (x3_1 < (l0.length : Int)) = false:=decide_eq_false c2;clear c2;replace H:=Option.bind_eq_some_iff.mp H
    obtain ⟨t102,A200,H⟩:=H
    have A20:=Aside0.mk A200;clear A200
    obtain rfl:=Option.some.inj H
    go_wp2_with (first | ((with_reducible refine gate_callee (f:=99) rfl ?_);refine goesL_ (some 58) rfl rfl Try.func99 (by kernel_rfl) rfl #[.int .i64 (l0.length : Int),.int .i64 1,.int .i64 24] rfl (by (try simp only [List.map_toArray,List.map_cons,List.map_nil]);first | done | rfl | (simp only [List.length_drop,List.length_take];rfl)) ?_;(with_reducible refine (spec_l1In.calls (l0.length : Int) 1 24 t102 _ A20.out).mono ?_);rintro e w' ⟨rfl,⟨nd,rfl⟩⟩;refine ⟨_,rfl,?_⟩))
    go_ret
    exact ⟨by first | rfl | (simp [errW_none,errW_some] <;> rfl) | (simp [*,errW_none,errW_some] <;> rfl),laB HB.out⟩
   rw [if_pos c2] at H;have c2b0 : decide (x3_1 < (l0.length : Int)) = true:=decide_eq_true c2;clear c2
   by_cases c3 : 0 ≤ x3_1
   rotate_left
   ·rw [if_neg c3] at H
    exact absurd H (by simp)
   rw [if_pos c3] at H;have c3b0 : decide (0 ≤ x3_1) = true:=decide_eq_true c3;clear c3;replace H:=Option.bind_eq_some_iff.mp H
   obtain ⟨t104,A40,H⟩:=H
   have A4:=Aside0.mk A40;clear A40
   by_cases c5 : t104 = true
   ·subst c5
    rw [if_pos rfl] at H;replace H:=Option.bind_eq_some_iff.mp H
    obtain ⟨t106,A60,H⟩:=H
    have A6:=Aside0.mk A60;clear A60
    by_cases c7 : t106 = true
    ·subst c7
     rw [if_pos rfl] at H
     by_cases c8 : ((((rd_T59 l0 x3_1).f1) == 0) != (x3_1 == 0)) = true
     ·rw [if_pos c8] at H
      have c8b0 : ((((rd_T59 l0 x3_1).f1) == 0) != (x3_1 == 0)) = true:=c8
      (try (have c8b1 : decide ((((rd_T59 l0 x3_1).f1) == 0) = (x3_1 == 0)) = false:=by simpa using c8))
      (try (have c8b2 : ((((rd_T59 l0 x3_1).f1) == 0) == (x3_1 == 0)) = false:=by simpa using c8))
      (try (have c8b3 : ¬ ((((rd_T59 l0 x3_1).f1) == 0) = (x3_1 == 0)):=by simpa using c8))
      clear c8
      obtain rfl:=Option.some.inj H
      try go_wp2
      replace HB:=Aside0.mk (below_drew1 HB.out);have p103 : 0 ≤ (x3_1 : Int):=of_decide_eq_true (by first | (with_reducible assumption) | assumption);have q103 : x3_1 < (l0.length : Int):=of_decide_eq_true (by first | (with_reducible assumption) | assumption)
      obtain ⟨ad103,e103,hx103_0,hx103_1⟩:=at_T59 HR0.out x3_1 p103 q103
      have hw103_1:=hx103_1;have hw103_0:=hx103_0
      cases e103
      replace hx103_0:=(HB.out.cell (World.block_lt_of_cell? w _ hx103_0)).trans hx103_0;replace hx103_1:=(HB.out.cell (World.block_lt_of_cell? w _ hx103_1)).trans hx103_1;replace p103:=eq_true p103;replace q103:=eq_true q103;have p105 : 0 ≤ (x3_1 : Int):=of_decide_eq_true (by first | (with_reducible assumption) | assumption);have q105 : x3_1 < (l0.length : Int):=of_decide_eq_true (by first | (with_reducible assumption) | assumption)
      obtain ⟨ad105,e105,hx105_0,hx105_1⟩:=at_T59 HR0.out x3_1 p105 q105
      have hw105_1:=hx105_1;have hw105_0:=hx105_0
      obtain rfl : ad103 = ad105:=(by injection e105)
      replace hx105_0:=(HB.out.cell (World.block_lt_of_cell? w _ hx105_0)).trans hx105_0;replace hx105_1:=(HB.out.cell (World.block_lt_of_cell? w _ hx105_1)).trans hx105_1;replace p105:=eq_true p105;replace q105:=eq_true q105;have p107 : 0 ≤ (x3_1 : Int):=of_decide_eq_true (by first | (with_reducible assumption) | assumption);have q107 : x3_1 < (l0.length : Int):=of_decide_eq_true (by first | (with_reducible assumption) | assumption)
      obtain ⟨ad107,e107,hx107_0,hx107_1⟩:=at_T59 HR0.out x3_1 p107 q107
      have hw107_1:=hx107_1;have hw107_0:=hx107_0
      obtain rfl : ad103 = ad107:=(by injection e107)
      replace hx107_0:=(HB.out.cell (World.block_lt_of_cell? w _ hx107_0)).trans hx107_0;replace hx107_1:=(HB.out.cell (World.block_lt_of_cell? w _ hx107_1)).trans hx107_1;replace p107:=eq_true p107;replace q107:=eq_true q107;refine start_ (n:=46) (S:=fun w'=>w'.cell? (ad103.add ((x3_1).toNat * 2)) = some (.int .i64 ((rd_T59 l0 x3_1).f0)) ∧ w'.cell? ⟨(ad103.add ((x3_1).toNat * 2)).block,(ad103.add ((x3_1).toNat * 2)).off + 1,none⟩ = some (.int .i64 ((rd_T59 l0 x3_1).f1)) ∧ w'.cell? (ad103.add ((x3_1).toNat * 2)) = some (.int .i64 ((rd_T59 l0 x3_1).f0)) ∧ w'.cell? ⟨(ad103.add ((x3_1).toNat * 2)).block,(ad103.add ((x3_1).toNat * 2)).off + 1,none⟩ = some (.int .i64 ((rd_T59 l0 x3_1).f1)) ∧ w'.cell? (ad103.add ((x3_1).toNat * 2)) = some (.int .i64 ((rd_T59 l0 x3_1).f0)) ∧ w'.cell? ⟨(ad103.add ((x3_1).toNat * 2)).block,(ad103.add ((x3_1).toNat * 2)).off + 1,none⟩ = some (.int .i64 ((rd_T59 l0 x3_1).f1))) (ds:=[]) (pw 46 0) (by kernel_rfl) rfl rfl ⟨((HB.out.cell (World.block_lt_of_cell? w _ hw103_0)).trans hw103_0),((HB.out.cell (World.block_lt_of_cell? w _ hw103_1)).trans hw103_1),((HB.out.cell (World.block_lt_of_cell? w _ hw105_0)).trans hw105_0),((HB.out.cell (World.block_lt_of_cell? w _ hw105_1)).trans hw105_1),((HB.out.cell (World.block_lt_of_cell? w _ hw107_0)).trans hw107_0),((HB.out.cell (World.block_lt_of_cell? w _ hw107_1)).trans hw107_1)⟩ (fun hHeld=>?_);refine with_tabW spec_TreeOk.tab4 spec_TreeOk.bits4 (fun HT_ HW_=>?_)
      generalize wr.drew = w9 at HB hx103_0 hx103_1 hx105_0 hx105_1 hx107_0 hx107_1 hHeld ⊢
      refine pure_ (i:=0) (N:=some 10) (v:=?_) (a':=?_) (pw 46 1) rfl rfl (any_of HT_.out (by kernel_rfl)) (fun _ _ _ h=>h) (Or.inl ⟨by rfl,?_⟩) ?_ ?_;rotate_left
      ·intro w';go_simp;with_reducible rfl
      rotate_left;·simp only [Act.put,za,zb,zc,i64_w,i32_w];rfl
      refine pure_ (i:=1) (N:=some 11) (v:=?_) (a':=?_) (pw 46 2) rfl rfl (any_of HT_.out (by kernel_rfl)) (fun _ _ _ h=>h) (Or.inl ⟨by rfl,?_⟩) ?_ ?_;rotate_left
      ·intro w';go_simp;with_reducible rfl
      rotate_left;·simp only [Act.put,za,zb,zc,i64_w,i32_w];rfl
      refine pure_ (i:=2) (N:=some 12) (v:=?_) (a':=?_) (pw 46 3) rfl rfl (any_of HT_.out (by kernel_rfl)) (fun _ _ _ h=>h) (Or.inl ⟨by rfl,?_⟩) ?_ ?_;rotate_left
      ·intro w';go_simp;with_reducible rfl
      rotate_left;·simp only [Act.put,za,zb,zc,i64_w,i32_w];rfl
      refine pure_ (i:=3) (N:=some 13) (v:=?_) (a':=?_) (pw 46 4) rfl rfl (any_of HT_.out (by kernel_rfl)) (fun _ _ _ h=>h) (Or.inl ⟨by rfl,?_⟩) ?_ ?_;rotate_left
      ·intro w';go_simp;with_reducible rfl
      rotate_left;·simp only [Act.put,za,zb,zc,i64_w,i32_w];rfl
      refine take_ (i:=4) (N:=some 14) (v:=?_) (a':=?_) (pw 46 5) rfl rfl (take_ofW HT_.out HW_.out (by kernel_rfl)) (fun _ _ _ h=>h) (Or.inl ⟨by rfl,?_⟩) hHeld ?_ ?_;rotate_left
      ·rintro w' ⟨s0,s1,s2,s3,s4,s5⟩
       go_simp;with_reducible rfl
      rotate_left;·simp only [Act.put,za,zb,zc,i64_w,i32_w];rfl
      refine one_ (i:=5) (N:=some 15) (pw 46 6) rfl rfl (one_of HT_.out (by kernel_rfl)) (by decide) (fun K hK=>?_);refine goes_ Try.func98 (by kernel_rfl) rfl #[.int .i64 ((rd_T59 l0 x3_1).f0)] (by rfl) rfl rfl (by (try simp only [List.map_toArray,List.map_cons,List.map_nil]);first | done | rfl | (simp only [List.length_drop,List.length_take];rfl)) ?_;with_reducible refine (spec_LabelOk.calls ((rd_T59 l0 x3_1).f0) true _ A4.out).mono ?_
      rintro e w' ⟨rfl,⟨nd,rfl⟩⟩;refine ⟨_,rfl,?_⟩;refine hK.out _ _ ⟨((HB.out.cell (World.block_lt_of_cell? w _ hw103_0)).trans hw103_0),((HB.out.cell (World.block_lt_of_cell? w _ hw103_1)).trans hw103_1),((HB.out.cell (World.block_lt_of_cell? w _ hw105_0)).trans hw105_0),((HB.out.cell (World.block_lt_of_cell? w _ hw105_1)).trans hw105_1),((HB.out.cell (World.block_lt_of_cell? w _ hw107_0)).trans hw107_0),((HB.out.cell (World.block_lt_of_cell? w _ hw107_1)).trans hw107_1)⟩ (fun hHeld=>?_);clear hK K;refine norm_ (a':=?_) ?_ ?_;rotate_left
      ·show Act.put _ (some 15) _ = _
       simp only [Act.put,za,zb,zc,i64_w,i32_w];rfl
      refine pure_ (i:=6) (N:=some 16) (v:=?_) (a':=?_) (pw 46 7) rfl rfl (any_of HT_.out (by kernel_rfl)) (fun _ _ _ h=>h) (Or.inl ⟨by rfl,?_⟩) ?_ ?_;rotate_left
      ·intro w';go_simp;with_reducible rfl
      rotate_left;·simp only [Act.put,za,zb,zc,i64_w,i32_w];rfl
      refine pure_ (i:=7) (N:=some 17) (v:=?_) (a':=?_) (pw 46 8) rfl rfl (any_of HT_.out (by kernel_rfl)) (fun _ _ _ h=>h) (Or.inl ⟨by rfl,?_⟩) ?_ ?_;rotate_left
      ·intro w';go_simp;with_reducible rfl
      rotate_left;·simp only [Act.put,za,zb,zc,i64_w,i32_w];rfl
      refine pure_ (i:=8) (N:=some 18) (v:=?_) (a':=?_) (pw 46 9) rfl rfl (any_of HT_.out (by kernel_rfl)) (fun _ _ _ h=>h) (Or.inl ⟨by rfl,?_⟩) ?_ ?_;rotate_left
      ·intro w';go_simp;with_reducible rfl
      rotate_left;·simp only [Act.put,za,zb,zc,i64_w,i32_w];rfl
      refine pure_ (i:=9) (N:=some 19) (v:=?_) (a':=?_) (pw 46 10) rfl rfl (any_of HT_.out (by kernel_rfl)) (fun _ _ _ h=>h) (Or.inl ⟨by rfl,?_⟩) ?_ ?_;rotate_left
      ·intro w';go_simp;with_reducible rfl
      rotate_left;·simp only [Act.put,za,zb,zc,i64_w,i32_w];rfl
      refine pure_ (i:=10) (N:=some 20) (v:=?_) (a':=?_) (pw 46 11) rfl rfl (any_of HT_.out (by kernel_rfl)) (fun _ _ _ h=>h) (Or.inl ⟨by rfl,?_⟩) ?_ ?_;rotate_left
      ·intro w';go_simp;with_reducible rfl
      rotate_left;·simp only [Act.put,za,zb,zc,i64_w,i32_w];rfl
      refine pure_ (i:=11) (N:=some 21) (v:=?_) (a':=?_) (pw 46 12) rfl rfl (any_of HT_.out (by kernel_rfl)) (fun _ _ _ h=>h) (Or.inl ⟨by rfl,?_⟩) ?_ ?_;rotate_left
      ·intro w';go_simp;with_reducible rfl
      rotate_left;·simp only [Act.put,za,zb,zc,i64_w,i32_w];rfl
      refine take_ (i:=12) (N:=some 22) (v:=?_) (a':=?_) (pw 46 13) rfl rfl (take_ofW HT_.out HW_.out (by kernel_rfl)) (fun _ _ _ h=>h) (Or.inl ⟨by rfl,?_⟩) hHeld ?_ ?_;rotate_left
      ·rintro w' ⟨s0,s1,s2,s3,s4,s5⟩
       go_simp;with_reducible rfl
      rotate_left;·simp only [Act.put,za,zb,zc,i64_w,i32_w];rfl
      refine one_ (i:=13) (N:=some 23) (pw 46 14) rfl rfl (one_of HT_.out (by kernel_rfl)) (by decide) (fun K hK=>?_);refine goes_ Try.func99 (by kernel_rfl) rfl #[.int .i64 ((rd_T59 l0 x3_1).f1),.int .i64 0,.int .i64 12] (by rfl) rfl rfl (by (try simp only [List.map_toArray,List.map_cons,List.map_nil]);first | done | rfl | (simp only [List.length_drop,List.length_take];rfl)) ?_;with_reducible refine (spec_l1In.calls ((rd_T59 l0 x3_1).f1) 0 12 true _ A6.out).mono ?_
      rintro e w' ⟨rfl,⟨nd,rfl⟩⟩;refine ⟨_,rfl,?_⟩;refine hK.out _ _ ⟨((HB.out.cell (World.block_lt_of_cell? w _ hw103_0)).trans hw103_0),((HB.out.cell (World.block_lt_of_cell? w _ hw103_1)).trans hw103_1),((HB.out.cell (World.block_lt_of_cell? w _ hw105_0)).trans hw105_0),((HB.out.cell (World.block_lt_of_cell? w _ hw105_1)).trans hw105_1),((HB.out.cell (World.block_lt_of_cell? w _ hw107_0)).trans hw107_0),((HB.out.cell (World.block_lt_of_cell? w _ hw107_1)).trans hw107_1)⟩ (fun hHeld=>?_);clear hK K;refine norm_ (a':=?_) ?_ ?_;rotate_left
      ·show Act.put _ (some 23) _ = _
       simp only [Act.put,za,zb,zc,i64_w,i32_w];rfl
      refine pure_ (i:=14) (N:=some 24) (v:=?_) (a':=?_) (pw 46 15) rfl rfl (any_of HT_.out (by kernel_rfl)) (fun _ _ _ h=>h) (Or.inl ⟨by rfl,?_⟩) ?_ ?_;rotate_left
      ·intro w';go_simp;with_reducible rfl
      rotate_left;·simp only [Act.put,za,zb,zc,i64_w,i32_w];rfl
      refine pure_ (i:=15) (N:=some 25) (v:=?_) (a':=?_) (pw 46 16) rfl rfl (any_of HT_.out (by kernel_rfl)) (fun _ _ _ h=>h) (Or.inl ⟨by rfl,?_⟩) ?_ ?_;rotate_left
      ·intro w';go_simp;with_reducible rfl
      rotate_left;·simp only [Act.put,za,zb,zc,i64_w,i32_w];rfl
      refine pure_ (i:=16) (N:=some 26) (v:=?_) (a':=?_) (pw 46 17) rfl rfl (any_of HT_.out (by kernel_rfl)) (fun _ _ _ h=>h) (Or.inl ⟨by rfl,?_⟩) ?_ ?_;rotate_left
      ·intro w';go_simp;with_reducible rfl
      rotate_left;·simp only [Act.put,za,zb,zc,i64_w,i32_w];rfl
      refine pure_ (i:=17) (N:=some 27) (v:=?_) (a':=?_) (pw 46 18) rfl rfl (any_of HT_.out (by kernel_rfl)) (fun _ _ _ h=>h) (Or.inl ⟨by rfl,?_⟩) ?_ ?_;rotate_left
      ·intro w';go_simp;with_reducible rfl
      rotate_left;·simp only [Act.put,za,zb,zc,i64_w,i32_w];rfl
      refine pure_ (i:=18) (N:=some 28) (v:=?_) (a':=?_) (pw 46 19) rfl rfl (any_of HT_.out (by kernel_rfl)) (fun _ _ _ h=>h) (Or.inl ⟨by rfl,?_⟩) ?_ ?_;rotate_left
      ·intro w';go_simp;with_reducible rfl
      rotate_left;·simp only [Act.put,za,zb,zc,i64_w,i32_w];rfl
      refine pure_ (i:=19) (N:=some 29) (v:=?_) (a':=?_) (pw 46 20) rfl rfl (any_of HT_.out (by kernel_rfl)) (fun _ _ _ h=>h) (Or.inl ⟨by rfl,?_⟩) ?_ ?_;rotate_left
      ·intro w';go_simp;with_reducible rfl
      rotate_left;·simp only [Act.put,za,zb,zc,i64_w,i32_w];rfl
      refine pure_ (i:=20) (N:=some 30) (v:=?_) (a':=?_) (pw 46 21) rfl rfl (any_of HT_.out (by kernel_rfl)) (fun _ _ _ h=>h) (Or.inl ⟨by rfl,?_⟩) ?_ ?_;rotate_left
      ·intro w';go_simp;with_reducible rfl
      rotate_left;·simp only [Act.put,za,zb,zc,i64_w,i32_w];rfl
      refine pure_ (i:=23) (N:=some 33) (v:=?_) (a':=?_) (bw 46 10485759) rfl rfl (any_of HT_.out (by kernel_rfl)) (fun _ _ _ h=>h) (Or.inl ⟨by rfl,?_⟩) ?_ ?_;rotate_left
      ·intro w';go_simp;with_reducible rfl
      rotate_left;·simp only [Act.put,za,zb,zc,i64_w,i32_w];rfl
      refine pure_ (i:=24) (N:=some 34) (v:=?_) (a':=?_) (bw 46 27262975) rfl rfl (any_of HT_.out (by kernel_rfl)) (fun _ _ _ h=>h) (Or.inl ⟨by rfl,?_⟩) ?_ ?_;rotate_left
      ·intro w';go_simp;with_reducible rfl
      rotate_left;·simp only [Act.put,za,zb,zc,i64_w,i32_w];rfl
      refine take_ (i:=21) (N:=some 31) (v:=?_) (a':=?_) (bw 46 29360127) rfl rfl (take_ofW HT_.out HW_.out (by kernel_rfl)) (fun _ _ _ h=>h) (Or.inl ⟨by rfl,?_⟩) hHeld ?_ ?_;rotate_left
      ·rintro w' ⟨s0,s1,s2,s3,s4,s5⟩
       go_simp;with_reducible rfl
      rotate_left;·simp only [Act.put,za,zb,zc,i64_w,i32_w];rfl
      refine pure_ (i:=22) (N:=some 32) (v:=?_) (a':=?_) (pw 46 25) rfl rfl (any_of HT_.out (by kernel_rfl)) (fun _ _ _ h=>h) (Or.inl ⟨by rfl,?_⟩) ?_ ?_;rotate_left
      ·intro w';go_simp;with_reducible rfl
      rotate_left;·simp only [Act.put,za,zb,zc,i64_w,i32_w];rfl
      refine pure_ (i:=25) (N:=some 35) (v:=?_) (a':=?_) (pw 46 26) rfl rfl (any_of HT_.out (by kernel_rfl)) (fun _ _ _ h=>h) (Or.inl ⟨by rfl,?_⟩) ?_ ?_;rotate_left
      ·intro w';go_simp;with_reducible rfl
      rotate_left;·simp only [Act.put,za,zb,zc,i64_w,i32_w];rfl
      refine pure_ (i:=26) (N:=some 36) (v:=?_) (a':=?_) (pw 46 27) rfl rfl (any_of HT_.out (by kernel_rfl)) (fun _ _ _ h=>h) (Or.inl ⟨by rfl,?_⟩) ?_ ?_;rotate_left
      ·intro w';go_simp;with_reducible rfl
      rotate_left;·simp only [Act.put,za,zb,zc,i64_w,i32_w];rfl
      refine pure_ (i:=27) (N:=some 37) (v:=?_) (a':=?_) (pw 46 28) rfl rfl (any_of HT_.out (by kernel_rfl)) (fun _ _ _ h=>h) (Or.inl ⟨by rfl,?_⟩) ?_ ?_;rotate_left
      ·intro w';go_simp;with_reducible rfl
      rotate_left;·simp only [Act.put,za,zb,zc,i64_w,i32_w];rfl
      refine pure_ (i:=28) (N:=some 38) (v:=undef) (a':=?_) (pw 46 29) rfl rfl (any_of HT_.out (by kernel_rfl)) (fun _ _ _ h=>h) (Or.inr ⟨by rfl,rfl⟩) ?_ ?_;rotate_left;·simp only [Act.put,za,zb,zc,i64_w,i32_w];rfl
      refine pure_ (i:=29) (N:=some 39) (v:=undef) (a':=?_) (pw 46 30) rfl rfl (any_of HT_.out (by kernel_rfl)) (fun _ _ _ h=>h) (Or.inr ⟨by rfl,rfl⟩) ?_ ?_;rotate_left;·simp only [Act.put,za,zb,zc,i64_w,i32_w];rfl
      refine pure_ (i:=30) (N:=some 40) (v:=undef) (a':=?_) (pw 46 31) rfl rfl (any_of HT_.out (by kernel_rfl)) (fun _ _ _ h=>h) (Or.inr ⟨by rfl,rfl⟩) ?_ ?_;rotate_left;·simp only [Act.put,za,zb,zc,i64_w,i32_w];rfl
      refine pure_ (i:=31) (N:=some 41) (v:=undef) (a':=?_) (pw 46 32) rfl rfl (any_of HT_.out (by kernel_rfl)) (fun _ _ _ h=>h) (Or.inr ⟨by rfl,rfl⟩) ?_ ?_;rotate_left;·simp only [Act.put,za,zb,zc,i64_w,i32_w];rfl
      refine pure_ (i:=32) (N:=some 42) (v:=undef) (a':=?_) (pw 46 33) rfl rfl (any_of HT_.out (by kernel_rfl)) (fun _ _ _ h=>h) (Or.inr ⟨by rfl,rfl⟩) ?_ ?_;rotate_left;·simp only [Act.put,za,zb,zc,i64_w,i32_w];rfl
      refine pure_ (i:=33) (N:=some 43) (v:=undef) (a':=?_) (pw 46 34) rfl rfl (any_of HT_.out (by kernel_rfl)) (fun _ _ _ h=>h) (Or.inr ⟨by rfl,rfl⟩) ?_ ?_;rotate_left;·simp only [Act.put,za,zb,zc,i64_w,i32_w];rfl
      refine pure_ (i:=34) (N:=some 44) (v:=undef) (a':=?_) (pw 46 35) rfl rfl (any_of HT_.out (by kernel_rfl)) (fun _ _ _ h=>h) (Or.inr ⟨by rfl,rfl⟩) ?_ ?_;rotate_left;·simp only [Act.put,za,zb,zc,i64_w,i32_w];rfl
      refine pure_ (i:=35) (N:=some 45) (v:=undef) (a':=?_) (pw 46 36) rfl rfl (any_of HT_.out (by kernel_rfl)) (fun _ _ _ h=>h) (Or.inr ⟨by rfl,rfl⟩) ?_ ?_;rotate_left;·simp only [Act.put,za,zb,zc,i64_w,i32_w];rfl
      refine pure_ (i:=36) (N:=some 46) (v:=undef) (a':=?_) (pw 46 37) rfl rfl (any_of HT_.out (by kernel_rfl)) (fun _ _ _ h=>h) (Or.inr ⟨by rfl,rfl⟩) ?_ ?_;rotate_left;·simp only [Act.put,za,zb,zc,i64_w,i32_w];rfl
      refine pure_ (i:=37) (N:=some 47) (v:=undef) (a':=?_) (pw 46 38) rfl rfl (any_of HT_.out (by kernel_rfl)) (fun _ _ _ h=>h) (Or.inr ⟨by rfl,rfl⟩) ?_ ?_;rotate_left;·simp only [Act.put,za,zb,zc,i64_w,i32_w];rfl
      refine pure_ (i:=38) (N:=some 48) (v:=undef) (a':=?_) (pw 46 39) rfl rfl (any_of HT_.out (by kernel_rfl)) (fun _ _ _ h=>h) (Or.inr ⟨by rfl,rfl⟩) ?_ ?_;rotate_left;·simp only [Act.put,za,zb,zc,i64_w,i32_w];rfl
      refine pure_ (i:=39) (N:=some 49) (v:=undef) (a':=?_) (pw 46 40) rfl rfl (any_of HT_.out (by kernel_rfl)) (fun _ _ _ h=>h) (Or.inr ⟨by rfl,rfl⟩) ?_ ?_;rotate_left;·simp only [Act.put,za,zb,zc,i64_w,i32_w];rfl
      refine pure_ (i:=40) (N:=some 50) (v:=undef) (a':=?_) (pw 46 41) rfl rfl (any_of HT_.out (by kernel_rfl)) (fun _ _ _ h=>h) (Or.inr ⟨by rfl,rfl⟩) ?_ ?_;rotate_left;·simp only [Act.put,za,zb,zc,i64_w,i32_w];rfl
      refine pure_ (i:=41) (N:=some 51) (v:=undef) (a':=?_) (pw 46 42) rfl rfl (any_of HT_.out (by kernel_rfl)) (fun _ _ _ h=>h) (Or.inr ⟨by rfl,rfl⟩) ?_ ?_;rotate_left;·simp only [Act.put,za,zb,zc,i64_w,i32_w];rfl
      refine pure_ (i:=42) (N:=some 52) (v:=undef) (a':=?_) (pw 46 43) rfl rfl (any_of HT_.out (by kernel_rfl)) (fun _ _ _ h=>h) (Or.inr ⟨by rfl,rfl⟩) ?_ ?_;rotate_left;·simp only [Act.put,za,zb,zc,i64_w,i32_w];rfl
      refine pure_ (i:=43) (N:=some 53) (v:=undef) (a':=?_) (pw 46 44) rfl rfl (any_of HT_.out (by kernel_rfl)) (fun _ _ _ h=>h) (Or.inr ⟨by rfl,rfl⟩) ?_ ?_;rotate_left;·simp only [Act.put,za,zb,zc,i64_w,i32_w];rfl
      refine pure_ (i:=44) (N:=some 54) (v:=undef) (a':=?_) (pw 46 45) rfl rfl (any_of HT_.out (by kernel_rfl)) (fun _ _ _ h=>h) (Or.inr ⟨by rfl,rfl⟩) ?_ ?_;rotate_left;·simp only [Act.put,za,zb,zc,i64_w,i32_w];rfl
      refine pure_ (i:=45) (N:=some 55) (v:=?_) (a':=?_) (pw 46 46) rfl rfl (any_of HT_.out (by kernel_rfl)) (fun _ _ _ h=>h) (Or.inl ⟨by rfl,?_⟩) ?_ ?_;rotate_left
      ·intro w';go_simp;with_reducible rfl
      rotate_left;·simp only [Act.put,za,zb,zc,i64_w,i32_w];rfl
      refine done_ (done_of HT_.out (by kernel_rfl)) ?_
      try go_wp2
      go_ret
      exact ⟨by first | rfl | (simp [errW_none,errW_some] <;> rfl) | (simp [*,errW_none,errW_some] <;> rfl),laB HB.out⟩
     ·rw [if_neg c8] at H
      have c8b0 : ((((rd_T59 l0 x3_1).f1) == 0) != (x3_1 == 0)) = false:=by simpa using c8
      (try (have c8b1 : decide ((((rd_T59 l0 x3_1).f1) == 0) = (x3_1 == 0)) = true:=by simpa using c8))
      (try (have c8b2 : ((((rd_T59 l0 x3_1).f1) == 0) == (x3_1 == 0)) = true:=by simpa using c8))
      clear c8
      by_cases c10 : x3_1 > 0
      rotate_left
      ·rw [if_neg c10] at H
       have c10b0 : decide (0 < x3_1) = false:=decide_eq_false c10;clear c10;have H':=Aside0.mk H;clear H
       try go_wp2
       replace HB:=Aside0.mk (below_drew1 HB.out);have p103 : 0 ≤ (x3_1 : Int):=of_decide_eq_true (by first | (with_reducible assumption) | assumption);have q103 : x3_1 < (l0.length : Int):=of_decide_eq_true (by first | (with_reducible assumption) | assumption)
       obtain ⟨ad103,e103,hx103_0,hx103_1⟩:=at_T59 HR0.out x3_1 p103 q103
       have hw103_1:=hx103_1;have hw103_0:=hx103_0
       cases e103
       replace hx103_0:=(HB.out.cell (World.block_lt_of_cell? w _ hx103_0)).trans hx103_0;replace hx103_1:=(HB.out.cell (World.block_lt_of_cell? w _ hx103_1)).trans hx103_1;replace p103:=eq_true p103;replace q103:=eq_true q103;have p105 : 0 ≤ (x3_1 : Int):=of_decide_eq_true (by first | (with_reducible assumption) | assumption);have q105 : x3_1 < (l0.length : Int):=of_decide_eq_true (by first | (with_reducible assumption) | assumption)
       obtain ⟨ad105,e105,hx105_0,hx105_1⟩:=at_T59 HR0.out x3_1 p105 q105
       have hw105_1:=hx105_1;have hw105_0:=hx105_0
       obtain rfl : ad103 = ad105:=(by injection e105)
       replace hx105_0:=(HB.out.cell (World.block_lt_of_cell? w _ hx105_0)).trans hx105_0;replace hx105_1:=(HB.out.cell (World.block_lt_of_cell? w _ hx105_1)).trans hx105_1;replace p105:=eq_true p105;replace q105:=eq_true q105;have p107 : 0 ≤ (x3_1 : Int):=of_decide_eq_true (by first | (with_reducible assumption) | assumption);have q107 : x3_1 < (l0.length : Int):=of_decide_eq_true (by first | (with_reducible assumption) | assumption)
       obtain ⟨ad107,e107,hx107_0,hx107_1⟩:=at_T59 HR0.out x3_1 p107 q107
       have hw107_1:=hx107_1;have hw107_0:=hx107_0
       obtain rfl : ad103 = ad107:=(by injection e107)
       replace hx107_0:=(HB.out.cell (World.block_lt_of_cell? w _ hx107_0)).trans hx107_0;replace hx107_1:=(HB.out.cell (World.block_lt_of_cell? w _ hx107_1)).trans hx107_1;replace p107:=eq_true p107;replace q107:=eq_true q107;refine start_ (n:=46) (S:=fun w'=>w'.cell? (ad103.add ((x3_1).toNat * 2)) = some (.int .i64 ((rd_T59 l0 x3_1).f0)) ∧ w'.cell? ⟨(ad103.add ((x3_1).toNat * 2)).block,(ad103.add ((x3_1).toNat * 2)).off + 1,none⟩ = some (.int .i64 ((rd_T59 l0 x3_1).f1)) ∧ w'.cell? (ad103.add ((x3_1).toNat * 2)) = some (.int .i64 ((rd_T59 l0 x3_1).f0)) ∧ w'.cell? ⟨(ad103.add ((x3_1).toNat * 2)).block,(ad103.add ((x3_1).toNat * 2)).off + 1,none⟩ = some (.int .i64 ((rd_T59 l0 x3_1).f1)) ∧ w'.cell? (ad103.add ((x3_1).toNat * 2)) = some (.int .i64 ((rd_T59 l0 x3_1).f0)) ∧ w'.cell? ⟨(ad103.add ((x3_1).toNat * 2)).block,(ad103.add ((x3_1).toNat * 2)).off + 1,none⟩ = some (.int .i64 ((rd_T59 l0 x3_1).f1))) (ds:=[]) (pw 46 0) (by kernel_rfl) rfl rfl ⟨((HB.out.cell (World.block_lt_of_cell? w _ hw103_0)).trans hw103_0),((HB.out.cell (World.block_lt_of_cell? w _ hw103_1)).trans hw103_1),((HB.out.cell (World.block_lt_of_cell? w _ hw105_0)).trans hw105_0),((HB.out.cell (World.block_lt_of_cell? w _ hw105_1)).trans hw105_1),((HB.out.cell (World.block_lt_of_cell? w _ hw107_0)).trans hw107_0),((HB.out.cell (World.block_lt_of_cell? w _ hw107_1)).trans hw107_1)⟩ (fun hHeld=>?_);refine with_tabW spec_TreeOk.tab4 spec_TreeOk.bits4 (fun HT_ HW_=>?_)
       generalize wr.drew = w17 at HB hx103_0 hx103_1 hx105_0 hx105_1 hx107_0 hx107_1 hHeld ⊢
       refine pure_ (i:=0) (N:=some 10) (v:=?_) (a':=?_) (pw 46 1) rfl rfl (any_of HT_.out (by kernel_rfl)) (fun _ _ _ h=>h) (Or.inl ⟨by rfl,?_⟩) ?_ ?_;rotate_left
       ·intro w';go_simp;with_reducible rfl
       rotate_left;·simp only [Act.put,za,zb,zc,i64_w,i32_w];rfl
       refine pure_ (i:=1) (N:=some 11) (v:=?_) (a':=?_) (pw 46 2) rfl rfl (any_of HT_.out (by kernel_rfl)) (fun _ _ _ h=>h) (Or.inl ⟨by rfl,?_⟩) ?_ ?_;rotate_left
       ·intro w';go_simp;with_reducible rfl
       rotate_left;·simp only [Act.put,za,zb,zc,i64_w,i32_w];rfl
       refine pure_ (i:=2) (N:=some 12) (v:=?_) (a':=?_) (pw 46 3) rfl rfl (any_of HT_.out (by kernel_rfl)) (fun _ _ _ h=>h) (Or.inl ⟨by rfl,?_⟩) ?_ ?_;rotate_left
       ·intro w';go_simp;with_reducible rfl
       rotate_left;·simp only [Act.put,za,zb,zc,i64_w,i32_w];rfl
       refine pure_ (i:=3) (N:=some 13) (v:=?_) (a':=?_) (pw 46 4) rfl rfl (any_of HT_.out (by kernel_rfl)) (fun _ _ _ h=>h) (Or.inl ⟨by rfl,?_⟩) ?_ ?_;rotate_left
       ·intro w';go_simp;with_reducible rfl
       rotate_left;·simp only [Act.put,za,zb,zc,i64_w,i32_w];rfl
       refine take_ (i:=4) (N:=some 14) (v:=?_) (a':=?_) (pw 46 5) rfl rfl (take_ofW HT_.out HW_.out (by kernel_rfl)) (fun _ _ _ h=>h) (Or.inl ⟨by rfl,?_⟩) hHeld ?_ ?_;rotate_left
       ·rintro w' ⟨s0,s1,s2,s3,s4,s5⟩
        go_simp;with_reducible rfl
       rotate_left;·simp only [Act.put,za,zb,zc,i64_w,i32_w];rfl
       refine one_ (i:=5) (N:=some 15) (pw 46 6) rfl rfl (one_of HT_.out (by kernel_rfl)) (by decide) (fun K hK=>?_);refine goes_ Try.func98 (by kernel_rfl) rfl #[.int .i64 ((rd_T59 l0 x3_1).f0)] (by rfl) rfl rfl (by (try simp only [List.map_toArray,List.map_cons,List.map_nil]);first | done | rfl | (simp only [List.length_drop,List.length_take];rfl)) ?_;with_reducible refine (spec_LabelOk.calls ((rd_T59 l0 x3_1).f0) true _ A4.out).mono ?_
       rintro e w' ⟨rfl,⟨nd,rfl⟩⟩;refine ⟨_,rfl,?_⟩;refine hK.out _ _ ⟨((HB.out.cell (World.block_lt_of_cell? w _ hw103_0)).trans hw103_0),((HB.out.cell (World.block_lt_of_cell? w _ hw103_1)).trans hw103_1),((HB.out.cell (World.block_lt_of_cell? w _ hw105_0)).trans hw105_0),((HB.out.cell (World.block_lt_of_cell? w _ hw105_1)).trans hw105_1),((HB.out.cell (World.block_lt_of_cell? w _ hw107_0)).trans hw107_0),((HB.out.cell (World.block_lt_of_cell? w _ hw107_1)).trans hw107_1)⟩ (fun hHeld=>?_);clear hK K;refine norm_ (a':=?_) ?_ ?_;rotate_left
       ·show Act.put _ (some 15) _ = _
        simp only [Act.put,za,zb,zc,i64_w,i32_w];rfl
       refine pure_ (i:=6) (N:=some 16) (v:=?_) (a':=?_) (pw 46 7) rfl rfl (any_of HT_.out (by kernel_rfl)) (fun _ _ _ h=>h) (Or.inl ⟨by rfl,?_⟩) ?_ ?_;rotate_left
       ·intro w';go_simp;with_reducible rfl
       rotate_left;·simp only [Act.put,za,zb,zc,i64_w,i32_w];rfl
       refine pure_ (i:=7) (N:=some 17) (v:=?_) (a':=?_) (pw 46 8) rfl rfl (any_of HT_.out (by kernel_rfl)) (fun _ _ _ h=>h) (Or.inl ⟨by rfl,?_⟩) ?_ ?_;rotate_left
       ·intro w';go_simp;with_reducible rfl
       rotate_left;·simp only [Act.put,za,zb,zc,i64_w,i32_w];rfl
       refine pure_ (i:=8) (N:=some 18) (v:=?_) (a':=?_) (pw 46 9) rfl rfl (any_of HT_.out (by kernel_rfl)) (fun _ _ _ h=>h) (Or.inl ⟨by rfl,?_⟩) ?_ ?_;rotate_left
       ·intro w';go_simp;with_reducible rfl
       rotate_left;·simp only [Act.put,za,zb,zc,i64_w,i32_w];rfl
       refine pure_ (i:=9) (N:=some 19) (v:=?_) (a':=?_) (pw 46 10) rfl rfl (any_of HT_.out (by kernel_rfl)) (fun _ _ _ h=>h) (Or.inl ⟨by rfl,?_⟩) ?_ ?_;rotate_left
       ·intro w';go_simp;with_reducible rfl
       rotate_left;·simp only [Act.put,za,zb,zc,i64_w,i32_w];rfl
       refine pure_ (i:=10) (N:=some 20) (v:=?_) (a':=?_) (pw 46 11) rfl rfl (any_of HT_.out (by kernel_rfl)) (fun _ _ _ h=>h) (Or.inl ⟨by rfl,?_⟩) ?_ ?_;rotate_left
       ·intro w';go_simp;with_reducible rfl
       rotate_left;·simp only [Act.put,za,zb,zc,i64_w,i32_w];rfl
       refine pure_ (i:=11) (N:=some 21) (v:=?_) (a':=?_) (pw 46 12) rfl rfl (any_of HT_.out (by kernel_rfl)) (fun _ _ _ h=>h) (Or.inl ⟨by rfl,?_⟩) ?_ ?_;rotate_left
       ·intro w';go_simp;with_reducible rfl
       rotate_left;·simp only [Act.put,za,zb,zc,i64_w,i32_w];rfl
       refine take_ (i:=12) (N:=some 22) (v:=?_) (a':=?_) (pw 46 13) rfl rfl (take_ofW HT_.out HW_.out (by kernel_rfl)) (fun _ _ _ h=>h) (Or.inl ⟨by rfl,?_⟩) hHeld ?_ ?_;rotate_left
       ·rintro w' ⟨s0,s1,s2,s3,s4,s5⟩
        go_simp;with_reducible rfl
       rotate_left;·simp only [Act.put,za,zb,zc,i64_w,i32_w];rfl
       refine one_ (i:=13) (N:=some 23) (pw 46 14) rfl rfl (one_of HT_.out (by kernel_rfl)) (by decide) (fun K hK=>?_);refine goes_ Try.func99 (by kernel_rfl) rfl #[.int .i64 ((rd_T59 l0 x3_1).f1),.int .i64 0,.int .i64 12] (by rfl) rfl rfl (by (try simp only [List.map_toArray,List.map_cons,List.map_nil]);first | done | rfl | (simp only [List.length_drop,List.length_take];rfl)) ?_;with_reducible refine (spec_l1In.calls ((rd_T59 l0 x3_1).f1) 0 12 true _ A6.out).mono ?_
       rintro e w' ⟨rfl,⟨nd,rfl⟩⟩;refine ⟨_,rfl,?_⟩;refine hK.out _ _ ⟨((HB.out.cell (World.block_lt_of_cell? w _ hw103_0)).trans hw103_0),((HB.out.cell (World.block_lt_of_cell? w _ hw103_1)).trans hw103_1),((HB.out.cell (World.block_lt_of_cell? w _ hw105_0)).trans hw105_0),((HB.out.cell (World.block_lt_of_cell? w _ hw105_1)).trans hw105_1),((HB.out.cell (World.block_lt_of_cell? w _ hw107_0)).trans hw107_0),((HB.out.cell (World.block_lt_of_cell? w _ hw107_1)).trans hw107_1)⟩ (fun hHeld=>?_);clear hK K;refine norm_ (a':=?_) ?_ ?_;rotate_left
       ·show Act.put _ (some 23) _ = _
        simp only [Act.put,za,zb,zc,i64_w,i32_w];rfl
       refine pure_ (i:=14) (N:=some 24) (v:=?_) (a':=?_) (pw 46 15) rfl rfl (any_of HT_.out (by kernel_rfl)) (fun _ _ _ h=>h) (Or.inl ⟨by rfl,?_⟩) ?_ ?_;rotate_left
       ·intro w';go_simp;with_reducible rfl
       rotate_left;·simp only [Act.put,za,zb,zc,i64_w,i32_w];rfl
       refine pure_ (i:=15) (N:=some 25) (v:=?_) (a':=?_) (pw 46 16) rfl rfl (any_of HT_.out (by kernel_rfl)) (fun _ _ _ h=>h) (Or.inl ⟨by rfl,?_⟩) ?_ ?_;rotate_left
       ·intro w';go_simp;with_reducible rfl
       rotate_left;·simp only [Act.put,za,zb,zc,i64_w,i32_w];rfl
       refine pure_ (i:=16) (N:=some 26) (v:=?_) (a':=?_) (pw 46 17) rfl rfl (any_of HT_.out (by kernel_rfl)) (fun _ _ _ h=>h) (Or.inl ⟨by rfl,?_⟩) ?_ ?_;rotate_left
       ·intro w';go_simp;with_reducible rfl
       rotate_left;·simp only [Act.put,za,zb,zc,i64_w,i32_w];rfl
       refine pure_ (i:=17) (N:=some 27) (v:=?_) (a':=?_) (pw 46 18) rfl rfl (any_of HT_.out (by kernel_rfl)) (fun _ _ _ h=>h) (Or.inl ⟨by rfl,?_⟩) ?_ ?_;rotate_left
       ·intro w';go_simp;with_reducible rfl
       rotate_left;·simp only [Act.put,za,zb,zc,i64_w,i32_w];rfl
       refine pure_ (i:=18) (N:=some 28) (v:=?_) (a':=?_) (pw 46 19) rfl rfl (any_of HT_.out (by kernel_rfl)) (fun _ _ _ h=>h) (Or.inl ⟨by rfl,?_⟩) ?_ ?_;rotate_left
       ·intro w';go_simp;with_reducible rfl
       rotate_left;·simp only [Act.put,za,zb,zc,i64_w,i32_w];rfl
       refine pure_ (i:=19) (N:=some 29) (v:=?_) (a':=?_) (pw 46 20) rfl rfl (any_of HT_.out (by kernel_rfl)) (fun _ _ _ h=>h) (Or.inl ⟨by rfl,?_⟩) ?_ ?_;rotate_left
       ·intro w';go_simp;with_reducible rfl
       rotate_left;·simp only [Act.put,za,zb,zc,i64_w,i32_w];rfl
       refine pure_ (i:=20) (N:=some 30) (v:=?_) (a':=?_) (pw 46 21) rfl rfl (any_of HT_.out (by kernel_rfl)) (fun _ _ _ h=>h) (Or.inl ⟨by rfl,?_⟩) ?_ ?_;rotate_left
       ·intro w';go_simp;with_reducible rfl
       rotate_left;·simp only [Act.put,za,zb,zc,i64_w,i32_w];rfl
       refine pure_ (i:=23) (N:=some 33) (v:=?_) (a':=?_) (bw 46 10485759) rfl rfl (any_of HT_.out (by kernel_rfl)) (fun _ _ _ h=>h) (Or.inl ⟨by rfl,?_⟩) ?_ ?_;rotate_left
       ·intro w';go_simp;with_reducible rfl
       rotate_left;·simp only [Act.put,za,zb,zc,i64_w,i32_w];rfl
       refine pure_ (i:=24) (N:=some 34) (v:=?_) (a':=?_) (bw 46 27262975) rfl rfl (any_of HT_.out (by kernel_rfl)) (fun _ _ _ h=>h) (Or.inl ⟨by rfl,?_⟩) ?_ ?_;rotate_left
       ·intro w';go_simp;with_reducible rfl
       rotate_left;·simp only [Act.put,za,zb,zc,i64_w,i32_w];rfl
       refine take_ (i:=21) (N:=some 31) (v:=?_) (a':=?_) (bw 46 29360127) rfl rfl (take_ofW HT_.out HW_.out (by kernel_rfl)) (fun _ _ _ h=>h) (Or.inl ⟨by rfl,?_⟩) hHeld ?_ ?_;rotate_left
       ·rintro w' ⟨s0,s1,s2,s3,s4,s5⟩
        go_simp;with_reducible rfl
       rotate_left;·simp only [Act.put,za,zb,zc,i64_w,i32_w];rfl
       refine pure_ (i:=22) (N:=some 32) (v:=?_) (a':=?_) (pw 46 25) rfl rfl (any_of HT_.out (by kernel_rfl)) (fun _ _ _ h=>h) (Or.inl ⟨by rfl,?_⟩) ?_ ?_;rotate_left
       ·intro w';go_simp;with_reducible rfl
       rotate_left;·simp only [Act.put,za,zb,zc,i64_w,i32_w];rfl
       refine pure_ (i:=25) (N:=some 35) (v:=?_) (a':=?_) (pw 46 26) rfl rfl (any_of HT_.out (by kernel_rfl)) (fun _ _ _ h=>h) (Or.inl ⟨by rfl,?_⟩) ?_ ?_;rotate_left
       ·intro w';go_simp;with_reducible rfl
       rotate_left;·simp only [Act.put,za,zb,zc,i64_w,i32_w];rfl
       refine pure_ (i:=26) (N:=some 36) (v:=?_) (a':=?_) (pw 46 27) rfl rfl (any_of HT_.out (by kernel_rfl)) (fun _ _ _ h=>h) (Or.inl ⟨by rfl,?_⟩) ?_ ?_;rotate_left
       ·intro w';go_simp;with_reducible rfl
       rotate_left;·simp only [Act.put,za,zb,zc,i64_w,i32_w];rfl
       refine pure_ (i:=27) (N:=some 37) (v:=?_) (a':=?_) (pw 46 28) rfl rfl (any_of HT_.out (by kernel_rfl)) (fun _ _ _ h=>h) (Or.inl ⟨by rfl,?_⟩) ?_ ?_;rotate_left
       ·intro w';go_simp;with_reducible rfl
       rotate_left;·simp only [Act.put,za,zb,zc,i64_w,i32_w];rfl
       refine pure_ (i:=28) (N:=some 38) (v:=?_) (a':=?_) (pw 46 29) rfl rfl (any_of HT_.out (by kernel_rfl)) (fun _ _ _ h=>h) (Or.inl ⟨by rfl,?_⟩) ?_ ?_;rotate_left
       ·intro w';go_simp;with_reducible rfl
       rotate_left;·simp only [Act.put,za,zb,zc,i64_w,i32_w];rfl
       refine pure_ (i:=29) (N:=some 39) (v:=?_) (a':=?_) (pw 46 30) rfl rfl (any_of HT_.out (by kernel_rfl)) (fun _ _ _ h=>h) (Or.inl ⟨by rfl,?_⟩) ?_ ?_;rotate_left
       ·intro w';go_simp;with_reducible rfl
       rotate_left;·simp only [Act.put,za,zb,zc,i64_w,i32_w];rfl
       refine pure_ (i:=30) (N:=some 40) (v:=?_) (a':=?_) (pw 46 31) rfl rfl (any_of HT_.out (by kernel_rfl)) (fun _ _ _ h=>h) (Or.inl ⟨by rfl,?_⟩) ?_ ?_;rotate_left
       ·intro w';go_simp;with_reducible rfl
       rotate_left;·simp only [Act.put,za,zb,zc,i64_w,i32_w];rfl
       refine pure_ (i:=31) (N:=some 41) (v:=undef) (a':=?_) (pw 46 32) rfl rfl (any_of HT_.out (by kernel_rfl)) (fun _ _ _ h=>h) (Or.inr ⟨by rfl,rfl⟩) ?_ ?_;rotate_left;·simp only [Act.put,za,zb,zc,i64_w,i32_w];rfl
       refine pure_ (i:=32) (N:=some 42) (v:=undef) (a':=?_) (pw 46 33) rfl rfl (any_of HT_.out (by kernel_rfl)) (fun _ _ _ h=>h) (Or.inr ⟨by rfl,rfl⟩) ?_ ?_;rotate_left;·simp only [Act.put,za,zb,zc,i64_w,i32_w];rfl
       refine pure_ (i:=33) (N:=some 43) (v:=undef) (a':=?_) (pw 46 34) rfl rfl (any_of HT_.out (by kernel_rfl)) (fun _ _ _ h=>h) (Or.inr ⟨by rfl,rfl⟩) ?_ ?_;rotate_left;·simp only [Act.put,za,zb,zc,i64_w,i32_w];rfl
       refine pure_ (i:=34) (N:=some 44) (v:=undef) (a':=?_) (pw 46 35) rfl rfl (any_of HT_.out (by kernel_rfl)) (fun _ _ _ h=>h) (Or.inr ⟨by rfl,rfl⟩) ?_ ?_;rotate_left;·simp only [Act.put,za,zb,zc,i64_w,i32_w];rfl
       refine pure_ (i:=35) (N:=some 45) (v:=undef) (a':=?_) (pw 46 36) rfl rfl (any_of HT_.out (by kernel_rfl)) (fun _ _ _ h=>h) (Or.inr ⟨by rfl,rfl⟩) ?_ ?_;rotate_left;·simp only [Act.put,za,zb,zc,i64_w,i32_w];rfl
       refine pure_ (i:=36) (N:=some 46) (v:=undef) (a':=?_) (pw 46 37) rfl rfl (any_of HT_.out (by kernel_rfl)) (fun _ _ _ h=>h) (Or.inr ⟨by rfl,rfl⟩) ?_ ?_;rotate_left;·simp only [Act.put,za,zb,zc,i64_w,i32_w];rfl
       refine pure_ (i:=37) (N:=some 47) (v:=undef) (a':=?_) (pw 46 38) rfl rfl (any_of HT_.out (by kernel_rfl)) (fun _ _ _ h=>h) (Or.inr ⟨by rfl,rfl⟩) ?_ ?_;rotate_left;·simp only [Act.put,za,zb,zc,i64_w,i32_w];rfl
       refine pure_ (i:=38) (N:=some 48) (v:=undef) (a':=?_) (pw 46 39) rfl rfl (any_of HT_.out (by kernel_rfl)) (fun _ _ _ h=>h) (Or.inr ⟨by rfl,rfl⟩) ?_ ?_;rotate_left;·simp only [Act.put,za,zb,zc,i64_w,i32_w];rfl
       refine pure_ (i:=39) (N:=some 49) (v:=undef) (a':=?_) (pw 46 40) rfl rfl (any_of HT_.out (by kernel_rfl)) (fun _ _ _ h=>h) (Or.inr ⟨by rfl,rfl⟩) ?_ ?_;rotate_left;·simp only [Act.put,za,zb,zc,i64_w,i32_w];rfl
       refine pure_ (i:=40) (N:=some 50) (v:=undef) (a':=?_) (pw 46 41) rfl rfl (any_of HT_.out (by kernel_rfl)) (fun _ _ _ h=>h) (Or.inr ⟨by rfl,rfl⟩) ?_ ?_;rotate_left;·simp only [Act.put,za,zb,zc,i64_w,i32_w];rfl
       refine pure_ (i:=41) (N:=some 51) (v:=undef) (a':=?_) (pw 46 42) rfl rfl (any_of HT_.out (by kernel_rfl)) (fun _ _ _ h=>h) (Or.inr ⟨by rfl,rfl⟩) ?_ ?_;rotate_left;·simp only [Act.put,za,zb,zc,i64_w,i32_w];rfl
       refine pure_ (i:=42) (N:=some 52) (v:=undef) (a':=?_) (pw 46 43) rfl rfl (any_of HT_.out (by kernel_rfl)) (fun _ _ _ h=>h) (Or.inr ⟨by rfl,rfl⟩) ?_ ?_;rotate_left;·simp only [Act.put,za,zb,zc,i64_w,i32_w];rfl
       refine pure_ (i:=43) (N:=some 53) (v:=undef) (a':=?_) (pw 46 44) rfl rfl (any_of HT_.out (by kernel_rfl)) (fun _ _ _ h=>h) (Or.inr ⟨by rfl,rfl⟩) ?_ ?_;rotate_left;·simp only [Act.put,za,zb,zc,i64_w,i32_w];rfl
       refine pure_ (i:=44) (N:=some 54) (v:=?_) (a':=?_) (pw 46 45) rfl rfl (any_of HT_.out (by kernel_rfl)) (fun _ _ _ h=>h) (Or.inl ⟨by rfl,?_⟩) ?_ ?_;rotate_left
       ·intro w';go_simp;with_reducible rfl
       rotate_left;·simp only [Act.put,za,zb,zc,i64_w,i32_w];rfl
       refine pure_ (i:=45) (N:=some 55) (v:=?_) (a':=?_) (pw 46 46) rfl rfl (any_of HT_.out (by kernel_rfl)) (fun _ _ _ h=>h) (Or.inl ⟨by rfl,?_⟩) ?_ ?_;rotate_left
       ·intro w';go_simp;with_reducible rfl
       rotate_left;·simp only [Act.put,za,zb,zc,i64_w,i32_w];rfl
       refine done_ (done_of HT_.out (by kernel_rfl)) ?_
       try go_wp2
       go_roundg k1
       case measure=>have:=HK1.out;omega
       case rel=>exact ⟨(wrap64 (x3_1 + 1)),(by first | rfl | (simp;done) | (simp [*];done)),H',⟨by have:=HK1.out;omega⟩,⟨laB HB.out⟩⟩
      rw [if_pos c10] at H;have c10b0 : decide (0 < x3_1) = true:=decide_eq_true c10;clear c10
      obtain ⟨ji11,hji11⟩ : ∃ j_ : Int,(wrap64 (x3_1 - 1)) = j_:=⟨_,rfl⟩
      replace H : (if 0 ≤ (ji11) then (if (ji11) < (l0.length : Int) then (if ((rd_T59 l0 x3_1).f1) > (wrap64 (((rd_T59 l0 (ji11)).f1) + 1)) then (some false) else (spec_TreeOk.l0 k1 l0 (wrap64 (x3_1 + 1)))) else (none)) else (none)) = some r:=by first | (rw [hji11] at H;exact H) | (simp only [hji11] at H ⊢;exact H)
      (try rw [hji11] at A4)
      (try rw [hji11] at A6)
      have hji11w : (IntKind.i64.wrap (x3_1 - 1)) = ji11:=(i64_w _).trans hji11
      by_cases c12 : 0 ≤ (ji11)
      rotate_left
      ·rw [if_neg c12] at H
       exact absurd H (by simp)
      rw [if_pos c12] at H;have c12b0 : decide (0 ≤ (ji11)) = true:=decide_eq_true c12;clear c12
      by_cases c13 : (ji11) < (l0.length : Int)
      rotate_left
      ·rw [if_neg c13] at H
       exact absurd H (by simp)
      rw [if_pos c13] at H;have c13b0 : decide ((ji11) < (l0.length : Int)) = true:=decide_eq_true c13;clear c13
      by_cases c14 : ((rd_T59 l0 x3_1).f1) > (wrap64 (((rd_T59 l0 (ji11)).f1) + 1))
      ·rw [if_pos c14] at H
       have c14b0 : decide ((wrap64 (((rd_T59 l0 (ji11)).f1) + 1)) < ((rd_T59 l0 x3_1).f1)) = true:=decide_eq_true c14;clear c14
       obtain rfl:=Option.some.inj H
       try go_wp2
       replace HB:=Aside0.mk (below_drew1 HB.out);have p103 : 0 ≤ (x3_1 : Int):=of_decide_eq_true (by first | (with_reducible assumption) | assumption);have q103 : x3_1 < (l0.length : Int):=of_decide_eq_true (by first | (with_reducible assumption) | assumption)
       obtain ⟨ad103,e103,hx103_0,hx103_1⟩:=at_T59 HR0.out x3_1 p103 q103
       have hw103_1:=hx103_1;have hw103_0:=hx103_0
       cases e103
       replace hx103_0:=(HB.out.cell (World.block_lt_of_cell? w _ hx103_0)).trans hx103_0;replace hx103_1:=(HB.out.cell (World.block_lt_of_cell? w _ hx103_1)).trans hx103_1;replace p103:=eq_true p103;replace q103:=eq_true q103;have p105 : 0 ≤ (x3_1 : Int):=of_decide_eq_true (by first | (with_reducible assumption) | assumption);have q105 : x3_1 < (l0.length : Int):=of_decide_eq_true (by first | (with_reducible assumption) | assumption)
       obtain ⟨ad105,e105,hx105_0,hx105_1⟩:=at_T59 HR0.out x3_1 p105 q105
       have hw105_1:=hx105_1;have hw105_0:=hx105_0
       obtain rfl : ad103 = ad105:=(by injection e105)
       replace hx105_0:=(HB.out.cell (World.block_lt_of_cell? w _ hx105_0)).trans hx105_0;replace hx105_1:=(HB.out.cell (World.block_lt_of_cell? w _ hx105_1)).trans hx105_1;replace p105:=eq_true p105;replace q105:=eq_true q105;have p107 : 0 ≤ (x3_1 : Int):=of_decide_eq_true (by first | (with_reducible assumption) | assumption);have q107 : x3_1 < (l0.length : Int):=of_decide_eq_true (by first | (with_reducible assumption) | assumption)
       obtain ⟨ad107,e107,hx107_0,hx107_1⟩:=at_T59 HR0.out x3_1 p107 q107
       have hw107_1:=hx107_1;have hw107_0:=hx107_0
       obtain rfl : ad103 = ad107:=(by injection e107)
       replace hx107_0:=(HB.out.cell (World.block_lt_of_cell? w _ hx107_0)).trans hx107_0;replace hx107_1:=(HB.out.cell (World.block_lt_of_cell? w _ hx107_1)).trans hx107_1;replace p107:=eq_true p107;replace q107:=eq_true q107;have p108 : 0 ≤ (x3_1 : Int):=of_decide_eq_true (by first | (with_reducible assumption) | assumption);have q108 : x3_1 < (l0.length : Int):=of_decide_eq_true (by first | (with_reducible assumption) | assumption)
       obtain ⟨ad108,e108,hx108_0,hx108_1⟩:=at_T59 HR0.out x3_1 p108 q108
       have hw108_1:=hx108_1;have hw108_0:=hx108_0
       obtain rfl : ad103 = ad108:=(by injection e108)
       replace hx108_0:=(HB.out.cell (World.block_lt_of_cell? w _ hx108_0)).trans hx108_0;replace hx108_1:=(HB.out.cell (World.block_lt_of_cell? w _ hx108_1)).trans hx108_1;replace p108:=eq_true p108;replace q108:=eq_true q108;have p109 : 0 ≤ ((ji11) : Int):=of_decide_eq_true (by first | (with_reducible assumption) | assumption);have q109 : (ji11) < (l0.length : Int):=of_decide_eq_true (by first | (with_reducible assumption) | assumption)
       obtain ⟨ad109,e109,hx109_0,hx109_1⟩:=at_T59 HR0.out (ji11) p109 q109
       have hw109_1:=hx109_1;have hw109_0:=hx109_0
       obtain rfl : ad103 = ad109:=(by injection e109)
       replace hx109_0:=(HB.out.cell (World.block_lt_of_cell? w _ hx109_0)).trans hx109_0;replace hx109_1:=(HB.out.cell (World.block_lt_of_cell? w _ hx109_1)).trans hx109_1;replace p109:=eq_true p109;replace q109:=eq_true q109;refine start_ (n:=46) (S:=fun w'=>w'.cell? (ad103.add ((x3_1).toNat * 2)) = some (.int .i64 ((rd_T59 l0 x3_1).f0)) ∧ w'.cell? ⟨(ad103.add ((x3_1).toNat * 2)).block,(ad103.add ((x3_1).toNat * 2)).off + 1,none⟩ = some (.int .i64 ((rd_T59 l0 x3_1).f1)) ∧ w'.cell? (ad103.add ((x3_1).toNat * 2)) = some (.int .i64 ((rd_T59 l0 x3_1).f0)) ∧ w'.cell? ⟨(ad103.add ((x3_1).toNat * 2)).block,(ad103.add ((x3_1).toNat * 2)).off + 1,none⟩ = some (.int .i64 ((rd_T59 l0 x3_1).f1)) ∧ w'.cell? (ad103.add ((x3_1).toNat * 2)) = some (.int .i64 ((rd_T59 l0 x3_1).f0)) ∧ w'.cell? ⟨(ad103.add ((x3_1).toNat * 2)).block,(ad103.add ((x3_1).toNat * 2)).off + 1,none⟩ = some (.int .i64 ((rd_T59 l0 x3_1).f1)) ∧ w'.cell? (ad103.add ((x3_1).toNat * 2)) = some (.int .i64 ((rd_T59 l0 x3_1).f0)) ∧ w'.cell? ⟨(ad103.add ((x3_1).toNat * 2)).block,(ad103.add ((x3_1).toNat * 2)).off + 1,none⟩ = some (.int .i64 ((rd_T59 l0 x3_1).f1)) ∧ w'.cell? (ad103.add (((ji11)).toNat * 2)) = some (.int .i64 ((rd_T59 l0 (ji11)).f0)) ∧ w'.cell? ⟨(ad103.add (((ji11)).toNat * 2)).block,(ad103.add (((ji11)).toNat * 2)).off + 1,none⟩ = some (.int .i64 ((rd_T59 l0 (ji11)).f1))) (ds:=[]) (pw 46 0) (by kernel_rfl) rfl rfl ⟨((HB.out.cell (World.block_lt_of_cell? w _ hw103_0)).trans hw103_0),((HB.out.cell (World.block_lt_of_cell? w _ hw103_1)).trans hw103_1),((HB.out.cell (World.block_lt_of_cell? w _ hw105_0)).trans hw105_0),((HB.out.cell (World.block_lt_of_cell? w _ hw105_1)).trans hw105_1),((HB.out.cell (World.block_lt_of_cell? w _ hw107_0)).trans hw107_0),((HB.out.cell (World.block_lt_of_cell? w _ hw107_1)).trans hw107_1),((HB.out.cell (World.block_lt_of_cell? w _ hw108_0)).trans hw108_0),((HB.out.cell (World.block_lt_of_cell? w _ hw108_1)).trans hw108_1),((HB.out.cell (World.block_lt_of_cell? w _ hw109_0)).trans hw109_0),((HB.out.cell (World.block_lt_of_cell? w _ hw109_1)).trans hw109_1)⟩ (fun hHeld=>?_);refine with_tabW spec_TreeOk.tab4 spec_TreeOk.bits4 (fun HT_ HW_=>?_)
       generalize wr.drew = w15 at HB hx103_0 hx103_1 hx105_0 hx105_1 hx107_0 hx107_1 hx108_0 hx108_1 hx109_0 hx109_1 hHeld ⊢
       refine pure_ (i:=0) (N:=some 10) (v:=?_) (a':=?_) (pw 46 1) rfl rfl (any_of HT_.out (by kernel_rfl)) (fun _ _ _ h=>h) (Or.inl ⟨by rfl,?_⟩) ?_ ?_;rotate_left
       ·intro w';go_simp;with_reducible rfl
       rotate_left;·simp only [Act.put,za,zb,zc,i64_w,i32_w];rfl
       refine pure_ (i:=1) (N:=some 11) (v:=?_) (a':=?_) (pw 46 2) rfl rfl (any_of HT_.out (by kernel_rfl)) (fun _ _ _ h=>h) (Or.inl ⟨by rfl,?_⟩) ?_ ?_;rotate_left
       ·intro w';go_simp;with_reducible rfl
       rotate_left;·simp only [Act.put,za,zb,zc,i64_w,i32_w];rfl
       refine pure_ (i:=2) (N:=some 12) (v:=?_) (a':=?_) (pw 46 3) rfl rfl (any_of HT_.out (by kernel_rfl)) (fun _ _ _ h=>h) (Or.inl ⟨by rfl,?_⟩) ?_ ?_;rotate_left
       ·intro w';go_simp;with_reducible rfl
       rotate_left;·simp only [Act.put,za,zb,zc,i64_w,i32_w];rfl
       refine pure_ (i:=3) (N:=some 13) (v:=?_) (a':=?_) (pw 46 4) rfl rfl (any_of HT_.out (by kernel_rfl)) (fun _ _ _ h=>h) (Or.inl ⟨by rfl,?_⟩) ?_ ?_;rotate_left
       ·intro w';go_simp;with_reducible rfl
       rotate_left;·simp only [Act.put,za,zb,zc,i64_w,i32_w];rfl
       refine take_ (i:=4) (N:=some 14) (v:=?_) (a':=?_) (pw 46 5) rfl rfl (take_ofW HT_.out HW_.out (by kernel_rfl)) (fun _ _ _ h=>h) (Or.inl ⟨by rfl,?_⟩) hHeld ?_ ?_;rotate_left
       ·rintro w' ⟨s0,s1,s2,s3,s4,s5,s6,s7,s8,s9⟩
        go_simp;with_reducible rfl
       rotate_left;·simp only [Act.put,za,zb,zc,i64_w,i32_w];rfl
       refine one_ (i:=5) (N:=some 15) (pw 46 6) rfl rfl (one_of HT_.out (by kernel_rfl)) (by decide) (fun K hK=>?_);refine goes_ Try.func98 (by kernel_rfl) rfl #[.int .i64 ((rd_T59 l0 x3_1).f0)] (by rfl) rfl rfl (by (try simp only [List.map_toArray,List.map_cons,List.map_nil]);first | done | rfl | (simp only [List.length_drop,List.length_take];rfl)) ?_;with_reducible refine (spec_LabelOk.calls ((rd_T59 l0 x3_1).f0) true _ A4.out).mono ?_
       rintro e w' ⟨rfl,⟨nd,rfl⟩⟩;refine ⟨_,rfl,?_⟩;refine hK.out _ _ ⟨((HB.out.cell (World.block_lt_of_cell? w _ hw103_0)).trans hw103_0),((HB.out.cell (World.block_lt_of_cell? w _ hw103_1)).trans hw103_1),((HB.out.cell (World.block_lt_of_cell? w _ hw105_0)).trans hw105_0),((HB.out.cell (World.block_lt_of_cell? w _ hw105_1)).trans hw105_1),((HB.out.cell (World.block_lt_of_cell? w _ hw107_0)).trans hw107_0),((HB.out.cell (World.block_lt_of_cell? w _ hw107_1)).trans hw107_1),((HB.out.cell (World.block_lt_of_cell? w _ hw108_0)).trans hw108_0),((HB.out.cell (World.block_lt_of_cell? w _ hw108_1)).trans hw108_1),((HB.out.cell (World.block_lt_of_cell? w _ hw109_0)).trans hw109_0),((HB.out.cell (World.block_lt_of_cell? w _ hw109_1)).trans hw109_1)⟩ (fun hHeld=>?_);clear hK K;refine norm_ (a':=?_) ?_ ?_;rotate_left
       ·show Act.put _ (some 15) _ = _
        simp only [Act.put,za,zb,zc,i64_w,i32_w];rfl
       refine pure_ (i:=6) (N:=some 16) (v:=?_) (a':=?_) (pw 46 7) rfl rfl (any_of HT_.out (by kernel_rfl)) (fun _ _ _ h=>h) (Or.inl ⟨by rfl,?_⟩) ?_ ?_;rotate_left
       ·intro w';go_simp;with_reducible rfl
       rotate_left;·simp only [Act.put,za,zb,zc,i64_w,i32_w];rfl
       refine pure_ (i:=7) (N:=some 17) (v:=?_) (a':=?_) (pw 46 8) rfl rfl (any_of HT_.out (by kernel_rfl)) (fun _ _ _ h=>h) (Or.inl ⟨by rfl,?_⟩) ?_ ?_;rotate_left
       ·intro w';go_simp;with_reducible rfl
       rotate_left;·simp only [Act.put,za,zb,zc,i64_w,i32_w];rfl
       refine pure_ (i:=8) (N:=some 18) (v:=?_) (a':=?_) (pw 46 9) rfl rfl (any_of HT_.out (by kernel_rfl)) (fun _ _ _ h=>h) (Or.inl ⟨by rfl,?_⟩) ?_ ?_;rotate_left
       ·intro w';go_simp;with_reducible rfl
       rotate_left;·simp only [Act.put,za,zb,zc,i64_w,i32_w];rfl
       refine pure_ (i:=9) (N:=some 19) (v:=?_) (a':=?_) (pw 46 10) rfl rfl (any_of HT_.out (by kernel_rfl)) (fun _ _ _ h=>h) (Or.inl ⟨by rfl,?_⟩) ?_ ?_;rotate_left
       ·intro w';go_simp;with_reducible rfl
       rotate_left;·simp only [Act.put,za,zb,zc,i64_w,i32_w];rfl
       refine pure_ (i:=10) (N:=some 20) (v:=?_) (a':=?_) (pw 46 11) rfl rfl (any_of HT_.out (by kernel_rfl)) (fun _ _ _ h=>h) (Or.inl ⟨by rfl,?_⟩) ?_ ?_;rotate_left
       ·intro w';go_simp;with_reducible rfl
       rotate_left;·simp only [Act.put,za,zb,zc,i64_w,i32_w];rfl
       refine pure_ (i:=11) (N:=some 21) (v:=?_) (a':=?_) (pw 46 12) rfl rfl (any_of HT_.out (by kernel_rfl)) (fun _ _ _ h=>h) (Or.inl ⟨by rfl,?_⟩) ?_ ?_;rotate_left
       ·intro w';go_simp;with_reducible rfl
       rotate_left;·simp only [Act.put,za,zb,zc,i64_w,i32_w];rfl
       refine take_ (i:=12) (N:=some 22) (v:=?_) (a':=?_) (pw 46 13) rfl rfl (take_ofW HT_.out HW_.out (by kernel_rfl)) (fun _ _ _ h=>h) (Or.inl ⟨by rfl,?_⟩) hHeld ?_ ?_;rotate_left
       ·rintro w' ⟨s0,s1,s2,s3,s4,s5,s6,s7,s8,s9⟩
        go_simp;with_reducible rfl
       rotate_left;·simp only [Act.put,za,zb,zc,i64_w,i32_w];rfl
       refine one_ (i:=13) (N:=some 23) (pw 46 14) rfl rfl (one_of HT_.out (by kernel_rfl)) (by decide) (fun K hK=>?_);refine goes_ Try.func99 (by kernel_rfl) rfl #[.int .i64 ((rd_T59 l0 x3_1).f1),.int .i64 0,.int .i64 12] (by rfl) rfl rfl (by (try simp only [List.map_toArray,List.map_cons,List.map_nil]);first | done | rfl | (simp only [List.length_drop,List.length_take];rfl)) ?_;with_reducible refine (spec_l1In.calls ((rd_T59 l0 x3_1).f1) 0 12 true _ A6.out).mono ?_
       rintro e w' ⟨rfl,⟨nd,rfl⟩⟩;refine ⟨_,rfl,?_⟩;refine hK.out _ _ ⟨((HB.out.cell (World.block_lt_of_cell? w _ hw103_0)).trans hw103_0),((HB.out.cell (World.block_lt_of_cell? w _ hw103_1)).trans hw103_1),((HB.out.cell (World.block_lt_of_cell? w _ hw105_0)).trans hw105_0),((HB.out.cell (World.block_lt_of_cell? w _ hw105_1)).trans hw105_1),((HB.out.cell (World.block_lt_of_cell? w _ hw107_0)).trans hw107_0),((HB.out.cell (World.block_lt_of_cell? w _ hw107_1)).trans hw107_1),((HB.out.cell (World.block_lt_of_cell? w _ hw108_0)).trans hw108_0),((HB.out.cell (World.block_lt_of_cell? w _ hw108_1)).trans hw108_1),((HB.out.cell (World.block_lt_of_cell? w _ hw109_0)).trans hw109_0),((HB.out.cell (World.block_lt_of_cell? w _ hw109_1)).trans hw109_1)⟩ (fun hHeld=>?_);clear hK K;refine norm_ (a':=?_) ?_ ?_;rotate_left
       ·show Act.put _ (some 23) _ = _
        simp only [Act.put,za,zb,zc,i64_w,i32_w];rfl
       refine pure_ (i:=14) (N:=some 24) (v:=?_) (a':=?_) (pw 46 15) rfl rfl (any_of HT_.out (by kernel_rfl)) (fun _ _ _ h=>h) (Or.inl ⟨by rfl,?_⟩) ?_ ?_;rotate_left
       ·intro w';go_simp;with_reducible rfl
       rotate_left;·simp only [Act.put,za,zb,zc,i64_w,i32_w];rfl
       refine pure_ (i:=15) (N:=some 25) (v:=?_) (a':=?_) (pw 46 16) rfl rfl (any_of HT_.out (by kernel_rfl)) (fun _ _ _ h=>h) (Or.inl ⟨by rfl,?_⟩) ?_ ?_;rotate_left
       ·intro w';go_simp;with_reducible rfl
       rotate_left;·simp only [Act.put,za,zb,zc,i64_w,i32_w];rfl
       refine pure_ (i:=16) (N:=some 26) (v:=?_) (a':=?_) (pw 46 17) rfl rfl (any_of HT_.out (by kernel_rfl)) (fun _ _ _ h=>h) (Or.inl ⟨by rfl,?_⟩) ?_ ?_;rotate_left
       ·intro w';go_simp;with_reducible rfl
       rotate_left;·simp only [Act.put,za,zb,zc,i64_w,i32_w];rfl
       refine pure_ (i:=17) (N:=some 27) (v:=?_) (a':=?_) (pw 46 18) rfl rfl (any_of HT_.out (by kernel_rfl)) (fun _ _ _ h=>h) (Or.inl ⟨by rfl,?_⟩) ?_ ?_;rotate_left
       ·intro w';go_simp;with_reducible rfl
       rotate_left;·simp only [Act.put,za,zb,zc,i64_w,i32_w];rfl
       refine pure_ (i:=18) (N:=some 28) (v:=?_) (a':=?_) (pw 46 19) rfl rfl (any_of HT_.out (by kernel_rfl)) (fun _ _ _ h=>h) (Or.inl ⟨by rfl,?_⟩) ?_ ?_;rotate_left
       ·intro w';go_simp;with_reducible rfl
       rotate_left;·simp only [Act.put,za,zb,zc,i64_w,i32_w];rfl
       refine pure_ (i:=19) (N:=some 29) (v:=?_) (a':=?_) (pw 46 20) rfl rfl (any_of HT_.out (by kernel_rfl)) (fun _ _ _ h=>h) (Or.inl ⟨by rfl,?_⟩) ?_ ?_;rotate_left
       ·intro w';go_simp;with_reducible rfl
       rotate_left;·simp only [Act.put,za,zb,zc,i64_w,i32_w];rfl
       refine pure_ (i:=20) (N:=some 30) (v:=?_) (a':=?_) (pw 46 21) rfl rfl (any_of HT_.out (by kernel_rfl)) (fun _ _ _ h=>h) (Or.inl ⟨by rfl,?_⟩) ?_ ?_;rotate_left
       ·intro w';go_simp;with_reducible rfl
       rotate_left;·simp only [Act.put,za,zb,zc,i64_w,i32_w];rfl
       refine pure_ (i:=23) (N:=some 33) (v:=?_) (a':=?_) (bw 46 10485759) rfl rfl (any_of HT_.out (by kernel_rfl)) (fun _ _ _ h=>h) (Or.inl ⟨by rfl,?_⟩) ?_ ?_;rotate_left
       ·intro w';go_simp;with_reducible rfl
       rotate_left;·simp only [Act.put,za,zb,zc,i64_w,i32_w];rfl
       refine pure_ (i:=24) (N:=some 34) (v:=?_) (a':=?_) (bw 46 27262975) rfl rfl (any_of HT_.out (by kernel_rfl)) (fun _ _ _ h=>h) (Or.inl ⟨by rfl,?_⟩) ?_ ?_;rotate_left
       ·intro w';go_simp;with_reducible rfl
       rotate_left;·simp only [Act.put,za,zb,zc,i64_w,i32_w];rfl
       refine take_ (i:=21) (N:=some 31) (v:=?_) (a':=?_) (bw 46 29360127) rfl rfl (take_ofW HT_.out HW_.out (by kernel_rfl)) (fun _ _ _ h=>h) (Or.inl ⟨by rfl,?_⟩) hHeld ?_ ?_;rotate_left
       ·rintro w' ⟨s0,s1,s2,s3,s4,s5,s6,s7,s8,s9⟩
        go_simp;with_reducible rfl
       rotate_left;·simp only [Act.put,za,zb,zc,i64_w,i32_w];rfl
       refine pure_ (i:=22) (N:=some 32) (v:=?_) (a':=?_) (pw 46 25) rfl rfl (any_of HT_.out (by kernel_rfl)) (fun _ _ _ h=>h) (Or.inl ⟨by rfl,?_⟩) ?_ ?_;rotate_left
       ·intro w';go_simp;with_reducible rfl
       rotate_left;·simp only [Act.put,za,zb,zc,i64_w,i32_w];rfl
       refine pure_ (i:=25) (N:=some 35) (v:=?_) (a':=?_) (pw 46 26) rfl rfl (any_of HT_.out (by kernel_rfl)) (fun _ _ _ h=>h) (Or.inl ⟨by rfl,?_⟩) ?_ ?_;rotate_left
       ·intro w';go_simp;with_reducible rfl
       rotate_left;·simp only [Act.put,za,zb,zc,i64_w,i32_w];rfl
       refine pure_ (i:=26) (N:=some 36) (v:=?_) (a':=?_) (pw 46 27) rfl rfl (any_of HT_.out (by kernel_rfl)) (fun _ _ _ h=>h) (Or.inl ⟨by rfl,?_⟩) ?_ ?_;rotate_left
       ·intro w';go_simp;with_reducible rfl
       rotate_left;·simp only [Act.put,za,zb,zc,i64_w,i32_w];rfl
       refine pure_ (i:=27) (N:=some 37) (v:=?_) (a':=?_) (pw 46 28) rfl rfl (any_of HT_.out (by kernel_rfl)) (fun _ _ _ h=>h) (Or.inl ⟨by rfl,?_⟩) ?_ ?_;rotate_left
       ·intro w';go_simp;with_reducible rfl
       rotate_left;·simp only [Act.put,za,zb,zc,i64_w,i32_w];rfl
       refine pure_ (i:=28) (N:=some 38) (v:=?_) (a':=?_) (pw 46 29) rfl rfl (any_of HT_.out (by kernel_rfl)) (fun _ _ _ h=>h) (Or.inl ⟨by rfl,?_⟩) ?_ ?_;rotate_left
       ·intro w';go_simp;with_reducible rfl
       rotate_left;·simp only [Act.put,za,zb,zc,i64_w,i32_w];rfl
       refine pure_ (i:=29) (N:=some 39) (v:=?_) (a':=?_) (pw 46 30) rfl rfl (any_of HT_.out (by kernel_rfl)) (fun _ _ _ h=>h) (Or.inl ⟨by rfl,?_⟩) ?_ ?_;rotate_left
       ·intro w';go_simp;with_reducible rfl
       rotate_left;·simp only [Act.put,za,zb,zc,i64_w,i32_w];rfl
       refine pure_ (i:=30) (N:=some 40) (v:=?_) (a':=?_) (pw 46 31) rfl rfl (any_of HT_.out (by kernel_rfl)) (fun _ _ _ h=>h) (Or.inl ⟨by rfl,?_⟩) ?_ ?_;rotate_left
       ·intro w';go_simp;with_reducible rfl
       rotate_left;·simp only [Act.put,za,zb,zc,i64_w,i32_w];rfl
       refine pure_ (i:=31) (N:=some 41) (v:=?_) (a':=?_) (pw 46 32) rfl rfl (any_of HT_.out (by kernel_rfl)) (fun _ _ _ h=>h) (Or.inl ⟨by rfl,?_⟩) ?_ ?_;rotate_left
       ·intro w';go_simp;with_reducible rfl
       rotate_left;·simp only [Act.put,za,zb,zc,i64_w,i32_w];rfl
       refine pure_ (i:=32) (N:=some 42) (v:=?_) (a':=?_) (pw 46 33) rfl rfl (any_of HT_.out (by kernel_rfl)) (fun _ _ _ h=>h) (Or.inl ⟨by rfl,?_⟩) ?_ ?_;rotate_left
       ·intro w';go_simp;with_reducible rfl
       rotate_left;·simp only [Act.put,za,zb,zc,i64_w,i32_w];rfl
       refine pure_ (i:=33) (N:=some 43) (v:=?_) (a':=?_) (pw 46 34) rfl rfl (any_of HT_.out (by kernel_rfl)) (fun _ _ _ h=>h) (Or.inl ⟨by rfl,?_⟩) ?_ ?_;rotate_left
       ·intro w';go_simp;with_reducible rfl
       rotate_left;·simp only [Act.put,za,zb,zc,i64_w,i32_w];rfl
       refine pure_ (i:=34) (N:=some 44) (v:=?_) (a':=?_) (pw 46 35) rfl rfl (any_of HT_.out (by kernel_rfl)) (fun _ _ _ h=>h) (Or.inl ⟨by rfl,?_⟩) ?_ ?_;rotate_left
       ·intro w';go_simp;with_reducible rfl
       rotate_left;·simp only [Act.put,za,zb,zc,i64_w,i32_w];rfl
       refine pure_ (i:=36) (N:=some 46) (v:=?_) (a':=?_) (bw 46 103079215103) rfl rfl (any_of HT_.out (by kernel_rfl)) (fun _ _ _ h=>h) (Or.inl ⟨by rfl,?_⟩) ?_ ?_;rotate_left
       ·intro w';go_simp;with_reducible rfl
       rotate_left;·simp only [Act.put,za,zb,zc,i64_w,i32_w];rfl
       refine pure_ (i:=37) (N:=some 47) (v:=?_) (a':=?_) (bw 46 240518168575) rfl rfl (any_of HT_.out (by kernel_rfl)) (fun _ _ _ h=>h) (Or.inl ⟨by rfl,?_⟩) ?_ ?_;rotate_left
       ·intro w';go_simp;with_reducible rfl
       rotate_left;·simp only [Act.put,za,zb,zc,i64_w,i32_w];rfl
       refine pure_ (i:=38) (N:=some 48) (v:=?_) (a':=?_) (bw 46 515396075519) rfl rfl (any_of HT_.out (by kernel_rfl)) (fun _ _ _ h=>h) (Or.inl ⟨by rfl,?_⟩) ?_ ?_;rotate_left
       ·intro w';go_simp;with_reducible rfl
       rotate_left;·simp only [Act.put,za,zb,zc,i64_w,i32_w];rfl
       refine pure_ (i:=39) (N:=some 49) (v:=?_) (a':=?_) (bw 46 1065151889407) rfl rfl (any_of HT_.out (by kernel_rfl)) (fun _ _ _ h=>h) (Or.inl ⟨by rfl,?_⟩) ?_ ?_;rotate_left
       ·intro w';go_simp;with_reducible rfl
       rotate_left;·simp only [Act.put,za,zb,zc,i64_w,i32_w];rfl
       refine pure_ (i:=40) (N:=some 50) (v:=?_) (a':=?_) (bw 46 2164663517183) rfl rfl (any_of HT_.out (by kernel_rfl)) (fun _ _ _ h=>h) (Or.inl ⟨by rfl,?_⟩) ?_ ?_;rotate_left
       ·intro w';go_simp;with_reducible rfl
       rotate_left;·simp only [Act.put,za,zb,zc,i64_w,i32_w];rfl
       refine take_ (i:=35) (N:=some 45) (v:=?_) (a':=?_) (pw 46 41) rfl rfl (take_ofW HT_.out HW_.out (by kernel_rfl)) (fun _ _ _ h=>h) (Or.inl ⟨by rfl,?_⟩) hHeld ?_ ?_;rotate_left
       ·rintro w' ⟨s0,s1,s2,s3,s4,s5,s6,s7,s8,s9⟩
        go_simp;with_reducible rfl
       rotate_left;·simp only [Act.put,za,zb,zc,i64_w,i32_w];rfl
       refine take_ (i:=41) (N:=some 51) (v:=?_) (a':=?_) (pw 46 42) rfl rfl (take_ofW HT_.out HW_.out (by kernel_rfl)) (fun _ _ _ h=>h) (Or.inl ⟨by rfl,?_⟩) hHeld ?_ ?_;rotate_left
       ·rintro w' ⟨s0,s1,s2,s3,s4,s5,s6,s7,s8,s9⟩
        go_simp;with_reducible rfl
       rotate_left;·simp only [Act.put,za,zb,zc,i64_w,i32_w];rfl
       refine pure_ (i:=42) (N:=some 52) (v:=?_) (a':=?_) (pw 46 43) rfl rfl (any_of HT_.out (by kernel_rfl)) (fun _ _ _ h=>h) (Or.inl ⟨by rfl,?_⟩) ?_ ?_;rotate_left
       ·intro w';go_simp;with_reducible rfl
       rotate_left;·simp only [Act.put,za,zb,zc,i64_w,i32_w];rfl
       refine pure_ (i:=43) (N:=some 53) (v:=?_) (a':=?_) (pw 46 44) rfl rfl (any_of HT_.out (by kernel_rfl)) (fun _ _ _ h=>h) (Or.inl ⟨by rfl,?_⟩) ?_ ?_;rotate_left
       ·intro w';go_simp;with_reducible rfl
       rotate_left;·simp only [Act.put,za,zb,zc,i64_w,i32_w];rfl
       refine pure_ (i:=44) (N:=some 54) (v:=?_) (a':=?_) (pw 46 45) rfl rfl (any_of HT_.out (by kernel_rfl)) (fun _ _ _ h=>h) (Or.inl ⟨by rfl,?_⟩) ?_ ?_;rotate_left
       ·intro w';go_simp;with_reducible rfl
       rotate_left;·simp only [Act.put,za,zb,zc,i64_w,i32_w];rfl
       refine pure_ (i:=45) (N:=some 55) (v:=?_) (a':=?_) (pw 46 46) rfl rfl (any_of HT_.out (by kernel_rfl)) (fun _ _ _ h=>h) (Or.inl ⟨by rfl,?_⟩) ?_ ?_;rotate_left
       ·intro w';go_simp;with_reducible rfl
       rotate_left;·simp only [Act.put,za,zb,zc,i64_w,i32_w];rfl
       refine done_ (done_of HT_.out (by kernel_rfl)) ?_
       try go_wp2
       go_ret
       exact ⟨by first | rfl | (simp [errW_none,errW_some] <;> rfl) | (simp only [← hji11];first | rfl | (simp [errW_none,errW_some] <;> rfl)) | (simp [*,errW_none,errW_some] <;> rfl),laB HB.out⟩
      ·rw [if_neg c14] at H
       have c14b0 : decide ((wrap64 (((rd_T59 l0 (ji11)).f1) + 1)) < ((rd_T59 l0 x3_1).f1)) = false:=decide_eq_false c14;clear c14;have H':=Aside0.mk H;clear H
       try go_wp2
       replace HB:=Aside0.mk (below_drew1 HB.out);have p103 : 0 ≤ (x3_1 : Int):=of_decide_eq_true (by first | (with_reducible assumption) | assumption);have q103 : x3_1 < (l0.length : Int):=of_decide_eq_true (by first | (with_reducible assumption) | assumption)
       obtain ⟨ad103,e103,hx103_0,hx103_1⟩:=at_T59 HR0.out x3_1 p103 q103
       have hw103_1:=hx103_1;have hw103_0:=hx103_0
       cases e103
       replace hx103_0:=(HB.out.cell (World.block_lt_of_cell? w _ hx103_0)).trans hx103_0;replace hx103_1:=(HB.out.cell (World.block_lt_of_cell? w _ hx103_1)).trans hx103_1;replace p103:=eq_true p103;replace q103:=eq_true q103;have p105 : 0 ≤ (x3_1 : Int):=of_decide_eq_true (by first | (with_reducible assumption) | assumption);have q105 : x3_1 < (l0.length : Int):=of_decide_eq_true (by first | (with_reducible assumption) | assumption)
       obtain ⟨ad105,e105,hx105_0,hx105_1⟩:=at_T59 HR0.out x3_1 p105 q105
       have hw105_1:=hx105_1;have hw105_0:=hx105_0
       obtain rfl : ad103 = ad105:=(by injection e105)
       replace hx105_0:=(HB.out.cell (World.block_lt_of_cell? w _ hx105_0)).trans hx105_0;replace hx105_1:=(HB.out.cell (World.block_lt_of_cell? w _ hx105_1)).trans hx105_1;replace p105:=eq_true p105;replace q105:=eq_true q105;have p107 : 0 ≤ (x3_1 : Int):=of_decide_eq_true (by first | (with_reducible assumption) | assumption);have q107 : x3_1 < (l0.length : Int):=of_decide_eq_true (by first | (with_reducible assumption) | assumption)
       obtain ⟨ad107,e107,hx107_0,hx107_1⟩:=at_T59 HR0.out x3_1 p107 q107
       have hw107_1:=hx107_1;have hw107_0:=hx107_0
       obtain rfl : ad103 = ad107:=(by injection e107)
       replace hx107_0:=(HB.out.cell (World.block_lt_of_cell? w _ hx107_0)).trans hx107_0;replace hx107_1:=(HB.out.cell (World.block_lt_of_cell? w _ hx107_1)).trans hx107_1;replace p107:=eq_true p107;replace q107:=eq_true q107;have p108 : 0 ≤ (x3_1 : Int):=of_decide_eq_true (by first | (with_reducible assumption) | assumption);have q108 : x3_1 < (l0.length : Int):=of_decide_eq_true (by first | (with_reducible assumption) | assumption)
       obtain ⟨ad108,e108,hx108_0,hx108_1⟩:=at_T59 HR0.out x3_1 p108 q108
       have hw108_1:=hx108_1;have hw108_0:=hx108_0
       obtain rfl : ad103 = ad108:=(by injection e108)
       replace hx108_0:=(HB.out.cell (World.block_lt_of_cell? w _ hx108_0)).trans hx108_0;replace hx108_1:=(HB.out.cell (World.block_lt_of_cell? w _ hx108_1)).trans hx108_1;replace p108:=eq_true p108;replace q108:=eq_true q108;have p109 : 0 ≤ ((ji11) : Int):=of_decide_eq_true (by first | (with_reducible assumption) | assumption);have q109 : (ji11) < (l0.length : Int):=of_decide_eq_true (by first | (with_reducible assumption) | assumption)
       obtain ⟨ad109,e109,hx109_0,hx109_1⟩:=at_T59 HR0.out (ji11) p109 q109
       have hw109_1:=hx109_1;have hw109_0:=hx109_0
       obtain rfl : ad103 = ad109:=(by injection e109)
       replace hx109_0:=(HB.out.cell (World.block_lt_of_cell? w _ hx109_0)).trans hx109_0;replace hx109_1:=(HB.out.cell (World.block_lt_of_cell? w _ hx109_1)).trans hx109_1;replace p109:=eq_true p109;replace q109:=eq_true q109;refine start_ (n:=46) (S:=fun w'=>w'.cell? (ad103.add ((x3_1).toNat * 2)) = some (.int .i64 ((rd_T59 l0 x3_1).f0)) ∧ w'.cell? ⟨(ad103.add ((x3_1).toNat * 2)).block,(ad103.add ((x3_1).toNat * 2)).off + 1,none⟩ = some (.int .i64 ((rd_T59 l0 x3_1).f1)) ∧ w'.cell? (ad103.add ((x3_1).toNat * 2)) = some (.int .i64 ((rd_T59 l0 x3_1).f0)) ∧ w'.cell? ⟨(ad103.add ((x3_1).toNat * 2)).block,(ad103.add ((x3_1).toNat * 2)).off + 1,none⟩ = some (.int .i64 ((rd_T59 l0 x3_1).f1)) ∧ w'.cell? (ad103.add ((x3_1).toNat * 2)) = some (.int .i64 ((rd_T59 l0 x3_1).f0)) ∧ w'.cell? ⟨(ad103.add ((x3_1).toNat * 2)).block,(ad103.add ((x3_1).toNat * 2)).off + 1,none⟩ = some (.int .i64 ((rd_T59 l0 x3_1).f1)) ∧ w'.cell? (ad103.add ((x3_1).toNat * 2)) = some (.int .i64 ((rd_T59 l0 x3_1).f0)) ∧ w'.cell? ⟨(ad103.add ((x3_1).toNat * 2)).block,(ad103.add ((x3_1).toNat * 2)).off + 1,none⟩ = some (.int .i64 ((rd_T59 l0 x3_1).f1)) ∧ w'.cell? (ad103.add (((ji11)).toNat * 2)) = some (.int .i64 ((rd_T59 l0 (ji11)).f0)) ∧ w'.cell? ⟨(ad103.add (((ji11)).toNat * 2)).block,(ad103.add (((ji11)).toNat * 2)).off + 1,none⟩ = some (.int .i64 ((rd_T59 l0 (ji11)).f1))) (ds:=[]) (pw 46 0) (by kernel_rfl) rfl rfl ⟨((HB.out.cell (World.block_lt_of_cell? w _ hw103_0)).trans hw103_0),((HB.out.cell (World.block_lt_of_cell? w _ hw103_1)).trans hw103_1),((HB.out.cell (World.block_lt_of_cell? w _ hw105_0)).trans hw105_0),((HB.out.cell (World.block_lt_of_cell? w _ hw105_1)).trans hw105_1),((HB.out.cell (World.block_lt_of_cell? w _ hw107_0)).trans hw107_0),((HB.out.cell (World.block_lt_of_cell? w _ hw107_1)).trans hw107_1),((HB.out.cell (World.block_lt_of_cell? w _ hw108_0)).trans hw108_0),((HB.out.cell (World.block_lt_of_cell? w _ hw108_1)).trans hw108_1),((HB.out.cell (World.block_lt_of_cell? w _ hw109_0)).trans hw109_0),((HB.out.cell (World.block_lt_of_cell? w _ hw109_1)).trans hw109_1)⟩ (fun hHeld=>?_);refine with_tabW spec_TreeOk.tab4 spec_TreeOk.bits4 (fun HT_ HW_=>?_)
       generalize wr.drew = w16 at HB hx103_0 hx103_1 hx105_0 hx105_1 hx107_0 hx107_1 hx108_0 hx108_1 hx109_0 hx109_1 hHeld ⊢
       refine pure_ (i:=0) (N:=some 10) (v:=?_) (a':=?_) (pw 46 1) rfl rfl (any_of HT_.out (by kernel_rfl)) (fun _ _ _ h=>h) (Or.inl ⟨by rfl,?_⟩) ?_ ?_;rotate_left
       ·intro w';go_simp;with_reducible rfl
       rotate_left;·simp only [Act.put,za,zb,zc,i64_w,i32_w];rfl
       refine pure_ (i:=1) (N:=some 11) (v:=?_) (a':=?_) (pw 46 2) rfl rfl (any_of HT_.out (by kernel_rfl)) (fun _ _ _ h=>h) (Or.inl ⟨by rfl,?_⟩) ?_ ?_;rotate_left
       ·intro w';go_simp;with_reducible rfl
       rotate_left;·simp only [Act.put,za,zb,zc,i64_w,i32_w];rfl
       refine pure_ (i:=2) (N:=some 12) (v:=?_) (a':=?_) (pw 46 3) rfl rfl (any_of HT_.out (by kernel_rfl)) (fun _ _ _ h=>h) (Or.inl ⟨by rfl,?_⟩) ?_ ?_;rotate_left
       ·intro w';go_simp;with_reducible rfl
       rotate_left;·simp only [Act.put,za,zb,zc,i64_w,i32_w];rfl
       refine pure_ (i:=3) (N:=some 13) (v:=?_) (a':=?_) (pw 46 4) rfl rfl (any_of HT_.out (by kernel_rfl)) (fun _ _ _ h=>h) (Or.inl ⟨by rfl,?_⟩) ?_ ?_;rotate_left
       ·intro w';go_simp;with_reducible rfl
       rotate_left;·simp only [Act.put,za,zb,zc,i64_w,i32_w];rfl
       refine take_ (i:=4) (N:=some 14) (v:=?_) (a':=?_) (pw 46 5) rfl rfl (take_ofW HT_.out HW_.out (by kernel_rfl)) (fun _ _ _ h=>h) (Or.inl ⟨by rfl,?_⟩) hHeld ?_ ?_;rotate_left
       ·rintro w' ⟨s0,s1,s2,s3,s4,s5,s6,s7,s8,s9⟩
        go_simp;with_reducible rfl
       rotate_left;·simp only [Act.put,za,zb,zc,i64_w,i32_w];rfl
       refine one_ (i:=5) (N:=some 15) (pw 46 6) rfl rfl (one_of HT_.out (by kernel_rfl)) (by decide) (fun K hK=>?_);refine goes_ Try.func98 (by kernel_rfl) rfl #[.int .i64 ((rd_T59 l0 x3_1).f0)] (by rfl) rfl rfl (by (try simp only [List.map_toArray,List.map_cons,List.map_nil]);first | done | rfl | (simp only [List.length_drop,List.length_take];rfl)) ?_;with_reducible refine (spec_LabelOk.calls ((rd_T59 l0 x3_1).f0) true _ A4.out).mono ?_
       rintro e w' ⟨rfl,⟨nd,rfl⟩⟩;refine ⟨_,rfl,?_⟩;refine hK.out _ _ ⟨((HB.out.cell (World.block_lt_of_cell? w _ hw103_0)).trans hw103_0),((HB.out.cell (World.block_lt_of_cell? w _ hw103_1)).trans hw103_1),((HB.out.cell (World.block_lt_of_cell? w _ hw105_0)).trans hw105_0),((HB.out.cell (World.block_lt_of_cell? w _ hw105_1)).trans hw105_1),((HB.out.cell (World.block_lt_of_cell? w _ hw107_0)).trans hw107_0),((HB.out.cell (World.block_lt_of_cell? w _ hw107_1)).trans hw107_1),((HB.out.cell (World.block_lt_of_cell? w _ hw108_0)).trans hw108_0),((HB.out.cell (World.block_lt_of_cell? w _ hw108_1)).trans hw108_1),((HB.out.cell (World.block_lt_of_cell? w _ hw109_0)).trans hw109_0),((HB.out.cell (World.block_lt_of_cell? w _ hw109_1)).trans hw109_1)⟩ (fun hHeld=>?_);clear hK K;refine norm_ (a':=?_) ?_ ?_;rotate_left
       ·show Act.put _ (some 15) _ = _
        simp only [Act.put,za,zb,zc,i64_w,i32_w];rfl
       refine pure_ (i:=6) (N:=some 16) (v:=?_) (a':=?_) (pw 46 7) rfl rfl (any_of HT_.out (by kernel_rfl)) (fun _ _ _ h=>h) (Or.inl ⟨by rfl,?_⟩) ?_ ?_;rotate_left
       ·intro w';go_simp;with_reducible rfl
       rotate_left;·simp only [Act.put,za,zb,zc,i64_w,i32_w];rfl
       refine pure_ (i:=7) (N:=some 17) (v:=?_) (a':=?_) (pw 46 8) rfl rfl (any_of HT_.out (by kernel_rfl)) (fun _ _ _ h=>h) (Or.inl ⟨by rfl,?_⟩) ?_ ?_;rotate_left
       ·intro w';go_simp;with_reducible rfl
       rotate_left;·simp only [Act.put,za,zb,zc,i64_w,i32_w];rfl
       refine pure_ (i:=8) (N:=some 18) (v:=?_) (a':=?_) (pw 46 9) rfl rfl (any_of HT_.out (by kernel_rfl)) (fun _ _ _ h=>h) (Or.inl ⟨by rfl,?_⟩) ?_ ?_;rotate_left
       ·intro w';go_simp;with_reducible rfl
       rotate_left;·simp only [Act.put,za,zb,zc,i64_w,i32_w];rfl
       refine pure_ (i:=9) (N:=some 19) (v:=?_) (a':=?_) (pw 46 10) rfl rfl (any_of HT_.out (by kernel_rfl)) (fun _ _ _ h=>h) (Or.inl ⟨by rfl,?_⟩) ?_ ?_;rotate_left
       ·intro w';go_simp;with_reducible rfl
       rotate_left;·simp only [Act.put,za,zb,zc,i64_w,i32_w];rfl
       refine pure_ (i:=10) (N:=some 20) (v:=?_) (a':=?_) (pw 46 11) rfl rfl (any_of HT_.out (by kernel_rfl)) (fun _ _ _ h=>h) (Or.inl ⟨by rfl,?_⟩) ?_ ?_;rotate_left
       ·intro w';go_simp;with_reducible rfl
       rotate_left;·simp only [Act.put,za,zb,zc,i64_w,i32_w];rfl
       refine pure_ (i:=11) (N:=some 21) (v:=?_) (a':=?_) (pw 46 12) rfl rfl (any_of HT_.out (by kernel_rfl)) (fun _ _ _ h=>h) (Or.inl ⟨by rfl,?_⟩) ?_ ?_;rotate_left
       ·intro w';go_simp;with_reducible rfl
       rotate_left;·simp only [Act.put,za,zb,zc,i64_w,i32_w];rfl
       refine take_ (i:=12) (N:=some 22) (v:=?_) (a':=?_) (pw 46 13) rfl rfl (take_ofW HT_.out HW_.out (by kernel_rfl)) (fun _ _ _ h=>h) (Or.inl ⟨by rfl,?_⟩) hHeld ?_ ?_;rotate_left
       ·rintro w' ⟨s0,s1,s2,s3,s4,s5,s6,s7,s8,s9⟩
        go_simp;with_reducible rfl
       rotate_left;·simp only [Act.put,za,zb,zc,i64_w,i32_w];rfl
       refine one_ (i:=13) (N:=some 23) (pw 46 14) rfl rfl (one_of HT_.out (by kernel_rfl)) (by decide) (fun K hK=>?_);refine goes_ Try.func99 (by kernel_rfl) rfl #[.int .i64 ((rd_T59 l0 x3_1).f1),.int .i64 0,.int .i64 12] (by rfl) rfl rfl (by (try simp only [List.map_toArray,List.map_cons,List.map_nil]);first | done | rfl | (simp only [List.length_drop,List.length_take];rfl)) ?_;with_reducible refine (spec_l1In.calls ((rd_T59 l0 x3_1).f1) 0 12 true _ A6.out).mono ?_
       rintro e w' ⟨rfl,⟨nd,rfl⟩⟩;refine ⟨_,rfl,?_⟩;refine hK.out _ _ ⟨((HB.out.cell (World.block_lt_of_cell? w _ hw103_0)).trans hw103_0),((HB.out.cell (World.block_lt_of_cell? w _ hw103_1)).trans hw103_1),((HB.out.cell (World.block_lt_of_cell? w _ hw105_0)).trans hw105_0),((HB.out.cell (World.block_lt_of_cell? w _ hw105_1)).trans hw105_1),((HB.out.cell (World.block_lt_of_cell? w _ hw107_0)).trans hw107_0),((HB.out.cell (World.block_lt_of_cell? w _ hw107_1)).trans hw107_1),((HB.out.cell (World.block_lt_of_cell? w _ hw108_0)).trans hw108_0),((HB.out.cell (World.block_lt_of_cell? w _ hw108_1)).trans hw108_1),((HB.out.cell (World.block_lt_of_cell? w _ hw109_0)).trans hw109_0),((HB.out.cell (World.block_lt_of_cell? w _ hw109_1)).trans hw109_1)⟩ (fun hHeld=>?_);clear hK K;refine norm_ (a':=?_) ?_ ?_;rotate_left
       ·show Act.put _ (some 23) _ = _
        simp only [Act.put,za,zb,zc,i64_w,i32_w];rfl
       refine pure_ (i:=14) (N:=some 24) (v:=?_) (a':=?_) (pw 46 15) rfl rfl (any_of HT_.out (by kernel_rfl)) (fun _ _ _ h=>h) (Or.inl ⟨by rfl,?_⟩) ?_ ?_;rotate_left
       ·intro w';go_simp;with_reducible rfl
       rotate_left;·simp only [Act.put,za,zb,zc,i64_w,i32_w];rfl
       refine pure_ (i:=15) (N:=some 25) (v:=?_) (a':=?_) (pw 46 16) rfl rfl (any_of HT_.out (by kernel_rfl)) (fun _ _ _ h=>h) (Or.inl ⟨by rfl,?_⟩) ?_ ?_;rotate_left
       ·intro w';go_simp;with_reducible rfl
       rotate_left;·simp only [Act.put,za,zb,zc,i64_w,i32_w];rfl
       refine pure_ (i:=16) (N:=some 26) (v:=?_) (a':=?_) (pw 46 17) rfl rfl (any_of HT_.out (by kernel_rfl)) (fun _ _ _ h=>h) (Or.inl ⟨by rfl,?_⟩) ?_ ?_;rotate_left
       ·intro w';go_simp;with_reducible rfl
       rotate_left;·simp only [Act.put,za,zb,zc,i64_w,i32_w];rfl
       refine pure_ (i:=17) (N:=some 27) (v:=?_) (a':=?_) (pw 46 18) rfl rfl (any_of HT_.out (by kernel_rfl)) (fun _ _ _ h=>h) (Or.inl ⟨by rfl,?_⟩) ?_ ?_;rotate_left
       ·intro w';go_simp;with_reducible rfl
       rotate_left;·simp only [Act.put,za,zb,zc,i64_w,i32_w];rfl
       refine pure_ (i:=18) (N:=some 28) (v:=?_) (a':=?_) (pw 46 19) rfl rfl (any_of HT_.out (by kernel_rfl)) (fun _ _ _ h=>h) (Or.inl ⟨by rfl,?_⟩) ?_ ?_;rotate_left
       ·intro w';go_simp;with_reducible rfl
       rotate_left;·simp only [Act.put,za,zb,zc,i64_w,i32_w];rfl
       refine pure_ (i:=19) (N:=some 29) (v:=?_) (a':=?_) (pw 46 20) rfl rfl (any_of HT_.out (by kernel_rfl)) (fun _ _ _ h=>h) (Or.inl ⟨by rfl,?_⟩) ?_ ?_;rotate_left
       ·intro w';go_simp;with_reducible rfl
       rotate_left;·simp only [Act.put,za,zb,zc,i64_w,i32_w];rfl
       refine pure_ (i:=20) (N:=some 30) (v:=?_) (a':=?_) (pw 46 21) rfl rfl (any_of HT_.out (by kernel_rfl)) (fun _ _ _ h=>h) (Or.inl ⟨by rfl,?_⟩) ?_ ?_;rotate_left
       ·intro w';go_simp;with_reducible rfl
       rotate_left;·simp only [Act.put,za,zb,zc,i64_w,i32_w];rfl
       refine pure_ (i:=23) (N:=some 33) (v:=?_) (a':=?_) (bw 46 10485759) rfl rfl (any_of HT_.out (by kernel_rfl)) (fun _ _ _ h=>h) (Or.inl ⟨by rfl,?_⟩) ?_ ?_;rotate_left
       ·intro w';go_simp;with_reducible rfl
       rotate_left;·simp only [Act.put,za,zb,zc,i64_w,i32_w];rfl
       refine pure_ (i:=24) (N:=some 34) (v:=?_) (a':=?_) (bw 46 27262975) rfl rfl (any_of HT_.out (by kernel_rfl)) (fun _ _ _ h=>h) (Or.inl ⟨by rfl,?_⟩) ?_ ?_;rotate_left
       ·intro w';go_simp;with_reducible rfl
       rotate_left;·simp only [Act.put,za,zb,zc,i64_w,i32_w];rfl
       refine take_ (i:=21) (N:=some 31) (v:=?_) (a':=?_) (bw 46 29360127) rfl rfl (take_ofW HT_.out HW_.out (by kernel_rfl)) (fun _ _ _ h=>h) (Or.inl ⟨by rfl,?_⟩) hHeld ?_ ?_;rotate_left
       ·rintro w' ⟨s0,s1,s2,s3,s4,s5,s6,s7,s8,s9⟩
        go_simp;with_reducible rfl
       rotate_left;·simp only [Act.put,za,zb,zc,i64_w,i32_w];rfl
       refine pure_ (i:=22) (N:=some 32) (v:=?_) (a':=?_) (pw 46 25) rfl rfl (any_of HT_.out (by kernel_rfl)) (fun _ _ _ h=>h) (Or.inl ⟨by rfl,?_⟩) ?_ ?_;rotate_left
       ·intro w';go_simp;with_reducible rfl
       rotate_left;·simp only [Act.put,za,zb,zc,i64_w,i32_w];rfl
       refine pure_ (i:=25) (N:=some 35) (v:=?_) (a':=?_) (pw 46 26) rfl rfl (any_of HT_.out (by kernel_rfl)) (fun _ _ _ h=>h) (Or.inl ⟨by rfl,?_⟩) ?_ ?_;rotate_left
       ·intro w';go_simp;with_reducible rfl
       rotate_left;·simp only [Act.put,za,zb,zc,i64_w,i32_w];rfl
       refine pure_ (i:=26) (N:=some 36) (v:=?_) (a':=?_) (pw 46 27) rfl rfl (any_of HT_.out (by kernel_rfl)) (fun _ _ _ h=>h) (Or.inl ⟨by rfl,?_⟩) ?_ ?_;rotate_left
       ·intro w';go_simp;with_reducible rfl
       rotate_left;·simp only [Act.put,za,zb,zc,i64_w,i32_w];rfl
       refine pure_ (i:=27) (N:=some 37) (v:=?_) (a':=?_) (pw 46 28) rfl rfl (any_of HT_.out (by kernel_rfl)) (fun _ _ _ h=>h) (Or.inl ⟨by rfl,?_⟩) ?_ ?_;rotate_left
       ·intro w';go_simp;with_reducible rfl
       rotate_left;·simp only [Act.put,za,zb,zc,i64_w,i32_w];rfl
       refine pure_ (i:=28) (N:=some 38) (v:=?_) (a':=?_) (pw 46 29) rfl rfl (any_of HT_.out (by kernel_rfl)) (fun _ _ _ h=>h) (Or.inl ⟨by rfl,?_⟩) ?_ ?_;rotate_left
       ·intro w';go_simp;with_reducible rfl
       rotate_left;·simp only [Act.put,za,zb,zc,i64_w,i32_w];rfl
       refine pure_ (i:=29) (N:=some 39) (v:=?_) (a':=?_) (pw 46 30) rfl rfl (any_of HT_.out (by kernel_rfl)) (fun _ _ _ h=>h) (Or.inl ⟨by rfl,?_⟩) ?_ ?_;rotate_left
       ·intro w';go_simp;with_reducible rfl
       rotate_left;·simp only [Act.put,za,zb,zc,i64_w,i32_w];rfl
       refine pure_ (i:=30) (N:=some 40) (v:=?_) (a':=?_) (pw 46 31) rfl rfl (any_of HT_.out (by kernel_rfl)) (fun _ _ _ h=>h) (Or.inl ⟨by rfl,?_⟩) ?_ ?_;rotate_left
       ·intro w';go_simp;with_reducible rfl
       rotate_left;·simp only [Act.put,za,zb,zc,i64_w,i32_w];rfl
       refine pure_ (i:=31) (N:=some 41) (v:=?_) (a':=?_) (pw 46 32) rfl rfl (any_of HT_.out (by kernel_rfl)) (fun _ _ _ h=>h) (Or.inl ⟨by rfl,?_⟩) ?_ ?_;rotate_left
       ·intro w';go_simp;with_reducible rfl
       rotate_left;·simp only [Act.put,za,zb,zc,i64_w,i32_w];rfl
       refine pure_ (i:=32) (N:=some 42) (v:=?_) (a':=?_) (pw 46 33) rfl rfl (any_of HT_.out (by kernel_rfl)) (fun _ _ _ h=>h) (Or.inl ⟨by rfl,?_⟩) ?_ ?_;rotate_left
       ·intro w';go_simp;with_reducible rfl
       rotate_left;·simp only [Act.put,za,zb,zc,i64_w,i32_w];rfl
       refine pure_ (i:=33) (N:=some 43) (v:=?_) (a':=?_) (pw 46 34) rfl rfl (any_of HT_.out (by kernel_rfl)) (fun _ _ _ h=>h) (Or.inl ⟨by rfl,?_⟩) ?_ ?_;rotate_left
       ·intro w';go_simp;with_reducible rfl
       rotate_left;·simp only [Act.put,za,zb,zc,i64_w,i32_w];rfl
       refine pure_ (i:=34) (N:=some 44) (v:=?_) (a':=?_) (pw 46 35) rfl rfl (any_of HT_.out (by kernel_rfl)) (fun _ _ _ h=>h) (Or.inl ⟨by rfl,?_⟩) ?_ ?_;rotate_left
       ·intro w';go_simp;with_reducible rfl
       rotate_left;·simp only [Act.put,za,zb,zc,i64_w,i32_w];rfl
       refine pure_ (i:=36) (N:=some 46) (v:=?_) (a':=?_) (bw 46 103079215103) rfl rfl (any_of HT_.out (by kernel_rfl)) (fun _ _ _ h=>h) (Or.inl ⟨by rfl,?_⟩) ?_ ?_;rotate_left
       ·intro w';go_simp;with_reducible rfl
       rotate_left;·simp only [Act.put,za,zb,zc,i64_w,i32_w];rfl
       refine pure_ (i:=37) (N:=some 47) (v:=?_) (a':=?_) (bw 46 240518168575) rfl rfl (any_of HT_.out (by kernel_rfl)) (fun _ _ _ h=>h) (Or.inl ⟨by rfl,?_⟩) ?_ ?_;rotate_left
       ·intro w';go_simp;with_reducible rfl
       rotate_left;·simp only [Act.put,za,zb,zc,i64_w,i32_w];rfl
       refine pure_ (i:=38) (N:=some 48) (v:=?_) (a':=?_) (bw 46 515396075519) rfl rfl (any_of HT_.out (by kernel_rfl)) (fun _ _ _ h=>h) (Or.inl ⟨by rfl,?_⟩) ?_ ?_;rotate_left
       ·intro w';go_simp;with_reducible rfl
       rotate_left;·simp only [Act.put,za,zb,zc,i64_w,i32_w];rfl
       refine pure_ (i:=39) (N:=some 49) (v:=?_) (a':=?_) (bw 46 1065151889407) rfl rfl (any_of HT_.out (by kernel_rfl)) (fun _ _ _ h=>h) (Or.inl ⟨by rfl,?_⟩) ?_ ?_;rotate_left
       ·intro w';go_simp;with_reducible rfl
       rotate_left;·simp only [Act.put,za,zb,zc,i64_w,i32_w];rfl
       refine pure_ (i:=40) (N:=some 50) (v:=?_) (a':=?_) (bw 46 2164663517183) rfl rfl (any_of HT_.out (by kernel_rfl)) (fun _ _ _ h=>h) (Or.inl ⟨by rfl,?_⟩) ?_ ?_;rotate_left
       ·intro w';go_simp;with_reducible rfl
       rotate_left;·simp only [Act.put,za,zb,zc,i64_w,i32_w];rfl
       refine take_ (i:=35) (N:=some 45) (v:=?_) (a':=?_) (pw 46 41) rfl rfl (take_ofW HT_.out HW_.out (by kernel_rfl)) (fun _ _ _ h=>h) (Or.inl ⟨by rfl,?_⟩) hHeld ?_ ?_;rotate_left
       ·rintro w' ⟨s0,s1,s2,s3,s4,s5,s6,s7,s8,s9⟩
        go_simp;with_reducible rfl
       rotate_left;·simp only [Act.put,za,zb,zc,i64_w,i32_w];rfl
       refine take_ (i:=41) (N:=some 51) (v:=?_) (a':=?_) (pw 46 42) rfl rfl (take_ofW HT_.out HW_.out (by kernel_rfl)) (fun _ _ _ h=>h) (Or.inl ⟨by rfl,?_⟩) hHeld ?_ ?_;rotate_left
       ·rintro w' ⟨s0,s1,s2,s3,s4,s5,s6,s7,s8,s9⟩
        go_simp;with_reducible rfl
       rotate_left;·simp only [Act.put,za,zb,zc,i64_w,i32_w];rfl
       refine pure_ (i:=42) (N:=some 52) (v:=?_) (a':=?_) (pw 46 43) rfl rfl (any_of HT_.out (by kernel_rfl)) (fun _ _ _ h=>h) (Or.inl ⟨by rfl,?_⟩) ?_ ?_;rotate_left
       ·intro w';go_simp;with_reducible rfl
       rotate_left;·simp only [Act.put,za,zb,zc,i64_w,i32_w];rfl
       refine pure_ (i:=43) (N:=some 53) (v:=?_) (a':=?_) (pw 46 44) rfl rfl (any_of HT_.out (by kernel_rfl)) (fun _ _ _ h=>h) (Or.inl ⟨by rfl,?_⟩) ?_ ?_;rotate_left
       ·intro w';go_simp;with_reducible rfl
       rotate_left;·simp only [Act.put,za,zb,zc,i64_w,i32_w];rfl
       refine pure_ (i:=44) (N:=some 54) (v:=?_) (a':=?_) (pw 46 45) rfl rfl (any_of HT_.out (by kernel_rfl)) (fun _ _ _ h=>h) (Or.inl ⟨by rfl,?_⟩) ?_ ?_;rotate_left
       ·intro w';go_simp;with_reducible rfl
       rotate_left;·simp only [Act.put,za,zb,zc,i64_w,i32_w];rfl
       refine pure_ (i:=45) (N:=some 55) (v:=?_) (a':=?_) (pw 46 46) rfl rfl (any_of HT_.out (by kernel_rfl)) (fun _ _ _ h=>h) (Or.inl ⟨by rfl,?_⟩) ?_ ?_;rotate_left
       ·intro w';go_simp;with_reducible rfl
       rotate_left;·simp only [Act.put,za,zb,zc,i64_w,i32_w];rfl
       refine done_ (done_of HT_.out (by kernel_rfl)) ?_
       try go_wp2
       go_roundg k1
       case measure=>have:=HK1.out;omega
       case rel=>exact ⟨(wrap64 (x3_1 + 1)),(by first | rfl | (simp;done) | (simp [*];done)),H',⟨by have:=HK1.out;omega⟩,⟨laB HB.out⟩⟩
    ·replace c7:=Bool.eq_false_iff.mpr c7
     subst c7;rw [if_neg (show ¬ (false = true) by decide)] at H
     obtain rfl:=Option.some.inj H
     try go_wp2
     replace HB:=Aside0.mk (below_drew1 HB.out);have p103 : 0 ≤ (x3_1 : Int):=of_decide_eq_true (by first | (with_reducible assumption) | assumption);have q103 : x3_1 < (l0.length : Int):=of_decide_eq_true (by first | (with_reducible assumption) | assumption)
     obtain ⟨ad103,e103,hx103_0,hx103_1⟩:=at_T59 HR0.out x3_1 p103 q103
     have hw103_1:=hx103_1;have hw103_0:=hx103_0
     cases e103
     replace hx103_0:=(HB.out.cell (World.block_lt_of_cell? w _ hx103_0)).trans hx103_0;replace hx103_1:=(HB.out.cell (World.block_lt_of_cell? w _ hx103_1)).trans hx103_1;replace p103:=eq_true p103;replace q103:=eq_true q103;have p105 : 0 ≤ (x3_1 : Int):=of_decide_eq_true (by first | (with_reducible assumption) | assumption);have q105 : x3_1 < (l0.length : Int):=of_decide_eq_true (by first | (with_reducible assumption) | assumption)
     obtain ⟨ad105,e105,hx105_0,hx105_1⟩:=at_T59 HR0.out x3_1 p105 q105
     have hw105_1:=hx105_1;have hw105_0:=hx105_0
     obtain rfl : ad103 = ad105:=(by injection e105)
     replace hx105_0:=(HB.out.cell (World.block_lt_of_cell? w _ hx105_0)).trans hx105_0;replace hx105_1:=(HB.out.cell (World.block_lt_of_cell? w _ hx105_1)).trans hx105_1;replace p105:=eq_true p105;replace q105:=eq_true q105;refine start_ (n:=46) (S:=fun w'=>w'.cell? (ad103.add ((x3_1).toNat * 2)) = some (.int .i64 ((rd_T59 l0 x3_1).f0)) ∧ w'.cell? ⟨(ad103.add ((x3_1).toNat * 2)).block,(ad103.add ((x3_1).toNat * 2)).off + 1,none⟩ = some (.int .i64 ((rd_T59 l0 x3_1).f1)) ∧ w'.cell? (ad103.add ((x3_1).toNat * 2)) = some (.int .i64 ((rd_T59 l0 x3_1).f0)) ∧ w'.cell? ⟨(ad103.add ((x3_1).toNat * 2)).block,(ad103.add ((x3_1).toNat * 2)).off + 1,none⟩ = some (.int .i64 ((rd_T59 l0 x3_1).f1))) (ds:=[]) (pw 46 0) (by kernel_rfl) rfl rfl ⟨((HB.out.cell (World.block_lt_of_cell? w _ hw103_0)).trans hw103_0),((HB.out.cell (World.block_lt_of_cell? w _ hw103_1)).trans hw103_1),((HB.out.cell (World.block_lt_of_cell? w _ hw105_0)).trans hw105_0),((HB.out.cell (World.block_lt_of_cell? w _ hw105_1)).trans hw105_1)⟩ (fun hHeld=>?_);refine with_tabW spec_TreeOk.tab4 spec_TreeOk.bits4 (fun HT_ HW_=>?_)
     generalize wr.drew = w18 at HB hx103_0 hx103_1 hx105_0 hx105_1 hHeld ⊢
     refine pure_ (i:=0) (N:=some 10) (v:=?_) (a':=?_) (pw 46 1) rfl rfl (any_of HT_.out (by kernel_rfl)) (fun _ _ _ h=>h) (Or.inl ⟨by rfl,?_⟩) ?_ ?_;rotate_left
     ·intro w';go_simp;with_reducible rfl
     rotate_left;·simp only [Act.put,za,zb,zc,i64_w,i32_w];rfl
     refine pure_ (i:=1) (N:=some 11) (v:=?_) (a':=?_) (pw 46 2) rfl rfl (any_of HT_.out (by kernel_rfl)) (fun _ _ _ h=>h) (Or.inl ⟨by rfl,?_⟩) ?_ ?_;rotate_left
     ·intro w';go_simp;with_reducible rfl
     rotate_left;·simp only [Act.put,za,zb,zc,i64_w,i32_w];rfl
     refine pure_ (i:=2) (N:=some 12) (v:=?_) (a':=?_) (pw 46 3) rfl rfl (any_of HT_.out (by kernel_rfl)) (fun _ _ _ h=>h) (Or.inl ⟨by rfl,?_⟩) ?_ ?_;rotate_left
     ·intro w';go_simp;with_reducible rfl
     rotate_left;·simp only [Act.put,za,zb,zc,i64_w,i32_w];rfl
     refine pure_ (i:=3) (N:=some 13) (v:=?_) (a':=?_) (pw 46 4) rfl rfl (any_of HT_.out (by kernel_rfl)) (fun _ _ _ h=>h) (Or.inl ⟨by rfl,?_⟩) ?_ ?_;rotate_left
     ·intro w';go_simp;with_reducible rfl
     rotate_left;·simp only [Act.put,za,zb,zc,i64_w,i32_w];rfl
     refine take_ (i:=4) (N:=some 14) (v:=?_) (a':=?_) (pw 46 5) rfl rfl (take_ofW HT_.out HW_.out (by kernel_rfl)) (fun _ _ _ h=>h) (Or.inl ⟨by rfl,?_⟩) hHeld ?_ ?_;rotate_left
     ·rintro w' ⟨s0,s1,s2,s3⟩
      go_simp;with_reducible rfl
     rotate_left;·simp only [Act.put,za,zb,zc,i64_w,i32_w];rfl
     refine one_ (i:=5) (N:=some 15) (pw 46 6) rfl rfl (one_of HT_.out (by kernel_rfl)) (by decide) (fun K hK=>?_);refine goes_ Try.func98 (by kernel_rfl) rfl #[.int .i64 ((rd_T59 l0 x3_1).f0)] (by rfl) rfl rfl (by (try simp only [List.map_toArray,List.map_cons,List.map_nil]);first | done | rfl | (simp only [List.length_drop,List.length_take];rfl)) ?_;with_reducible refine (spec_LabelOk.calls ((rd_T59 l0 x3_1).f0) true _ A4.out).mono ?_
     rintro e w' ⟨rfl,⟨nd,rfl⟩⟩;refine ⟨_,rfl,?_⟩;refine hK.out _ _ ⟨((HB.out.cell (World.block_lt_of_cell? w _ hw103_0)).trans hw103_0),((HB.out.cell (World.block_lt_of_cell? w _ hw103_1)).trans hw103_1),((HB.out.cell (World.block_lt_of_cell? w _ hw105_0)).trans hw105_0),((HB.out.cell (World.block_lt_of_cell? w _ hw105_1)).trans hw105_1)⟩ (fun hHeld=>?_);clear hK K;refine norm_ (a':=?_) ?_ ?_;rotate_left
     ·show Act.put _ (some 15) _ = _
      simp only [Act.put,za,zb,zc,i64_w,i32_w];rfl
     refine pure_ (i:=6) (N:=some 16) (v:=?_) (a':=?_) (pw 46 7) rfl rfl (any_of HT_.out (by kernel_rfl)) (fun _ _ _ h=>h) (Or.inl ⟨by rfl,?_⟩) ?_ ?_;rotate_left
     ·intro w';go_simp;with_reducible rfl
     rotate_left;·simp only [Act.put,za,zb,zc,i64_w,i32_w];rfl
     refine pure_ (i:=7) (N:=some 17) (v:=?_) (a':=?_) (pw 46 8) rfl rfl (any_of HT_.out (by kernel_rfl)) (fun _ _ _ h=>h) (Or.inl ⟨by rfl,?_⟩) ?_ ?_;rotate_left
     ·intro w';go_simp;with_reducible rfl
     rotate_left;·simp only [Act.put,za,zb,zc,i64_w,i32_w];rfl
     refine pure_ (i:=8) (N:=some 18) (v:=?_) (a':=?_) (pw 46 9) rfl rfl (any_of HT_.out (by kernel_rfl)) (fun _ _ _ h=>h) (Or.inl ⟨by rfl,?_⟩) ?_ ?_;rotate_left
     ·intro w';go_simp;with_reducible rfl
     rotate_left;·simp only [Act.put,za,zb,zc,i64_w,i32_w];rfl
     refine pure_ (i:=9) (N:=some 19) (v:=?_) (a':=?_) (pw 46 10) rfl rfl (any_of HT_.out (by kernel_rfl)) (fun _ _ _ h=>h) (Or.inl ⟨by rfl,?_⟩) ?_ ?_;rotate_left
     ·intro w';go_simp;with_reducible rfl
     rotate_left;·simp only [Act.put,za,zb,zc,i64_w,i32_w];rfl
     refine pure_ (i:=10) (N:=some 20) (v:=?_) (a':=?_) (pw 46 11) rfl rfl (any_of HT_.out (by kernel_rfl)) (fun _ _ _ h=>h) (Or.inl ⟨by rfl,?_⟩) ?_ ?_;rotate_left
     ·intro w';go_simp;with_reducible rfl
     rotate_left;·simp only [Act.put,za,zb,zc,i64_w,i32_w];rfl
     refine pure_ (i:=11) (N:=some 21) (v:=?_) (a':=?_) (pw 46 12) rfl rfl (any_of HT_.out (by kernel_rfl)) (fun _ _ _ h=>h) (Or.inl ⟨by rfl,?_⟩) ?_ ?_;rotate_left
     ·intro w';go_simp;with_reducible rfl
     rotate_left;·simp only [Act.put,za,zb,zc,i64_w,i32_w];rfl
     refine take_ (i:=12) (N:=some 22) (v:=?_) (a':=?_) (pw 46 13) rfl rfl (take_ofW HT_.out HW_.out (by kernel_rfl)) (fun _ _ _ h=>h) (Or.inl ⟨by rfl,?_⟩) hHeld ?_ ?_;rotate_left
     ·rintro w' ⟨s0,s1,s2,s3⟩
      go_simp;with_reducible rfl
     rotate_left;·simp only [Act.put,za,zb,zc,i64_w,i32_w];rfl
     refine one_ (i:=13) (N:=some 23) (pw 46 14) rfl rfl (one_of HT_.out (by kernel_rfl)) (by decide) (fun K hK=>?_);refine goes_ Try.func99 (by kernel_rfl) rfl #[.int .i64 ((rd_T59 l0 x3_1).f1),.int .i64 0,.int .i64 12] (by rfl) rfl rfl (by (try simp only [List.map_toArray,List.map_cons,List.map_nil]);first | done | rfl | (simp only [List.length_drop,List.length_take];rfl)) ?_;with_reducible refine (spec_l1In.calls ((rd_T59 l0 x3_1).f1) 0 12 false _ A6.out).mono ?_
     rintro e w' ⟨rfl,⟨nd,rfl⟩⟩;refine ⟨_,rfl,?_⟩;refine hK.out _ _ ⟨((HB.out.cell (World.block_lt_of_cell? w _ hw103_0)).trans hw103_0),((HB.out.cell (World.block_lt_of_cell? w _ hw103_1)).trans hw103_1),((HB.out.cell (World.block_lt_of_cell? w _ hw105_0)).trans hw105_0),((HB.out.cell (World.block_lt_of_cell? w _ hw105_1)).trans hw105_1)⟩ (fun hHeld=>?_);clear hK K;refine norm_ (a':=?_) ?_ ?_;rotate_left
     ·show Act.put _ (some 23) _ = _
      simp only [Act.put,za,zb,zc,i64_w,i32_w];rfl
     refine pure_ (i:=14) (N:=some 24) (v:=?_) (a':=?_) (pw 46 15) rfl rfl (any_of HT_.out (by kernel_rfl)) (fun _ _ _ h=>h) (Or.inl ⟨by rfl,?_⟩) ?_ ?_;rotate_left
     ·intro w';go_simp;with_reducible rfl
     rotate_left;·simp only [Act.put,za,zb,zc,i64_w,i32_w];rfl
     refine pure_ (i:=15) (N:=some 25) (v:=?_) (a':=?_) (pw 46 16) rfl rfl (any_of HT_.out (by kernel_rfl)) (fun _ _ _ h=>h) (Or.inl ⟨by rfl,?_⟩) ?_ ?_;rotate_left
     ·intro w';go_simp;with_reducible rfl
     rotate_left;·simp only [Act.put,za,zb,zc,i64_w,i32_w];rfl
     refine pure_ (i:=16) (N:=some 26) (v:=?_) (a':=?_) (pw 46 17) rfl rfl (any_of HT_.out (by kernel_rfl)) (fun _ _ _ h=>h) (Or.inl ⟨by rfl,?_⟩) ?_ ?_;rotate_left
     ·intro w';go_simp;with_reducible rfl
     rotate_left;·simp only [Act.put,za,zb,zc,i64_w,i32_w];rfl
     refine pure_ (i:=17) (N:=some 27) (v:=undef) (a':=?_) (pw 46 18) rfl rfl (any_of HT_.out (by kernel_rfl)) (fun _ _ _ h=>h) (Or.inr ⟨by rfl,rfl⟩) ?_ ?_;rotate_left;·simp only [Act.put,za,zb,zc,i64_w,i32_w];rfl
     refine pure_ (i:=18) (N:=some 28) (v:=undef) (a':=?_) (pw 46 19) rfl rfl (any_of HT_.out (by kernel_rfl)) (fun _ _ _ h=>h) (Or.inr ⟨by rfl,rfl⟩) ?_ ?_;rotate_left;·simp only [Act.put,za,zb,zc,i64_w,i32_w];rfl
     refine pure_ (i:=19) (N:=some 29) (v:=undef) (a':=?_) (pw 46 20) rfl rfl (any_of HT_.out (by kernel_rfl)) (fun _ _ _ h=>h) (Or.inr ⟨by rfl,rfl⟩) ?_ ?_;rotate_left;·simp only [Act.put,za,zb,zc,i64_w,i32_w];rfl
     refine pure_ (i:=20) (N:=some 30) (v:=undef) (a':=?_) (pw 46 21) rfl rfl (any_of HT_.out (by kernel_rfl)) (fun _ _ _ h=>h) (Or.inr ⟨by rfl,rfl⟩) ?_ ?_;rotate_left;·simp only [Act.put,za,zb,zc,i64_w,i32_w];rfl
     refine pure_ (i:=21) (N:=some 31) (v:=undef) (a':=?_) (pw 46 22) rfl rfl (any_of HT_.out (by kernel_rfl)) (fun _ _ _ h=>h) (Or.inr ⟨by rfl,rfl⟩) ?_ ?_;rotate_left;·simp only [Act.put,za,zb,zc,i64_w,i32_w];rfl
     refine pure_ (i:=22) (N:=some 32) (v:=undef) (a':=?_) (pw 46 23) rfl rfl (any_of HT_.out (by kernel_rfl)) (fun _ _ _ h=>h) (Or.inr ⟨by rfl,rfl⟩) ?_ ?_;rotate_left;·simp only [Act.put,za,zb,zc,i64_w,i32_w];rfl
     refine pure_ (i:=23) (N:=some 33) (v:=undef) (a':=?_) (pw 46 24) rfl rfl (any_of HT_.out (by kernel_rfl)) (fun _ _ _ h=>h) (Or.inr ⟨by rfl,rfl⟩) ?_ ?_;rotate_left;·simp only [Act.put,za,zb,zc,i64_w,i32_w];rfl
     refine pure_ (i:=24) (N:=some 34) (v:=undef) (a':=?_) (pw 46 25) rfl rfl (any_of HT_.out (by kernel_rfl)) (fun _ _ _ h=>h) (Or.inr ⟨by rfl,rfl⟩) ?_ ?_;rotate_left;·simp only [Act.put,za,zb,zc,i64_w,i32_w];rfl
     refine pure_ (i:=25) (N:=some 35) (v:=undef) (a':=?_) (pw 46 26) rfl rfl (any_of HT_.out (by kernel_rfl)) (fun _ _ _ h=>h) (Or.inr ⟨by rfl,rfl⟩) ?_ ?_;rotate_left;·simp only [Act.put,za,zb,zc,i64_w,i32_w];rfl
     refine pure_ (i:=26) (N:=some 36) (v:=?_) (a':=?_) (pw 46 27) rfl rfl (any_of HT_.out (by kernel_rfl)) (fun _ _ _ h=>h) (Or.inl ⟨by rfl,?_⟩) ?_ ?_;rotate_left
     ·intro w';go_simp;with_reducible rfl
     rotate_left;·simp only [Act.put,za,zb,zc,i64_w,i32_w];rfl
     refine pure_ (i:=27) (N:=some 37) (v:=?_) (a':=?_) (pw 46 28) rfl rfl (any_of HT_.out (by kernel_rfl)) (fun _ _ _ h=>h) (Or.inl ⟨by rfl,?_⟩) ?_ ?_;rotate_left
     ·intro w';go_simp;with_reducible rfl
     rotate_left;·simp only [Act.put,za,zb,zc,i64_w,i32_w];rfl
     refine pure_ (i:=28) (N:=some 38) (v:=undef) (a':=?_) (pw 46 29) rfl rfl (any_of HT_.out (by kernel_rfl)) (fun _ _ _ h=>h) (Or.inr ⟨by rfl,rfl⟩) ?_ ?_;rotate_left;·simp only [Act.put,za,zb,zc,i64_w,i32_w];rfl
     refine pure_ (i:=29) (N:=some 39) (v:=undef) (a':=?_) (pw 46 30) rfl rfl (any_of HT_.out (by kernel_rfl)) (fun _ _ _ h=>h) (Or.inr ⟨by rfl,rfl⟩) ?_ ?_;rotate_left;·simp only [Act.put,za,zb,zc,i64_w,i32_w];rfl
     refine pure_ (i:=30) (N:=some 40) (v:=undef) (a':=?_) (pw 46 31) rfl rfl (any_of HT_.out (by kernel_rfl)) (fun _ _ _ h=>h) (Or.inr ⟨by rfl,rfl⟩) ?_ ?_;rotate_left;·simp only [Act.put,za,zb,zc,i64_w,i32_w];rfl
     refine pure_ (i:=31) (N:=some 41) (v:=undef) (a':=?_) (pw 46 32) rfl rfl (any_of HT_.out (by kernel_rfl)) (fun _ _ _ h=>h) (Or.inr ⟨by rfl,rfl⟩) ?_ ?_;rotate_left;·simp only [Act.put,za,zb,zc,i64_w,i32_w];rfl
     refine pure_ (i:=32) (N:=some 42) (v:=undef) (a':=?_) (pw 46 33) rfl rfl (any_of HT_.out (by kernel_rfl)) (fun _ _ _ h=>h) (Or.inr ⟨by rfl,rfl⟩) ?_ ?_;rotate_left;·simp only [Act.put,za,zb,zc,i64_w,i32_w];rfl
     refine pure_ (i:=33) (N:=some 43) (v:=undef) (a':=?_) (pw 46 34) rfl rfl (any_of HT_.out (by kernel_rfl)) (fun _ _ _ h=>h) (Or.inr ⟨by rfl,rfl⟩) ?_ ?_;rotate_left;·simp only [Act.put,za,zb,zc,i64_w,i32_w];rfl
     refine pure_ (i:=34) (N:=some 44) (v:=undef) (a':=?_) (pw 46 35) rfl rfl (any_of HT_.out (by kernel_rfl)) (fun _ _ _ h=>h) (Or.inr ⟨by rfl,rfl⟩) ?_ ?_;rotate_left;·simp only [Act.put,za,zb,zc,i64_w,i32_w];rfl
     refine pure_ (i:=35) (N:=some 45) (v:=undef) (a':=?_) (pw 46 36) rfl rfl (any_of HT_.out (by kernel_rfl)) (fun _ _ _ h=>h) (Or.inr ⟨by rfl,rfl⟩) ?_ ?_;rotate_left;·simp only [Act.put,za,zb,zc,i64_w,i32_w];rfl
     refine pure_ (i:=36) (N:=some 46) (v:=undef) (a':=?_) (pw 46 37) rfl rfl (any_of HT_.out (by kernel_rfl)) (fun _ _ _ h=>h) (Or.inr ⟨by rfl,rfl⟩) ?_ ?_;rotate_left;·simp only [Act.put,za,zb,zc,i64_w,i32_w];rfl
     refine pure_ (i:=37) (N:=some 47) (v:=undef) (a':=?_) (pw 46 38) rfl rfl (any_of HT_.out (by kernel_rfl)) (fun _ _ _ h=>h) (Or.inr ⟨by rfl,rfl⟩) ?_ ?_;rotate_left;·simp only [Act.put,za,zb,zc,i64_w,i32_w];rfl
     refine pure_ (i:=38) (N:=some 48) (v:=undef) (a':=?_) (pw 46 39) rfl rfl (any_of HT_.out (by kernel_rfl)) (fun _ _ _ h=>h) (Or.inr ⟨by rfl,rfl⟩) ?_ ?_;rotate_left;·simp only [Act.put,za,zb,zc,i64_w,i32_w];rfl
     refine pure_ (i:=39) (N:=some 49) (v:=undef) (a':=?_) (pw 46 40) rfl rfl (any_of HT_.out (by kernel_rfl)) (fun _ _ _ h=>h) (Or.inr ⟨by rfl,rfl⟩) ?_ ?_;rotate_left;·simp only [Act.put,za,zb,zc,i64_w,i32_w];rfl
     refine pure_ (i:=40) (N:=some 50) (v:=undef) (a':=?_) (pw 46 41) rfl rfl (any_of HT_.out (by kernel_rfl)) (fun _ _ _ h=>h) (Or.inr ⟨by rfl,rfl⟩) ?_ ?_;rotate_left;·simp only [Act.put,za,zb,zc,i64_w,i32_w];rfl
     refine pure_ (i:=41) (N:=some 51) (v:=undef) (a':=?_) (pw 46 42) rfl rfl (any_of HT_.out (by kernel_rfl)) (fun _ _ _ h=>h) (Or.inr ⟨by rfl,rfl⟩) ?_ ?_;rotate_left;·simp only [Act.put,za,zb,zc,i64_w,i32_w];rfl
     refine pure_ (i:=42) (N:=some 52) (v:=undef) (a':=?_) (pw 46 43) rfl rfl (any_of HT_.out (by kernel_rfl)) (fun _ _ _ h=>h) (Or.inr ⟨by rfl,rfl⟩) ?_ ?_;rotate_left;·simp only [Act.put,za,zb,zc,i64_w,i32_w];rfl
     refine pure_ (i:=43) (N:=some 53) (v:=undef) (a':=?_) (pw 46 44) rfl rfl (any_of HT_.out (by kernel_rfl)) (fun _ _ _ h=>h) (Or.inr ⟨by rfl,rfl⟩) ?_ ?_;rotate_left;·simp only [Act.put,za,zb,zc,i64_w,i32_w];rfl
     refine pure_ (i:=44) (N:=some 54) (v:=undef) (a':=?_) (pw 46 45) rfl rfl (any_of HT_.out (by kernel_rfl)) (fun _ _ _ h=>h) (Or.inr ⟨by rfl,rfl⟩) ?_ ?_;rotate_left;·simp only [Act.put,za,zb,zc,i64_w,i32_w];rfl
     refine pure_ (i:=45) (N:=some 55) (v:=?_) (a':=?_) (pw 46 46) rfl rfl (any_of HT_.out (by kernel_rfl)) (fun _ _ _ h=>h) (Or.inl ⟨by rfl,?_⟩) ?_ ?_;rotate_left
     ·intro w';go_simp;with_reducible rfl
     rotate_left;·simp only [Act.put,za,zb,zc,i64_w,i32_w];rfl
     refine done_ (done_of HT_.out (by kernel_rfl)) ?_
     try go_wp2
     go_ret
     exact ⟨by first | rfl | (simp [errW_none,errW_some] <;> rfl) | (simp [*,errW_none,errW_some] <;> rfl),laB HB.out⟩
   ·replace c5:=Bool.eq_false_iff.mpr c5
    subst c5;rw [if_neg (show ¬ (false = true) by decide)] at H
    obtain rfl:=Option.some.inj H
    try go_wp2
    replace HB:=Aside0.mk (below_drew1 HB.out);have p103 : 0 ≤ (x3_1 : Int):=of_decide_eq_true (by first | (with_reducible assumption) | assumption);have q103 : x3_1 < (l0.length : Int):=of_decide_eq_true (by first | (with_reducible assumption) | assumption)
    obtain ⟨ad103,e103,hx103_0,hx103_1⟩:=at_T59 HR0.out x3_1 p103 q103
    have hw103_1:=hx103_1;have hw103_0:=hx103_0
    cases e103
    replace hx103_0:=(HB.out.cell (World.block_lt_of_cell? w _ hx103_0)).trans hx103_0;replace hx103_1:=(HB.out.cell (World.block_lt_of_cell? w _ hx103_1)).trans hx103_1;replace p103:=eq_true p103;replace q103:=eq_true q103;refine start_ (n:=46) (S:=fun w'=>w'.cell? (ad103.add ((x3_1).toNat * 2)) = some (.int .i64 ((rd_T59 l0 x3_1).f0)) ∧ w'.cell? ⟨(ad103.add ((x3_1).toNat * 2)).block,(ad103.add ((x3_1).toNat * 2)).off + 1,none⟩ = some (.int .i64 ((rd_T59 l0 x3_1).f1))) (ds:=[]) (pw 46 0) (by kernel_rfl) rfl rfl ⟨((HB.out.cell (World.block_lt_of_cell? w _ hw103_0)).trans hw103_0),((HB.out.cell (World.block_lt_of_cell? w _ hw103_1)).trans hw103_1)⟩ (fun hHeld=>?_);refine with_tabW spec_TreeOk.tab4 spec_TreeOk.bits4 (fun HT_ HW_=>?_)
    generalize wr.drew = w19 at HB hx103_0 hx103_1 hHeld ⊢
    refine pure_ (i:=0) (N:=some 10) (v:=?_) (a':=?_) (pw 46 1) rfl rfl (any_of HT_.out (by kernel_rfl)) (fun _ _ _ h=>h) (Or.inl ⟨by rfl,?_⟩) ?_ ?_;rotate_left
    ·intro w';go_simp;with_reducible rfl
    rotate_left;·simp only [Act.put,za,zb,zc,i64_w,i32_w];rfl
    refine pure_ (i:=1) (N:=some 11) (v:=?_) (a':=?_) (pw 46 2) rfl rfl (any_of HT_.out (by kernel_rfl)) (fun _ _ _ h=>h) (Or.inl ⟨by rfl,?_⟩) ?_ ?_;rotate_left
    ·intro w';go_simp;with_reducible rfl
    rotate_left;·simp only [Act.put,za,zb,zc,i64_w,i32_w];rfl
    refine pure_ (i:=2) (N:=some 12) (v:=?_) (a':=?_) (pw 46 3) rfl rfl (any_of HT_.out (by kernel_rfl)) (fun _ _ _ h=>h) (Or.inl ⟨by rfl,?_⟩) ?_ ?_;rotate_left
    ·intro w';go_simp;with_reducible rfl
    rotate_left;·simp only [Act.put,za,zb,zc,i64_w,i32_w];rfl
    refine pure_ (i:=3) (N:=some 13) (v:=?_) (a':=?_) (pw 46 4) rfl rfl (any_of HT_.out (by kernel_rfl)) (fun _ _ _ h=>h) (Or.inl ⟨by rfl,?_⟩) ?_ ?_;rotate_left
    ·intro w';go_simp;with_reducible rfl
    rotate_left;·simp only [Act.put,za,zb,zc,i64_w,i32_w];rfl
    refine take_ (i:=4) (N:=some 14) (v:=?_) (a':=?_) (pw 46 5) rfl rfl (take_ofW HT_.out HW_.out (by kernel_rfl)) (fun _ _ _ h=>h) (Or.inl ⟨by rfl,?_⟩) hHeld ?_ ?_;rotate_left
    ·rintro w' ⟨s0,s1⟩
     go_simp;with_reducible rfl
    rotate_left;·simp only [Act.put,za,zb,zc,i64_w,i32_w];rfl
    refine one_ (i:=5) (N:=some 15) (pw 46 6) rfl rfl (one_of HT_.out (by kernel_rfl)) (by decide) (fun K hK=>?_);refine goes_ Try.func98 (by kernel_rfl) rfl #[.int .i64 ((rd_T59 l0 x3_1).f0)] (by rfl) rfl rfl (by (try simp only [List.map_toArray,List.map_cons,List.map_nil]);first | done | rfl | (simp only [List.length_drop,List.length_take];rfl)) ?_;with_reducible refine (spec_LabelOk.calls ((rd_T59 l0 x3_1).f0) false _ A4.out).mono ?_
    rintro e w' ⟨rfl,⟨nd,rfl⟩⟩;refine ⟨_,rfl,?_⟩;refine hK.out _ _ ⟨((HB.out.cell (World.block_lt_of_cell? w _ hw103_0)).trans hw103_0),((HB.out.cell (World.block_lt_of_cell? w _ hw103_1)).trans hw103_1)⟩ (fun hHeld=>?_);clear hK K;refine norm_ (a':=?_) ?_ ?_;rotate_left
    ·show Act.put _ (some 15) _ = _
     simp only [Act.put,za,zb,zc,i64_w,i32_w];rfl
    refine pure_ (i:=6) (N:=some 16) (v:=?_) (a':=?_) (pw 46 7) rfl rfl (any_of HT_.out (by kernel_rfl)) (fun _ _ _ h=>h) (Or.inl ⟨by rfl,?_⟩) ?_ ?_;rotate_left
    ·intro w';go_simp;with_reducible rfl
    rotate_left;·simp only [Act.put,za,zb,zc,i64_w,i32_w];rfl
    refine pure_ (i:=7) (N:=some 17) (v:=?_) (a':=?_) (pw 46 8) rfl rfl (any_of HT_.out (by kernel_rfl)) (fun _ _ _ h=>h) (Or.inl ⟨by rfl,?_⟩) ?_ ?_;rotate_left
    ·intro w';go_simp;with_reducible rfl
    rotate_left;·simp only [Act.put,za,zb,zc,i64_w,i32_w];rfl
    refine pure_ (i:=8) (N:=some 18) (v:=undef) (a':=?_) (pw 46 9) rfl rfl (any_of HT_.out (by kernel_rfl)) (fun _ _ _ h=>h) (Or.inr ⟨by rfl,rfl⟩) ?_ ?_;rotate_left;·simp only [Act.put,za,zb,zc,i64_w,i32_w];rfl
    refine pure_ (i:=9) (N:=some 19) (v:=undef) (a':=?_) (pw 46 10) rfl rfl (any_of HT_.out (by kernel_rfl)) (fun _ _ _ h=>h) (Or.inr ⟨by rfl,rfl⟩) ?_ ?_;rotate_left;·simp only [Act.put,za,zb,zc,i64_w,i32_w];rfl
    refine pure_ (i:=10) (N:=some 20) (v:=undef) (a':=?_) (pw 46 11) rfl rfl (any_of HT_.out (by kernel_rfl)) (fun _ _ _ h=>h) (Or.inr ⟨by rfl,rfl⟩) ?_ ?_;rotate_left;·simp only [Act.put,za,zb,zc,i64_w,i32_w];rfl
    refine pure_ (i:=11) (N:=some 21) (v:=undef) (a':=?_) (pw 46 12) rfl rfl (any_of HT_.out (by kernel_rfl)) (fun _ _ _ h=>h) (Or.inr ⟨by rfl,rfl⟩) ?_ ?_;rotate_left;·simp only [Act.put,za,zb,zc,i64_w,i32_w];rfl
    refine pure_ (i:=12) (N:=some 22) (v:=undef) (a':=?_) (pw 46 13) rfl rfl (any_of HT_.out (by kernel_rfl)) (fun _ _ _ h=>h) (Or.inr ⟨by rfl,rfl⟩) ?_ ?_;rotate_left;·simp only [Act.put,za,zb,zc,i64_w,i32_w];rfl
    refine pure_ (i:=13) (N:=some 23) (v:=undef) (a':=?_) (pw 46 14) rfl rfl (any_of HT_.out (by kernel_rfl)) (fun _ _ _ h=>h) (Or.inr ⟨by rfl,rfl⟩) ?_ ?_;rotate_left;·simp only [Act.put,za,zb,zc,i64_w,i32_w];rfl
    refine pure_ (i:=14) (N:=some 24) (v:=undef) (a':=?_) (pw 46 15) rfl rfl (any_of HT_.out (by kernel_rfl)) (fun _ _ _ h=>h) (Or.inr ⟨by rfl,rfl⟩) ?_ ?_;rotate_left;·simp only [Act.put,za,zb,zc,i64_w,i32_w];rfl
    refine pure_ (i:=15) (N:=some 25) (v:=?_) (a':=?_) (pw 46 16) rfl rfl (any_of HT_.out (by kernel_rfl)) (fun _ _ _ h=>h) (Or.inl ⟨by rfl,?_⟩) ?_ ?_;rotate_left
    ·intro w';go_simp;with_reducible rfl
    rotate_left;·simp only [Act.put,za,zb,zc,i64_w,i32_w];rfl
    refine pure_ (i:=16) (N:=some 26) (v:=?_) (a':=?_) (pw 46 17) rfl rfl (any_of HT_.out (by kernel_rfl)) (fun _ _ _ h=>h) (Or.inl ⟨by rfl,?_⟩) ?_ ?_;rotate_left
    ·intro w';go_simp;with_reducible rfl
    rotate_left;·simp only [Act.put,za,zb,zc,i64_w,i32_w];rfl
    refine pure_ (i:=17) (N:=some 27) (v:=undef) (a':=?_) (pw 46 18) rfl rfl (any_of HT_.out (by kernel_rfl)) (fun _ _ _ h=>h) (Or.inr ⟨by rfl,rfl⟩) ?_ ?_;rotate_left;·simp only [Act.put,za,zb,zc,i64_w,i32_w];rfl
    refine pure_ (i:=18) (N:=some 28) (v:=undef) (a':=?_) (pw 46 19) rfl rfl (any_of HT_.out (by kernel_rfl)) (fun _ _ _ h=>h) (Or.inr ⟨by rfl,rfl⟩) ?_ ?_;rotate_left;·simp only [Act.put,za,zb,zc,i64_w,i32_w];rfl
    refine pure_ (i:=19) (N:=some 29) (v:=undef) (a':=?_) (pw 46 20) rfl rfl (any_of HT_.out (by kernel_rfl)) (fun _ _ _ h=>h) (Or.inr ⟨by rfl,rfl⟩) ?_ ?_;rotate_left;·simp only [Act.put,za,zb,zc,i64_w,i32_w];rfl
    refine pure_ (i:=20) (N:=some 30) (v:=undef) (a':=?_) (pw 46 21) rfl rfl (any_of HT_.out (by kernel_rfl)) (fun _ _ _ h=>h) (Or.inr ⟨by rfl,rfl⟩) ?_ ?_;rotate_left;·simp only [Act.put,za,zb,zc,i64_w,i32_w];rfl
    refine pure_ (i:=21) (N:=some 31) (v:=undef) (a':=?_) (pw 46 22) rfl rfl (any_of HT_.out (by kernel_rfl)) (fun _ _ _ h=>h) (Or.inr ⟨by rfl,rfl⟩) ?_ ?_;rotate_left;·simp only [Act.put,za,zb,zc,i64_w,i32_w];rfl
    refine pure_ (i:=22) (N:=some 32) (v:=undef) (a':=?_) (pw 46 23) rfl rfl (any_of HT_.out (by kernel_rfl)) (fun _ _ _ h=>h) (Or.inr ⟨by rfl,rfl⟩) ?_ ?_;rotate_left;·simp only [Act.put,za,zb,zc,i64_w,i32_w];rfl
    refine pure_ (i:=23) (N:=some 33) (v:=undef) (a':=?_) (pw 46 24) rfl rfl (any_of HT_.out (by kernel_rfl)) (fun _ _ _ h=>h) (Or.inr ⟨by rfl,rfl⟩) ?_ ?_;rotate_left;·simp only [Act.put,za,zb,zc,i64_w,i32_w];rfl
    refine pure_ (i:=24) (N:=some 34) (v:=undef) (a':=?_) (pw 46 25) rfl rfl (any_of HT_.out (by kernel_rfl)) (fun _ _ _ h=>h) (Or.inr ⟨by rfl,rfl⟩) ?_ ?_;rotate_left;·simp only [Act.put,za,zb,zc,i64_w,i32_w];rfl
    refine pure_ (i:=25) (N:=some 35) (v:=undef) (a':=?_) (pw 46 26) rfl rfl (any_of HT_.out (by kernel_rfl)) (fun _ _ _ h=>h) (Or.inr ⟨by rfl,rfl⟩) ?_ ?_;rotate_left;·simp only [Act.put,za,zb,zc,i64_w,i32_w];rfl
    refine pure_ (i:=26) (N:=some 36) (v:=?_) (a':=?_) (pw 46 27) rfl rfl (any_of HT_.out (by kernel_rfl)) (fun _ _ _ h=>h) (Or.inl ⟨by rfl,?_⟩) ?_ ?_;rotate_left
    ·intro w';go_simp;with_reducible rfl
    rotate_left;·simp only [Act.put,za,zb,zc,i64_w,i32_w];rfl
    refine pure_ (i:=27) (N:=some 37) (v:=?_) (a':=?_) (pw 46 28) rfl rfl (any_of HT_.out (by kernel_rfl)) (fun _ _ _ h=>h) (Or.inl ⟨by rfl,?_⟩) ?_ ?_;rotate_left
    ·intro w';go_simp;with_reducible rfl
    rotate_left;·simp only [Act.put,za,zb,zc,i64_w,i32_w];rfl
    refine pure_ (i:=28) (N:=some 38) (v:=undef) (a':=?_) (pw 46 29) rfl rfl (any_of HT_.out (by kernel_rfl)) (fun _ _ _ h=>h) (Or.inr ⟨by rfl,rfl⟩) ?_ ?_;rotate_left;·simp only [Act.put,za,zb,zc,i64_w,i32_w];rfl
    refine pure_ (i:=29) (N:=some 39) (v:=undef) (a':=?_) (pw 46 30) rfl rfl (any_of HT_.out (by kernel_rfl)) (fun _ _ _ h=>h) (Or.inr ⟨by rfl,rfl⟩) ?_ ?_;rotate_left;·simp only [Act.put,za,zb,zc,i64_w,i32_w];rfl
    refine pure_ (i:=30) (N:=some 40) (v:=undef) (a':=?_) (pw 46 31) rfl rfl (any_of HT_.out (by kernel_rfl)) (fun _ _ _ h=>h) (Or.inr ⟨by rfl,rfl⟩) ?_ ?_;rotate_left;·simp only [Act.put,za,zb,zc,i64_w,i32_w];rfl
    refine pure_ (i:=31) (N:=some 41) (v:=undef) (a':=?_) (pw 46 32) rfl rfl (any_of HT_.out (by kernel_rfl)) (fun _ _ _ h=>h) (Or.inr ⟨by rfl,rfl⟩) ?_ ?_;rotate_left;·simp only [Act.put,za,zb,zc,i64_w,i32_w];rfl
    refine pure_ (i:=32) (N:=some 42) (v:=undef) (a':=?_) (pw 46 33) rfl rfl (any_of HT_.out (by kernel_rfl)) (fun _ _ _ h=>h) (Or.inr ⟨by rfl,rfl⟩) ?_ ?_;rotate_left;·simp only [Act.put,za,zb,zc,i64_w,i32_w];rfl
    refine pure_ (i:=33) (N:=some 43) (v:=undef) (a':=?_) (pw 46 34) rfl rfl (any_of HT_.out (by kernel_rfl)) (fun _ _ _ h=>h) (Or.inr ⟨by rfl,rfl⟩) ?_ ?_;rotate_left;·simp only [Act.put,za,zb,zc,i64_w,i32_w];rfl
    refine pure_ (i:=34) (N:=some 44) (v:=undef) (a':=?_) (pw 46 35) rfl rfl (any_of HT_.out (by kernel_rfl)) (fun _ _ _ h=>h) (Or.inr ⟨by rfl,rfl⟩) ?_ ?_;rotate_left;·simp only [Act.put,za,zb,zc,i64_w,i32_w];rfl
    refine pure_ (i:=35) (N:=some 45) (v:=undef) (a':=?_) (pw 46 36) rfl rfl (any_of HT_.out (by kernel_rfl)) (fun _ _ _ h=>h) (Or.inr ⟨by rfl,rfl⟩) ?_ ?_;rotate_left;·simp only [Act.put,za,zb,zc,i64_w,i32_w];rfl
    refine pure_ (i:=36) (N:=some 46) (v:=undef) (a':=?_) (pw 46 37) rfl rfl (any_of HT_.out (by kernel_rfl)) (fun _ _ _ h=>h) (Or.inr ⟨by rfl,rfl⟩) ?_ ?_;rotate_left;·simp only [Act.put,za,zb,zc,i64_w,i32_w];rfl
    refine pure_ (i:=37) (N:=some 47) (v:=undef) (a':=?_) (pw 46 38) rfl rfl (any_of HT_.out (by kernel_rfl)) (fun _ _ _ h=>h) (Or.inr ⟨by rfl,rfl⟩) ?_ ?_;rotate_left;·simp only [Act.put,za,zb,zc,i64_w,i32_w];rfl
    refine pure_ (i:=38) (N:=some 48) (v:=undef) (a':=?_) (pw 46 39) rfl rfl (any_of HT_.out (by kernel_rfl)) (fun _ _ _ h=>h) (Or.inr ⟨by rfl,rfl⟩) ?_ ?_;rotate_left;·simp only [Act.put,za,zb,zc,i64_w,i32_w];rfl
    refine pure_ (i:=39) (N:=some 49) (v:=undef) (a':=?_) (pw 46 40) rfl rfl (any_of HT_.out (by kernel_rfl)) (fun _ _ _ h=>h) (Or.inr ⟨by rfl,rfl⟩) ?_ ?_;rotate_left;·simp only [Act.put,za,zb,zc,i64_w,i32_w];rfl
    refine pure_ (i:=40) (N:=some 50) (v:=undef) (a':=?_) (pw 46 41) rfl rfl (any_of HT_.out (by kernel_rfl)) (fun _ _ _ h=>h) (Or.inr ⟨by rfl,rfl⟩) ?_ ?_;rotate_left;·simp only [Act.put,za,zb,zc,i64_w,i32_w];rfl
    refine pure_ (i:=41) (N:=some 51) (v:=undef) (a':=?_) (pw 46 42) rfl rfl (any_of HT_.out (by kernel_rfl)) (fun _ _ _ h=>h) (Or.inr ⟨by rfl,rfl⟩) ?_ ?_;rotate_left;·simp only [Act.put,za,zb,zc,i64_w,i32_w];rfl
    refine pure_ (i:=42) (N:=some 52) (v:=undef) (a':=?_) (pw 46 43) rfl rfl (any_of HT_.out (by kernel_rfl)) (fun _ _ _ h=>h) (Or.inr ⟨by rfl,rfl⟩) ?_ ?_;rotate_left;·simp only [Act.put,za,zb,zc,i64_w,i32_w];rfl
    refine pure_ (i:=43) (N:=some 53) (v:=undef) (a':=?_) (pw 46 44) rfl rfl (any_of HT_.out (by kernel_rfl)) (fun _ _ _ h=>h) (Or.inr ⟨by rfl,rfl⟩) ?_ ?_;rotate_left;·simp only [Act.put,za,zb,zc,i64_w,i32_w];rfl
    refine pure_ (i:=44) (N:=some 54) (v:=undef) (a':=?_) (pw 46 45) rfl rfl (any_of HT_.out (by kernel_rfl)) (fun _ _ _ h=>h) (Or.inr ⟨by rfl,rfl⟩) ?_ ?_;rotate_left;·simp only [Act.put,za,zb,zc,i64_w,i32_w];rfl
    refine pure_ (i:=45) (N:=some 55) (v:=?_) (a':=?_) (pw 46 46) rfl rfl (any_of HT_.out (by kernel_rfl)) (fun _ _ _ h=>h) (Or.inl ⟨by rfl,?_⟩) ?_ ?_;rotate_left
    ·intro w';go_simp;with_reducible rfl
    rotate_left;·simp only [Act.put,za,zb,zc,i64_w,i32_w];rfl
    refine done_ (done_of HT_.out (by kernel_rfl)) ?_
    try go_wp2
    go_ret
    exact ⟨by first | rfl | (simp [errW_none,errW_some] <;> rfl) | (simp [*,errW_none,errW_some] <;> rfl),laB HB.out⟩


end Go.Proofs.Ytockkelkdimehaa.P
