-- Written by this session's program mk.py with the kit's print program,out of the translation;not by hand. Lean checks it.
import Derived.Test.YtockkelkdimehaaP0
import Derived.Test.YtockkelkdimehaaSh
import Derived.Test.YtockkelkdimehaaHand
import Derived.Test.YtockkelkdimehaaMapX
import Derived.Test.YtockkelkdimehaaG52
import Derived.Test.YtockkelkdimehaaG89
namespace Go.Proofs.Ytockkelkdimehaa.P
open Go.RowKit Go.Proofs.YtockkelkdimehaaW.PrintWords Go.Proofs.YtockkelkdimehaaW.PrintLast Go.Proofs.YtockkelkdimehaaW.PrintMore
attribute [local go_sem] max2_int min2_int max_two min_two max_three min_three max_four min_four   -- for this text's walks alone
set_option linter.unusedVariables false
set_option linter.unusedSimpArgs false


/-! ### impl_TopDist: function 24 -/
def impl_TopDist.f (k : Nat) (l0 l1 : List S59) (l2_0 l2_1 l2_2 : List Int) : Option Int:=(impl_topdownOf.f k l0 l1 l2_0 l2_1 l2_2).bind fun t=>if t.2.2.2.2.2.2 = true then impl_topdown_dist.f k l0 l1 l2_0 l2_1 l2_2 1 0 0 else some (-1)
theorem impl_TopDist.mono : ∀ a0 a1 a2 a3 a4 k,LeO (impl_TopDist.f k a0 a1 a2 a3 a4) (impl_TopDist.f (k + 1) a0 a1 a2 a3 a4):=by
 intro a0 a1 a2 a3 a4 k
 unfold impl_TopDist.f
 exact LeO.bind (impl_topdownOf.mono _ _ _ _ _ _) (fun _=>LeO.ite (impl_topdown_dist.mono _ _ _ _ _ _ _ _ _) (LeO.refl _))
set_option maxHeartbeats 8000000 in
set_option maxRecDepth 100000 in
theorem impl_TopDist.calls (k : Nat) (A0 : Option Addr) (c0 : Nat) (l0 : List S59) (A1 : Option Addr) (c1 : Nat) (l1 : List S59) (A2_0 : Option Addr) (c2_0 : Nat) (l2_0 : List Int) (A2_1 : Option Addr) (c2_1 : Nat) (l2_1 : List Int) (A2_2 : Option Addr) (c2_2 : Nat) (l2_2 : List Int) (r : Int) (w : World)
  (hr0 : Kd.C k59 w A0 l0.length l0) (hc0 : l0.length ≤ c0) (hr1 : Kd.C k59 w A1 l1.length l1) (hc1 : l1.length ≤ c1) (hr2_0 : Kd.C (Kd.int .i64) w A2_0 l2_0.length l2_0) (hc2_0 : l2_0.length ≤ c2_0) (hr2_1 : Kd.C (Kd.int .i64) w A2_1 l2_1.length l2_1) (hc2_1 : l2_1.length ≤ c2_1) (hr2_2 : Kd.C (Kd.int .i64) w A2_2 l2_2.length l2_2) (hc2_2 : l2_2.length ≤ c2_2) (h : impl_TopDist.f k l0 l1 l2_0 l2_1 l2_2 = some r) :
  Calls Try.prog 24 #[.slice A0 l0.length c0,.slice A1 l1.length c1,.agg #[.slice A2_0 l2_0.length c2_0,.slice A2_1 l2_1.length c2_1,.slice A2_2 l2_2.length c2_2]] w fun e w'=>e = .returned (.int .i64 r) ∧ Below w.heap.size w w':=by
 obtain ⟨⟨t1,t2,t3,t4,t5,t6,t7⟩,ht,H⟩:=Option.bind_eq_some_iff.1 h
 clear h
 have HT:=Aside0.mk ht
 clear ht
 have HR0:=Aside0.mk hr0
 have HR1:=Aside0.mk hr1
 have HR2:=Aside0.mk hr2_0
 have HR3:=Aside0.mk hr2_1
 have HR4:=Aside0.mk hr2_2
 have HC:=Aside0.mk (And.intro hc0 (And.intro hc1 (And.intro hc2_0 (And.intro hc2_1 hc2_2))))
 clear hr0 hc0 hr1 hc1 hr2_0 hc2_0 hr2_1 hc2_1 hr2_2 hc2_2
 have HB:=Aside0.mk (Below.refl w.heap.size w)
 have hu70:=Try.underlying70
 have hu75:=Try.underlying75
 cases t7
 ·obtain rfl:=Option.some.inj ((if_neg (by simp)).symm.trans H)
  go_enter Try.func24,Try.ntmps24
  go_wp2_with (first | (go_at_call 52;(with_reducible refine (impl_topdownOf.calls k A0 c0 l0 A1 c1 l1 A2_0 c2_0 l2_0 A2_1 c2_1 l2_1 A2_2 c2_2 l2_2 _ _ ?s1 HC.out.1 ?s2 HC.out.2.1 ?s3 HC.out.2.2.1 ?s4 HC.out.2.2.2.1 ?s5 HC.out.2.2.2.2 HT.out).mono ?_);(case s1=>exact laC HR0.out);(case s2=>exact laC HR1.out);(case s3=>exact laC HR2.out);(case s4=>exact laC HR3.out);(case s5=>exact laC HR4.out);rintro e w1 ⟨MB_,rfl,hge,hma,hb⟩;replace HB:=Aside0.mk (below_step (laB HB.out) hb);clear hge hma hb))
  go_ret
  exact ⟨rfl,laB HB.out⟩
 ·replace H:=(if_pos rfl).symm.trans H
  have HD:=Aside0.mk (show impl_topdown_dist_O.f k l0 l1 l2_0 l2_1 l2_2 1 0 0 = some r from H);clear H
  go_enter Try.func24,Try.ntmps24
  go_wp2_with (first | (go_at_call 52;(with_reducible refine (impl_topdownOf.calls k A0 c0 l0 A1 c1 l1 A2_0 c2_0 l2_0 A2_1 c2_1 l2_1 A2_2 c2_2 l2_2 _ _ ?s1 HC.out.1 ?s2 HC.out.2.1 ?s3 HC.out.2.2.1 ?s4 HC.out.2.2.2.1 ?s5 HC.out.2.2.2.2 HT.out).mono ?_);(case s1=>exact laC HR0.out);(case s2=>exact laC HR1.out);(case s3=>exact laC HR2.out);(case s4=>exact laC HR3.out);(case s5=>exact laC HR4.out);rintro e w1 ⟨MB_,rfl,hge,hma,hb⟩;have HGE:=Aside0.mk (Nat.le_trans (below_size (laB HB.out)) hge);replace HB:=Aside0.mk (below_step (laB HB.out) hb);have HM:=Aside0.mk (show MI MB_ (impl_topdown_dist_C.MP l0 l1 l2_0 l2_1 l2_2 1) w1 from ⟨_,hma,#[],0,rfl,fun y hy=>by simp at hy⟩);clear hge hma hb) | (go_at_call 53;(with_reducible refine (impl_topdown_dist_C.calls MB_ k A0 c0 l0 A1 c1 l1 A2_0 c2_0 l2_0 A2_1 c2_1 l2_1 A2_2 c2_2 l2_2 1 0 0 r _ ?s1 HC.out.1 ?s2 HC.out.2.1 ?s3 HC.out.2.2.1 ?s4 HC.out.2.2.2.1 ?s5 HC.out.2.2.2.2 HD.out ?s6).mono ?_);(case s1=>exact laC (Kd.C_below HR0.out HB.out));(case s2=>exact laC (Kd.C_below HR1.out HB.out));(case s3=>exact laC (Kd.C_below HR2.out HB.out));(case s4=>exact laC (Kd.C_below HR3.out HB.out));(case s5=>exact laC (Kd.C_below HR4.out HB.out));(case s6=>exact mx_miA HM.out);rintro e w2 ⟨rfl,hb⟩;replace HB:=Aside0.mk (mx_end (laB HB.out) hb HGE.out);clear hb))
  go_ret
  exact ⟨rfl,laB HB.out⟩


end Go.Proofs.Ytockkelkdimehaa.P
