-- Written by this session's program mk.py with the kit's print program,out of the translation;not by hand. Lean checks it.
import Derived.Test.YtockkelkdimehaaP0
import Derived.Test.YtockkelkdimehaaSh
import Derived.Test.YtockkelkdimehaaHand
import Derived.Test.YtockkelkdimehaaMapX
import Derived.Test.YtockkelkdimehaaG102
import Derived.Test.YtockkelkdimehaaG127
import Derived.Test.YtockkelkdimehaaG52
import Derived.Test.YtockkelkdimehaaG58
namespace Go.Proofs.Ytockkelkdimehaa.P
open Go.RowKit Go.Proofs.YtockkelkdimehaaW.PrintWords Go.Proofs.YtockkelkdimehaaW.PrintLast Go.Proofs.YtockkelkdimehaaW.PrintMore
attribute [local go_sem] max2_int min2_int max_two min_two max_three min_three max_four min_four   -- for this text's walks alone
set_option linter.unusedVariables false
set_option linter.unusedSimpArgs false


/-! ### impl_topdown_table: function 89 -/
class impl_topdown_dist_O where
  f : Nat → (List (S59)) → (List (S59)) → (List Int) → (List Int) → (List Int) → Int → Int → Int → Option Int
  mono : ∀ a0 a1 a2 a3 a4 a5 a6 a7 k,LeO (f k a0 a1 a2 a3 a4 a5 a6 a7) (f (k + 1) a0 a1 a2 a3 a4 a5 a6 a7)
section
variable [impl_topdown_dist_O]
mutual
def impl_topdown_table.l0 : Nat → List Int → List Int → List (List Int) → List Int → Int → Int → List (S59) → List (S59) → List Int → List Int → List Int → Int → Option ((List (List Int)))
 | 0,_,_,_,_,_,_,_,_,_,_,_,_=>none
 | k + 1,x5,x6,x7,x27,x28,x29,x620000,x620001,x620002,x620003,x620004,x620005=>if x29 < x28 then (if 0 ≤ x29 then (if x29 < (x27.length : Int) then (if 0 < (x7.length : Int) then (if x29 < ((rd_L3 x7 0).length : Int) then ((impl_topdown_ins.f k x620000 x620001 x620002 x620003 x620004 x620005 (rd x27 x29)).bind fun t637=>(if (rd_L3 x7 0).length < 17592186044416 then (impl_topdown_table.l0 k x5 x6 (x7.set (0 : Int).toNat ((rd_L3 x7 0) ++ [wrap64 ((rd (rd_L3 x7 0) x29) + t637)])) x27 x28 (wrap64 (x29 + 1)) x620000 x620001 x620002 x620003 x620004 x620005) else (none))) else (none)) else (none)) else (none)) else (none)) else (impl_topdown_table.l1 k x6 x7 x5 (x5.length : Int) 0 x620000 x620001 x620002 x620003 x620004 x620005)
def impl_topdown_table.l1 : Nat → List Int → List (List Int) → List Int → Int → Int → List (S59) → List (S59) → List Int → List Int → List Int → Int → Option ((List (List Int)))
 | 0,_,_,_,_,_,_,_,_,_,_,_=>none
 | k + 1,x6,x7,x52,x53,x54,x620000,x620001,x620002,x620003,x620004,x620005=>if x54 < x53 then (if 0 ≤ x54 then (if x54 < (x52.length : Int) then (if x54 < (x7.length : Int) then (if 0 < ((rd_L3 x7 x54).length : Int) then ((impl_topdown_del.f k x620000 x620001 x620002 x620003 x620004 x620005 (rd x52 x54)).bind fun t645=>(impl_topdown_table.l2 k x6 x7 x54 (rd x52 x54) (([wrap64 ((rd (rd_L3 x7 x54) 0) + t645)] : List Int)) x52 x53 x54 x6 (x6.length : Int) 0 x620000 x620001 x620002 x620003 x620004 x620005)) else (none)) else (none)) else (none)) else (none)) else (some x7)
def impl_topdown_table.l2 : Nat → List Int → List (List Int) → Int → Int → List Int → List Int → Int → Int → List Int → Int → Int → List (S59) → List (S59) → List Int → List Int → List Int → Int → Option ((List (List Int)))
 | 0,_,_,_,_,_,_,_,_,_,_,_,_,_,_,_,_,_=>none
 | k + 1,x6,x7,x10,x11,x12,x52,x53,x54,x70,x71,x72,x620000,x620001,x620002,x620003,x620004,x620005=>if x72 < x71 then (if 0 ≤ x72 then (if x72 < (x70.length : Int) then (if 0 ≤ x10 then (if x10 < (x7.length : Int) then (if 0 ≤ (wrap64 (x72 + 1)) then (if (wrap64 (x72 + 1)) < ((rd_L3 x7 x10).length : Int) then ((impl_topdown_del.f k x620000 x620001 x620002 x620003 x620004 x620005 x11).bind fun t652=>(if x72 < (x12.length : Int) then ((impl_topdown_ins.f k x620000 x620001 x620002 x620003 x620004 x620005 (rd x70 x72)).bind fun t654=>(if x72 < ((rd_L3 x7 x10).length : Int) then ((impl_topdown_dist_O.f k x620000 x620001 x620002 x620003 x620004 x620005 x11 (rd x70 x72)).bind fun t657=>(if x12.length < 17592186044416 then (impl_topdown_table.l2 k x6 x7 x10 x11 (x12 ++ [mn (mn (wrap64 ((rd (rd_L3 x7 x10) (wrap64 (x72 + 1))) + t652)) (wrap64 ((rd x12 x72) + t654))) (wrap64 ((rd (rd_L3 x7 x10) x72) + t657))]) x52 x53 x54 x70 x71 (wrap64 (x72 + 1)) x620000 x620001 x620002 x620003 x620004 x620005) else (none))) else (none))) else (none))) else (none)) else (none)) else (none)) else (none)) else (none)) else (none)) else (if x7.length < 5864062014805 then (impl_topdown_table.l1 k x6 (x7 ++ [x12]) x52 x53 (wrap64 (x54 + 1)) x620000 x620001 x620002 x620003 x620004 x620005) else (none))
end
def impl_topdown_table.f (k : Nat) (l0_0 : List (S59)) (l0_1 : List (S59)) (l0_2 : List Int) (l0_3 : List Int) (l0_4 : List Int) (a0_5 : Int) (a1_0 : Int) (a1_1 : Int) : Option ((List (List Int))):=(impl_KidsOf.f k l0_0 a1_0).bind fun t621=>((impl_KidsOf.f k l0_1 a1_1).bind fun t624=>(impl_topdown_table.l0 k t621 t624 (([(([0] : List Int))] : List (List Int))) t624 (t624.length : Int) 0 l0_0 l0_1 l0_2 l0_3 l0_4 a0_5))
theorem impl_topdown_table.mono_l : ∀ k,(∀ y0 y1 y2 y3 y4 y5 y6 y7 y8 y9 y10 y11,LeO (impl_topdown_table.l0 k y0 y1 y2 y3 y4 y5 y6 y7 y8 y9 y10 y11) (impl_topdown_table.l0 (k + 1) y0 y1 y2 y3 y4 y5 y6 y7 y8 y9 y10 y11)) ∧ (∀ y0 y1 y2 y3 y4 y5 y6 y7 y8 y9 y10,LeO (impl_topdown_table.l1 k y0 y1 y2 y3 y4 y5 y6 y7 y8 y9 y10) (impl_topdown_table.l1 (k + 1) y0 y1 y2 y3 y4 y5 y6 y7 y8 y9 y10)) ∧ (∀ y0 y1 y2 y3 y4 y5 y6 y7 y8 y9 y10 y11 y12 y13 y14 y15 y16,LeO (impl_topdown_table.l2 k y0 y1 y2 y3 y4 y5 y6 y7 y8 y9 y10 y11 y12 y13 y14 y15 y16) (impl_topdown_table.l2 (k + 1) y0 y1 y2 y3 y4 y5 y6 y7 y8 y9 y10 y11 y12 y13 y14 y15 y16))
 | 0=>⟨fun _ _ _ _ _ _ _ _ _ _ _ _ r h=>by simp [impl_topdown_table.l0] at h,fun _ _ _ _ _ _ _ _ _ _ _ r h=>by simp [impl_topdown_table.l1] at h,fun _ _ _ _ _ _ _ _ _ _ _ _ _ _ _ _ _ r h=>by simp [impl_topdown_table.l2] at h⟩
 | k + 1=>by
  obtain ⟨ih0,ih1,ih2⟩:=impl_topdown_table.mono_l k
  refine ⟨?_,?_,?_⟩
  ·intro y0 y1 y2 y3 y4 y5 y6 y7 y8 y9 y10 y11
   unfold impl_topdown_table.l0
   repeat' first
   | (with_reducible exact ih0 _ _ _ _ _ _ _ _ _ _ _ _)
   | (with_reducible exact ih1 _ _ _ _ _ _ _ _ _ _ _)
   | (with_reducible exact ih2 _ _ _ _ _ _ _ _ _ _ _ _ _ _ _ _ _)
   | (with_reducible exact impl_KidsOf.mono _ _ _)
   | (with_reducible exact impl_topdown_del.mono _ _ _ _ _ _ _ _)
   | (with_reducible exact impl_topdown_dist_O.mono _ _ _ _ _ _ _ _ _)
   | (with_reducible exact impl_topdown_ins.mono _ _ _ _ _ _ _ _)
   | (with_reducible exact LeO.refl _)
   | (with_reducible exact LeO.none _)
   | (with_reducible refine LeO.ite ?_ ?_)
   | (with_reducible refine LeO.bind ?_ (fun _=>?_))
   | exact ih0 _ _ _ _ _ _ _ _ _ _ _ _
   | exact ih1 _ _ _ _ _ _ _ _ _ _ _
   | exact ih2 _ _ _ _ _ _ _ _ _ _ _ _ _ _ _ _ _
   | exact impl_KidsOf.mono _ _ _
   | exact impl_topdown_del.mono _ _ _ _ _ _ _ _
   | exact impl_topdown_dist_O.mono _ _ _ _ _ _ _ _ _
   | exact impl_topdown_ins.mono _ _ _ _ _ _ _ _
   | exact LeO.none _
   | refine LeO.ite ?_ ?_
   | refine LeO.bind ?_ (fun _=>?_)
  ·intro y0 y1 y2 y3 y4 y5 y6 y7 y8 y9 y10
   unfold impl_topdown_table.l1
   repeat' first
   | (with_reducible exact ih0 _ _ _ _ _ _ _ _ _ _ _ _)
   | (with_reducible exact ih1 _ _ _ _ _ _ _ _ _ _ _)
   | (with_reducible exact ih2 _ _ _ _ _ _ _ _ _ _ _ _ _ _ _ _ _)
   | (with_reducible exact impl_KidsOf.mono _ _ _)
   | (with_reducible exact impl_topdown_del.mono _ _ _ _ _ _ _ _)
   | (with_reducible exact impl_topdown_dist_O.mono _ _ _ _ _ _ _ _ _)
   | (with_reducible exact impl_topdown_ins.mono _ _ _ _ _ _ _ _)
   | (with_reducible exact LeO.refl _)
   | (with_reducible exact LeO.none _)
   | (with_reducible refine LeO.ite ?_ ?_)
   | (with_reducible refine LeO.bind ?_ (fun _=>?_))
   | exact ih0 _ _ _ _ _ _ _ _ _ _ _ _
   | exact ih1 _ _ _ _ _ _ _ _ _ _ _
   | exact ih2 _ _ _ _ _ _ _ _ _ _ _ _ _ _ _ _ _
   | exact impl_KidsOf.mono _ _ _
   | exact impl_topdown_del.mono _ _ _ _ _ _ _ _
   | exact impl_topdown_dist_O.mono _ _ _ _ _ _ _ _ _
   | exact impl_topdown_ins.mono _ _ _ _ _ _ _ _
   | exact LeO.none _
   | refine LeO.ite ?_ ?_
   | refine LeO.bind ?_ (fun _=>?_)
  ·intro y0 y1 y2 y3 y4 y5 y6 y7 y8 y9 y10 y11 y12 y13 y14 y15 y16
   unfold impl_topdown_table.l2
   repeat' first
   | (with_reducible exact ih0 _ _ _ _ _ _ _ _ _ _ _ _)
   | (with_reducible exact ih1 _ _ _ _ _ _ _ _ _ _ _)
   | (with_reducible exact ih2 _ _ _ _ _ _ _ _ _ _ _ _ _ _ _ _ _)
   | (with_reducible exact impl_KidsOf.mono _ _ _)
   | (with_reducible exact impl_topdown_del.mono _ _ _ _ _ _ _ _)
   | (with_reducible exact impl_topdown_dist_O.mono _ _ _ _ _ _ _ _ _)
   | (with_reducible exact impl_topdown_ins.mono _ _ _ _ _ _ _ _)
   | (with_reducible exact LeO.refl _)
   | (with_reducible exact LeO.none _)
   | (with_reducible refine LeO.ite ?_ ?_)
   | (with_reducible refine LeO.bind ?_ (fun _=>?_))
   | exact ih0 _ _ _ _ _ _ _ _ _ _ _ _
   | exact ih1 _ _ _ _ _ _ _ _ _ _ _
   | exact ih2 _ _ _ _ _ _ _ _ _ _ _ _ _ _ _ _ _
   | exact impl_KidsOf.mono _ _ _
   | exact impl_topdown_del.mono _ _ _ _ _ _ _ _
   | exact impl_topdown_dist_O.mono _ _ _ _ _ _ _ _ _
   | exact impl_topdown_ins.mono _ _ _ _ _ _ _ _
   | exact LeO.none _
   | refine LeO.ite ?_ ?_
   | refine LeO.bind ?_ (fun _=>?_)
theorem impl_topdown_table.mono : ∀ a0 a1 a2 a3 a4 a5 a6 a7 k,LeO (impl_topdown_table.f k a0 a1 a2 a3 a4 a5 a6 a7) (impl_topdown_table.f (k + 1) a0 a1 a2 a3 a4 a5 a6 a7):=by
 intro a0 a1 a2 a3 a4 a5 a6 a7 k
 obtain ⟨ih0,ih1,ih2⟩:=impl_topdown_table.mono_l k
 unfold impl_topdown_table.f
 repeat' first
   | (with_reducible exact ih0 _ _ _ _ _ _ _ _ _ _ _ _)
   | (with_reducible exact ih1 _ _ _ _ _ _ _ _ _ _ _)
   | (with_reducible exact ih2 _ _ _ _ _ _ _ _ _ _ _ _ _ _ _ _ _)
   | (with_reducible exact impl_KidsOf.mono _ _ _)
   | (with_reducible exact impl_topdown_del.mono _ _ _ _ _ _ _ _)
   | (with_reducible exact impl_topdown_dist_O.mono _ _ _ _ _ _ _ _ _)
   | (with_reducible exact impl_topdown_ins.mono _ _ _ _ _ _ _ _)
   | (with_reducible exact LeO.refl _)
   | (with_reducible exact LeO.none _)
   | (with_reducible refine LeO.ite ?_ ?_)
   | (with_reducible refine LeO.bind ?_ (fun _=>?_))
   | exact ih0 _ _ _ _ _ _ _ _ _ _ _ _
   | exact ih1 _ _ _ _ _ _ _ _ _ _ _
   | exact ih2 _ _ _ _ _ _ _ _ _ _ _ _ _ _ _ _ _
   | exact impl_KidsOf.mono _ _ _
   | exact impl_topdown_del.mono _ _ _ _ _ _ _ _
   | exact impl_topdown_dist_O.mono _ _ _ _ _ _ _ _ _
   | exact impl_topdown_ins.mono _ _ _ _ _ _ _ _
   | exact LeO.none _
   | refine LeO.ite ?_ ?_
   | refine LeO.bind ?_ (fun _=>?_)
end
theorem impl_topdown_table.omono_l {O O' : impl_topdown_dist_O} (K : Nat) (ho : ∀ j,j < K → ∀ y0 y1 y2 y3 y4 y5 y6 y7,LeO (@impl_topdown_dist_O.f O j y0 y1 y2 y3 y4 y5 y6 y7) (@impl_topdown_dist_O.f O' j y0 y1 y2 y3 y4 y5 y6 y7)) : ∀ k,k ≤ K → (∀ y0 y1 y2 y3 y4 y5 y6 y7 y8 y9 y10 y11,LeO (@impl_topdown_table.l0 O k y0 y1 y2 y3 y4 y5 y6 y7 y8 y9 y10 y11) (@impl_topdown_table.l0 O' k y0 y1 y2 y3 y4 y5 y6 y7 y8 y9 y10 y11)) ∧ (∀ y0 y1 y2 y3 y4 y5 y6 y7 y8 y9 y10,LeO (@impl_topdown_table.l1 O k y0 y1 y2 y3 y4 y5 y6 y7 y8 y9 y10) (@impl_topdown_table.l1 O' k y0 y1 y2 y3 y4 y5 y6 y7 y8 y9 y10)) ∧ (∀ y0 y1 y2 y3 y4 y5 y6 y7 y8 y9 y10 y11 y12 y13 y14 y15 y16,LeO (@impl_topdown_table.l2 O k y0 y1 y2 y3 y4 y5 y6 y7 y8 y9 y10 y11 y12 y13 y14 y15 y16) (@impl_topdown_table.l2 O' k y0 y1 y2 y3 y4 y5 y6 y7 y8 y9 y10 y11 y12 y13 y14 y15 y16))
  | 0,_=>⟨fun _ _ _ _ _ _ _ _ _ _ _ _ r h=>by simp [impl_topdown_table.l0] at h,fun _ _ _ _ _ _ _ _ _ _ _ r h=>by simp [impl_topdown_table.l1] at h,fun _ _ _ _ _ _ _ _ _ _ _ _ _ _ _ _ _ r h=>by simp [impl_topdown_table.l2] at h⟩
  | k + 1,hk=>by
    have ih:=impl_topdown_table.omono_l K ho k (by omega)
    obtain ⟨ih0,ih1,ih2⟩:=ih
    refine ⟨?_,?_,?_⟩
    · intro y0 y1 y2 y3 y4 y5 y6 y7 y8 y9 y10 y11
      unfold impl_topdown_table.l0
      repeat' first
      | (with_reducible exact ih0 _ _ _ _ _ _ _ _ _ _ _ _)
      | (with_reducible exact ih1 _ _ _ _ _ _ _ _ _ _ _)
      | (with_reducible exact ih2 _ _ _ _ _ _ _ _ _ _ _ _ _ _ _ _ _)
      | (with_reducible exact ho k (by omega) _ _ _ _ _ _ _ _)
      | (with_reducible exact LeO.refl _)
      | (with_reducible refine LeO.ite ?_ ?_)
      | (with_reducible refine LeO.bind ?_ (fun _=>?_))
      | exact ih0 _ _ _ _ _ _ _ _ _ _ _ _
      | exact ih1 _ _ _ _ _ _ _ _ _ _ _
      | exact ih2 _ _ _ _ _ _ _ _ _ _ _ _ _ _ _ _ _
      | exact ho k (by omega) _ _ _ _ _ _ _ _
      | exact LeO.refl _
      | refine LeO.ite ?_ ?_
      | refine LeO.bind ?_ (fun _=>?_)
    · intro y0 y1 y2 y3 y4 y5 y6 y7 y8 y9 y10
      unfold impl_topdown_table.l1
      repeat' first
      | (with_reducible exact ih0 _ _ _ _ _ _ _ _ _ _ _ _)
      | (with_reducible exact ih1 _ _ _ _ _ _ _ _ _ _ _)
      | (with_reducible exact ih2 _ _ _ _ _ _ _ _ _ _ _ _ _ _ _ _ _)
      | (with_reducible exact ho k (by omega) _ _ _ _ _ _ _ _)
      | (with_reducible exact LeO.refl _)
      | (with_reducible refine LeO.ite ?_ ?_)
      | (with_reducible refine LeO.bind ?_ (fun _=>?_))
      | exact ih0 _ _ _ _ _ _ _ _ _ _ _ _
      | exact ih1 _ _ _ _ _ _ _ _ _ _ _
      | exact ih2 _ _ _ _ _ _ _ _ _ _ _ _ _ _ _ _ _
      | exact ho k (by omega) _ _ _ _ _ _ _ _
      | exact LeO.refl _
      | refine LeO.ite ?_ ?_
      | refine LeO.bind ?_ (fun _=>?_)
    · intro y0 y1 y2 y3 y4 y5 y6 y7 y8 y9 y10 y11 y12 y13 y14 y15 y16
      unfold impl_topdown_table.l2
      repeat' first
      | (with_reducible exact ih0 _ _ _ _ _ _ _ _ _ _ _ _)
      | (with_reducible exact ih1 _ _ _ _ _ _ _ _ _ _ _)
      | (with_reducible exact ih2 _ _ _ _ _ _ _ _ _ _ _ _ _ _ _ _ _)
      | (with_reducible exact ho k (by omega) _ _ _ _ _ _ _ _)
      | (with_reducible exact LeO.refl _)
      | (with_reducible refine LeO.ite ?_ ?_)
      | (with_reducible refine LeO.bind ?_ (fun _=>?_))
      | exact ih0 _ _ _ _ _ _ _ _ _ _ _ _
      | exact ih1 _ _ _ _ _ _ _ _ _ _ _
      | exact ih2 _ _ _ _ _ _ _ _ _ _ _ _ _ _ _ _ _
      | exact ho k (by omega) _ _ _ _ _ _ _ _
      | exact LeO.refl _
      | refine LeO.ite ?_ ?_
      | refine LeO.bind ?_ (fun _=>?_)
theorem impl_topdown_table.omono {O O' : impl_topdown_dist_O} (K : Nat) (ho : ∀ j,j < K → ∀ a0 a1 a2 a3 a4 a5 a6 a7,LeO (@impl_topdown_dist_O.f O j a0 a1 a2 a3 a4 a5 a6 a7) (@impl_topdown_dist_O.f O' j a0 a1 a2 a3 a4 a5 a6 a7)) (l0_0 : List (S59)) (l0_1 : List (S59)) (l0_2 : List Int) (l0_3 : List Int) (l0_4 : List Int) (a0_5 : Int) (a1_0 : Int) (a1_1 : Int) : LeO (@impl_topdown_table.f O K l0_0 l0_1 l0_2 l0_3 l0_4 a0_5 a1_0 a1_1) (@impl_topdown_table.f O' K l0_0 l0_1 l0_2 l0_3 l0_4 a0_5 a1_0 a1_1):=by
  obtain ⟨ih0,ih1,ih2⟩:=impl_topdown_table.omono_l K ho K (Nat.le_refl _)
  unfold impl_topdown_table.f
  exact LeO.bind (LeO.refl _) (fun _=>LeO.bind (LeO.refl _) (fun _=>ih0 _ _ _ _ _ _ _ _ _ _ _ _))
def impl_topdown_table.T1 : Bool × List (List Nat × List Nat):=(true,[([],[]),([0],[0]),([],[]),([2],[2]),([1,3],[1,3]),([],[]),([5],[5]),([],[]),([7],[7]),([6,8,4],[6,8]),([4,9,0,1,2,3,4],[4]),([9,10,0,1,2,3,4,5,6,7,8,9,10],[9])])
def impl_topdown_table.B1 : List Nat:=[0,1,0,4,15,0,32,0,128,511,1023,2047]
theorem impl_topdown_table.tab1 : rtab .any (opsOf Try.f89 1) = impl_topdown_table.T1:=by kernel_rfl
theorem impl_topdown_table.bits1 : waitsOk impl_topdown_table.T1.2 impl_topdown_table.B1 = true:=by kernel_rfl
def impl_topdown_table.T6 : Bool × List (List Nat × List Nat):=(true,[([],[]),([],[]),([1],[1]),([2],[2]),([],[]),([4],[4]),([5],[5]),([],[]),([6,7],[6,7]),([8],[8]),([],[]),([],[]),([10,11],[10,11]),([9,12],[9,12]),([13],[13]),([3,14,12],[3,14]),([0,0,1,2,3,4,5,6,7,8,9,10,11,12,13,14,15],[0]),([16,15,15,0,1,2,3,4,5,6,7,8,9,10,11,12,13,14,15],[15,16])])
def impl_topdown_table.B6 : List Nat:=[0,0,2,6,0,16,48,0,240,496,0,0,3072,8176,16368,32766,65535,131071]
theorem impl_topdown_table.tab6 : rtab .any (opsOf Try.f89 6) = impl_topdown_table.T6:=by kernel_rfl
theorem impl_topdown_table.bits6 : waitsOk impl_topdown_table.T6.2 impl_topdown_table.B6 = true:=by kernel_rfl
def impl_topdown_table.T11 : Bool × List (List Nat × List Nat):=(true,[([],[]),([],[]),([0,1],[0,1]),([2],[2]),([3],[3]),([4],[4]),([],[]),([],[]),([6,7],[6,7]),([5,8],[5,8]),([9],[9]),([10,8,0,1,2,3,4,5,6,7,8,9,10],[10])])
def impl_topdown_table.B11 : List Nat:=[0,0,3,7,15,31,0,0,192,511,1023,2047]
theorem impl_topdown_table.tab11 : rtab .any (opsOf Try.f89 11) = impl_topdown_table.T11:=by kernel_rfl
theorem impl_topdown_table.bits11 : waitsOk impl_topdown_table.T11.2 impl_topdown_table.B11 = true:=by kernel_rfl
def impl_topdown_table.T15 : Bool × List (List Nat × List Nat):=(true,[([],[]),([],[]),([],[]),([1,2],[1,2]),([3],[3]),([],[]),([5],[5]),([4,6],[4,6]),([7],[7]),([],[]),([],[]),([9,10],[9,10]),([8,11],[8,11]),([],[]),([],[]),([13,14],[13,14]),([15],[15]),([],[]),([],[]),([17,18,11],[17,18]),([16,19],[16,19]),([],[]),([],[]),([21,22],[21,22]),([23],[23]),([],[]),([24,25],[24,25]),([26],[26]),([],[]),([],[]),([],[]),([29,30],[29,30]),([28,31,19],[28,31]),([27,32],[27,32]),([12,20,33],[12,20,33]),([34],[34]),([0,35,32],[0,35]),([36,36,0,1,2,3,4,5,6,7,8,9,10,11,12,13,14,15,16,17,18,19,20,21,22,23,24,25,26,27,28,29,30,31,32,33,34,35,36],[0,13,36])])
def impl_topdown_table.B15 : List Nat:=[0,0,0,6,14,0,32,126,254,0,0,1536,4094,0,0,24576,57344,0,0,396800,1043968,0,0,6291456,14680064,0,65011712,132120576,0,0,0,1610612736,4027452928,8588758528,17179869182,34359738366,68719476735,137438953471]
theorem impl_topdown_table.tab15 : rtab .any (opsOf Try.f89 15) = impl_topdown_table.T15:=by kernel_rfl
theorem impl_topdown_table.bits15 : waitsOk impl_topdown_table.T15.2 impl_topdown_table.B15 = true:=by kernel_rfl
class impl_topdown_dist_C [impl_topdown_dist_O] where
  MP : (List (S59)) → (List (S59)) → (List Int) → (List Int) → (List Int) → Int → Obj → Prop
  calls : ∀ (MB_ : Nat) (k : Nat) (A0_0 : Option Addr) (c0_0 : Nat) (l0_0 : List (S59)) (A0_1 : Option Addr) (c0_1 : Nat) (l0_1 : List (S59)) (A0_2 : Option Addr) (c0_2 : Nat) (l0_2 : List Int) (A0_3 : Option Addr) (c0_3 : Nat) (l0_3 : List Int) (A0_4 : Option Addr) (c0_4 : Nat) (l0_4 : List Int) (a0_5 : Int) (a1_0 : Int) (a1_1 : Int) (r : Int) (w : World) (hr0_0 : Kd.C k59 w A0_0 l0_0.length l0_0) (hc0_0 : l0_0.length ≤ c0_0) (hr0_1 : Kd.C k59 w A0_1 l0_1.length l0_1) (hc0_1 : l0_1.length ≤ c0_1) (hr0_2 : Kd.C (Kd.int .i64) w A0_2 l0_2.length l0_2) (hc0_2 : l0_2.length ≤ c0_2) (hr0_3 : Kd.C (Kd.int .i64) w A0_3 l0_3.length l0_3) (hc0_3 : l0_3.length ≤ c0_3) (hr0_4 : Kd.C (Kd.int .i64) w A0_4 l0_4.length l0_4) (hc0_4 : l0_4.length ≤ c0_4) (h : impl_topdown_dist_O.f k l0_0 l0_1 l0_2 l0_3 l0_4 a0_5 a1_0 a1_1 = some r) (hG : MI MB_ (MP l0_0 l0_1 l0_2 l0_3 l0_4 a0_5) w),Calls Try.prog 53 #[.agg #[.slice A0_0 l0_0.length c0_0,.slice A0_1 l0_1.length c0_1,.slice A0_2 l0_2.length c0_2,.slice A0_3 l0_3.length c0_3,.slice A0_4 l0_4.length c0_4,.map (some MB_)],.agg #[.int .i64 a1_0,.int .i64 a1_1]] w fun e w'=>e = .returned (.int .i64 r) ∧ BelowX MB_ (MP l0_0 l0_1 l0_2 l0_3 l0_4 a0_5) w.heap.size w w'
section
variable [impl_topdown_dist_O] [impl_topdown_dist_C]
set_option maxHeartbeats 8000000 in
set_option maxRecDepth 100000 in
theorem impl_topdown_table.calls (MB_ : Nat) (k : Nat) (A0_0 : Option Addr) (c0_0 : Nat) (l0_0 : List (S59)) (A0_1 : Option Addr) (c0_1 : Nat) (l0_1 : List (S59)) (A0_2 : Option Addr) (c0_2 : Nat) (l0_2 : List Int) (A0_3 : Option Addr) (c0_3 : Nat) (l0_3 : List Int) (A0_4 : Option Addr) (c0_4 : Nat) (l0_4 : List Int) (a0_5 : Int) (a1_0 : Int) (a1_1 : Int) (r : List (List Int)) (w : World) (hr0_0 : Kd.C k59 w A0_0 l0_0.length l0_0) (hc0_0 : l0_0.length ≤ c0_0) (hr0_1 : Kd.C k59 w A0_1 l0_1.length l0_1) (hc0_1 : l0_1.length ≤ c0_1) (hr0_2 : Kd.C (Kd.int .i64) w A0_2 l0_2.length l0_2) (hc0_2 : l0_2.length ≤ c0_2) (hr0_3 : Kd.C (Kd.int .i64) w A0_3 l0_3.length l0_3) (hc0_3 : l0_3.length ≤ c0_3) (hr0_4 : Kd.C (Kd.int .i64) w A0_4 l0_4.length l0_4) (hc0_4 : l0_4.length ≤ c0_4) (h : impl_topdown_table.f k l0_0 l0_1 l0_2 l0_3 l0_4 a0_5 a1_0 a1_1 = some r) (hG : MI MB_ (impl_topdown_dist_C.MP l0_0 l0_1 l0_2 l0_3 l0_4 a0_5) w) :
  Calls Try.prog 89 #[.agg #[.slice A0_0 l0_0.length c0_0,.slice A0_1 l0_1.length c0_1,.slice A0_2 l0_2.length c0_2,.slice A0_3 l0_3.length c0_3,.slice A0_4 l0_4.length c0_4,.map (some MB_)],.agg #[.int .i64 a1_0,.int .i64 a1_1]] w fun e w'=>∃ v0_ : Value,e = .returned (v0_) ∧ Kd.S (Kd.slice 3 (Kd.int .i64)) 24 w' w.heap.size (fun _=>True) v0_ r ∧ BelowX MB_ (impl_topdown_dist_C.MP l0_0 l0_1 l0_2 l0_3 l0_4 a0_5) w.heap.size w w':=by
 have hu70:=Try.underlying70
 have hu75:=Try.underlying75
 have HR0_0:=Aside0.mk hr0_0
 have HC0_0:=Aside0.mk hc0_0
 clear hr0_0 hc0_0
 have HR0_1:=Aside0.mk hr0_1
 have HC0_1:=Aside0.mk hc0_1
 clear hr0_1 hc0_1
 have HR0_2:=Aside0.mk hr0_2
 have HC0_2:=Aside0.mk hc0_2
 clear hr0_2 hc0_2
 have HR0_3:=Aside0.mk hr0_3
 have HC0_3:=Aside0.mk hc0_3
 clear hr0_3 hc0_3
 have HR0_4:=Aside0.mk hr0_4
 have HC0_4:=Aside0.mk hc0_4
 clear hr0_4 hc0_4
 have HG:=Aside0.mk hG
 clear hG
 have HB:=Aside0.mk (BelowX.refl (B:=MB_) (Pm:=(impl_topdown_dist_C.MP l0_0 l0_1 l0_2 l0_3 l0_4 a0_5)) w.heap.size w)
 have H : ((impl_KidsOf.f k l0_0 a1_0).bind fun t621=>((impl_KidsOf.f k l0_1 a1_1).bind fun t624=>(impl_topdown_table.l0 k t621 t624 (([(([0] : List Int))] : List (List Int))) t624 (t624.length : Int) 0 l0_0 l0_1 l0_2 l0_3 l0_4 a0_5))) = some r:=h
 clear h
 replace H:=Option.bind_eq_some_iff.mp H
 obtain ⟨t621,A30,H⟩:=H
 have A3:=Aside0.mk A30
 clear A30
 replace H:=Option.bind_eq_some_iff.mp H
 obtain ⟨t624,A40,H⟩:=H
 have A4:=Aside0.mk A40
 clear A40
 obtain ⟨y627,hy627⟩ : ∃ y_ : List Int,y_ = (([0] : List Int)):=⟨_,rfl⟩
 replace H : (impl_topdown_table.l0 k t621 t624 (([y627] : List (List Int))) t624 (t624.length : Int) 0 l0_0 l0_1 l0_2 l0_3 l0_4 a0_5) = some r:=by first | (rw [hy627];with_reducible exact H) | (have H2_:=(Option.bind_some _ _).symm.trans H;rw [hy627];with_reducible exact H2_) | (have H2_:=(Option.bind_some _ _).symm.trans H;with_reducible exact H2_) | with_reducible exact H | (rw [hy627];exact H) | exact H
 have Ny627:=Aside0.mk hy627
 clear hy627
 obtain ⟨y630,hy630⟩ : ∃ y_ : List (List Int),y_ = (([y627] : List (List Int))):=⟨_,rfl⟩
 replace H : (impl_topdown_table.l0 k t621 t624 y630 t624 (t624.length : Int) 0 l0_0 l0_1 l0_2 l0_3 l0_4 a0_5) = some r:=by first | (rw [hy630];with_reducible exact H) | (have H2_:=(Option.bind_some _ _).symm.trans H;rw [hy630];with_reducible exact H2_) | (have H2_:=(Option.bind_some _ _).symm.trans H;with_reducible exact H2_) | with_reducible exact H | (rw [hy630];exact H) | exact H
 have Ny630:=Aside0.mk hy630
 clear hy630
 have H':=Aside0.mk H
 clear H
 go_enter Try.func89,Try.ntmps89
 try go_wp2_with (first | ((with_reducible refine gate_dst (N:=2) rfl ?_);refine box_event ?hg (N:=2) ?hd (cs:=#[.slice A0_0 l0_0.length c0_0,.slice A0_1 l0_1.length c0_1,.slice A0_2 l0_2.length c0_2,.slice A0_3 l0_3.length c0_3,.slice A0_4 l0_4.length c0_4,.map (some MB_)]) (t:=70) ?hr ?_;(case hd=>rfl);(case hg=>rfl);(case hr=>first | (go_simp;done) | (go_simp;rfl));intro gb619 hg w5 hbox hb;(try replace hb:=mx_of (B:=MB_) (Pm:=(impl_topdown_dist_C.MP l0_0 l0_1 l0_2 l0_3 l0_4 a0_5)) hb);have BK619:=Aside0.mk (hbox);have GW619:=Aside0.mk ((by rw [hg];exact (mx_size (mx_laB HB.out)) : w.heap.size ≤ gb619));have GE619:=Aside0.mk ((by rw [hg];exact (mx_size (mx_laB HB.out)) : w.heap.size ≤ gb619));have ge619_:=Nonempty.intro GE619.out;replace HB:=Aside0.mk (mx_step (mx_laB HB.out) hb);clear hb hbox hg) | ((with_reducible refine gate_dst (N:=3) rfl ?_);refine box_event ?hg (N:=3) ?hd (cs:=#[.int .i64 a1_0,.int .i64 a1_1]) (t:=75) ?hr ?_;(case hd=>rfl);(case hg=>rfl);(case hr=>first | (go_simp;done) | (go_simp;rfl));intro gb620 hg w6 hbox hb;(try replace hb:=mx_of (B:=MB_) (Pm:=(impl_topdown_dist_C.MP l0_0 l0_1 l0_2 l0_3 l0_4 a0_5)) hb);have BK620:=Aside0.mk (hbox);have GW620:=Aside0.mk ((by rw [hg];exact (mx_size (mx_laB HB.out)) : w.heap.size ≤ gb620));have GE620:=Aside0.mk ((by rw [hg];exact (mx_size (mx_laB HB.out)) : w.heap.size ≤ gb620));have ge620_:=Nonempty.intro GE620.out;replace HB:=Aside0.mk (mx_step (mx_laB HB.out) hb);have NB619_620:=Aside0.mk ((by rw [hg];exact Nat.ne_of_lt (blk_lt (g:=gb619) (o:=.cells #[.slice A0_0 l0_0.length c0_0,.slice A0_1 l0_1.length c0_1,.slice A0_2 l0_2.length c0_2,.slice A0_3 l0_3.length c0_3,.slice A0_4 l0_4.length c0_4,.map (some MB_)] 70 (0,0)) (laK BK619.out)) : gb619 ≠ gb620));have NB620_619:=Aside0.mk ((by rw [hg];exact Nat.ne_of_gt (blk_lt (g:=gb619) (o:=.cells #[.slice A0_0 l0_0.length c0_0,.slice A0_1 l0_1.length c0_1,.slice A0_2 l0_2.length c0_2,.slice A0_3 l0_3.length c0_3,.slice A0_4 l0_4.length c0_4,.map (some MB_)] 70 (0,0)) (laK BK619.out)) : gb620 ≠ gb619));replace BK619:=Aside0.mk (mx_laKb BK619.out hb);clear hb hbox hg))
 replace BK619:=Aside0.mk (blk_drew BK619.out)
 replace BK620:=Aside0.mk (blk_drew BK620.out)
 replace HB:=Aside0.mk (mx_drew1 HB.out)
 refine start_ (n:=12) (S:=fun w'=>w'.cell? ⟨gb619,0,none⟩ = some (.slice A0_0 l0_0.length c0_0) ∧ w'.cell? ⟨gb619,1,none⟩ = some (.slice A0_1 l0_1.length c0_1) ∧ w'.cell? ⟨gb619,2,none⟩ = some (.slice A0_2 l0_2.length c0_2) ∧ w'.cell? ⟨gb619,3,none⟩ = some (.slice A0_3 l0_3.length c0_3) ∧ w'.cell? ⟨gb619,4,none⟩ = some (.slice A0_4 l0_4.length c0_4) ∧ w'.cell? ⟨gb619,5,none⟩ = some (.map (some MB_)) ∧ w'.cell? ⟨gb620,0,none⟩ = some (.int .i64 a1_0) ∧ w'.cell? ⟨gb620,1,none⟩ = some (.int .i64 a1_1)) (ds:=[]) (pw 12 0) (by kernel_rfl) rfl rfl ⟨(blk_cell BK619.out 0).trans rfl,(blk_cell BK619.out 1).trans rfl,(blk_cell BK619.out 2).trans rfl,(blk_cell BK619.out 3).trans rfl,(blk_cell BK619.out 4).trans rfl,(blk_cell BK619.out 5).trans rfl,(blk_cell BK620.out 0).trans rfl,(blk_cell BK620.out 1).trans rfl⟩ (fun hHeld=>?_);refine with_tabW impl_topdown_table.tab1 impl_topdown_table.bits1 (fun HT_ HW_=>?_)
 generalize w6.drew = w7 at BK619 BK620 HB hHeld ⊢
 refine pure_ (i:=0) (N:=some 15) (v:=?_) (a':=?_) (pw 12 1) rfl rfl (any_of HT_.out (by kernel_rfl)) (fun _ _ _ h=>h) (Or.inl ⟨by rfl,?_⟩) ?_ ?_;rotate_left
 ·intro w';go_simp;with_reducible rfl
 rotate_left;·simp only [Act.put,za,zb,zc,i64_w,i32_w];rfl
 refine pure_ (i:=2) (N:=some 17) (v:=?_) (a':=?_) (bw 12 5) rfl rfl (any_of HT_.out (by kernel_rfl)) (fun _ _ _ h=>h) (Or.inl ⟨by rfl,?_⟩) ?_ ?_;rotate_left
 ·intro w';go_simp;with_reducible rfl
 rotate_left;·simp only [Act.put,za,zb,zc,i64_w,i32_w];rfl
 refine pure_ (i:=5) (N:=some 20) (v:=?_) (a':=?_) (bw 12 37) rfl rfl (any_of HT_.out (by kernel_rfl)) (fun _ _ _ h=>h) (Or.inl ⟨by rfl,?_⟩) ?_ ?_;rotate_left
 ·intro w';go_simp;with_reducible rfl
 rotate_left;·simp only [Act.put,za,zb,zc,i64_w,i32_w];rfl
 refine pure_ (i:=7) (N:=some 22) (v:=?_) (a':=?_) (bw 12 165) rfl rfl (any_of HT_.out (by kernel_rfl)) (fun _ _ _ h=>h) (Or.inl ⟨by rfl,?_⟩) ?_ ?_;rotate_left
 ·intro w';go_simp;with_reducible rfl
 rotate_left;·simp only [Act.put,za,zb,zc,i64_w,i32_w];rfl
 refine take_ (i:=1) (N:=some 16) (v:=?_) (a':=?_) (bw 12 167) rfl rfl (take_ofW HT_.out HW_.out (by kernel_rfl)) (fun _ _ _ h=>h) (Or.inl ⟨by rfl,?_⟩) hHeld ?_ ?_;rotate_left
 ·rintro w' ⟨s0,s1,s2,s3,s4,s5,s6,s7⟩
  go_simp;with_reducible rfl
 rotate_left;·simp only [Act.put,za,zb,zc,i64_w,i32_w];rfl
 refine take_ (i:=3) (N:=some 18) (v:=?_) (a':=?_) (bw 12 175) rfl rfl (take_ofW HT_.out HW_.out (by kernel_rfl)) (fun _ _ _ h=>h) (Or.inl ⟨by rfl,?_⟩) hHeld ?_ ?_;rotate_left
 ·rintro w' ⟨s0,s1,s2,s3,s4,s5,s6,s7⟩
  go_simp;with_reducible rfl
 rotate_left;·simp only [Act.put,za,zb,zc,i64_w,i32_w];rfl
 refine take_ (i:=6) (N:=some 21) (v:=?_) (a':=?_) (bw 12 239) rfl rfl (take_ofW HT_.out HW_.out (by kernel_rfl)) (fun _ _ _ h=>h) (Or.inl ⟨by rfl,?_⟩) hHeld ?_ ?_;rotate_left
 ·rintro w' ⟨s0,s1,s2,s3,s4,s5,s6,s7⟩
  go_simp;with_reducible rfl
 rotate_left;·simp only [Act.put,za,zb,zc,i64_w,i32_w];rfl
 refine take_ (i:=8) (N:=some 23) (v:=?_) (a':=?_) (bw 12 495) rfl rfl (take_ofW HT_.out HW_.out (by kernel_rfl)) (fun _ _ _ h=>h) (Or.inl ⟨by rfl,?_⟩) hHeld ?_ ?_;rotate_left
 ·rintro w' ⟨s0,s1,s2,s3,s4,s5,s6,s7⟩
  go_simp;with_reducible rfl
 rotate_left;·simp only [Act.put,za,zb,zc,i64_w,i32_w];rfl
 refine one_ (i:=4) (N:=some 19) (pw 12 9) rfl rfl (one_of HT_.out (by kernel_rfl)) (by decide) (fun K hK=>?_)
 refine goes_ Try.func108 (by kernel_rfl) rfl #[.slice A0_0 l0_0.length c0_0,.int .i64 a1_0] (by rfl) rfl rfl (by (try simp only [List.map_toArray,List.map_cons,List.map_nil]);first | done | rfl | (simp only [List.length_drop,List.length_take];rfl)) ?_
 with_reducible refine (impl_KidsOf.calls k _ _ l0_0 a1_0 t621 _ ?side1 ?side2 A3.out).mono ?_
 (case side1=>exact laC (mx_C_below HR0_0.out HB.out))
 (case side2=>exact HC0_0.out)
 rintro e w8 ⟨v622,rfl,ho0,hb⟩;(try replace hb:=mx_of (B:=MB_) (Pm:=(impl_topdown_dist_C.MP l0_0 l0_1 l0_2 l0_3 l0_4 a0_5)) hb)
 refine ⟨_,rfl,?_⟩
 have HO623:=Aside0.mk (Kd.R_lower ho0 (mx_size (mx_laB HB.out)))
 replace BK619:=Aside0.mk (mx_laKb BK619.out hb)
 replace BK620:=Aside0.mk (mx_laKb BK620.out hb)
 replace HB:=Aside0.mk (mx_step (mx_laB HB.out) hb)
 (try clear hb)
 (try clear hb2)
 (try clear hk)
 (try clear hi)
 (try clear ho0)
 refine hK.out _ _ ⟨(blk_cell BK619.out 0).trans rfl,(blk_cell BK619.out 1).trans rfl,(blk_cell BK619.out 2).trans rfl,(blk_cell BK619.out 3).trans rfl,(blk_cell BK619.out 4).trans rfl,(blk_cell BK619.out 5).trans rfl,(blk_cell BK620.out 0).trans rfl,(blk_cell BK620.out 1).trans rfl⟩ (fun hHeld=>?_)
 clear hK K
 refine norm_ (a':=?_) ?_ ?_;rotate_left
 ·show Act.put _ (some 19) _ = _
  simp only [Act.put,za,zb,zc,i64_w,i32_w];rfl
 refine one_ (i:=9) (N:=some 24) (pw 12 10) rfl rfl (one_of HT_.out (by kernel_rfl)) (by decide) (fun K hK=>?_)
 refine goes_ Try.func108 (by kernel_rfl) rfl #[.slice A0_1 l0_1.length c0_1,.int .i64 a1_1] (by rfl) rfl rfl (by (try simp only [List.map_toArray,List.map_cons,List.map_nil]);first | done | rfl | (simp only [List.length_drop,List.length_take];rfl)) ?_
 with_reducible refine (impl_KidsOf.calls k _ _ l0_1 a1_1 t624 _ ?side1 ?side2 A4.out).mono ?_
 (case side1=>exact laC (mx_C_below HR0_1.out HB.out))
 (case side2=>exact HC0_1.out)
 rintro e w9 ⟨v625,rfl,ho0,hb⟩;(try replace hb:=mx_of (B:=MB_) (Pm:=(impl_topdown_dist_C.MP l0_0 l0_1 l0_2 l0_3 l0_4 a0_5)) hb)
 refine ⟨_,rfl,?_⟩
 have HO626:=Aside0.mk (Kd.R_lower (Kd.R_new' ho0 (Kd.R_lt (laR HO623.out))) (mx_size (mx_laB HB.out)))
 replace HO623:=Aside0.mk (mx_R_elder' (laR HO623.out) (Kd.R_base ho0) hb)
 replace BK619:=Aside0.mk (mx_laKb BK619.out hb)
 replace BK620:=Aside0.mk (mx_laKb BK620.out hb)
 replace HB:=Aside0.mk (mx_step (mx_laB HB.out) hb)
 (try clear hb)
 (try clear hb2)
 (try clear hk)
 (try clear hi)
 (try clear ho0)
 refine hK.out _ _ ⟨(blk_cell BK619.out 0).trans rfl,(blk_cell BK619.out 1).trans rfl,(blk_cell BK619.out 2).trans rfl,(blk_cell BK619.out 3).trans rfl,(blk_cell BK619.out 4).trans rfl,(blk_cell BK619.out 5).trans rfl,(blk_cell BK620.out 0).trans rfl,(blk_cell BK620.out 1).trans rfl⟩ (fun hHeld=>?_)
 clear hK K
 refine norm_ (a':=?_) ?_ ?_;rotate_left
 ·show Act.put _ (some 24) _ = _
  simp only [Act.put,za,zb,zc,i64_w,i32_w];rfl
 refine pure_ (i:=10) (N:=some 5) (v:=?_) (a':=?_) (pw 12 11) rfl rfl (any_of HT_.out (by kernel_rfl)) (fun _ _ _ h=>h) (Or.inl ⟨by rfl,?_⟩) ?_ ?_;rotate_left
 ·intro w';go_simp;with_reducible rfl
 rotate_left;·simp only [Act.put,za,zb,zc,i64_w,i32_w];rfl
 refine pure_ (i:=11) (N:=some 6) (v:=?_) (a':=?_) (pw 12 12) rfl rfl (any_of HT_.out (by kernel_rfl)) (fun _ _ _ h=>h) (Or.inl ⟨by rfl,?_⟩) ?_ ?_;rotate_left
 ·intro w';go_simp;with_reducible rfl
 rotate_left;·simp only [Act.put,za,zb,zc,i64_w,i32_w];rfl
 refine done_ (done_of HT_.out (by kernel_rfl)) ?_
 try go_wp2_with (first | ((with_reducible refine gate_dst (N:=25) rfl ?_);refine Kd.R_lit (Kd.int .i64) _ 3 ?hg (N:=25) ?hd (xs:=([0] : List Int)) (inner:=[.int .i64 0]) (ok:=fun _=>True) (okp:=fun _=>True) ?hr ?hp (fun _ hk=>hk) trivial (Below.refl _ _) (Nat.le_refl _) (by simp) ?_;(case hd=>rfl);(case hg=>rfl);(case hr=>first | (go_simp;done) | (go_simp;rfl));(case hp=>exact (Reps.one (show Kd.M (Kd.int .i64) _ _ _ 0 [.int .i64 0] from rfl) (Reps.none _ _)));intro v628 w10 ho11 hb hg_ hnew_;(try replace hb:=mx_of (B:=MB_) (Pm:=(impl_topdown_dist_C.MP l0_0 l0_1 l0_2 l0_3 l0_4 a0_5)) hb);clear hg_ hnew_;(first | rw [← Ny627.out] at ho11 | (simp only [Int.reduceToNat] at ho11;rw [← Ny627.out] at ho11));have HO629:=Aside0.mk (Kd.R_lower (Kd.R_new' (Kd.R_new' ho11 (Kd.R_lt (laR HO623.out))) (Kd.R_lt (laR HO626.out))) (mx_size (mx_laB HB.out)));replace HO623:=Aside0.mk (mx_R_elder' (laR HO623.out) (Kd.R_base ho11) hb);replace HO626:=Aside0.mk (mx_R_elder' (laR HO626.out) (Kd.R_base ho11) hb);replace BK619:=Aside0.mk (mx_laKb BK619.out hb);replace BK620:=Aside0.mk (mx_laKb BK620.out hb);replace HB:=Aside0.mk (mx_step (mx_laB HB.out) hb);clear hb ho11;obtain ⟨Ao12,co12,eo12⟩:=Kd.R_slice HO629.out;subst eo12) | ((with_reducible refine gate_dst (N:=26) rfl ?_);refine Kd.S_lits (Kd.slice 3 (Kd.int .i64)) w.heap.size 24 ?hg (N:=26) ?hd (xs:=([y627] : List (List Int))) (inner:=[.slice Ao12 y627.length co12]) (ok:=(fun k_=>some k_ ≠ (v622 : Value).ownBlock ∧ some k_ ≠ (v625 : Value).ownBlock)) (fun j_ k_=>j_ = 0 ∧ (fun k_=>some k_ ≠ (v622 : Value).ownBlock ∧ some k_ ≠ (v625 : Value).ownBlock) k_) ?hr rfl ?hp (fun i_ j_ _ hi_ hj_=>hi_.1.trans hj_.1.symm) (fun _ _ hk_=>hk_.2) ((show ∀ k_,w10.heap.size ≤ k_ → (fun k_=>some k_ ≠ (v622 : Value).ownBlock ∧ some k_ ≠ (v625 : Value).ownBlock) k_ from fun k_ hk=>⟨Kd.fresh' (Kd.R_lt (laR HO623.out)) k_ hk,Kd.fresh' (Kd.R_lt (laR HO626.out)) k_ hk⟩) _ (Nat.le_refl _)) (Below.refl _ _) ?hz (by simp) ?_;(case hd=>rfl);(case hg=>rfl);(case hr=>first | (go_simp;done) | (go_simp;rfl));(case hp=>intro j_ x_ hx_;cases j_ with | zero=>(obtain rfl:=Option.some.inj hx_;exact ⟨_,rfl,Kd.R_mono (laR HO629.out) (fun k_ hk=>⟨rfl,⟨hk.1.2,hk.2⟩⟩)⟩) | succ j_=>simp at hx_);(case hz=>exact mx_size (mx_laB HB.out));intro v631 w13 ho14 hb hg_ hnew_;(try replace hb:=mx_of (B:=MB_) (Pm:=(impl_topdown_dist_C.MP l0_0 l0_1 l0_2 l0_3 l0_4 a0_5)) hb);replace hb:=mx_of (B:=MB_) (Pm:=(impl_topdown_dist_C.MP l0_0 l0_1 l0_2 l0_3 l0_4 a0_5)) (below_of_grown_ hg_);clear hg_ hnew_;(first | rw [← Ny630.out] at ho14 | (simp only [Int.reduceToNat] at ho14;rw [← Ny630.out] at ho14));have n0_:=Aside0.mk (mx_laRb HO623.out hb);have n1_:=Aside0.mk (mx_laRb HO626.out hb);have n2_:=Aside0.mk (ho14);have n3_:=Aside0.mk (mx_laKb BK619.out hb);have n4_:=Aside0.mk (mx_laKb BK620.out hb);have n5_:=Aside0.mk (mx_step (mx_laB HB.out) hb);clear HO623;clear HO626;clear BK619;clear BK620;clear HB;clear HO629;have HO623:=n0_;have HO626:=n1_;have HO632:=n2_;have BK619:=n3_;have BK620:=n4_;have HB:=n5_;clear n0_ n1_ n2_ n3_ n4_ n5_;clear hb ho14;obtain ⟨Ao15,co15,eo15⟩:=Kd.R_slice HO626.out;subst eo15))
 go_loopg [29] k (fun kq v29 w'=>∃ (x7_1 : List (List Int)) (x29_1 : Int),v29 = .int .i64 x29_1 ∧ Aside0 (impl_topdown_table.l0 kq t621 t624 x7_1 t624 (t624.length : Int) x29_1 l0_0 l0_1 l0_2 l0_3 l0_4 a0_5 = some r) ∧ Aside0 (kq ≤ k) ∧ Aside0 (Kd.R (Kd.int .i64) 3 w' w.heap.size (fun k_=>some k_ ≠ ((.slice Ao15 t624.length co15) : Value).ownBlock ∧ some k_ ≠ ((.slice Ao15 t624.length co15) : Value).ownBlock) v622 t621) ∧ Aside0 (Kd.R (Kd.int .i64) 3 w' w.heap.size (fun k_=>some k_ ≠ (v622 : Value).ownBlock) (.slice Ao15 t624.length co15) t624) ∧ Aside0 (Kd.S (Kd.slice 3 (Kd.int .i64)) 24 w' w.heap.size (fun k_=>some k_ ≠ (v622 : Value).ownBlock ∧ some k_ ≠ ((.slice Ao15 t624.length co15) : Value).ownBlock ∧ some k_ ≠ ((.slice Ao15 t624.length co15) : Value).ownBlock) v631 x7_1) ∧ Aside0 (Kd.R (Kd.int .i64) 3 w' w.heap.size (fun k_=>some k_ ≠ (v622 : Value).ownBlock) (.slice Ao15 t624.length co15) t624) ∧ Aside0 (w'.heap[gb619]? = some (.cells #[(.slice A0_0 l0_0.length c0_0),(.slice A0_1 l0_1.length c0_1),(.slice A0_2 l0_2.length c0_2),(.slice A0_3 l0_3.length c0_3),(.slice A0_4 l0_4.length c0_4),.map (some MB_)] 70 (0,0))) ∧ Aside0 (w'.heap[gb620]? = some (.cells #[.int .i64 a1_0,.int .i64 a1_1] 75 (0,0))) ∧ Aside0 (BelowX MB_ (impl_topdown_dist_C.MP l0_0 l0_1 l0_2 l0_3 l0_4 a0_5) w.heap.size w w'))
 case atStart=>exact ⟨(y630),(0),(by first | rfl | (simp;done) | (simp [*];done)),H',⟨Nat.le_refl _⟩,⟨laR (Kd.R_mono HO623.out (fun _ hk=>⟨hk.1.2,hk.1.2⟩))⟩,⟨laR (Kd.R_mono HO626.out (fun _ hk=>hk.1.2))⟩,⟨laS (Kd.S_mono HO632.out (fun _ hk=>⟨hk.1,⟨hk.2,hk.2⟩⟩))⟩,⟨laR (Kd.R_mono HO626.out (fun _ hk=>hk.1.2))⟩,⟨laK BK619.out⟩,⟨laK BK620.out⟩,⟨mx_laB HB.out⟩⟩
 case round =>
  clear H'
  try clear c1
  try clear p2
  try clear c8
  try clear c10
  obtain ⟨x7_1,x29_1,rfl,HA,HK1,HO_5,HO_6,HO_7,HO_27,BK619,BK620,HB⟩:=hrel
  cases gk with
  | zero=>exact absurd HA.out (by simp [impl_topdown_table.l0])
  | succ k1 =>
   have H:=HA.out;clear HA;simp only [impl_topdown_table.l0] at H
   by_cases c16 : x29_1 < (t624.length : Int)
   ·rw [if_pos c16] at H
    have c16b0 : decide (x29_1 < (t624.length : Int)) = true:=decide_eq_true c16;clear c16
    by_cases c17 : 0 ≤ x29_1
    rotate_left
    ·rw [if_neg c17] at H
     exact absurd H (by simp)
    rw [if_pos c17] at H;have c17b0 : decide (0 ≤ x29_1) = true:=decide_eq_true c17;clear c17
    by_cases c18 : x29_1 < (t624.length : Int)
    rotate_left
    ·rw [if_neg c18] at H
     exact absurd H (by simp)
    rw [if_pos c18] at H;have c18b0 : decide (x29_1 < (t624.length : Int)) = true:=decide_eq_true c18;clear c18
    by_cases c19 : 0 < (x7_1.length : Int)
    rotate_left
    ·rw [if_neg c19] at H
     exact absurd H (by simp)
    rw [if_pos c19] at H;have c19b0 : decide (0 < (x7_1.length : Int)) = true:=decide_eq_true c19;have c19b1 : decide (0 < x7_1.length) = true:=decide_eq_true (by omega);clear c19
    by_cases c20 : x29_1 < ((rd_L3 x7_1 0).length : Int)
    rotate_left
    ·rw [if_neg c20] at H
     exact absurd H (by simp)
    rw [if_pos c20] at H;have c20b0 : decide (x29_1 < ((rd_L3 x7_1 0).length : Int)) = true:=decide_eq_true c20;clear c20;replace H:=Option.bind_eq_some_iff.mp H
    obtain ⟨t637,A210,H⟩:=H
    have A21:=Aside0.mk A210;clear A210
    by_cases c22 : (rd_L3 x7_1 0).length < 17592186044416
    rotate_left
    ·rw [if_neg c22] at H
     exact absurd H (by simp)
    rw [if_pos c22] at H;have LMc22:=Aside0.mk c22;clear c22
    obtain ⟨y638,hy638⟩ : ∃ y_ : List Int,y_ = ((rd_L3 x7_1 0) ++ [wrap64 ((rd (rd_L3 x7_1 0) x29_1) + t637)]):=⟨_,rfl⟩
    replace H : (impl_topdown_table.l0 k1 t621 t624 (x7_1.set (0 : Int).toNat y638) t624 (t624.length : Int) (wrap64 (x29_1 + 1)) l0_0 l0_1 l0_2 l0_3 l0_4 a0_5) = some r:=by first | (rw [hy638];with_reducible exact H) | (have H2_:=(Option.bind_some _ _).symm.trans H;rw [hy638];with_reducible exact H2_) | (have H2_:=(Option.bind_some _ _).symm.trans H;with_reducible exact H2_) | with_reducible exact H | (rw [hy638];exact H) | exact H
    have Ny638:=Aside0.mk hy638;clear hy638
    obtain ⟨y641,hy641⟩ : ∃ y_ : List (List Int),y_ = (x7_1.set (0 : Int).toNat y638):=⟨_,rfl⟩
    replace H : (impl_topdown_table.l0 k1 t621 t624 y641 t624 (t624.length : Int) (wrap64 (x29_1 + 1)) l0_0 l0_1 l0_2 l0_3 l0_4 a0_5) = some r:=by first | (rw [hy641];with_reducible exact H) | (have H2_:=(Option.bind_some _ _).symm.trans H;rw [hy641];with_reducible exact H2_) | (have H2_:=(Option.bind_some _ _).symm.trans H;with_reducible exact H2_) | with_reducible exact H | (rw [hy641];exact H) | exact H
    have Ny641:=Aside0.mk hy641;clear hy641;have H':=Aside0.mk H;clear H;have p633 : 0 ≤ (x29_1 : Int):=of_decide_eq_true (by first | (with_reducible assumption) | assumption);have q633 : x29_1 < (t624.length : Int):=of_decide_eq_true (by first | (with_reducible assumption) | assumption)
    obtain ⟨ad633,e633,hx633_0⟩:=Kd.at_int (Kd.R_reads' HO_27.out).2.2 x29_1 p633 q633
    cases e633
    replace p633:=eq_true p633;replace q633:=eq_true q633
    try go_wp2
    replace HO_5:=Aside0.mk (Kd.R_drew HO_5.out);replace HO_6:=Aside0.mk (Kd.R_drew HO_6.out);replace HO_7:=Aside0.mk (Kd.S_drew HO_7.out);replace HO_27:=Aside0.mk (Kd.R_drew HO_27.out);replace BK619:=Aside0.mk (blk_drew BK619.out);replace BK620:=Aside0.mk (blk_drew BK620.out);replace HB:=Aside0.mk (mx_drew1 HB.out)
    obtain ⟨Ao25,co25,eo25⟩:=Kd.S_slice HO_7.out
    (first | subst eo25 | (injection eo25 with f1_ f2_ f3_;have f4_:=f1_.symm;have f5_:=f3_.symm;clear f1_ f2_ f3_;subst f4_;subst f5_))
    have p634 : 0 ≤ (0 : Int):=(by omega);have q634 : 0 < (x7_1.length : Int):=of_decide_eq_true (by first | (with_reducible assumption) | assumption)
    obtain ⟨ad634,A634_0,c634_0,e634,hx634_0,hl634_0,hi634_0⟩:=at_L3 (Kd.S_reads' HO_7.out).2.2 0 p634 q634
    cases e634
    obtain ⟨ce634,hce634,hMe634,hcc634⟩:=Kd.S_get HO_7.out [] 0 p634 (by first | exact q634 | exact of_decide_eq_true (by first | (with_reducible assumption) | assumption) | (have e_:=(Kd.S_reads' HO_7.out).1;omega))
    obtain ⟨ve634_0,rfl,ge634_0⟩:=hMe634
    have hv634_0:=hcc634 0 _ rfl;rw [Nat.add_zero,show ((Kd.slice 3 (Kd.int .i64))).sz = 1 from rfl,Nat.mul_one] at hv634_0;replace hv634_0:=Option.some.inj (hv634_0.symm.trans hx634_0);rw [hv634_0] at ge634_0;have HL634_0:=Aside0.mk (show Kd.R (Kd.int .i64) 3 _ _ _ _ (rd_L3 x7_1 0) from ge634_0);clear hv634_0 ge634_0;have HX634_0:=Aside0.mk hx634_0;clear hcc634 hce634;have qi634 : (0 < x7_1.length) = True:=eq_true (by omega)
    (try rw [show ((0 : Int)).toNat = 0 from rfl] at hx634_0)
    (try rw [Addr.add_zero'] at hx634_0)
    have HR634_0:=Aside0.mk hi634_0;have HC634_0:=Aside0.mk hl634_0;clear hi634_0 hl634_0;replace p634:=eq_true p634;replace q634:=eq_true q634;have p635 : 0 ≤ (0 : Int):=(by omega);have q635 : 0 < (x7_1.length : Int):=of_decide_eq_true (by first | (with_reducible assumption) | assumption)
    obtain ⟨ad635,A635_0,c635_0,e635,hx635_0,hl635_0,hi635_0⟩:=at_L3 (Kd.S_reads' HO_7.out).2.2 0 p635 q635
    obtain rfl : ad634 = ad635:=(by injection e635)
    obtain ⟨ce635,hce635,hMe635,hcc635⟩:=Kd.S_get HO_7.out [] 0 p635 (by first | exact q635 | exact of_decide_eq_true (by first | (with_reducible assumption) | assumption) | (have e_:=(Kd.S_reads' HO_7.out).1;omega))
    obtain ⟨ve635_0,rfl,ge635_0⟩:=hMe635
    have hv635_0:=hcc635 0 _ rfl;rw [Nat.add_zero,show ((Kd.slice 3 (Kd.int .i64))).sz = 1 from rfl,Nat.mul_one] at hv635_0;replace hv635_0:=Option.some.inj (hv635_0.symm.trans hx635_0);rw [hv635_0] at ge635_0;have HL635_0:=Aside0.mk (show Kd.R (Kd.int .i64) 3 _ _ _ _ (rd_L3 x7_1 0) from ge635_0);clear hv635_0 ge635_0;have HX635_0:=Aside0.mk hx635_0;clear hcc635 hce635;have qi635 : (0 < x7_1.length) = True:=eq_true (by omega)
    (try rw [show ((0 : Int)).toNat = 0 from rfl] at hx635_0)
    (try rw [Addr.add_zero'] at hx635_0)
    have HR635_0:=Aside0.mk hi635_0;have HC635_0:=Aside0.mk hl635_0;clear hi635_0 hl635_0;replace p635:=eq_true p635;replace q635:=eq_true q635;have ea_:=Option.some.inj (hx634_0.symm.trans hx635_0)
    injection ea_ with ea_ en_ ec_
    subst ea_;subst ec_;clear en_;have p636 : 0 ≤ (x29_1 : Int):=of_decide_eq_true (by first | (with_reducible assumption) | assumption);have q636 : x29_1 < ((rd_L3 x7_1 0).length : Int):=of_decide_eq_true (by first | (with_reducible assumption) | assumption)
    obtain ⟨ad636,e636,hx636_0⟩:=Kd.at_int (by repeat (first | (with_reducible exact HR635_0.out) | (with_reducible refine Kd.C_alloc ?_ _) | (with_reducible refine Kd.C_drewN ?_ _) | (with_reducible refine Kd.C_drew ?_) | exact HR635_0.out)) x29_1 p636 q636
    cases e636
    replace p636:=eq_true p636;replace q636:=eq_true q636;refine start_ (n:=18) (S:=fun w'=>w'.cell? ⟨gb619,0,none⟩ = some (.slice A0_0 l0_0.length c0_0) ∧ w'.cell? ⟨gb619,1,none⟩ = some (.slice A0_1 l0_1.length c0_1) ∧ w'.cell? ⟨gb619,2,none⟩ = some (.slice A0_2 l0_2.length c0_2) ∧ w'.cell? ⟨gb619,3,none⟩ = some (.slice A0_3 l0_3.length c0_3) ∧ w'.cell? ⟨gb619,4,none⟩ = some (.slice A0_4 l0_4.length c0_4) ∧ w'.cell? ⟨gb619,5,none⟩ = some (.map (some MB_)) ∧ w'.cell? ad634 = some (.slice (some ad636) (rd_L3 x7_1 0).length c634_0) ∧ w'.cell? ad634 = some (.slice (some ad636) (rd_L3 x7_1 0).length c634_0) ∧ w'.cell? (ad636.add (x29_1).toNat) = some (.int .i64 (rd (rd_L3 x7_1 0) x29_1))) (ds:=[15,17]) (pw 18 0) (by kernel_rfl) rfl rfl ⟨(blk_cell BK619.out 0).trans rfl,(blk_cell BK619.out 1).trans rfl,(blk_cell BK619.out 2).trans rfl,(blk_cell BK619.out 3).trans rfl,(blk_cell BK619.out 4).trans rfl,(blk_cell BK619.out 5).trans rfl,hx634_0,hx635_0,hx636_0⟩ (fun hHeld=>?_);refine with_tabW impl_topdown_table.tab6 impl_topdown_table.bits6 (fun HT_ HW_=>?_)
    generalize wr.drew = w24 at HO_5 HO_6 HO_7 HO_27 BK619 BK620 HB HL634_0 HL635_0 HR634_0 HR635_0 HX634_0 HX635_0 hx634_0 hx635_0 hx636_0 hHeld ⊢
    refine pure_ (i:=0) (N:=some 34) (v:=?_) (a':=?_) (pw 18 1) rfl rfl (any_of HT_.out (by kernel_rfl)) (fun _ _ _ h=>h) (Or.inl ⟨by rfl,?_⟩) ?_ ?_;rotate_left
    ·intro w';go_simp;with_reducible rfl
    rotate_left;·simp only [Act.put,za,zb,zc,i64_w,i32_w];rfl
    refine pure_ (i:=1) (N:=some 35) (v:=?_) (a':=?_) (pw 18 2) rfl rfl (any_of HT_.out (by kernel_rfl)) (fun _ _ _ h=>h) (Or.inl ⟨by rfl,?_⟩) ?_ ?_;rotate_left
    ·intro w';go_simp;with_reducible rfl
    rotate_left;·simp only [Act.put,za,zb,zc,i64_w,i32_w];rfl
    refine pure_ (i:=2) (N:=some 36) (v:=?_) (a':=?_) (pw 18 3) rfl rfl (any_of HT_.out (by kernel_rfl)) (fun _ _ _ h=>h) (Or.inl ⟨by rfl,?_⟩) ?_ ?_;rotate_left
    ·intro w';go_simp;with_reducible rfl
    rotate_left;·simp only [Act.put,za,zb,zc,i64_w,i32_w];rfl
    refine pure_ (i:=4) (N:=some 38) (v:=?_) (a':=?_) (bw 18 23) rfl rfl (any_of HT_.out (by kernel_rfl)) (fun _ _ _ h=>h) (Or.inl ⟨by rfl,?_⟩) ?_ ?_;rotate_left
    ·intro w';go_simp;with_reducible rfl
    rotate_left;·simp only [Act.put,za,zb,zc,i64_w,i32_w];rfl
    refine pure_ (i:=5) (N:=some 39) (v:=?_) (a':=?_) (bw 18 55) rfl rfl (any_of HT_.out (by kernel_rfl)) (fun _ _ _ h=>h) (Or.inl ⟨by rfl,?_⟩) ?_ ?_;rotate_left
    ·intro w';go_simp;with_reducible rfl
    rotate_left;·simp only [Act.put,za,zb,zc,i64_w,i32_w];rfl
    refine pure_ (i:=7) (N:=some 41) (v:=?_) (a':=?_) (bw 18 183) rfl rfl (any_of HT_.out (by kernel_rfl)) (fun _ _ _ h=>h) (Or.inl ⟨by rfl,?_⟩) ?_ ?_;rotate_left
    ·intro w';go_simp;with_reducible rfl
    rotate_left;·simp only [Act.put,za,zb,zc,i64_w,i32_w];rfl
    refine pure_ (i:=11) (N:=some 45) (v:=?_) (a':=?_) (bw 18 2231) rfl rfl (any_of HT_.out (by kernel_rfl)) (fun _ _ _ h=>h) (Or.inl ⟨by rfl,?_⟩) ?_ ?_;rotate_left
    ·intro w';go_simp;with_reducible rfl
    rotate_left;·simp only [Act.put,za,zb,zc,i64_w,i32_w];rfl
    refine take_ (i:=3) (N:=some 37) (v:=?_) (a':=?_) (bw 18 2239) rfl rfl (take_ofW HT_.out HW_.out (by kernel_rfl)) (fun _ _ _ h=>h) (Or.inl ⟨by rfl,?_⟩) hHeld ?_ ?_;rotate_left
    ·rintro w' ⟨s0,s1,s2,s3,s4,s5,s6,s7,s8⟩
     go_simp;with_reducible rfl
    rotate_left;·simp only [Act.put,za,zb,zc,i64_w,i32_w];rfl
    refine take_ (i:=6) (N:=some 40) (v:=?_) (a':=?_) (bw 18 2303) rfl rfl (take_ofW HT_.out HW_.out (by kernel_rfl)) (fun _ _ _ h=>h) (Or.inl ⟨by rfl,?_⟩) hHeld ?_ ?_;rotate_left
    ·rintro w' ⟨s0,s1,s2,s3,s4,s5,s6,s7,s8⟩
     go_simp;with_reducible rfl
    rotate_left;·simp only [Act.put,za,zb,zc,i64_w,i32_w];rfl
    refine pure_ (i:=8) (N:=some 42) (v:=?_) (a':=?_) (bw 18 2559) rfl rfl (any_of HT_.out (by kernel_rfl)) (fun _ _ _ h=>h) (Or.inl ⟨by rfl,?_⟩) ?_ ?_;rotate_left
    ·intro w';go_simp;with_reducible rfl
    rotate_left;·simp only [Act.put,za,zb,zc,i64_w,i32_w];rfl
    refine take_ (i:=9) (N:=some 43) (v:=?_) (a':=?_) (bw 18 3071) rfl rfl (take_ofW HT_.out HW_.out (by kernel_rfl)) (fun _ _ _ h=>h) (Or.inl ⟨by rfl,?_⟩) hHeld ?_ ?_;rotate_left
    ·rintro w' ⟨s0,s1,s2,s3,s4,s5,s6,s7,s8⟩
     go_simp;with_reducible rfl
    rotate_left;·simp only [Act.put,za,zb,zc,i64_w,i32_w];rfl
    refine take_ (i:=10) (N:=some 44) (v:=?_) (a':=?_) (pw 18 12) rfl rfl (take_ofW HT_.out HW_.out (by kernel_rfl)) (fun _ _ _ h=>h) (Or.inl ⟨by rfl,?_⟩) hHeld ?_ ?_;rotate_left
    ·rintro w' ⟨s0,s1,s2,s3,s4,s5,s6,s7,s8⟩
     go_simp;with_reducible rfl
    rotate_left;·simp only [Act.put,za,zb,zc,i64_w,i32_w];rfl
    refine one_ (i:=12) (N:=some 46) (pw 18 13) rfl rfl (one_of HT_.out (by kernel_rfl)) (by decide) (fun K hK=>?_);refine goes_ Try.func110 (by kernel_rfl) rfl #[.agg #[.slice A0_0 l0_0.length c0_0,.slice A0_1 l0_1.length c0_1,.slice A0_2 l0_2.length c0_2,.slice A0_3 l0_3.length c0_3,.slice A0_4 l0_4.length c0_4,.map (some MB_)],.int .i64 (rd t624 x29_1)] (by rfl) rfl rfl (by (try simp only [List.map_toArray,List.map_cons,List.map_nil]);first | done | rfl | (simp only [List.length_drop,List.length_take];rfl)) ?_;with_reducible refine (impl_topdown_ins.calls MB_ k1 _ _ l0_0 _ _ l0_1 _ _ l0_2 _ _ l0_3 _ _ l0_4 a0_5 (rd t624 x29_1) t637 _ ?side1 ?side2 ?side3 ?side4 ?side5 ?side6 ?side7 ?side8 ?side9 ?side10 A21.out).mono ?_
    (case side1=>exact laC (mx_C_below HR0_0.out HB.out));(case side2=>exact HC0_0.out);(case side3=>exact laC (mx_C_below HR0_1.out HB.out));(case side4=>exact HC0_1.out);(case side5=>exact laC (mx_C_below HR0_2.out HB.out));(case side6=>exact HC0_2.out);(case side7=>exact laC (mx_C_below HR0_3.out HB.out));(case side8=>exact HC0_3.out);(case side9=>exact laC (mx_C_below HR0_4.out HB.out));(case side10=>exact HC0_4.out);rintro e w26 ⟨rfl,hb⟩;(try replace hb:=mx_of (B:=MB_) (Pm:=(impl_topdown_dist_C.MP l0_0 l0_1 l0_2 l0_3 l0_4 a0_5)) hb);have HS6_:=(hb.cell (World.block_lt_of_cell? _ _ (hHeld.2.2.2.2.2.2.1))).trans (hHeld.2.2.2.2.2.2.1);have HS7_:=(hb.cell (World.block_lt_of_cell? _ _ (hHeld.2.2.2.2.2.2.2.1))).trans (hHeld.2.2.2.2.2.2.2.1);have HS8_:=(hb.cell (World.block_lt_of_cell? _ _ (hHeld.2.2.2.2.2.2.2.2))).trans (hHeld.2.2.2.2.2.2.2.2);refine ⟨_,rfl,?_⟩;replace HO_5:=Aside0.mk (mx_laRb HO_5.out hb);replace HO_6:=Aside0.mk (mx_laRb HO_6.out hb);replace HO_7:=Aside0.mk (mx_laSb HO_7.out hb);replace HO_27:=Aside0.mk (mx_laRb HO_27.out hb);replace HL634_0:=Aside0.mk (mx_laRb HL634_0.out hb);replace HL635_0:=Aside0.mk (mx_laRb HL635_0.out hb);replace BK619:=Aside0.mk (mx_laKb BK619.out hb);replace BK620:=Aside0.mk (mx_laKb BK620.out hb);replace HR634_0:=Aside0.mk (mx_C_below (by repeat (first | (with_reducible exact HR634_0.out) | (with_reducible refine Kd.C_alloc ?_ _) | (with_reducible refine Kd.C_drewN ?_ _) | (with_reducible refine Kd.C_drew ?_) | exact HR634_0.out)) hb);replace HX634_0:=Aside0.mk (mx_cell_below hb HX634_0.out);replace HR635_0:=Aside0.mk (mx_C_below (by repeat (first | (with_reducible exact HR635_0.out) | (with_reducible refine Kd.C_alloc ?_ _) | (with_reducible refine Kd.C_drewN ?_ _) | (with_reducible refine Kd.C_drew ?_) | exact HR635_0.out)) hb);replace HX635_0:=Aside0.mk (mx_cell_below hb HX635_0.out);replace HB:=Aside0.mk (mx_step (mx_laB HB.out) hb);(try clear hb);(try clear hb2);(try clear hk);(try clear hi)
    obtain ⟨go27,co27,eo27,gb27,gl27,cl27,HG27⟩:=Kd.S_form HO_7.out (by have h_ : (0 : Int) < ((x7_1.length : Int) : Int):=of_decide_eq_true (by first | (with_reducible assumption) | assumption);have h2_ : 0 ≤ (0 : Int):=(by omega);omega)
    (first | cases eo27 | (injection eo27 with ea_ en_ ec_;(first | subst ea_ | (injection ea_ with ea_;subst ea_));subst ec_;clear en_))
    have GB27:=Aside0.mk gb27;have GG27:=Aside0.mk HG27;clear gb27 gl27 HG27
    (first | simp only [add_plain] at hx634_0 | skip)
    (first | simp only [add_plain] at hx635_0 | skip)
    obtain ⟨oki27,ce27,hcl27,hM27,hcc27,_,_,hH27⟩:=Kd.S_elem HO_7.out [] (0 : Int) (by omega) (by have h_ : (0 : Int) < ((x7_1.length : Int) : Int):=of_decide_eq_true (by first | (with_reducible assumption) | assumption);first | exact h_ | (have e_:=(Kd.S_reads' HO_7.out).1;omega) | simpa using h_)
    obtain ⟨ve27_0,rfl,ge27_0⟩:=hM27
    have hv27:=hcc27 0 _ rfl;have hX27:=HX634_0.out
    (try simp only [add_plain] at hX27)
    (try simp only [Nat.add_zero] at hv27)
    (try rw [show ((Kd.slice 3 (Kd.int .i64))).sz = 1 from rfl,Nat.mul_one] at hv27)
    replace hv27:=Option.some.inj (hv27.symm.trans hX27);subst hv27;clear hX27 hcc27 hcl27;have UU27:=Aside0.mk (show Kd.R (Kd.int .i64) 3 _ w.heap.size oki27 (.slice (some ad636) (rd_L3 x7_1 0).length c634_0) (rd_L3 x7_1 0) from ge27_0);have HH27:=Aside0.mk hH27;have HN27:=Aside0.mk (Kd.S_reads' HO_7.out).1;clear hH27 ge27_0;refine hK.out _ _ ⟨(blk_cell BK619.out 0).trans rfl,(blk_cell BK619.out 1).trans rfl,(blk_cell BK619.out 2).trans rfl,(blk_cell BK619.out 3).trans rfl,(blk_cell BK619.out 4).trans rfl,(blk_cell BK619.out 5).trans rfl,HS6_,HS7_,HS8_⟩ (fun hHeld=>?_);clear hK K;refine norm_ (a':=?_) ?_ ?_;rotate_left
    ·show Act.put _ (some 46) _ = _
     simp only [Act.put,za,zb,zc,i64_w,i32_w];rfl
    refine pure_ (i:=13) (N:=some 47) (v:=?_) (a':=?_) (pw 18 14) rfl rfl (any_of HT_.out (by kernel_rfl)) (fun _ _ _ h=>h) (Or.inl ⟨by rfl,?_⟩) ?_ ?_;rotate_left
    ·intro w';go_simp;with_reducible rfl
    rotate_left;·simp only [Act.put,za,zb,zc,i64_w,i32_w];rfl
    refine one_ (i:=14) (N:=some 48) (pw 18 15) rfl rfl (one_of HT_.out (by kernel_rfl)) (by decide) (fun K hK=>?_);refine value_ (w1:=?_) (v:=?_) (by rfl) rfl ?_ ?_;rotate_left 2
    ·go_simp
     constructor
     ·rfl
     ·rfl
    refine hK.out _ _ ⟨(blk_cell (blk_alloc BK619.out _) 0).trans rfl,(blk_cell (blk_alloc BK619.out _) 1).trans rfl,(blk_cell (blk_alloc BK619.out _) 2).trans rfl,(blk_cell (blk_alloc BK619.out _) 3).trans rfl,(blk_cell (blk_alloc BK619.out _) 4).trans rfl,(blk_cell (blk_alloc BK619.out _) 5).trans rfl,(World.cell?_alloc_lt _ _ _ (World.block_lt_of_cell? _ _ (hHeld.2.2.2.2.2.2.1))).trans (hHeld.2.2.2.2.2.2.1),(World.cell?_alloc_lt _ _ _ (World.block_lt_of_cell? _ _ (hHeld.2.2.2.2.2.2.2.1))).trans (hHeld.2.2.2.2.2.2.2.1),(World.cell?_alloc_lt _ _ _ (World.block_lt_of_cell? _ _ (hHeld.2.2.2.2.2.2.2.2))).trans (hHeld.2.2.2.2.2.2.2.2)⟩ (fun hHeld=>?_);clear hK K;refine norm_ (a':=?_) ?_ ?_;rotate_left
    ·show Act.put _ (some 48) _ = _
     simp only [Act.put,za,zb,zc,i64_w,i32_w];rfl
    refine last_ (i:=15) (N:=some 49) (pw 18 16) rfl rfl (one_of HT_.out (by kernel_rfl)) (by decide) (fun K hK=>?_);refine Kd.R_append_step (Kd.int .i64) (w0:=?w01_) w.heap.size (by rfl) (.tmp 37) (.tmp 48) 24 3 (.int .i64 0) 8 rfl Try.underlying24 info3 rfl (by decide) (by omega) (.slice (some ad636) (rd_L3 x7_1 0).length c634_0) (rd_L3 x7_1 0) (wrap64 ((rd (rd_L3 x7_1 0) x29_1) + t637)) [.int .i64 (wrap64 ((rd (rd_L3 x7_1 0) x29_1) + t637))] (fun k_=>oki27 k_ ∨ ((fun k_=>some k_ ≠ (v622 : Value).ownBlock ∧ some k_ ≠ (.slice (some ad633) t624.length co15 : Value).ownBlock ∧ some k_ ≠ (.slice (some ad633) t624.length co15 : Value).ownBlock)) k_ ∧ w26.heap.size ≤ k_) (fun _=>False) rfl rfl ?aP (fun _ hk=>hk.elim) ?aF ?aO ?aB ?aS ?aL ?_;(case aP=>exact rfl);(case aB=>exact (Below.refl _ _));(case aF=>exact (fun k_ hk=>.inr ⟨⟨Kd.fresh' (Kd.R_lt (laR HO_5.out)) k_ hk,Kd.fresh' (Kd.R_lt (laR HO_6.out)) k_ hk,Kd.fresh' (Kd.R_lt (laR HO_27.out)) k_ hk⟩,hk⟩));(case aO=>exact (laR (Kd.R_mono UU27.out (fun _ hk=>.inl hk))));(case aS=>exact (mx_size (mx_laB HB.out)));(case aL=>have:=LMc22.out;omega);intro v639 w28 ho hb hg hat;replace hb:=mx_grown (B:=MB_) (Pm:=(impl_topdown_dist_C.MP l0_0 l0_1 l0_2 l0_3 l0_4 a0_5)) (mx_laB HB.out) hg (by first | exact Kd.R_base UU27.out | exact Kd.R_base (Kd.S_R UU27.out));rw [← Ny638.out] at ho;have n0_:=Aside0.mk (Kd.R_grown2 (laR HO_5.out) rfl hg (fun k_ e_=>(HL634_0.out.1 k_ e_).1.1));have n1_:=Aside0.mk (Kd.R_grown2 (laR HO_6.out) rfl hg (fun k_ e_=>(HL634_0.out.1 k_ e_).1.2.1));have n2_:=Aside0.mk (Kd.R_grown2 (laR HO_27.out) rfl hg (fun k_ e_=>(HL634_0.out.1 k_ e_).1.2.2));have n3_:=Aside0.mk (blk_grown (g:=gb619) (o:=.cells #[.slice A0_0 l0_0.length c0_0,.slice A0_1 l0_1.length c0_1,.slice A0_2 l0_2.length c0_2,.slice A0_3 l0_3.length c0_3,.slice A0_4 l0_4.length c0_4,.map (some MB_)] 70 (0,0)) (laK BK619.out) hg (Kd.R_ne HL634_0.out BK619.out (by decide)));have n4_:=Aside0.mk (blk_grown (g:=gb620) (o:=.cells #[.int .i64 a1_0,.int .i64 a1_1] 75 (0,0)) (laK BK620.out) hg (Kd.R_ne HL634_0.out BK620.out (by decide)));have n5_:=Aside0.mk (hb);have n6_:=Aside0.mk (Kd.H_grown (Kd.H_widen (by repeat (first | exact HH27.out | refine Kd.H_alloc ?_ _ | refine Kd.H_drewN ?_ _ | refine Kd.H_drew ?_))) hg (fun k_ e_=>.inl (UU27.out.1 k_ e_)));have n7_:=Aside0.mk (ho);clear HO_5;clear HO_6;clear HO_27;clear BK619;clear BK620;clear HB;clear HH27;clear HO_7;clear UU27;clear HL634_0;clear HL635_0;have HO_5:=n0_;have HO_6:=n1_;have HO_27:=n2_;have BK619:=n3_;have BK620:=n4_;have HB:=n5_;have HH27:=n6_;have HO640:=n7_;clear n0_ n1_ n2_ n3_ n4_ n5_ n6_ n7_;clear ho hb hg hat;have p23 : 0 ≤ (0 : Int):=(by omega);have q23 : (0 : Int) < ((x7_1.length : Int) : Int):=of_decide_eq_true (by first | (with_reducible assumption) | assumption);replace p23:=eq_true p23;replace q23:=eq_true q23
    obtain ⟨Ao31,co31,eo31⟩:=Kd.R_slice HO640.out
    (first | subst eo31 | (injection eo31 with f1_ f2_ f3_;have f4_:=f1_.symm;have f5_:=f3_.symm;clear f1_ f2_ f3_;subst f4_;subst f5_))
    obtain ⟨_,_,hraw29,_,_,hcc29,_⟩:=Kd.H_raw HH27.out (by omega) (by have h_ : (0 : Int) < ((x7_1.length : Int) : Int):=of_decide_eq_true (by first | (with_reducible assumption) | assumption);first | exact h_ | (have e_:=(HN27.out);omega) | simpa using h_)
    obtain ⟨_,hfr29⟩:=Kd.H_at HH27.out (by omega) (by have h_ : (0 : Int) < ((x7_1.length : Int) : Int):=of_decide_eq_true (by first | (with_reducible assumption) | assumption);first | exact h_ | (have e_:=(HN27.out);omega) | simpa using h_)
    have hx29_0:=hcc29 0 _ rfl;have hf29_0:=hfr29 0
    (try simp only [Nat.add_zero] at hx29_0 hf29_0)
    (try rw [show ((Kd.slice 3 (Kd.int .i64))).sz = 1 from rfl,Nat.mul_one] at hx29_0)
    (try rw [show ((Kd.slice 3 (Kd.int .i64))).sz = 1 from rfl,Nat.mul_one] at hf29_0)
    (try rw [show ((0 : Int)).toNat = 0 from rfl] at hx29_0)
    (try simp only [Nat.reduceMul,Nat.zero_mul,Nat.zero_add,Nat.reduceAdd] at hx29_0)
    (try rw [show ((0 : Int)).toNat = 0 from rfl] at hf29_0)
    (try simp only [Nat.reduceMul,Nat.zero_mul,Nat.zero_add,Nat.reduceAdd] at hf29_0)
    have HP29:=Kd.S_seg0 HH27.out (by omega) (by have h_ : (0 : Int) < ((x7_1.length : Int) : Int):=of_decide_eq_true (by first | (with_reducible assumption) | assumption);first | exact h_ | (have e_:=(HN27.out);omega) | simpa using h_) (seg:=[.slice Ao31 y638.length co31]) (j:=0) (show 1 ≤ 1 from by decide) (x':=y638) (Kd.M_row HO640.out) (fun _ hk=>hk)
    (try simp only [show ((Kd.slice 3 (Kd.int .i64))).sz = 1 from rfl,Nat.mul_one,Nat.add_zero] at HP29)
    clear hcc29 hfr29;have HNB619_go27:=Aside0.mk (show gb619 ≠ go27 from by have h_:=Kd.R_ne hraw29 BK619.out (by decide);intro e_;exact h_ (by rw [e_];rfl));have HNB620_go27:=Aside0.mk (show gb620 ≠ go27 from by have h_:=Kd.R_ne hraw29 BK620.out (by decide);intro e_;exact h_ (by rw [e_];rfl));have HS29:=HP29.1;rw [← Ny641.out] at HS29;have HQ29:=Aside0.mk HS29
    obtain ⟨_,hgg29⟩:=Kd.R_typed hraw29 go27 rfl
    have GG29_:=Aside0.mk hgg29;clear HP29 HS29 hgg29;refine hK.out _ _ ?_;clear hK K;refine norm_ (a':=?_) ?_ ?_;rotate_left
    ·show Act.put _ (some 49) _ = _
     simp only [Act.put,za,zb,zc,i64_w,i32_w];rfl
    refine pure_ (i:=16) (N:=some 50) (v:=?_) (a':=?_) (pw 18 17) rfl rfl (any_of HT_.out (by kernel_rfl)) (fun _ _ _ h=>h) (Or.inl ⟨by rfl,?_⟩) ?_ ?_;rotate_left
    ·intro w';go_simp;with_reducible rfl
    rotate_left;·simp only [Act.put,za,zb,zc,i64_w,i32_w];rfl
    refine last_ (i:=17) (N:=none) (pw 18 18) rfl rfl (one_of HT_.out (by kernel_rfl)) (by decide) (fun K hK=>?_);refine skip_ (w1:=?_) (by rfl) rfl ?_ ?_;rotate_left
    ·go_simp
     rfl
    refine hK.out _ _ ?_;clear hK K;refine done_ (done_of HT_.out (by kernel_rfl)) ?_
    try go_wp2
    go_roundg k1
    case measure=>have:=HK1.out;omega
    case rel=>exact ⟨(y641),(wrap64 (x29_1 + 1)),(by first | rfl | (simp;done) | (simp [*];done)),H',⟨by have:=HK1.out;omega⟩,⟨laR (Kd.R_mono (Kd.R_far (p:=⟨go27,0,none⟩) (Kd.R_types HO_5.out GG29_.out (by decide)) (fun _ hk=>hk.2) (.slice Ao31 y638.length co31)) (fun _ hk=>⟨hk.1.1,hk.1.2⟩))⟩,⟨laR (Kd.R_mono (Kd.R_far (p:=⟨go27,0,none⟩) (Kd.R_types HO_6.out GG29_.out (by decide)) (fun _ hk=>hk.2) (.slice Ao31 y638.length co31)) (fun _ hk=>hk.1))⟩,⟨HQ29.out⟩,⟨laR (Kd.R_mono (Kd.R_far (p:=⟨go27,0,none⟩) (Kd.R_types HO_27.out GG29_.out (by decide)) (fun _ hk=>hk.2) (.slice Ao31 y638.length co31)) (fun _ hk=>hk.1))⟩,⟨by (with_reducible repeat (first | refine blk_drewN ?_ _ | refine blk_drew ?_ | refine blk_alloc ?_ _));refine blk_far ?_ HNB619_go27.out _;(with_reducible repeat (first | refine blk_drewN ?_ _ | refine blk_drew ?_ | refine blk_alloc ?_ _));exact BK619.out⟩,⟨by (with_reducible repeat (first | refine blk_drewN ?_ _ | refine blk_drew ?_ | refine blk_alloc ?_ _));refine blk_far ?_ HNB620_go27.out _;(with_reducible repeat (first | refine blk_drewN ?_ _ | refine blk_drew ?_ | refine blk_alloc ?_ _));exact BK620.out⟩,⟨by repeat (first | (with_reducible first | exact HB.out | apply mx_alloc | apply mx_drewN | apply mx_drew1 | refine mx_set ?_ GB27.out | refine mx_set ?_ GE619.out | refine mx_set ?_ GE620.out) | exact HB.out)⟩⟩
   ·rw [if_neg c16] at H
    have c16b0 : decide (x29_1 < (t624.length : Int)) = false:=decide_eq_false c16;clear c16;have H':=Aside0.mk H;clear H
    obtain ⟨Ao32,co32,eo32⟩:=Kd.R_slice HO_5.out
    subst eo32
    go_wp2
    go_loopg [7,54] k1 (fun kq v7 v54 w'=>∃ (x7_2 : List (List Int)) (x54_2 : Int),v54 = .int .i64 x54_2 ∧ Aside0 (impl_topdown_table.l1 kq t624 x7_2 t621 (t621.length : Int) x54_2 l0_0 l0_1 l0_2 l0_3 l0_4 a0_5 = some r) ∧ Aside0 (kq ≤ k1) ∧ Aside0 (Kd.R (Kd.int .i64) 3 w' w.heap.size (fun k_=>some k_ ≠ ((.slice Ao32 t621.length co32) : Value).ownBlock) (.slice Ao15 t624.length co15) t624) ∧ Aside0 (Kd.S (Kd.slice 3 (Kd.int .i64)) 24 w' w.heap.size (fun k_=>some k_ ≠ ((.slice Ao15 t624.length co15) : Value).ownBlock ∧ some k_ ≠ ((.slice Ao32 t621.length co32) : Value).ownBlock) v7 x7_2) ∧ Aside0 (Kd.R (Kd.int .i64) 3 w' w.heap.size (fun k_=>some k_ ≠ ((.slice Ao15 t624.length co15) : Value).ownBlock) (.slice Ao32 t621.length co32) t621) ∧ Aside0 (w'.heap[gb619]? = some (.cells #[(.slice A0_0 l0_0.length c0_0),(.slice A0_1 l0_1.length c0_1),(.slice A0_2 l0_2.length c0_2),(.slice A0_3 l0_3.length c0_3),(.slice A0_4 l0_4.length c0_4),.map (some MB_)] 70 (0,0))) ∧ Aside0 (w'.heap[gb620]? = some (.cells #[.int .i64 a1_0,.int .i64 a1_1] 75 (0,0))) ∧ Aside0 (BelowX MB_ (impl_topdown_dist_C.MP l0_0 l0_1 l0_2 l0_3 l0_4 a0_5) w.heap.size w w'))
    case atStart=>exact ⟨(x7_1),(0),(by first | rfl | (simp;done) | (simp [*];done)),H',⟨Nat.le_refl _⟩,⟨laR HO_6.out⟩,⟨laS (Kd.S_mono HO_7.out (fun _ hk=>⟨hk.2.1,hk.1⟩))⟩,⟨laR (Kd.R_mono HO_5.out (fun _ hk=>hk.1))⟩,⟨laK BK619.out⟩,⟨laK BK620.out⟩,⟨mx_laB HB.out⟩⟩
    case round =>
     clear H'
     try clear c1
     try clear c2
     try clear p2
     try clear q2
     try clear hx2
     try clear hf2
     try clear c6
     try clear p6
     try clear q6
     try clear hx6
     try clear qi6
     try clear c8
     try clear c10
     try clear c11
     try clear c16
     try clear c16b0
     try clear c17
     try clear c17b0
     try clear c18
     try clear c18b0
     try clear c19
     try clear c19b0
     try clear c19b1
     try clear c20
     try clear c20b0
     try clear c22
     try clear p23
     try clear q23
     try clear c27
     try clear c29
     try clear hx29
     try clear hf29
     try clear hx29_0
     try clear hx633_0
     try clear hx634_0
     try clear hx635_0
     try clear hx636_0
     try clear p2
     try clear p23
     try clear p633
     try clear p634
     try clear p635
     try clear p636
     try clear q23
     try clear q633
     try clear q634
     try clear q635
     try clear q636
     obtain ⟨x7_2,x54_2,rfl,HA,HK2,HO_6,HO_7,HO_52,BK619,BK620,HB⟩:=hrel
     cases gk with
     | zero=>exact absurd HA.out (by simp [impl_topdown_table.l1])
     | succ k2 =>
      have H:=HA.out;clear HA;simp only [impl_topdown_table.l1] at H
      by_cases c33 : x54_2 < (t621.length : Int)
      rotate_left
      ·rw [if_neg c33] at H
       have c33b0 : decide (x54_2 < (t621.length : Int)) = false:=decide_eq_false c33;clear c33
       obtain rfl:=Option.some.inj H
       go_wp2
       go_ret
       exact ⟨_,by first | rfl | (simp [errW_none,errW_some] <;> rfl) | (simp [*,errW_none,errW_some] <;> rfl),by (with_reducible repeat (first | apply Kd.S_alloc | apply Kd.S_drewN | apply Kd.S_drew));exact Kd.S_mono HO_7.out (fun _ hk=>trivial),mx_laB HB.out⟩
      rw [if_pos c33] at H;have c33b0 : decide (x54_2 < (t621.length : Int)) = true:=decide_eq_true c33;clear c33
      by_cases c34 : 0 ≤ x54_2
      rotate_left
      ·rw [if_neg c34] at H
       exact absurd H (by simp)
      rw [if_pos c34] at H;have c34b0 : decide (0 ≤ x54_2) = true:=decide_eq_true c34;clear c34
      by_cases c35 : x54_2 < (t621.length : Int)
      rotate_left
      ·rw [if_neg c35] at H
       exact absurd H (by simp)
      rw [if_pos c35] at H;have c35b0 : decide (x54_2 < (t621.length : Int)) = true:=decide_eq_true c35;clear c35
      by_cases c36 : x54_2 < (x7_2.length : Int)
      rotate_left
      ·rw [if_neg c36] at H
       exact absurd H (by simp)
      rw [if_pos c36] at H;have c36b0 : decide (x54_2 < (x7_2.length : Int)) = true:=decide_eq_true c36;clear c36
      by_cases c37 : 0 < ((rd_L3 x7_2 x54_2).length : Int)
      rotate_left
      ·rw [if_neg c37] at H
       exact absurd H (by simp)
      rw [if_pos c37] at H;have c37b0 : decide (0 < ((rd_L3 x7_2 x54_2).length : Int)) = true:=decide_eq_true c37;have c37b1 : decide (0 < (rd_L3 x7_2 x54_2).length) = true:=decide_eq_true (by omega);clear c37;replace H:=Option.bind_eq_some_iff.mp H
      obtain ⟨t645,A380,H⟩:=H
      have A38:=Aside0.mk A380;clear A380
      obtain ⟨y646,hy646⟩ : ∃ y_ : List Int,y_ = (([wrap64 ((rd (rd_L3 x7_2 x54_2) 0) + t645)] : List Int)):=⟨_,rfl⟩
      replace H : (impl_topdown_table.l2 k2 t624 x7_2 x54_2 (rd t621 x54_2) y646 t621 (t621.length : Int) x54_2 t624 (t624.length : Int) 0 l0_0 l0_1 l0_2 l0_3 l0_4 a0_5) = some r:=by first | (rw [hy646];with_reducible exact H) | (have H2_:=(Option.bind_some _ _).symm.trans H;rw [hy646];with_reducible exact H2_) | (have H2_:=(Option.bind_some _ _).symm.trans H;with_reducible exact H2_) | with_reducible exact H | (rw [hy646];exact H) | exact H
      have Ny646:=Aside0.mk hy646;clear hy646;have H':=Aside0.mk H;clear H;have p642 : 0 ≤ (x54_2 : Int):=of_decide_eq_true (by first | (with_reducible assumption) | assumption);have q642 : x54_2 < (t621.length : Int):=of_decide_eq_true (by first | (with_reducible assumption) | assumption)
      obtain ⟨ad642,e642,hx642_0⟩:=Kd.at_int (Kd.R_reads' HO_52.out).2.2 x54_2 p642 q642
      cases e642
      replace p642:=eq_true p642;replace q642:=eq_true q642
      try go_wp2
      replace HO_6:=Aside0.mk (Kd.R_drew HO_6.out);replace HO_7:=Aside0.mk (Kd.S_drew HO_7.out);replace HO_52:=Aside0.mk (Kd.R_drew HO_52.out);replace BK619:=Aside0.mk (blk_drew BK619.out);replace BK620:=Aside0.mk (blk_drew BK620.out);replace HB:=Aside0.mk (mx_drew1 HB.out)
      obtain ⟨Ao40,co40,eo40⟩:=Kd.S_slice HO_7.out
      (first | subst eo40 | (injection eo40 with f1_ f2_ f3_;have f4_:=f1_.symm;have f5_:=f3_.symm;clear f1_ f2_ f3_;subst f4_;subst f5_))
      have p643 : 0 ≤ (x54_2 : Int):=of_decide_eq_true (by first | (with_reducible assumption) | assumption);have q643 : x54_2 < (x7_2.length : Int):=of_decide_eq_true (by first | (with_reducible assumption) | assumption)
      obtain ⟨ad643,A643_0,c643_0,e643,hx643_0,hl643_0,hi643_0⟩:=at_L3 (Kd.S_reads' HO_7.out).2.2 x54_2 p643 q643
      cases e643
      obtain ⟨ce643,hce643,hMe643,hcc643⟩:=Kd.S_get HO_7.out [] x54_2 p643 (by first | exact q643 | exact of_decide_eq_true (by first | (with_reducible assumption) | assumption) | (have e_:=(Kd.S_reads' HO_7.out).1;omega))
      obtain ⟨ve643_0,rfl,ge643_0⟩:=hMe643
      have hv643_0:=hcc643 0 _ rfl;rw [Nat.add_zero,show ((Kd.slice 3 (Kd.int .i64))).sz = 1 from rfl,Nat.mul_one] at hv643_0;replace hv643_0:=Option.some.inj (hv643_0.symm.trans hx643_0);rw [hv643_0] at ge643_0;have HL643_0:=Aside0.mk (show Kd.R (Kd.int .i64) 3 _ _ _ _ (rd_L3 x7_2 x54_2) from ge643_0);clear hv643_0 ge643_0;have HX643_0:=Aside0.mk hx643_0;clear hcc643 hce643;have HR643_0:=Aside0.mk hi643_0;have HC643_0:=Aside0.mk hl643_0;clear hi643_0 hl643_0;replace p643:=eq_true p643;replace q643:=eq_true q643;have p644 : 0 ≤ (0 : Int):=(by omega);have q644 : 0 < ((rd_L3 x7_2 x54_2).length : Int):=of_decide_eq_true (by first | (with_reducible assumption) | assumption)
      obtain ⟨ad644,e644,hx644_0⟩:=Kd.at_int (by repeat (first | (with_reducible exact HR643_0.out) | (with_reducible refine Kd.C_alloc ?_ _) | (with_reducible refine Kd.C_drewN ?_ _) | (with_reducible refine Kd.C_drew ?_) | exact HR643_0.out)) 0 p644 q644
      cases e644
      have qi644 : (0 < (rd_L3 x7_2 x54_2).length) = True:=eq_true (by omega)
      (try rw [show ((0 : Int)).toNat = 0 from rfl] at hx644_0)
      (try rw [Addr.add_zero'] at hx644_0)
      replace p644:=eq_true p644;replace q644:=eq_true q644;refine start_ (n:=12) (S:=fun w'=>w'.cell? ⟨gb619,0,none⟩ = some (.slice A0_0 l0_0.length c0_0) ∧ w'.cell? ⟨gb619,1,none⟩ = some (.slice A0_1 l0_1.length c0_1) ∧ w'.cell? ⟨gb619,2,none⟩ = some (.slice A0_2 l0_2.length c0_2) ∧ w'.cell? ⟨gb619,3,none⟩ = some (.slice A0_3 l0_3.length c0_3) ∧ w'.cell? ⟨gb619,4,none⟩ = some (.slice A0_4 l0_4.length c0_4) ∧ w'.cell? ⟨gb619,5,none⟩ = some (.map (some MB_)) ∧ w'.cell? (ad643.add (x54_2).toNat) = some (.slice (some ad644) (rd_L3 x7_2 x54_2).length c643_0) ∧ w'.cell? ad644 = some (.int .i64 (rd (rd_L3 x7_2 x54_2) 0))) (ds:=[]) (pw 12 0) (by kernel_rfl) rfl rfl ⟨(blk_cell BK619.out 0).trans rfl,(blk_cell BK619.out 1).trans rfl,(blk_cell BK619.out 2).trans rfl,(blk_cell BK619.out 3).trans rfl,(blk_cell BK619.out 4).trans rfl,(blk_cell BK619.out 5).trans rfl,hx643_0,hx644_0⟩ (fun hHeld=>?_);refine with_tabW impl_topdown_table.tab11 impl_topdown_table.bits11 (fun HT_ HW_=>?_)
      generalize wr.drew = w39 at HO_6 HO_7 HO_52 BK619 BK620 HB HL643_0 HR643_0 HX643_0 hx643_0 hx644_0 hHeld ⊢
      refine pure_ (i:=0) (N:=some 59) (v:=?_) (a':=?_) (pw 12 1) rfl rfl (any_of HT_.out (by kernel_rfl)) (fun _ _ _ h=>h) (Or.inl ⟨by rfl,?_⟩) ?_ ?_;rotate_left
      ·intro w';go_simp;with_reducible rfl
      rotate_left;·simp only [Act.put,za,zb,zc,i64_w,i32_w];rfl
      refine pure_ (i:=1) (N:=some 60) (v:=?_) (a':=?_) (pw 12 2) rfl rfl (any_of HT_.out (by kernel_rfl)) (fun _ _ _ h=>h) (Or.inl ⟨by rfl,?_⟩) ?_ ?_;rotate_left
      ·intro w';go_simp;with_reducible rfl
      rotate_left;·simp only [Act.put,za,zb,zc,i64_w,i32_w];rfl
      refine pure_ (i:=2) (N:=some 61) (v:=?_) (a':=?_) (pw 12 3) rfl rfl (any_of HT_.out (by kernel_rfl)) (fun _ _ _ h=>h) (Or.inl ⟨by rfl,?_⟩) ?_ ?_;rotate_left
      ·intro w';go_simp;with_reducible rfl
      rotate_left;·simp only [Act.put,za,zb,zc,i64_w,i32_w];rfl
      refine pure_ (i:=7) (N:=some 66) (v:=?_) (a':=?_) (bw 12 135) rfl rfl (any_of HT_.out (by kernel_rfl)) (fun _ _ _ h=>h) (Or.inl ⟨by rfl,?_⟩) ?_ ?_;rotate_left
      ·intro w';go_simp;with_reducible rfl
      rotate_left;·simp only [Act.put,za,zb,zc,i64_w,i32_w];rfl
      refine take_ (i:=3) (N:=some 62) (v:=?_) (a':=?_) (bw 12 143) rfl rfl (take_ofW HT_.out HW_.out (by kernel_rfl)) (fun _ _ _ h=>h) (Or.inl ⟨by rfl,?_⟩) hHeld ?_ ?_;rotate_left
      ·rintro w' ⟨s0,s1,s2,s3,s4,s5,s6,s7⟩
       go_simp;with_reducible rfl
      rotate_left;·simp only [Act.put,za,zb,zc,i64_w,i32_w];rfl
      refine pure_ (i:=4) (N:=some 63) (v:=?_) (a':=?_) (bw 12 159) rfl rfl (any_of HT_.out (by kernel_rfl)) (fun _ _ _ h=>h) (Or.inl ⟨by rfl,?_⟩) ?_ ?_;rotate_left
      ·intro w';go_simp;with_reducible rfl
      rotate_left;·simp only [Act.put,za,zb,zc,i64_w,i32_w];rfl
      refine take_ (i:=5) (N:=some 64) (v:=?_) (a':=?_) (bw 12 191) rfl rfl (take_ofW HT_.out HW_.out (by kernel_rfl)) (fun _ _ _ h=>h) (Or.inl ⟨by rfl,?_⟩) hHeld ?_ ?_;rotate_left
      ·rintro w' ⟨s0,s1,s2,s3,s4,s5,s6,s7⟩
       go_simp;with_reducible rfl
      rotate_left;·simp only [Act.put,za,zb,zc,i64_w,i32_w];rfl
      refine take_ (i:=6) (N:=some 65) (v:=?_) (a':=?_) (pw 12 8) rfl rfl (take_ofW HT_.out HW_.out (by kernel_rfl)) (fun _ _ _ h=>h) (Or.inl ⟨by rfl,?_⟩) hHeld ?_ ?_;rotate_left
      ·rintro w' ⟨s0,s1,s2,s3,s4,s5,s6,s7⟩
       go_simp;with_reducible rfl
      rotate_left;·simp only [Act.put,za,zb,zc,i64_w,i32_w];rfl
      refine one_ (i:=8) (N:=some 67) (pw 12 9) rfl rfl (one_of HT_.out (by kernel_rfl)) (by decide) (fun K hK=>?_);refine goes_ Try.func109 (by kernel_rfl) rfl #[.agg #[.slice A0_0 l0_0.length c0_0,.slice A0_1 l0_1.length c0_1,.slice A0_2 l0_2.length c0_2,.slice A0_3 l0_3.length c0_3,.slice A0_4 l0_4.length c0_4,.map (some MB_)],.int .i64 (rd t621 x54_2)] (by rfl) rfl rfl (by (try simp only [List.map_toArray,List.map_cons,List.map_nil]);first | done | rfl | (simp only [List.length_drop,List.length_take];rfl)) ?_;with_reducible refine (impl_topdown_del.calls MB_ k2 _ _ l0_0 _ _ l0_1 _ _ l0_2 _ _ l0_3 _ _ l0_4 a0_5 (rd t621 x54_2) t645 _ ?side1 ?side2 ?side3 ?side4 ?side5 ?side6 ?side7 ?side8 ?side9 ?side10 A38.out).mono ?_
      (case side1=>exact laC (mx_C_below HR0_0.out HB.out));(case side2=>exact HC0_0.out);(case side3=>exact laC (mx_C_below HR0_1.out HB.out));(case side4=>exact HC0_1.out);(case side5=>exact laC (mx_C_below HR0_2.out HB.out));(case side6=>exact HC0_2.out);(case side7=>exact laC (mx_C_below HR0_3.out HB.out));(case side8=>exact HC0_3.out);(case side9=>exact laC (mx_C_below HR0_4.out HB.out));(case side10=>exact HC0_4.out);rintro e w41 ⟨rfl,hb⟩;(try replace hb:=mx_of (B:=MB_) (Pm:=(impl_topdown_dist_C.MP l0_0 l0_1 l0_2 l0_3 l0_4 a0_5)) hb);have HS6_:=(hb.cell (World.block_lt_of_cell? _ _ (hHeld.2.2.2.2.2.2.1))).trans (hHeld.2.2.2.2.2.2.1);have HS7_:=(hb.cell (World.block_lt_of_cell? _ _ (hHeld.2.2.2.2.2.2.2))).trans (hHeld.2.2.2.2.2.2.2);refine ⟨_,rfl,?_⟩;replace HO_6:=Aside0.mk (mx_laRb HO_6.out hb);replace HO_7:=Aside0.mk (mx_laSb HO_7.out hb);replace HO_52:=Aside0.mk (mx_laRb HO_52.out hb);replace HL643_0:=Aside0.mk (mx_laRb HL643_0.out hb);replace BK619:=Aside0.mk (mx_laKb BK619.out hb);replace BK620:=Aside0.mk (mx_laKb BK620.out hb);replace HR643_0:=Aside0.mk (mx_C_below (by repeat (first | (with_reducible exact HR643_0.out) | (with_reducible refine Kd.C_alloc ?_ _) | (with_reducible refine Kd.C_drewN ?_ _) | (with_reducible refine Kd.C_drew ?_) | exact HR643_0.out)) hb);replace HX643_0:=Aside0.mk (mx_cell_below hb HX643_0.out);replace HB:=Aside0.mk (mx_step (mx_laB HB.out) hb);(try clear hb);(try clear hb2);(try clear hk);(try clear hi);refine hK.out _ _ ⟨(blk_cell BK619.out 0).trans rfl,(blk_cell BK619.out 1).trans rfl,(blk_cell BK619.out 2).trans rfl,(blk_cell BK619.out 3).trans rfl,(blk_cell BK619.out 4).trans rfl,(blk_cell BK619.out 5).trans rfl,HS6_,HS7_⟩ (fun hHeld=>?_);clear hK K;refine norm_ (a':=?_) ?_ ?_;rotate_left
      ·show Act.put _ (some 67) _ = _
       simp only [Act.put,za,zb,zc,i64_w,i32_w];rfl
      refine pure_ (i:=9) (N:=some 68) (v:=?_) (a':=?_) (pw 12 10) rfl rfl (any_of HT_.out (by kernel_rfl)) (fun _ _ _ h=>h) (Or.inl ⟨by rfl,?_⟩) ?_ ?_;rotate_left
      ·intro w';go_simp;with_reducible rfl
      rotate_left;·simp only [Act.put,za,zb,zc,i64_w,i32_w];rfl
      refine one_ (i:=10) (N:=some 69) (pw 12 11) rfl rfl (one_of HT_.out (by kernel_rfl)) (by decide) (fun K hK=>?_);refine Kd.R_lit_step (Kd.int .i64) _ 3 ?hg (N:=69) ?hd (xs:=([wrap64 ((rd (rd_L3 x7_2 x54_2) 0) + t645)] : List Int)) (inner:=[.int .i64 (wrap64 ((rd (rd_L3 x7_2 x54_2) 0) + t645))]) (ok:=fun _=>True) (okp:=fun _=>True) ?hr ?hp (fun _ hk=>hk) trivial (Below.refl _ _) (Nat.le_refl _) (by simp) ?_;(case hd=>rfl);(case hg=>rfl);(case hr=>first | (go_simp;done) | (go_simp;rfl));(case hp=>exact (Reps.one (show Kd.M (Kd.int .i64) _ _ _ (wrap64 ((rd (rd_L3 x7_2 x54_2) 0) + t645)) [.int .i64 (wrap64 ((rd (rd_L3 x7_2 x54_2) 0) + t645))] from rfl) (Reps.none _ _)));intro v647 w42 ho43 hb hg_ hnew_;(try replace hb:=mx_of (B:=MB_) (Pm:=(impl_topdown_dist_C.MP l0_0 l0_1 l0_2 l0_3 l0_4 a0_5)) hb);have HS6_:=(hb.cell (World.block_lt_of_cell? _ _ (hHeld.2.2.2.2.2.2.1))).trans (hHeld.2.2.2.2.2.2.1);have HS7_:=(hb.cell (World.block_lt_of_cell? _ _ (hHeld.2.2.2.2.2.2.2))).trans (hHeld.2.2.2.2.2.2.2);clear hg_ hnew_
      (first | rw [← Ny646.out] at ho43 | (simp only [Int.reduceToNat] at ho43;rw [← Ny646.out] at ho43))
      replace HO_7:=Aside0.mk (mx_S_elder' (laS HO_7.out) (Kd.R_base ho43) hb);have HO648:=Aside0.mk (Kd.R_lower (Kd.R_new' (Kd.R_new' (Kd.R_new' ho43 (Kd.R_lt (laR HO_6.out))) (Kd.R_lt (laR HO_52.out))) (Kd.R_lt (laR HL643_0.out))) (mx_size (mx_laB HB.out)));replace HO_6:=Aside0.mk (mx_R_elder' (laR HO_6.out) (Kd.R_base ho43) hb);replace HO_52:=Aside0.mk (mx_R_elder' (laR HO_52.out) (Kd.R_base ho43) hb);replace HL643_0:=Aside0.mk (mx_R_elder' (laR HL643_0.out) (Kd.R_base ho43) hb);replace BK619:=Aside0.mk (mx_laKb BK619.out hb);replace BK620:=Aside0.mk (mx_laKb BK620.out hb);replace HR643_0:=Aside0.mk (mx_C_below (by repeat (first | (with_reducible exact HR643_0.out) | (with_reducible refine Kd.C_alloc ?_ _) | (with_reducible refine Kd.C_drewN ?_ _) | (with_reducible refine Kd.C_drew ?_) | exact HR643_0.out)) hb);replace HX643_0:=Aside0.mk (mx_cell_below hb HX643_0.out);replace HB:=Aside0.mk (mx_step (mx_laB HB.out) hb);clear hb ho43;refine hK.out _ _ ⟨(blk_cell BK619.out 0).trans rfl,(blk_cell BK619.out 1).trans rfl,(blk_cell BK619.out 2).trans rfl,(blk_cell BK619.out 3).trans rfl,(blk_cell BK619.out 4).trans rfl,(blk_cell BK619.out 5).trans rfl,HS6_,HS7_⟩ (fun hHeld=>?_);clear hK K;refine norm_ (a':=?_) ?_ ?_;rotate_left
      ·show Act.put _ (some 69) _ = _
       simp only [Act.put,za,zb,zc,i64_w,i32_w];rfl
      refine pure_ (i:=11) (N:=some 12) (v:=?_) (a':=?_) (pw 12 12) rfl rfl (any_of HT_.out (by kernel_rfl)) (fun _ _ _ h=>h) (Or.inl ⟨by rfl,?_⟩) ?_ ?_;rotate_left
      ·intro w';go_simp;with_reducible rfl
      rotate_left;·simp only [Act.put,za,zb,zc,i64_w,i32_w];rfl
      refine done_ (done_of HT_.out (by kernel_rfl)) ?_
      try go_wp2
      go_loopg [12,72] k2 (fun kq v12 v72 w'=>∃ (x12_3 : List Int) (x72_3 : Int),v72 = .int .i64 x72_3 ∧ Aside0 (impl_topdown_table.l2 kq t624 x7_2 x54_2 (rd t621 x54_2) x12_3 t621 (t621.length : Int) x54_2 t624 (t624.length : Int) x72_3 l0_0 l0_1 l0_2 l0_3 l0_4 a0_5 = some r) ∧ Aside0 (kq ≤ k2) ∧ Aside0 (Kd.R (Kd.int .i64) 3 w' w.heap.size (fun k_=>some k_ ≠ (v12 : Value).ownBlock ∧ some k_ ≠ ((.slice (some ad642) t621.length co32) : Value).ownBlock) (.slice Ao15 t624.length co15) t624) ∧ Aside0 (Kd.S (Kd.slice 3 (Kd.int .i64)) 24 w' w.heap.size (fun k_=>some k_ ≠ ((.slice Ao15 t624.length co15) : Value).ownBlock ∧ some k_ ≠ (v12 : Value).ownBlock ∧ some k_ ≠ ((.slice (some ad642) t621.length co32) : Value).ownBlock ∧ some k_ ≠ ((.slice Ao15 t624.length co15) : Value).ownBlock) (.slice (some ad643) x7_2.length co40) x7_2) ∧ Aside0 (Kd.R (Kd.int .i64) 3 w' w.heap.size (fun k_=>some k_ ≠ ((.slice Ao15 t624.length co15) : Value).ownBlock ∧ some k_ ≠ ((.slice (some ad642) t621.length co32) : Value).ownBlock ∧ some k_ ≠ ((.slice Ao15 t624.length co15) : Value).ownBlock) v12 x12_3) ∧ Aside0 (Kd.R (Kd.int .i64) 3 w' w.heap.size (fun k_=>some k_ ≠ ((.slice Ao15 t624.length co15) : Value).ownBlock ∧ some k_ ≠ (v12 : Value).ownBlock ∧ some k_ ≠ ((.slice Ao15 t624.length co15) : Value).ownBlock) (.slice (some ad642) t621.length co32) t621) ∧ Aside0 (Kd.R (Kd.int .i64) 3 w' w.heap.size (fun k_=>some k_ ≠ (v12 : Value).ownBlock ∧ some k_ ≠ ((.slice (some ad642) t621.length co32) : Value).ownBlock) (.slice Ao15 t624.length co15) t624) ∧ Aside0 (w'.heap[gb619]? = some (.cells #[(.slice A0_0 l0_0.length c0_0),(.slice A0_1 l0_1.length c0_1),(.slice A0_2 l0_2.length c0_2),(.slice A0_3 l0_3.length c0_3),(.slice A0_4 l0_4.length c0_4),.map (some MB_)] 70 (0,0))) ∧ Aside0 (w'.heap[gb620]? = some (.cells #[.int .i64 a1_0,.int .i64 a1_1] 75 (0,0))) ∧ Aside0 (BelowX MB_ (impl_topdown_dist_C.MP l0_0 l0_1 l0_2 l0_3 l0_4 a0_5) w.heap.size w w'))
      case atStart=>exact ⟨(y646),(0),(by first | rfl | (simp;done) | (simp [*];done)),H',⟨Nat.le_refl _⟩,⟨laR (Kd.R_mono HO_6.out (fun _ hk=>⟨hk.2,hk.1⟩))⟩,⟨laS (Kd.S_mono HO_7.out (fun _ hk=>⟨hk.1.1,⟨hk.2,⟨hk.1.2,hk.1.1⟩⟩⟩))⟩,⟨laR (Kd.R_mono HO648.out (fun _ hk=>⟨hk.1.1.2,⟨hk.1.2,hk.1.1.2⟩⟩))⟩,⟨laR (Kd.R_mono HO_52.out (fun _ hk=>⟨hk.1,⟨hk.2,hk.1⟩⟩))⟩,⟨laR (Kd.R_mono HO_6.out (fun _ hk=>⟨hk.2,hk.1⟩))⟩,⟨laK BK619.out⟩,⟨laK BK620.out⟩,⟨mx_laB HB.out⟩⟩
      case round =>
       clear H'
       try clear c1
       try clear c2
       try clear p2
       try clear q2
       try clear hx2
       try clear hf2
       try clear c3
       try clear c6
       try clear p6
       try clear q6
       try clear hx6
       try clear qi6
       try clear c8
       try clear c10
       try clear c11
       try clear c16
       try clear c16b0
       try clear c17
       try clear c17b0
       try clear c18
       try clear c18b0
       try clear c19
       try clear c19b0
       try clear c19b1
       try clear c20
       try clear c20b0
       try clear c22
       try clear p23
       try clear q23
       try clear c27
       try clear c29
       try clear hx29
       try clear hf29
       try clear c33
       try clear c33b0
       try clear c34
       try clear c34b0
       try clear c35
       try clear c35b0
       try clear c36
       try clear c36b0
       try clear c37
       try clear c37b0
       try clear c37b1
       try clear hx29_0
       try clear hx633_0
       try clear hx634_0
       try clear hx635_0
       try clear hx636_0
       try clear hx642_0
       try clear hx643_0
       try clear hx644_0
       try clear p2
       try clear p23
       try clear p6
       try clear p633
       try clear p634
       try clear p635
       try clear p636
       try clear p642
       try clear p643
       try clear p644
       try clear q2
       try clear q23
       try clear q6
       try clear q633
       try clear q634
       try clear q635
       try clear q636
       try clear q642
       try clear q643
       try clear q644
       obtain ⟨x12_3,x72_3,rfl,HA,HK3,HO_6,HO_7,HO_12,HO_52,HO_70,BK619,BK620,HB⟩:=hrel
       cases gk with
       | zero=>exact absurd HA.out (by simp [impl_topdown_table.l2])
       | succ k3 =>
        have H:=HA.out;clear HA;simp only [impl_topdown_table.l2] at H
        by_cases c44 : x72_3 < (t624.length : Int)
        rotate_left
        ·rw [if_neg c44] at H
         have c44b0 : decide (x72_3 < (t624.length : Int)) = false:=decide_eq_false c44;clear c44
         by_cases c66 : x7_2.length < 5864062014805
         ·rw [if_pos c66] at H
          have LMc66:=Aside0.mk c66;clear c66
          obtain ⟨y661,hy661⟩ : ∃ y_ : List (List Int),y_ = (x7_2 ++ [x12_3]):=⟨_,rfl⟩
          replace H : (impl_topdown_table.l1 k3 t624 y661 t621 (t621.length : Int) (wrap64 (x54_2 + 1)) l0_0 l0_1 l0_2 l0_3 l0_4 a0_5) = some r:=by first | (rw [hy661];with_reducible exact H) | (have H2_:=(Option.bind_some _ _).symm.trans H;rw [hy661];with_reducible exact H2_) | (have H2_:=(Option.bind_some _ _).symm.trans H;with_reducible exact H2_) | with_reducible exact H | (rw [hy661];exact H) | exact H
          have Ny661:=Aside0.mk hy661;clear hy661;have H':=Aside0.mk H;clear H
          obtain ⟨Ao68,co68,eo68⟩:=Kd.R_slice HO_12.out
          subst eo68
          go_wp2_with (first | ((with_reducible refine gate_builtin (b:=.append) (xs:=#[.tmp 115,.tmp 117]) rfl ?_);at_builtin;refine Kd.S_append (Kd.slice 3 (Kd.int .i64)) (w0:=?w03_) w.heap.size rfl (.tmp 115) (.tmp 117) 99 24 (.slice none 0 0) 24 rfl Try.underlying99 info24 rfl (by decide) (by omega) (.slice (some ad643) x7_2.length co40) x7_2 x12_3 [.slice Ao68 x12_3.length co68] (fun k_=>some k_ ≠ (.slice Ao15 t624.length co15 : Value).ownBlock ∧ some k_ ≠ (.slice (some ad642) t621.length co32 : Value).ownBlock ∧ some k_ ≠ (.slice Ao15 t624.length co15 : Value).ownBlock) (fun k_=>some k_ = (.slice Ao68 x12_3.length co68 : Value).ownBlock) rfl rfl ?aP (fun k_ hk_=>((Kd.R_mono (ok':=fun k_=>((fun k_=>some k_ ≠ (.slice Ao15 t624.length co15 : Value).ownBlock ∧ some k_ ≠ (.slice (some ad642) t621.length co32 : Value).ownBlock ∧ some k_ ≠ (.slice Ao15 t624.length co15 : Value).ownBlock)) k_ ∧ some k_ ≠ (.slice (some ad643) x7_2.length co40 : Value).ownBlock) (Kd.R_apart' (HO_12.out) (Kd.S_typed HO_7.out) (by decide)) (fun k_ hk=>⟨⟨hk.1.1,⟨hk.1.2.1,hk.1.2.2⟩⟩,hk.2⟩))).1 k_ hk_.symm) ?aF ?aO ?aB ?aS ?aL ?_;(case aP=>exact Kd.M_row (Kd.R_mono (Kd.R_tight rfl (Kd.R_mono (ok':=fun k_=>((fun k_=>some k_ ≠ (.slice Ao15 t624.length co15 : Value).ownBlock ∧ some k_ ≠ (.slice (some ad642) t621.length co32 : Value).ownBlock ∧ some k_ ≠ (.slice Ao15 t624.length co15 : Value).ownBlock)) k_ ∧ some k_ ≠ (.slice (some ad643) x7_2.length co40 : Value).ownBlock) (Kd.R_apart' (HO_12.out) (Kd.S_typed HO_7.out) (by decide)) (fun k_ hk=>⟨⟨hk.1.1,⟨hk.1.2.1,hk.1.2.2⟩⟩,hk.2⟩))) (fun _ h_=>h_)));(case aB=>exact (Below.refl _ _));(case aF=>exact (fun k_ hk=>⟨Kd.fresh' (Kd.R_lt (laR HO_6.out)) k_ hk,Kd.fresh' (Kd.R_lt (laR HO_52.out)) k_ hk,Kd.fresh' (Kd.R_lt (laR HO_70.out)) k_ hk⟩));(case aO=>exact (laS (Kd.S_mono HO_7.out (fun k_ hk=>⟨⟨hk.1,⟨hk.2.2.1,hk.2.2.2⟩⟩,fun e_=>hk.2.1 e_⟩))));(case aS=>exact (mx_size (mx_laB HB.out)));(case aL=>have:=LMc66.out;omega);intro v662 w67 ho hb hg hat;replace hb:=mx_grown (B:=MB_) (Pm:=(impl_topdown_dist_C.MP l0_0 l0_1 l0_2 l0_3 l0_4 a0_5)) (mx_laB HB.out) hg (by first | exact Kd.R_base HO_7.out | exact Kd.R_base (Kd.S_R HO_7.out));rw [← Ny661.out] at ho;have n0_:=Aside0.mk (Kd.R_over' (laR HO_6.out) (Kd.S_typed (laS HO_7.out)) (by decide) hg);have n1_:=Aside0.mk (Kd.R_over' (laR HO_52.out) (Kd.S_typed (laS HO_7.out)) (by decide) hg);have n2_:=Aside0.mk (Kd.R_over' (laR HO_70.out) (Kd.S_typed (laS HO_7.out)) (by decide) hg);have n3_:=Aside0.mk (blk_grown (g:=gb619) (o:=.cells #[.slice A0_0 l0_0.length c0_0,.slice A0_1 l0_1.length c0_1,.slice A0_2 l0_2.length c0_2,.slice A0_3 l0_3.length c0_3,.slice A0_4 l0_4.length c0_4,.map (some MB_)] 70 (0,0)) (laK BK619.out) hg (Kd.S_ne HO_7.out BK619.out (by decide)));have n4_:=Aside0.mk (blk_grown (g:=gb620) (o:=.cells #[.int .i64 a1_0,.int .i64 a1_1] 75 (0,0)) (laK BK620.out) hg (Kd.S_ne HO_7.out BK620.out (by decide)));have n5_:=Aside0.mk (hb);have n6_:=Aside0.mk (ho);clear HO_6;clear HO_52;clear HO_70;clear BK619;clear BK620;clear HB;clear HO_7;clear HO_12;have HO_6:=n0_;have HO_52:=n1_;have HO_70:=n2_;have BK619:=n3_;have BK620:=n4_;have HB:=n5_;have HO663:=n6_;clear n0_ n1_ n2_ n3_ n4_ n5_ n6_;clear ho hb hg hat))
          go_roundg k3
          case measure=>have:=HK1.out;have:=HK2.out;have:=HK3.out;omega
          case rel=>exact ⟨(y661),(wrap64 (x54_2 + 1)),(by first | rfl | (simp;done) | (simp [*];done)),H',⟨by have:=HK1.out;have:=HK2.out;have:=HK3.out;omega⟩,⟨laR (Kd.R_mono HO_6.out (fun _ hk=>hk.2))⟩,⟨laS (Kd.S_mono HO663.out (fun _ hk=>⟨hk.1,hk.2.1⟩))⟩,⟨laR (Kd.R_mono HO_52.out (fun _ hk=>hk.1))⟩,⟨laK BK619.out⟩,⟨laK BK620.out⟩,⟨mx_laB HB.out⟩⟩
         ·rw [if_neg c66] at H
          exact absurd H (by simp)
        rw [if_pos c44] at H;have c44b0 : decide (x72_3 < (t624.length : Int)) = true:=decide_eq_true c44;clear c44
        by_cases c45 : 0 ≤ x72_3
        rotate_left
        ·rw [if_neg c45] at H
         exact absurd H (by simp)
        rw [if_pos c45] at H;have c45b0 : decide (0 ≤ x72_3) = true:=decide_eq_true c45;clear c45
        by_cases c46 : x72_3 < (t624.length : Int)
        rotate_left
        ·rw [if_neg c46] at H
         exact absurd H (by simp)
        rw [if_pos c46] at H;have c46b0 : decide (x72_3 < (t624.length : Int)) = true:=decide_eq_true c46;clear c46
        by_cases c47 : 0 ≤ x54_2
        rotate_left
        ·rw [if_neg c47] at H
         exact absurd H (by simp)
        rw [if_pos c47] at H;have c47b0 : decide (0 ≤ x54_2) = true:=decide_eq_true c47;clear c47
        by_cases c48 : x54_2 < (x7_2.length : Int)
        rotate_left
        ·rw [if_neg c48] at H
         exact absurd H (by simp)
        rw [if_pos c48] at H;have c48b0 : decide (x54_2 < (x7_2.length : Int)) = true:=decide_eq_true c48;clear c48
        obtain ⟨ji49,hji49⟩ : ∃ j_ : Int,(wrap64 (x72_3 + 1)) = j_:=⟨_,rfl⟩
        replace H : (if 0 ≤ (ji49) then (if (ji49) < ((rd_L3 x7_2 x54_2).length : Int) then ((impl_topdown_del.f k3 l0_0 l0_1 l0_2 l0_3 l0_4 a0_5 (rd t621 x54_2)).bind fun t652=>(if x72_3 < (x12_3.length : Int) then ((impl_topdown_ins.f k3 l0_0 l0_1 l0_2 l0_3 l0_4 a0_5 (rd t624 x72_3)).bind fun t654=>(if x72_3 < ((rd_L3 x7_2 x54_2).length : Int) then ((impl_topdown_dist_O.f k3 l0_0 l0_1 l0_2 l0_3 l0_4 a0_5 (rd t621 x54_2) (rd t624 x72_3)).bind fun t657=>(if x12_3.length < 17592186044416 then (impl_topdown_table.l2 k3 t624 x7_2 x54_2 (rd t621 x54_2) (x12_3 ++ [mn (mn (wrap64 ((rd (rd_L3 x7_2 x54_2) (ji49)) + t652)) (wrap64 ((rd x12_3 x72_3) + t654))) (wrap64 ((rd (rd_L3 x7_2 x54_2) x72_3) + t657))]) t621 (t621.length : Int) x54_2 t624 (t624.length : Int) ji49 l0_0 l0_1 l0_2 l0_3 l0_4 a0_5) else (none))) else (none))) else (none))) else (none)) else (none)) = some r:=by first | (rw [hji49] at H;exact H) | (simp only [hji49] at H ⊢;exact H)
        have hji49w : (IntKind.i64.wrap (x72_3 + 1)) = ji49:=(i64_w _).trans hji49
        by_cases c50 : 0 ≤ (ji49)
        rotate_left
        ·rw [if_neg c50] at H
         exact absurd H (by simp)
        rw [if_pos c50] at H;have c50b0 : decide (0 ≤ (ji49)) = true:=decide_eq_true c50;clear c50
        by_cases c51 : (ji49) < ((rd_L3 x7_2 x54_2).length : Int)
        rotate_left
        ·rw [if_neg c51] at H
         exact absurd H (by simp)
        rw [if_pos c51] at H;have c51b0 : decide ((ji49) < ((rd_L3 x7_2 x54_2).length : Int)) = true:=decide_eq_true c51;clear c51;replace H:=Option.bind_eq_some_iff.mp H
        obtain ⟨t652,A520,H⟩:=H
        have A52:=Aside0.mk A520;clear A520
        by_cases c53 : x72_3 < (x12_3.length : Int)
        rotate_left
        ·rw [if_neg c53] at H
         exact absurd H (by simp)
        rw [if_pos c53] at H;have c53b0 : decide (x72_3 < (x12_3.length : Int)) = true:=decide_eq_true c53;clear c53;replace H:=Option.bind_eq_some_iff.mp H
        obtain ⟨t654,A540,H⟩:=H
        have A54:=Aside0.mk A540;clear A540
        by_cases c55 : x72_3 < ((rd_L3 x7_2 x54_2).length : Int)
        rotate_left
        ·rw [if_neg c55] at H
         exact absurd H (by simp)
        rw [if_pos c55] at H;have c55b0 : decide (x72_3 < ((rd_L3 x7_2 x54_2).length : Int)) = true:=decide_eq_true c55;clear c55;replace H:=Option.bind_eq_some_iff.mp H
        obtain ⟨t657,A560,H⟩:=H
        have A56:=Aside0.mk A560;clear A560
        obtain ⟨ji57,hji57⟩ : ∃ j_ : Int,(mn (wrap64 ((rd (rd_L3 x7_2 x54_2) (ji49)) + t652)) (wrap64 ((rd x12_3 x72_3) + t654))) = j_:=⟨_,rfl⟩
        replace H : (if x12_3.length < 17592186044416 then (impl_topdown_table.l2 k3 t624 x7_2 x54_2 (rd t621 x54_2) (x12_3 ++ [mn (ji57) (wrap64 ((rd (rd_L3 x7_2 x54_2) x72_3) + t657))]) t621 (t621.length : Int) x54_2 t624 (t624.length : Int) ji49 l0_0 l0_1 l0_2 l0_3 l0_4 a0_5) else (none)) = some r:=by first | (rw [hji57] at H;exact H) | (simp only [hji57] at H ⊢;exact H)
        (try rw [hji57] at A52)
        (try rw [hji57] at A54)
        (try rw [hji57] at A56)
        have hji57_ : (if (wrap64 ((rd x12_3 x72_3) + t654)) < (wrap64 ((rd (rd_L3 x7_2 x54_2) (ji49)) + t652)) then (wrap64 ((rd x12_3 x72_3) + t654)) else (wrap64 ((rd (rd_L3 x7_2 x54_2) (ji49)) + t652))) = ji57:=hji57
        obtain ⟨ji58,hji58⟩ : ∃ j_ : Int,(mn (ji57) (wrap64 ((rd (rd_L3 x7_2 x54_2) x72_3) + t657))) = j_:=⟨_,rfl⟩
        replace H : (if x12_3.length < 17592186044416 then (impl_topdown_table.l2 k3 t624 x7_2 x54_2 (rd t621 x54_2) (x12_3 ++ [ji58]) t621 (t621.length : Int) x54_2 t624 (t624.length : Int) ji49 l0_0 l0_1 l0_2 l0_3 l0_4 a0_5) else (none)) = some r:=by first | (rw [hji58] at H;exact H) | (simp only [hji58] at H ⊢;exact H)
        (try rw [hji58] at A52)
        (try rw [hji58] at A54)
        (try rw [hji58] at A56)
        have hji58_ : (if (wrap64 ((rd (rd_L3 x7_2 x54_2) x72_3) + t657)) < (ji57) then (wrap64 ((rd (rd_L3 x7_2 x54_2) x72_3) + t657)) else (ji57)) = ji58:=hji58
        by_cases c59 : x12_3.length < 17592186044416
        rotate_left
        ·rw [if_neg c59] at H
         exact absurd H (by simp)
        rw [if_pos c59] at H;have LMc59:=Aside0.mk c59;clear c59
        obtain ⟨y658,hy658⟩ : ∃ y_ : List Int,y_ = (x12_3 ++ [ji58]):=⟨_,rfl⟩
        replace H : (impl_topdown_table.l2 k3 t624 x7_2 x54_2 (rd t621 x54_2) y658 t621 (t621.length : Int) x54_2 t624 (t624.length : Int) ji49 l0_0 l0_1 l0_2 l0_3 l0_4 a0_5) = some r:=by first | (rw [hy658];with_reducible exact H) | (have H2_:=(Option.bind_some _ _).symm.trans H;rw [hy658];with_reducible exact H2_) | (have H2_:=(Option.bind_some _ _).symm.trans H;with_reducible exact H2_) | with_reducible exact H | (rw [hy658];exact H) | exact H
        have Ny658:=Aside0.mk hy658;clear hy658;have H':=Aside0.mk H;clear H;have p649 : 0 ≤ (x72_3 : Int):=of_decide_eq_true (by first | (with_reducible assumption) | assumption);have q649 : x72_3 < (t624.length : Int):=of_decide_eq_true (by first | (with_reducible assumption) | assumption)
        obtain ⟨ad649,e649,hx649_0⟩:=Kd.at_int (Kd.R_reads' HO_70.out).2.2 x72_3 p649 q649
        cases e649
        replace p649:=eq_true p649;replace q649:=eq_true q649
        try go_wp2
        replace HO_6:=Aside0.mk (Kd.R_drew HO_6.out);replace HO_7:=Aside0.mk (Kd.S_drew HO_7.out);replace HO_12:=Aside0.mk (Kd.R_drew HO_12.out);replace HO_52:=Aside0.mk (Kd.R_drew HO_52.out);replace HO_70:=Aside0.mk (Kd.R_drew HO_70.out);replace BK619:=Aside0.mk (blk_drew BK619.out);replace BK620:=Aside0.mk (blk_drew BK620.out);replace HB:=Aside0.mk (mx_drew1 HB.out);have p650 : 0 ≤ (x54_2 : Int):=of_decide_eq_true (by first | (with_reducible assumption) | assumption);have q650 : x54_2 < (x7_2.length : Int):=of_decide_eq_true (by first | (with_reducible assumption) | assumption)
        obtain ⟨ad650,A650_0,c650_0,e650,hx650_0,hl650_0,hi650_0⟩:=at_L3 (Kd.S_reads' HO_7.out).2.2 x54_2 p650 q650
        obtain rfl : ad643 = ad650:=(by injection e650)
        obtain ⟨ce650,hce650,hMe650,hcc650⟩:=Kd.S_get HO_7.out [] x54_2 p650 (by first | exact q650 | exact of_decide_eq_true (by first | (with_reducible assumption) | assumption) | (have e_:=(Kd.S_reads' HO_7.out).1;omega))
        obtain ⟨ve650_0,rfl,ge650_0⟩:=hMe650
        have hv650_0:=hcc650 0 _ rfl;rw [Nat.add_zero,show ((Kd.slice 3 (Kd.int .i64))).sz = 1 from rfl,Nat.mul_one] at hv650_0;replace hv650_0:=Option.some.inj (hv650_0.symm.trans hx650_0);rw [hv650_0] at ge650_0;have HL650_0:=Aside0.mk (show Kd.R (Kd.int .i64) 3 _ _ _ _ (rd_L3 x7_2 x54_2) from ge650_0);clear hv650_0 ge650_0;have HX650_0:=Aside0.mk hx650_0;clear hcc650 hce650;have HR650_0:=Aside0.mk hi650_0;have HC650_0:=Aside0.mk hl650_0;clear hi650_0 hl650_0;replace p650:=eq_true p650;replace q650:=eq_true q650;have p651 : 0 ≤ ((ji49) : Int):=of_decide_eq_true (by first | (with_reducible assumption) | assumption);have q651 : (ji49) < ((rd_L3 x7_2 x54_2).length : Int):=of_decide_eq_true (by first | (with_reducible assumption) | assumption)
        obtain ⟨ad651,e651,hx651_0⟩:=Kd.at_int (by repeat (first | (with_reducible exact HR650_0.out) | (with_reducible refine Kd.C_alloc ?_ _) | (with_reducible refine Kd.C_drewN ?_ _) | (with_reducible refine Kd.C_drew ?_) | exact HR650_0.out)) (ji49) p651 q651
        cases e651
        replace p651:=eq_true p651;replace q651:=eq_true q651
        obtain ⟨Ao61,co61,eo61⟩:=Kd.R_slice HO_12.out
        (first | subst eo61 | (injection eo61 with f1_ f2_ f3_;have f4_:=f1_.symm;have f5_:=f3_.symm;clear f1_ f2_ f3_;subst f4_;subst f5_))
        have p653 : 0 ≤ (x72_3 : Int):=of_decide_eq_true (by first | (with_reducible assumption) | assumption);have q653 : x72_3 < (x12_3.length : Int):=of_decide_eq_true (by first | (with_reducible assumption) | assumption)
        obtain ⟨ad653,e653,hx653_0⟩:=Kd.at_int (Kd.R_reads' HO_12.out).2.2 x72_3 p653 q653
        cases e653
        replace p653:=eq_true p653;replace q653:=eq_true q653;have p655 : 0 ≤ (x54_2 : Int):=of_decide_eq_true (by first | (with_reducible assumption) | assumption);have q655 : x54_2 < (x7_2.length : Int):=of_decide_eq_true (by first | (with_reducible assumption) | assumption)
        obtain ⟨ad655,A655_0,c655_0,e655,hx655_0,hl655_0,hi655_0⟩:=at_L3 (Kd.S_reads' HO_7.out).2.2 x54_2 p655 q655
        obtain rfl : ad643 = ad655:=(by injection e655)
        obtain ⟨ce655,hce655,hMe655,hcc655⟩:=Kd.S_get HO_7.out [] x54_2 p655 (by first | exact q655 | exact of_decide_eq_true (by first | (with_reducible assumption) | assumption) | (have e_:=(Kd.S_reads' HO_7.out).1;omega))
        obtain ⟨ve655_0,rfl,ge655_0⟩:=hMe655
        have hv655_0:=hcc655 0 _ rfl;rw [Nat.add_zero,show ((Kd.slice 3 (Kd.int .i64))).sz = 1 from rfl,Nat.mul_one] at hv655_0;replace hv655_0:=Option.some.inj (hv655_0.symm.trans hx655_0);rw [hv655_0] at ge655_0;have HL655_0:=Aside0.mk (show Kd.R (Kd.int .i64) 3 _ _ _ _ (rd_L3 x7_2 x54_2) from ge655_0);clear hv655_0 ge655_0;have HX655_0:=Aside0.mk hx655_0;clear hcc655 hce655;have HR655_0:=Aside0.mk hi655_0;have HC655_0:=Aside0.mk hl655_0;clear hi655_0 hl655_0;replace p655:=eq_true p655;replace q655:=eq_true q655;have ea_:=Option.some.inj (hx650_0.symm.trans hx655_0)
        injection ea_ with ea_ en_ ec_
        subst ea_;subst ec_;clear en_;have p656 : 0 ≤ (x72_3 : Int):=of_decide_eq_true (by first | (with_reducible assumption) | assumption);have q656 : x72_3 < ((rd_L3 x7_2 x54_2).length : Int):=of_decide_eq_true (by first | (with_reducible assumption) | assumption)
        obtain ⟨ad656,e656,hx656_0⟩:=Kd.at_int (by repeat (first | (with_reducible exact HR655_0.out) | (with_reducible refine Kd.C_alloc ?_ _) | (with_reducible refine Kd.C_drewN ?_ _) | (with_reducible refine Kd.C_drew ?_) | exact HR655_0.out)) x72_3 p656 q656
        cases e656
        replace p656:=eq_true p656;replace q656:=eq_true q656;refine start_ (n:=38) (S:=fun w'=>w'.cell? ⟨gb619,0,none⟩ = some (.slice A0_0 l0_0.length c0_0) ∧ w'.cell? ⟨gb619,1,none⟩ = some (.slice A0_1 l0_1.length c0_1) ∧ w'.cell? ⟨gb619,2,none⟩ = some (.slice A0_2 l0_2.length c0_2) ∧ w'.cell? ⟨gb619,3,none⟩ = some (.slice A0_3 l0_3.length c0_3) ∧ w'.cell? ⟨gb619,4,none⟩ = some (.slice A0_4 l0_4.length c0_4) ∧ w'.cell? ⟨gb619,5,none⟩ = some (.map (some MB_)) ∧ w'.cell? (ad643.add (x54_2).toNat) = some (.slice (some ad651) (rd_L3 x7_2 x54_2).length c650_0) ∧ w'.cell? (ad651.add ((ji49)).toNat) = some (.int .i64 (rd (rd_L3 x7_2 x54_2) (ji49))) ∧ w'.cell? (ad653.add (x72_3).toNat) = some (.int .i64 (rd x12_3 x72_3)) ∧ w'.cell? (ad643.add (x54_2).toNat) = some (.slice (some ad651) (rd_L3 x7_2 x54_2).length c650_0) ∧ w'.cell? (ad651.add (x72_3).toNat) = some (.int .i64 (rd (rd_L3 x7_2 x54_2) x72_3))) (ds:=[35,36]) (pw 38 0) (by kernel_rfl) rfl rfl ⟨(blk_cell BK619.out 0).trans rfl,(blk_cell BK619.out 1).trans rfl,(blk_cell BK619.out 2).trans rfl,(blk_cell BK619.out 3).trans rfl,(blk_cell BK619.out 4).trans rfl,(blk_cell BK619.out 5).trans rfl,hx650_0,hx651_0,hx653_0,hx655_0,hx656_0⟩ (fun hHeld=>?_);refine with_tabW impl_topdown_table.tab15 impl_topdown_table.bits15 (fun HT_ HW_=>?_)
        generalize wr.drew = w60 at HO_6 HO_7 HO_12 HO_52 HO_70 BK619 BK620 HB HL650_0 HL655_0 HR650_0 HR655_0 HX650_0 HX655_0 hx650_0 hx651_0 hx653_0 hx655_0 hx656_0 hHeld ⊢
        refine pure_ (i:=0) (N:=some 77) (v:=?_) (a':=?_) (pw 38 1) rfl rfl (any_of HT_.out (by kernel_rfl)) (fun _ _ _ h=>h) (Or.inl ⟨by rfl,?_⟩) ?_ ?_;rotate_left
        ·intro w';go_simp;with_reducible rfl
        rotate_left;·simp only [Act.put,za,zb,zc,i64_w,i32_w];rfl
        refine pure_ (i:=1) (N:=some 78) (v:=?_) (a':=?_) (pw 38 2) rfl rfl (any_of HT_.out (by kernel_rfl)) (fun _ _ _ h=>h) (Or.inl ⟨by rfl,?_⟩) ?_ ?_;rotate_left
        ·intro w';go_simp;with_reducible rfl
        rotate_left;·simp only [Act.put,za,zb,zc,i64_w,i32_w];rfl
        refine pure_ (i:=2) (N:=some 79) (v:=?_) (a':=?_) (pw 38 3) rfl rfl (any_of HT_.out (by kernel_rfl)) (fun _ _ _ h=>h) (Or.inl ⟨by rfl,?_⟩) ?_ ?_;rotate_left
        ·intro w';go_simp;with_reducible rfl
        rotate_left;·simp only [Act.put,za,zb,zc,i64_w,i32_w];rfl
        refine pure_ (i:=3) (N:=some 80) (v:=?_) (a':=?_) (pw 38 4) rfl rfl (any_of HT_.out (by kernel_rfl)) (fun _ _ _ h=>h) (Or.inl ⟨by rfl,?_⟩) ?_ ?_;rotate_left
        ·intro w';go_simp;with_reducible rfl
        rotate_left;·simp only [Act.put,za,zb,zc,i64_w,i32_w];rfl
        refine pure_ (i:=5) (N:=some 82) (v:=?_) (a':=?_) (bw 38 47) rfl rfl (any_of HT_.out (by kernel_rfl)) (fun _ _ _ h=>h) (Or.inl ⟨by rfl,?_⟩) ?_ ?_;rotate_left
        ·intro w';go_simp;with_reducible rfl
        rotate_left;·simp only [Act.put,za,zb,zc,i64_w,i32_w];rfl
        refine pure_ (i:=6) (N:=some 83) (v:=?_) (a':=?_) (bw 38 111) rfl rfl (any_of HT_.out (by kernel_rfl)) (fun _ _ _ h=>h) (Or.inl ⟨by rfl,?_⟩) ?_ ?_;rotate_left
        ·intro w';go_simp;with_reducible rfl
        rotate_left;·simp only [Act.put,za,zb,zc,i64_w,i32_w];rfl
        refine pure_ (i:=10) (N:=some 87) (v:=?_) (a':=?_) (bw 38 1135) rfl rfl (any_of HT_.out (by kernel_rfl)) (fun _ _ _ h=>h) (Or.inl ⟨by rfl,?_⟩) ?_ ?_;rotate_left
        ·intro w';go_simp;with_reducible rfl
        rotate_left;·simp only [Act.put,za,zb,zc,i64_w,i32_w];rfl
        refine pure_ (i:=13) (N:=some 90) (v:=?_) (a':=?_) (bw 38 9327) rfl rfl (any_of HT_.out (by kernel_rfl)) (fun _ _ _ h=>h) (Or.inl ⟨by rfl,?_⟩) ?_ ?_;rotate_left
        ·intro w';go_simp;with_reducible rfl
        rotate_left;·simp only [Act.put,za,zb,zc,i64_w,i32_w];rfl
        refine pure_ (i:=14) (N:=some 91) (v:=?_) (a':=?_) (bw 38 25711) rfl rfl (any_of HT_.out (by kernel_rfl)) (fun _ _ _ h=>h) (Or.inl ⟨by rfl,?_⟩) ?_ ?_;rotate_left
        ·intro w';go_simp;with_reducible rfl
        rotate_left;·simp only [Act.put,za,zb,zc,i64_w,i32_w];rfl
        refine pure_ (i:=15) (N:=some 92) (v:=?_) (a':=?_) (bw 38 58479) rfl rfl (any_of HT_.out (by kernel_rfl)) (fun _ _ _ h=>h) (Or.inl ⟨by rfl,?_⟩) ?_ ?_;rotate_left
        ·intro w';go_simp;with_reducible rfl
        rotate_left;·simp only [Act.put,za,zb,zc,i64_w,i32_w];rfl
        refine pure_ (i:=18) (N:=some 95) (v:=?_) (a':=?_) (bw 38 320623) rfl rfl (any_of HT_.out (by kernel_rfl)) (fun _ _ _ h=>h) (Or.inl ⟨by rfl,?_⟩) ?_ ?_;rotate_left
        ·intro w';go_simp;with_reducible rfl
        rotate_left;·simp only [Act.put,za,zb,zc,i64_w,i32_w];rfl
        refine pure_ (i:=21) (N:=some 98) (v:=?_) (a':=?_) (bw 38 2417775) rfl rfl (any_of HT_.out (by kernel_rfl)) (fun _ _ _ h=>h) (Or.inl ⟨by rfl,?_⟩) ?_ ?_;rotate_left
        ·intro w';go_simp;with_reducible rfl
        rotate_left;·simp only [Act.put,za,zb,zc,i64_w,i32_w];rfl
        refine pure_ (i:=22) (N:=some 99) (v:=?_) (a':=?_) (bw 38 6612079) rfl rfl (any_of HT_.out (by kernel_rfl)) (fun _ _ _ h=>h) (Or.inl ⟨by rfl,?_⟩) ?_ ?_;rotate_left
        ·intro w';go_simp;with_reducible rfl
        rotate_left;·simp only [Act.put,za,zb,zc,i64_w,i32_w];rfl
        refine pure_ (i:=23) (N:=some 100) (v:=?_) (a':=?_) (bw 38 15000687) rfl rfl (any_of HT_.out (by kernel_rfl)) (fun _ _ _ h=>h) (Or.inl ⟨by rfl,?_⟩) ?_ ?_;rotate_left
        ·intro w';go_simp;with_reducible rfl
        rotate_left;·simp only [Act.put,za,zb,zc,i64_w,i32_w];rfl
        refine pure_ (i:=25) (N:=some 102) (v:=?_) (a':=?_) (bw 38 48555119) rfl rfl (any_of HT_.out (by kernel_rfl)) (fun _ _ _ h=>h) (Or.inl ⟨by rfl,?_⟩) ?_ ?_;rotate_left
        ·intro w';go_simp;with_reducible rfl
        rotate_left;·simp only [Act.put,za,zb,zc,i64_w,i32_w];rfl
        refine pure_ (i:=29) (N:=some 106) (v:=?_) (a':=?_) (bw 38 585426031) rfl rfl (any_of HT_.out (by kernel_rfl)) (fun _ _ _ h=>h) (Or.inl ⟨by rfl,?_⟩) ?_ ?_;rotate_left
        ·intro w';go_simp;with_reducible rfl
        rotate_left;·simp only [Act.put,za,zb,zc,i64_w,i32_w];rfl
        refine pure_ (i:=30) (N:=some 107) (v:=?_) (a':=?_) (bw 38 1659167855) rfl rfl (any_of HT_.out (by kernel_rfl)) (fun _ _ _ h=>h) (Or.inl ⟨by rfl,?_⟩) ?_ ?_;rotate_left
        ·intro w';go_simp;with_reducible rfl
        rotate_left;·simp only [Act.put,za,zb,zc,i64_w,i32_w];rfl
        refine pure_ (i:=31) (N:=some 108) (v:=?_) (a':=?_) (bw 38 3806651503) rfl rfl (any_of HT_.out (by kernel_rfl)) (fun _ _ _ h=>h) (Or.inl ⟨by rfl,?_⟩) ?_ ?_;rotate_left
        ·intro w';go_simp;with_reducible rfl
        rotate_left;·simp only [Act.put,za,zb,zc,i64_w,i32_w];rfl
        refine take_ (i:=4) (N:=some 81) (v:=?_) (a':=?_) (bw 38 3806651519) rfl rfl (take_ofW HT_.out HW_.out (by kernel_rfl)) (fun _ _ _ h=>h) (Or.inl ⟨by rfl,?_⟩) hHeld ?_ ?_;rotate_left
        ·rintro w' ⟨s0,s1,s2,s3,s4,s5,s6,s7,s8,s9,s10⟩
         go_simp;with_reducible rfl
        rotate_left;·simp only [Act.put,za,zb,zc,i64_w,i32_w];rfl
        refine pure_ (i:=7) (N:=some 84) (v:=?_) (a':=?_) (bw 38 3806651647) rfl rfl (any_of HT_.out (by kernel_rfl)) (fun _ _ _ h=>h) (Or.inl ⟨by rfl,?_⟩) ?_ ?_;rotate_left
        ·intro w';go_simp;with_reducible rfl
        rotate_left;·simp only [Act.put,za,zb,zc,i64_w,i32_w];rfl
        refine take_ (i:=8) (N:=some 85) (v:=?_) (a':=?_) (bw 38 3806651903) rfl rfl (take_ofW HT_.out HW_.out (by kernel_rfl)) (fun _ _ _ h=>h) (Or.inl ⟨by rfl,?_⟩) hHeld ?_ ?_;rotate_left
        ·rintro w' ⟨s0,s1,s2,s3,s4,s5,s6,s7,s8,s9,s10⟩
         go_simp;with_reducible rfl
        rotate_left;·simp only [Act.put,za,zb,zc,i64_w,i32_w];rfl
        refine take_ (i:=9) (N:=some 86) (v:=?_) (a':=?_) (bw 38 3806652415) rfl rfl (take_ofW HT_.out HW_.out (by kernel_rfl)) (fun _ _ _ h=>h) (Or.inl ⟨by rfl,?_⟩) hHeld ?_ ?_;rotate_left
        ·rintro w' ⟨s0,s1,s2,s3,s4,s5,s6,s7,s8,s9,s10⟩
         go_simp;with_reducible rfl
        rotate_left;·simp only [Act.put,za,zb,zc,i64_w,i32_w];rfl
        refine take_ (i:=16) (N:=some 93) (v:=?_) (a':=?_) (bw 38 3806717951) rfl rfl (take_ofW HT_.out HW_.out (by kernel_rfl)) (fun _ _ _ h=>h) (Or.inl ⟨by rfl,?_⟩) hHeld ?_ ?_;rotate_left
        ·rintro w' ⟨s0,s1,s2,s3,s4,s5,s6,s7,s8,s9,s10⟩
         go_simp;with_reducible rfl
        rotate_left;·simp only [Act.put,za,zb,zc,i64_w,i32_w];rfl
        refine take_ (i:=17) (N:=some 94) (v:=?_) (a':=?_) (bw 38 3806849023) rfl rfl (take_ofW HT_.out HW_.out (by kernel_rfl)) (fun _ _ _ h=>h) (Or.inl ⟨by rfl,?_⟩) hHeld ?_ ?_;rotate_left
        ·rintro w' ⟨s0,s1,s2,s3,s4,s5,s6,s7,s8,s9,s10⟩
         go_simp;with_reducible rfl
        rotate_left;·simp only [Act.put,za,zb,zc,i64_w,i32_w];rfl
        refine take_ (i:=24) (N:=some 101) (v:=?_) (a':=?_) (bw 38 3823626239) rfl rfl (take_ofW HT_.out HW_.out (by kernel_rfl)) (fun _ _ _ h=>h) (Or.inl ⟨by rfl,?_⟩) hHeld ?_ ?_;rotate_left
        ·rintro w' ⟨s0,s1,s2,s3,s4,s5,s6,s7,s8,s9,s10⟩
         go_simp;with_reducible rfl
        rotate_left;·simp only [Act.put,za,zb,zc,i64_w,i32_w];rfl
        refine pure_ (i:=26) (N:=some 103) (v:=?_) (a':=?_) (bw 38 3890735103) rfl rfl (any_of HT_.out (by kernel_rfl)) (fun _ _ _ h=>h) (Or.inl ⟨by rfl,?_⟩) ?_ ?_;rotate_left
        ·intro w';go_simp;with_reducible rfl
        rotate_left;·simp only [Act.put,za,zb,zc,i64_w,i32_w];rfl
        refine take_ (i:=27) (N:=some 104) (v:=?_) (a':=?_) (bw 38 4024952831) rfl rfl (take_ofW HT_.out HW_.out (by kernel_rfl)) (fun _ _ _ h=>h) (Or.inl ⟨by rfl,?_⟩) hHeld ?_ ?_;rotate_left
        ·rintro w' ⟨s0,s1,s2,s3,s4,s5,s6,s7,s8,s9,s10⟩
         go_simp;with_reducible rfl
        rotate_left;·simp only [Act.put,za,zb,zc,i64_w,i32_w];rfl
        refine take_ (i:=28) (N:=some 105) (v:=?_) (a':=?_) (bw 38 4293388287) rfl rfl (take_ofW HT_.out HW_.out (by kernel_rfl)) (fun _ _ _ h=>h) (Or.inl ⟨by rfl,?_⟩) hHeld ?_ ?_;rotate_left
        ·rintro w' ⟨s0,s1,s2,s3,s4,s5,s6,s7,s8,s9,s10⟩
         go_simp;with_reducible rfl
        rotate_left;·simp only [Act.put,za,zb,zc,i64_w,i32_w];rfl
        refine one_ (i:=11) (N:=some 88) (bw 38 4293390335) rfl rfl (one_of HT_.out (by kernel_rfl)) (by decide) (fun K hK=>?_);refine goes_ Try.func109 (by kernel_rfl) rfl #[.agg #[.slice A0_0 l0_0.length c0_0,.slice A0_1 l0_1.length c0_1,.slice A0_2 l0_2.length c0_2,.slice A0_3 l0_3.length c0_3,.slice A0_4 l0_4.length c0_4,.map (some MB_)],.int .i64 (rd t621 x54_2)] (by rfl) rfl rfl (by (try simp only [List.map_toArray,List.map_cons,List.map_nil]);first | done | rfl | (simp only [List.length_drop,List.length_take];rfl)) ?_;with_reducible refine (impl_topdown_del.calls MB_ k3 _ _ l0_0 _ _ l0_1 _ _ l0_2 _ _ l0_3 _ _ l0_4 a0_5 (rd t621 x54_2) t652 _ ?side1 ?side2 ?side3 ?side4 ?side5 ?side6 ?side7 ?side8 ?side9 ?side10 A52.out).mono ?_
        (case side1=>exact laC (mx_C_below HR0_0.out HB.out));(case side2=>exact HC0_0.out);(case side3=>exact laC (mx_C_below HR0_1.out HB.out));(case side4=>exact HC0_1.out);(case side5=>exact laC (mx_C_below HR0_2.out HB.out));(case side6=>exact HC0_2.out);(case side7=>exact laC (mx_C_below HR0_3.out HB.out));(case side8=>exact HC0_3.out);(case side9=>exact laC (mx_C_below HR0_4.out HB.out));(case side10=>exact HC0_4.out);rintro e w62 ⟨rfl,hb⟩;(try replace hb:=mx_of (B:=MB_) (Pm:=(impl_topdown_dist_C.MP l0_0 l0_1 l0_2 l0_3 l0_4 a0_5)) hb);have HS6_:=(hb.cell (World.block_lt_of_cell? _ _ (hHeld.2.2.2.2.2.2.1))).trans (hHeld.2.2.2.2.2.2.1);have HS7_:=(hb.cell (World.block_lt_of_cell? _ _ (hHeld.2.2.2.2.2.2.2.1))).trans (hHeld.2.2.2.2.2.2.2.1);have HS8_:=(hb.cell (World.block_lt_of_cell? _ _ (hHeld.2.2.2.2.2.2.2.2.1))).trans (hHeld.2.2.2.2.2.2.2.2.1);have HS9_:=(hb.cell (World.block_lt_of_cell? _ _ (hHeld.2.2.2.2.2.2.2.2.2.1))).trans (hHeld.2.2.2.2.2.2.2.2.2.1);have HS10_:=(hb.cell (World.block_lt_of_cell? _ _ (hHeld.2.2.2.2.2.2.2.2.2.2))).trans (hHeld.2.2.2.2.2.2.2.2.2.2);refine ⟨_,rfl,?_⟩;replace HO_6:=Aside0.mk (mx_laRb HO_6.out hb);replace HO_7:=Aside0.mk (mx_laSb HO_7.out hb);replace HO_12:=Aside0.mk (mx_laRb HO_12.out hb);replace HO_52:=Aside0.mk (mx_laRb HO_52.out hb);replace HO_70:=Aside0.mk (mx_laRb HO_70.out hb);replace HL650_0:=Aside0.mk (mx_laRb HL650_0.out hb);replace HL655_0:=Aside0.mk (mx_laRb HL655_0.out hb);replace BK619:=Aside0.mk (mx_laKb BK619.out hb);replace BK620:=Aside0.mk (mx_laKb BK620.out hb);replace HR650_0:=Aside0.mk (mx_C_below (by repeat (first | (with_reducible exact HR650_0.out) | (with_reducible refine Kd.C_alloc ?_ _) | (with_reducible refine Kd.C_drewN ?_ _) | (with_reducible refine Kd.C_drew ?_) | exact HR650_0.out)) hb);replace HX650_0:=Aside0.mk (mx_cell_below hb HX650_0.out);replace HR655_0:=Aside0.mk (mx_C_below (by repeat (first | (with_reducible exact HR655_0.out) | (with_reducible refine Kd.C_alloc ?_ _) | (with_reducible refine Kd.C_drewN ?_ _) | (with_reducible refine Kd.C_drew ?_) | exact HR655_0.out)) hb);replace HX655_0:=Aside0.mk (mx_cell_below hb HX655_0.out);replace HB:=Aside0.mk (mx_step (mx_laB HB.out) hb);(try clear hb);(try clear hb2);(try clear hk);(try clear hi);refine hK.out _ _ ⟨(blk_cell BK619.out 0).trans rfl,(blk_cell BK619.out 1).trans rfl,(blk_cell BK619.out 2).trans rfl,(blk_cell BK619.out 3).trans rfl,(blk_cell BK619.out 4).trans rfl,(blk_cell BK619.out 5).trans rfl,HS6_,HS7_,HS8_,HS9_,HS10_⟩ (fun hHeld=>?_);clear hK K;refine norm_ (a':=?_) ?_ ?_;rotate_left
        ·show Act.put _ (some 88) _ = _
         simp only [Act.put,za,zb,zc,i64_w,i32_w];rfl
        refine pure_ (i:=12) (N:=some 89) (v:=?_) (a':=?_) (bw 38 4293394431) rfl rfl (any_of HT_.out (by kernel_rfl)) (fun _ _ _ h=>h) (Or.inl ⟨by rfl,?_⟩) ?_ ?_;rotate_left
        ·intro w';go_simp;with_reducible rfl
        rotate_left;·simp only [Act.put,za,zb,zc,i64_w,i32_w];rfl
        refine one_ (i:=19) (N:=some 96) (bw 38 4293918719) rfl rfl (one_of HT_.out (by kernel_rfl)) (by decide) (fun K hK=>?_);refine goes_ Try.func110 (by kernel_rfl) rfl #[.agg #[.slice A0_0 l0_0.length c0_0,.slice A0_1 l0_1.length c0_1,.slice A0_2 l0_2.length c0_2,.slice A0_3 l0_3.length c0_3,.slice A0_4 l0_4.length c0_4,.map (some MB_)],.int .i64 (rd t624 x72_3)] (by rfl) rfl rfl (by (try simp only [List.map_toArray,List.map_cons,List.map_nil]);first | done | rfl | (simp only [List.length_drop,List.length_take];rfl)) ?_;with_reducible refine (impl_topdown_ins.calls MB_ k3 _ _ l0_0 _ _ l0_1 _ _ l0_2 _ _ l0_3 _ _ l0_4 a0_5 (rd t624 x72_3) t654 _ ?side1 ?side2 ?side3 ?side4 ?side5 ?side6 ?side7 ?side8 ?side9 ?side10 A54.out).mono ?_
        (case side1=>exact laC (mx_C_below HR0_0.out HB.out));(case side2=>exact HC0_0.out);(case side3=>exact laC (mx_C_below HR0_1.out HB.out));(case side4=>exact HC0_1.out);(case side5=>exact laC (mx_C_below HR0_2.out HB.out));(case side6=>exact HC0_2.out);(case side7=>exact laC (mx_C_below HR0_3.out HB.out));(case side8=>exact HC0_3.out);(case side9=>exact laC (mx_C_below HR0_4.out HB.out));(case side10=>exact HC0_4.out);rintro e w63 ⟨rfl,hb⟩;(try replace hb:=mx_of (B:=MB_) (Pm:=(impl_topdown_dist_C.MP l0_0 l0_1 l0_2 l0_3 l0_4 a0_5)) hb);have HS6_:=(hb.cell (World.block_lt_of_cell? _ _ (hHeld.2.2.2.2.2.2.1))).trans (hHeld.2.2.2.2.2.2.1);have HS7_:=(hb.cell (World.block_lt_of_cell? _ _ (hHeld.2.2.2.2.2.2.2.1))).trans (hHeld.2.2.2.2.2.2.2.1);have HS8_:=(hb.cell (World.block_lt_of_cell? _ _ (hHeld.2.2.2.2.2.2.2.2.1))).trans (hHeld.2.2.2.2.2.2.2.2.1);have HS9_:=(hb.cell (World.block_lt_of_cell? _ _ (hHeld.2.2.2.2.2.2.2.2.2.1))).trans (hHeld.2.2.2.2.2.2.2.2.2.1);have HS10_:=(hb.cell (World.block_lt_of_cell? _ _ (hHeld.2.2.2.2.2.2.2.2.2.2))).trans (hHeld.2.2.2.2.2.2.2.2.2.2);refine ⟨_,rfl,?_⟩;replace HO_6:=Aside0.mk (mx_laRb HO_6.out hb);replace HO_7:=Aside0.mk (mx_laSb HO_7.out hb);replace HO_12:=Aside0.mk (mx_laRb HO_12.out hb);replace HO_52:=Aside0.mk (mx_laRb HO_52.out hb);replace HO_70:=Aside0.mk (mx_laRb HO_70.out hb);replace HL650_0:=Aside0.mk (mx_laRb HL650_0.out hb);replace HL655_0:=Aside0.mk (mx_laRb HL655_0.out hb);replace BK619:=Aside0.mk (mx_laKb BK619.out hb);replace BK620:=Aside0.mk (mx_laKb BK620.out hb);replace HR650_0:=Aside0.mk (mx_C_below (by repeat (first | (with_reducible exact HR650_0.out) | (with_reducible refine Kd.C_alloc ?_ _) | (with_reducible refine Kd.C_drewN ?_ _) | (with_reducible refine Kd.C_drew ?_) | exact HR650_0.out)) hb);replace HX650_0:=Aside0.mk (mx_cell_below hb HX650_0.out);replace HR655_0:=Aside0.mk (mx_C_below (by repeat (first | (with_reducible exact HR655_0.out) | (with_reducible refine Kd.C_alloc ?_ _) | (with_reducible refine Kd.C_drewN ?_ _) | (with_reducible refine Kd.C_drew ?_) | exact HR655_0.out)) hb);replace HX655_0:=Aside0.mk (mx_cell_below hb HX655_0.out);replace HB:=Aside0.mk (mx_step (mx_laB HB.out) hb);(try clear hb);(try clear hb2);(try clear hk);(try clear hi);refine hK.out _ _ ⟨(blk_cell BK619.out 0).trans rfl,(blk_cell BK619.out 1).trans rfl,(blk_cell BK619.out 2).trans rfl,(blk_cell BK619.out 3).trans rfl,(blk_cell BK619.out 4).trans rfl,(blk_cell BK619.out 5).trans rfl,HS6_,HS7_,HS8_,HS9_,HS10_⟩ (fun hHeld=>?_);clear hK K;refine norm_ (a':=?_) ?_ ?_;rotate_left
        ·show Act.put _ (some 96) _ = _
         simp only [Act.put,za,zb,zc,i64_w,i32_w];rfl
        refine pure_ (i:=20) (N:=some 97) (v:=?_) (a':=?_) (pw 38 32) rfl rfl (any_of HT_.out (by kernel_rfl)) (fun _ _ _ h=>h) (Or.inl ⟨by rfl,?_⟩) ?_ ?_;rotate_left
        ·intro w';go_simp;with_reducible rfl
        rotate_left;·simp only [Act.put,za,zb,zc,i64_w,i32_w];rfl
        refine one_ (i:=32) (N:=some 109) (pw 38 33) rfl rfl (one_of HT_.out (by kernel_rfl)) (by decide) (fun K hK=>?_);refine goes_ Try.func53 (by kernel_rfl) rfl #[.agg #[.slice A0_0 l0_0.length c0_0,.slice A0_1 l0_1.length c0_1,.slice A0_2 l0_2.length c0_2,.slice A0_3 l0_3.length c0_3,.slice A0_4 l0_4.length c0_4,.map (some MB_)],.agg #[.int .i64 (rd t621 x54_2),.int .i64 (rd t624 x72_3)]] (by rfl) rfl rfl (by (try simp only [List.map_toArray,List.map_cons,List.map_nil]);first | done | rfl | (simp only [List.length_drop,List.length_take];rfl)) ?_;with_reducible refine (impl_topdown_dist_C.calls MB_ k3 _ _ l0_0 _ _ l0_1 _ _ l0_2 _ _ l0_3 _ _ l0_4 a0_5 (rd t621 x54_2) (rd t624 x72_3) t657 _ ?side1 ?side2 ?side3 ?side4 ?side5 ?side6 ?side7 ?side8 ?side9 ?side10 A56.out ?sideG).mono ?_;(case sideG=>first | exact mx_mi HG.out HB.out | exact mx_miA (mx_mi HG.out HB.out))
        (case side1=>exact laC (mx_C_below HR0_0.out HB.out));(case side2=>exact HC0_0.out);(case side3=>exact laC (mx_C_below HR0_1.out HB.out));(case side4=>exact HC0_1.out);(case side5=>exact laC (mx_C_below HR0_2.out HB.out));(case side6=>exact HC0_2.out);(case side7=>exact laC (mx_C_below HR0_3.out HB.out));(case side8=>exact HC0_3.out);(case side9=>exact laC (mx_C_below HR0_4.out HB.out));(case side10=>exact HC0_4.out);rintro e w64 ⟨rfl,hb⟩;(try replace hb:=mx_of (B:=MB_) (Pm:=(impl_topdown_dist_C.MP l0_0 l0_1 l0_2 l0_3 l0_4 a0_5)) hb);have HS6_:=(hb.cell (World.block_lt_of_cell? _ _ (hHeld.2.2.2.2.2.2.1))).trans (hHeld.2.2.2.2.2.2.1);have HS7_:=(hb.cell (World.block_lt_of_cell? _ _ (hHeld.2.2.2.2.2.2.2.1))).trans (hHeld.2.2.2.2.2.2.2.1);have HS8_:=(hb.cell (World.block_lt_of_cell? _ _ (hHeld.2.2.2.2.2.2.2.2.1))).trans (hHeld.2.2.2.2.2.2.2.2.1);have HS9_:=(hb.cell (World.block_lt_of_cell? _ _ (hHeld.2.2.2.2.2.2.2.2.2.1))).trans (hHeld.2.2.2.2.2.2.2.2.2.1);have HS10_:=(hb.cell (World.block_lt_of_cell? _ _ (hHeld.2.2.2.2.2.2.2.2.2.2))).trans (hHeld.2.2.2.2.2.2.2.2.2.2);refine ⟨_,rfl,?_⟩;replace HO_6:=Aside0.mk (mx_laRb HO_6.out hb);replace HO_7:=Aside0.mk (mx_laSb HO_7.out hb);replace HO_12:=Aside0.mk (mx_laRb HO_12.out hb);replace HO_52:=Aside0.mk (mx_laRb HO_52.out hb);replace HO_70:=Aside0.mk (mx_laRb HO_70.out hb);replace HL650_0:=Aside0.mk (mx_laRb HL650_0.out hb);replace HL655_0:=Aside0.mk (mx_laRb HL655_0.out hb);replace BK619:=Aside0.mk (mx_laKb BK619.out hb);replace BK620:=Aside0.mk (mx_laKb BK620.out hb);replace HR650_0:=Aside0.mk (mx_C_below (by repeat (first | (with_reducible exact HR650_0.out) | (with_reducible refine Kd.C_alloc ?_ _) | (with_reducible refine Kd.C_drewN ?_ _) | (with_reducible refine Kd.C_drew ?_) | exact HR650_0.out)) hb);replace HX650_0:=Aside0.mk (mx_cell_below hb HX650_0.out);replace HR655_0:=Aside0.mk (mx_C_below (by repeat (first | (with_reducible exact HR655_0.out) | (with_reducible refine Kd.C_alloc ?_ _) | (with_reducible refine Kd.C_drewN ?_ _) | (with_reducible refine Kd.C_drew ?_) | exact HR655_0.out)) hb);replace HX655_0:=Aside0.mk (mx_cell_below hb HX655_0.out);replace HB:=Aside0.mk (mx_step (mx_laB HB.out) hb);(try clear hb);(try clear hb2);(try clear hk);(try clear hi);refine hK.out _ _ ⟨(blk_cell BK619.out 0).trans rfl,(blk_cell BK619.out 1).trans rfl,(blk_cell BK619.out 2).trans rfl,(blk_cell BK619.out 3).trans rfl,(blk_cell BK619.out 4).trans rfl,(blk_cell BK619.out 5).trans rfl,HS6_,HS7_,HS8_,HS9_,HS10_⟩ (fun hHeld=>?_);clear hK K;refine norm_ (a':=?_) ?_ ?_;rotate_left
        ·show Act.put _ (some 109) _ = _
         simp only [Act.put,za,zb,zc,i64_w,i32_w];rfl
        refine pure_ (i:=33) (N:=some 110) (v:=?_) (a':=?_) (pw 38 34) rfl rfl (any_of HT_.out (by kernel_rfl)) (fun _ _ _ h=>h) (Or.inl ⟨by rfl,?_⟩) ?_ ?_;rotate_left
        ·intro w';go_simp;with_reducible rfl
        rotate_left;·simp only [Act.put,za,zb,zc,i64_w,i32_w];rfl
        refine pure_ (i:=34) (N:=some 111) (v:=?_) (a':=?_) (pw 38 35) rfl rfl (any_of HT_.out (by kernel_rfl)) (fun _ _ _ h=>h) (Or.inl ⟨by rfl,?_⟩) ?_ ?_;rotate_left
        ·intro w';go_simp;with_reducible rfl
        rotate_left;·simp only [Act.put,za,zb,zc,i64_w,i32_w];rfl
        refine last_ (i:=35) (N:=some 112) (pw 38 36) rfl rfl (one_of HT_.out (by kernel_rfl)) (by decide) (fun K hK=>?_);refine value_ (w1:=?_) (v:=?_) (by rfl) rfl ?_ ?_;rotate_left 2
        ·go_simp
         constructor
         ·rfl
         ·rfl
        refine hK.out _ _ ?_;clear hK K;refine norm_ (a':=?_) ?_ ?_;rotate_left
        ·show Act.put _ (some 112) _ = _
         simp only [Act.put,za,zb,zc,i64_w,i32_w];rfl
        refine last_ (i:=36) (N:=some 113) (pw 38 37) rfl rfl (one_of HT_.out (by kernel_rfl)) (by decide) (fun K hK=>?_);refine Kd.R_append_step (Kd.int .i64) (w0:=?w02_) w.heap.size (by rfl) (.tmp 77) (.tmp 112) 24 3 (.int .i64 0) 8 rfl Try.underlying24 info3 rfl (by decide) (by omega) (.slice (some ad653) x12_3.length co61) x12_3 ji58 [.int .i64 ji58] (fun k_=>some k_ ≠ (.slice (some ad649) t624.length co15 : Value).ownBlock ∧ some k_ ≠ (.slice (some ad642) t621.length co32 : Value).ownBlock ∧ some k_ ≠ (.slice (some ad649) t624.length co15 : Value).ownBlock) (fun _=>False) rfl rfl ?aP (fun _ hk=>hk.elim) ?aF ?aO ?aB ?aS ?aL ?_;(case aP=>exact rfl);(case aB=>exact (Below.refl _ _));(case aF=>exact (fun k_ hk=>⟨Kd.fresh' (Kd.R_lt (laR HO_6.out)) k_ hk,Kd.fresh' (Kd.R_lt (laR HO_52.out)) k_ hk,Kd.fresh' (Kd.R_lt (laR HO_70.out)) k_ hk⟩));(case aO=>exact (laR HO_12.out));(case aS=>exact (mx_size (mx_laB HB.out)));(case aL=>have:=LMc59.out;omega);intro v659 w65 ho hb hg hat;replace hb:=mx_grown (B:=MB_) (Pm:=(impl_topdown_dist_C.MP l0_0 l0_1 l0_2 l0_3 l0_4 a0_5)) (mx_laB HB.out) hg (by first | exact Kd.R_base HO_12.out | exact Kd.R_base (Kd.S_R HO_12.out));rw [← Ny658.out] at ho;have n0_:=Aside0.mk (Kd.R_after (ok:=(fun k_=>some k_ ≠ (.slice (some ad642) t621.length co32 : Value).ownBlock)) (laR (Kd.R_mono HO_6.out (fun _ hk=>⟨hk.2,hk.1⟩))) hg hat);have n1_:=Aside0.mk (Kd.S_after (ok:=(fun k_=>some k_ ≠ (.slice (some ad649) t624.length co15 : Value).ownBlock ∧ some k_ ≠ (.slice (some ad642) t621.length co32 : Value).ownBlock ∧ some k_ ≠ (.slice (some ad649) t624.length co15 : Value).ownBlock)) (laS (Kd.S_mono HO_7.out (fun _ hk=>⟨⟨hk.1,⟨hk.2.2.1,hk.2.2.2⟩⟩,hk.2.1⟩))) hg hat);have n2_:=Aside0.mk (Kd.R_after (ok:=(fun k_=>some k_ ≠ (.slice (some ad649) t624.length co15 : Value).ownBlock ∧ some k_ ≠ (.slice (some ad649) t624.length co15 : Value).ownBlock)) (laR (Kd.R_mono HO_52.out (fun _ hk=>⟨⟨hk.1,hk.2.2⟩,hk.2.1⟩))) hg hat);have n3_:=Aside0.mk (Kd.R_after (ok:=(fun k_=>some k_ ≠ (.slice (some ad642) t621.length co32 : Value).ownBlock)) (laR (Kd.R_mono HO_70.out (fun _ hk=>⟨hk.2,hk.1⟩))) hg hat);have n4_:=Aside0.mk (blk_grown (g:=gb619) (o:=.cells #[.slice A0_0 l0_0.length c0_0,.slice A0_1 l0_1.length c0_1,.slice A0_2 l0_2.length c0_2,.slice A0_3 l0_3.length c0_3,.slice A0_4 l0_4.length c0_4,.map (some MB_)] 70 (0,0)) (laK BK619.out) hg (Kd.R_ne HO_12.out BK619.out (by decide)));have n5_:=Aside0.mk (blk_grown (g:=gb620) (o:=.cells #[.int .i64 a1_0,.int .i64 a1_1] 75 (0,0)) (laK BK620.out) hg (Kd.R_ne HO_12.out BK620.out (by decide)))
        have n6_:=Aside0.mk (Kd.R_after (ok:=(fun k_=>some k_ ≠ (.slice (some ad649) t624.length co15 : Value).ownBlock ∧ some k_ ≠ (.slice (some ad643) x7_2.length co40 : Value).ownBlock ∧ some k_ ≠ (.slice (some ad642) t621.length co32 : Value).ownBlock ∧ some k_ ≠ (.slice (some ad649) t624.length co15 : Value).ownBlock)) (laR (Kd.R_mono HL650_0.out (fun _ hk=>⟨⟨hk.1.1,⟨hk.2,⟨hk.1.2.2.1,hk.1.2.2.2⟩⟩⟩,hk.1.2.1⟩))) hg hat);have n7_:=Aside0.mk (Kd.R_after (ok:=(fun k_=>some k_ ≠ (.slice (some ad649) t624.length co15 : Value).ownBlock ∧ some k_ ≠ (.slice (some ad643) x7_2.length co40 : Value).ownBlock ∧ some k_ ≠ (.slice (some ad642) t621.length co32 : Value).ownBlock ∧ some k_ ≠ (.slice (some ad649) t624.length co15 : Value).ownBlock)) (laR (Kd.R_mono HL655_0.out (fun _ hk=>⟨⟨hk.1.1,⟨hk.2,⟨hk.1.2.2.1,hk.1.2.2.2⟩⟩⟩,hk.1.2.1⟩))) hg hat);have n8_:=Aside0.mk (hb);have n9_:=Aside0.mk (ho);clear HO_6;clear HO_7;clear HO_52;clear HO_70;clear BK619;clear BK620;clear HL650_0;clear HL655_0;clear HB;clear HO_12;have HO_6:=n0_;have HO_7:=n1_;have HO_52:=n2_;have HO_70:=n3_;have BK619:=n4_;have BK620:=n5_;have HL650_0:=n6_;have HL655_0:=n7_;have HB:=n8_;have HO660:=n9_;clear n0_ n1_ n2_ n3_ n4_ n5_ n6_ n7_ n8_ n9_;clear ho hb hg hat;refine hK.out _ _ ?_;clear hK K;refine norm_ (a':=?_) ?_ ?_;rotate_left
        ·show Act.put _ (some 113) _ = _
         simp only [Act.put,za,zb,zc,i64_w,i32_w];rfl
        refine pure_ (i:=37) (N:=some 12) (v:=?_) (a':=?_) (pw 38 38) rfl rfl (any_of HT_.out (by kernel_rfl)) (fun _ _ _ h=>h) (Or.inl ⟨by rfl,?_⟩) ?_ ?_;rotate_left
        ·intro w';go_simp;with_reducible rfl
        rotate_left;·simp only [Act.put,za,zb,zc,i64_w,i32_w];rfl
        refine done_ (done_of HT_.out (by kernel_rfl)) ?_
        try go_wp2
        go_roundg k3
        case measure=>have:=HK1.out;have:=HK2.out;have:=HK3.out;omega
        case rel=>exact ⟨(y658),(ji49),(by first | rfl | (simp;done) | (simp only [← hji49] <;> (first | rfl | simp)) | (simp [*];done)),H',⟨by have:=HK1.out;have:=HK2.out;have:=HK3.out;omega⟩,⟨laR (Kd.R_mono HO_6.out (fun _ hk=>⟨hk.2,hk.1⟩))⟩,⟨laS (Kd.S_mono HO_7.out (fun _ hk=>⟨hk.1.1,⟨hk.2,⟨hk.1.2.1,hk.1.2.2⟩⟩⟩))⟩,⟨laR HO660.out⟩,⟨laR (Kd.R_mono HO_52.out (fun _ hk=>⟨hk.1.1,⟨hk.2,hk.1.2⟩⟩))⟩,⟨laR (Kd.R_mono HO_70.out (fun _ hk=>⟨hk.2,hk.1⟩))⟩,⟨laK BK619.out⟩,⟨laK BK620.out⟩,⟨mx_laB HB.out⟩⟩
end


/-! ### impl_RelCost: function 90 -/
def impl_RelCost.f (k : Nat) (l0_0 : List Int) (l0_1 : List Int) (l0_2 : List Int) (a1 : Int) (a2 : Int) : Option (Int):=(impl_CostOk.f k l0_0 l0_1 l0_2).bind fun t665=>(if t665 = true then ((impl_LabelOk.f a1).bind fun t666=>(if t666 = true then ((impl_LabelOk.f a2).bind fun t667=>(if t667 = true then (if 0 ≤ (wrap64 ((wrap64 (a1 * 6)) + a2)) then (if (wrap64 ((wrap64 (a1 * 6)) + a2)) < (l0_2.length : Int) then (some (rd l0_2 (wrap64 ((wrap64 (a1 * 6)) + a2)))) else (none)) else (none)) else (some 0))) else (some 0))) else (some 0))
theorem impl_RelCost.mono : ∀ a0 a1 a2 a3 a4 k,LeO (impl_RelCost.f k a0 a1 a2 a3 a4) (impl_RelCost.f (k + 1) a0 a1 a2 a3 a4):=by
 intro a0 a1 a2 a3 a4 k
 unfold impl_RelCost.f
 repeat' first
   | (with_reducible exact impl_CostOk.mono _ _ _ _)
   | (with_reducible exact LeO.refl _)
   | (with_reducible exact LeO.none _)
   | (with_reducible refine LeO.ite ?_ ?_)
   | (with_reducible refine LeO.bind ?_ (fun _=>?_))
   | exact impl_CostOk.mono _ _ _ _
   | exact LeO.none _
   | refine LeO.ite ?_ ?_
   | refine LeO.bind ?_ (fun _=>?_)
set_option maxHeartbeats 8000000 in
set_option maxRecDepth 100000 in
theorem impl_RelCost.calls (k : Nat) (A0_0 : Option Addr) (c0_0 : Nat) (l0_0 : List Int) (A0_1 : Option Addr) (c0_1 : Nat) (l0_1 : List Int) (A0_2 : Option Addr) (c0_2 : Nat) (l0_2 : List Int) (a1 : Int) (a2 : Int) (r : Int) (w : World) (hr0_0 : Kd.C (Kd.int .i64) w A0_0 l0_0.length l0_0) (hc0_0 : l0_0.length ≤ c0_0) (hr0_1 : Kd.C (Kd.int .i64) w A0_1 l0_1.length l0_1) (hc0_1 : l0_1.length ≤ c0_1) (hr0_2 : Kd.C (Kd.int .i64) w A0_2 l0_2.length l0_2) (hc0_2 : l0_2.length ≤ c0_2) (h : impl_RelCost.f k l0_0 l0_1 l0_2 a1 a2 = some r) :
  Calls Try.prog 90 #[.agg #[.slice A0_0 l0_0.length c0_0,.slice A0_1 l0_1.length c0_1,.slice A0_2 l0_2.length c0_2],.int .i64 a1,.int .i64 a2] w fun e w'=>e = .returned (.int .i64 r) ∧ Below w.heap.size w w':=by
 have hu37:=Try.underlying37
 have HR0_0:=Aside0.mk hr0_0
 have HC0_0:=Aside0.mk hc0_0
 clear hr0_0 hc0_0
 have HR0_1:=Aside0.mk hr0_1
 have HC0_1:=Aside0.mk hc0_1
 clear hr0_1 hc0_1
 have HR0_2:=Aside0.mk hr0_2
 have HC0_2:=Aside0.mk hc0_2
 clear hr0_2 hc0_2
 have HB:=Aside0.mk (Below.refl w.heap.size w)
 have H : ((impl_CostOk.f k l0_0 l0_1 l0_2).bind fun t665=>(if t665 = true then ((impl_LabelOk.f a1).bind fun t666=>(if t666 = true then ((impl_LabelOk.f a2).bind fun t667=>(if t667 = true then (if 0 ≤ (wrap64 ((wrap64 (a1 * 6)) + a2)) then (if (wrap64 ((wrap64 (a1 * 6)) + a2)) < (l0_2.length : Int) then (some (rd l0_2 (wrap64 ((wrap64 (a1 * 6)) + a2)))) else (none)) else (none)) else (some 0))) else (some 0))) else (some 0))) = some r:=h
 clear h
 replace H:=Option.bind_eq_some_iff.mp H
 obtain ⟨t665,A40,H⟩:=H
 have A4:=Aside0.mk A40
 clear A40
 by_cases c5 : t665 = true
 ·subst c5
  rw [if_pos rfl] at H;replace H:=Option.bind_eq_some_iff.mp H
  obtain ⟨t666,A60,H⟩:=H
  have A6:=Aside0.mk A60;clear A60
  by_cases c7 : t666 = true
  ·subst c7
   rw [if_pos rfl] at H;replace H:=Option.bind_eq_some_iff.mp H
   obtain ⟨t667,A80,H⟩:=H
   have A8:=Aside0.mk A80;clear A80
   by_cases c9 : t667 = true
   ·subst c9
    rw [if_pos rfl] at H
    obtain ⟨ji10,hji10⟩ : ∃ j_ : Int,(wrap64 ((wrap64 (a1 * 6)) + a2)) = j_:=⟨_,rfl⟩
    replace H : (if 0 ≤ (ji10) then (if (ji10) < (l0_2.length : Int) then (some (rd l0_2 (ji10))) else (none)) else (none)) = some r:=by first | (rw [hji10] at H;exact H) | (simp only [hji10] at H ⊢;exact H)
    (try rw [hji10] at A4)
    (try rw [hji10] at A6)
    (try rw [hji10] at A8)
    have hji10w : (IntKind.i64.wrap ((wrap64 (a1 * 6)) + a2)) = ji10:=(i64_w _).trans hji10
    by_cases c11 : 0 ≤ (ji10)
    rotate_left
    ·rw [if_neg c11] at H
     exact absurd H (by simp)
    rw [if_pos c11] at H;have c11b0 : decide (0 ≤ (ji10)) = true:=decide_eq_true c11;clear c11
    by_cases c12 : (ji10) < (l0_2.length : Int)
    rotate_left
    ·rw [if_neg c12] at H
     exact absurd H (by simp)
    rw [if_pos c12] at H;have c12b0 : decide ((ji10) < (l0_2.length : Int)) = true:=decide_eq_true c12;clear c12
    obtain rfl:=Option.some.inj H
    go_enter Try.func90,Try.ntmps90
    go_wp2_with (first | ((with_reducible refine gate_dst (N:=3) rfl ?_);refine box_event ?hg (N:=3) ?hd (cs:=#[.slice A0_0 l0_0.length c0_0,.slice A0_1 l0_1.length c0_1,.slice A0_2 l0_2.length c0_2]) (t:=37) ?hr ?_;(case hd=>rfl);(case hg=>rfl);(case hr=>first | (go_simp;done) | (go_simp;rfl));intro gb664 hg w13 hbox hb;have BK664:=Aside0.mk (hbox);have GW664:=Aside0.mk ((by rw [hg];exact (below_size (laB HB.out)) : w.heap.size ≤ gb664));have GE664:=Aside0.mk ((by rw [hg];exact (below_size (laB HB.out)) : w.heap.size ≤ gb664));have ge664_:=Nonempty.intro GE664.out;replace HB:=Aside0.mk (below_step (laB HB.out) hb);clear hb hbox hg;have hcz14_0 : w13.cell? ⟨gb664,0,none⟩ = some (.slice A0_0 l0_0.length c0_0):=(blk_cell BK664.out 0).trans rfl;have hcz14_1 : w13.cell? ⟨gb664,1,none⟩ = some (.slice A0_1 l0_1.length c0_1):=(blk_cell BK664.out 1).trans rfl;have hcz14_2 : w13.cell? ⟨gb664,2,none⟩ = some (.slice A0_2 l0_2.length c0_2):=(blk_cell BK664.out 2).trans rfl;have hfz14_0:=blk_frozen BK664.out 0;have hfz14_1:=blk_frozen BK664.out 1;have hfz14_2:=blk_frozen BK664.out 2) | ((with_reducible refine gate_callee (f:=87) rfl ?_);refine goesL_ (some 8) rfl rfl Try.func87 (by kernel_rfl) rfl #[.agg #[.slice A0_0 l0_0.length c0_0,.slice A0_1 l0_1.length c0_1,.slice A0_2 l0_2.length c0_2]] rfl (by (try simp only [List.map_toArray,List.map_cons,List.map_nil]);first | done | rfl | (simp only [List.length_drop,List.length_take];rfl)) ?_;(with_reducible refine (impl_CostOk.calls k _ _ l0_0 _ _ l0_1 _ _ l0_2 true _ ?side1 ?side2 ?side3 ?side4 ?side5 ?side6 A4.out).mono ?_);(case side1=>exact laC (Kd.C_below HR0_0.out HB.out));(case side2=>exact HC0_0.out);(case side3=>exact laC (Kd.C_below HR0_1.out HB.out));(case side4=>exact HC0_1.out);(case side5=>exact laC (Kd.C_below HR0_2.out HB.out));(case side6=>exact HC0_2.out);rintro e w15 ⟨rfl,hb⟩;refine ⟨_,rfl,?_⟩;replace BK664:=Aside0.mk (laKb BK664.out hb);replace HB:=Aside0.mk (below_step (laB HB.out) hb);(try clear hb);(try clear hb2);(try clear hk);(try clear hi)) | (go_at_call 84;(with_reducible refine (impl_LabelOk.calls a1 true _ A6.out).mono ?_);rintro e w' ⟨rfl,⟨nd,rfl⟩⟩) | (go_at_call 84;(with_reducible refine (impl_LabelOk.calls a2 true _ A8.out).mono ?_);rintro e w' ⟨rfl,⟨nd,rfl⟩⟩;have hcz16_0 : w15.cell? ⟨gb664,0,none⟩ = some (.slice A0_0 l0_0.length c0_0):=(blk_cell BK664.out 0).trans rfl;have hcz16_1 : w15.cell? ⟨gb664,1,none⟩ = some (.slice A0_1 l0_1.length c0_1):=(blk_cell BK664.out 1).trans rfl;have hcz16_2 : w15.cell? ⟨gb664,2,none⟩ = some (.slice A0_2 l0_2.length c0_2):=(blk_cell BK664.out 2).trans rfl;have hfz16_0:=blk_frozen BK664.out 0;have hfz16_1:=blk_frozen BK664.out 1;have hfz16_2:=blk_frozen BK664.out 2;have p668 : 0 ≤ ((ji10) : Int):=of_decide_eq_true (by first | (with_reducible assumption) | assumption);have q668 : (ji10) < (l0_2.length : Int):=of_decide_eq_true (by first | (with_reducible assumption) | assumption);obtain ⟨ad668,e668,hx668_0⟩:=Kd.at_int HR0_2.out (ji10) p668 q668;cases e668;replace hx668_0:=(HB.out.cell (World.block_lt_of_cell? w _ hx668_0)).trans hx668_0;replace p668:=eq_true p668;replace q668:=eq_true q668))
    go_ret
    exact ⟨by first | rfl | (simp [errW_none,errW_some] <;> rfl) | (simp only [← hji10];first | rfl | (simp [errW_none,errW_some] <;> rfl)) | (simp [*,errW_none,errW_some] <;> rfl),laB HB.out⟩
   ·replace c9:=Bool.eq_false_iff.mpr c9
    subst c9;rw [if_neg (show ¬ (false = true) by decide)] at H
    obtain rfl:=Option.some.inj H
    go_enter Try.func90,Try.ntmps90
    go_wp2_with (first | ((with_reducible refine gate_dst (N:=3) rfl ?_);refine box_event ?hg (N:=3) ?hd (cs:=#[.slice A0_0 l0_0.length c0_0,.slice A0_1 l0_1.length c0_1,.slice A0_2 l0_2.length c0_2]) (t:=37) ?hr ?_;(case hd=>rfl);(case hg=>rfl);(case hr=>first | (go_simp;done) | (go_simp;rfl));intro gb664 hg w17 hbox hb;have BK664:=Aside0.mk (hbox);have GW664:=Aside0.mk ((by rw [hg];exact (below_size (laB HB.out)) : w.heap.size ≤ gb664));have GE664:=Aside0.mk ((by rw [hg];exact (below_size (laB HB.out)) : w.heap.size ≤ gb664));have ge664_:=Nonempty.intro GE664.out;replace HB:=Aside0.mk (below_step (laB HB.out) hb);clear hb hbox hg;have hcz18_0 : w17.cell? ⟨gb664,0,none⟩ = some (.slice A0_0 l0_0.length c0_0):=(blk_cell BK664.out 0).trans rfl;have hcz18_1 : w17.cell? ⟨gb664,1,none⟩ = some (.slice A0_1 l0_1.length c0_1):=(blk_cell BK664.out 1).trans rfl;have hcz18_2 : w17.cell? ⟨gb664,2,none⟩ = some (.slice A0_2 l0_2.length c0_2):=(blk_cell BK664.out 2).trans rfl;have hfz18_0:=blk_frozen BK664.out 0;have hfz18_1:=blk_frozen BK664.out 1;have hfz18_2:=blk_frozen BK664.out 2) | ((with_reducible refine gate_callee (f:=87) rfl ?_);refine goesL_ (some 8) rfl rfl Try.func87 (by kernel_rfl) rfl #[.agg #[.slice A0_0 l0_0.length c0_0,.slice A0_1 l0_1.length c0_1,.slice A0_2 l0_2.length c0_2]] rfl (by (try simp only [List.map_toArray,List.map_cons,List.map_nil]);first | done | rfl | (simp only [List.length_drop,List.length_take];rfl)) ?_;(with_reducible refine (impl_CostOk.calls k _ _ l0_0 _ _ l0_1 _ _ l0_2 true _ ?side1 ?side2 ?side3 ?side4 ?side5 ?side6 A4.out).mono ?_);(case side1=>exact laC (Kd.C_below HR0_0.out HB.out));(case side2=>exact HC0_0.out);(case side3=>exact laC (Kd.C_below HR0_1.out HB.out));(case side4=>exact HC0_1.out);(case side5=>exact laC (Kd.C_below HR0_2.out HB.out));(case side6=>exact HC0_2.out);rintro e w19 ⟨rfl,hb⟩;refine ⟨_,rfl,?_⟩;replace BK664:=Aside0.mk (laKb BK664.out hb);replace HB:=Aside0.mk (below_step (laB HB.out) hb);(try clear hb);(try clear hb2);(try clear hk);(try clear hi)) | (go_at_call 84;(with_reducible refine (impl_LabelOk.calls a1 true _ A6.out).mono ?_);rintro e w' ⟨rfl,⟨nd,rfl⟩⟩) | (go_at_call 84;(with_reducible refine (impl_LabelOk.calls a2 false _ A8.out).mono ?_);rintro e w' ⟨rfl,⟨nd,rfl⟩⟩))
    go_ret
    exact ⟨by first | rfl | (simp [errW_none,errW_some] <;> rfl) | (simp [*,errW_none,errW_some] <;> rfl),laB HB.out⟩
  ·replace c7:=Bool.eq_false_iff.mpr c7
   subst c7;rw [if_neg (show ¬ (false = true) by decide)] at H
   obtain rfl:=Option.some.inj H
   go_enter Try.func90,Try.ntmps90
   go_wp2_with (first | ((with_reducible refine gate_dst (N:=3) rfl ?_);refine box_event ?hg (N:=3) ?hd (cs:=#[.slice A0_0 l0_0.length c0_0,.slice A0_1 l0_1.length c0_1,.slice A0_2 l0_2.length c0_2]) (t:=37) ?hr ?_;(case hd=>rfl);(case hg=>rfl);(case hr=>first | (go_simp;done) | (go_simp;rfl));intro gb664 hg w20 hbox hb;have BK664:=Aside0.mk (hbox);have GW664:=Aside0.mk ((by rw [hg];exact (below_size (laB HB.out)) : w.heap.size ≤ gb664));have GE664:=Aside0.mk ((by rw [hg];exact (below_size (laB HB.out)) : w.heap.size ≤ gb664));have ge664_:=Nonempty.intro GE664.out;replace HB:=Aside0.mk (below_step (laB HB.out) hb);clear hb hbox hg;have hcz21_0 : w20.cell? ⟨gb664,0,none⟩ = some (.slice A0_0 l0_0.length c0_0):=(blk_cell BK664.out 0).trans rfl;have hcz21_1 : w20.cell? ⟨gb664,1,none⟩ = some (.slice A0_1 l0_1.length c0_1):=(blk_cell BK664.out 1).trans rfl;have hcz21_2 : w20.cell? ⟨gb664,2,none⟩ = some (.slice A0_2 l0_2.length c0_2):=(blk_cell BK664.out 2).trans rfl;have hfz21_0:=blk_frozen BK664.out 0;have hfz21_1:=blk_frozen BK664.out 1;have hfz21_2:=blk_frozen BK664.out 2) | ((with_reducible refine gate_callee (f:=87) rfl ?_);refine goesL_ (some 8) rfl rfl Try.func87 (by kernel_rfl) rfl #[.agg #[.slice A0_0 l0_0.length c0_0,.slice A0_1 l0_1.length c0_1,.slice A0_2 l0_2.length c0_2]] rfl (by (try simp only [List.map_toArray,List.map_cons,List.map_nil]);first | done | rfl | (simp only [List.length_drop,List.length_take];rfl)) ?_;(with_reducible refine (impl_CostOk.calls k _ _ l0_0 _ _ l0_1 _ _ l0_2 true _ ?side1 ?side2 ?side3 ?side4 ?side5 ?side6 A4.out).mono ?_);(case side1=>exact laC (Kd.C_below HR0_0.out HB.out));(case side2=>exact HC0_0.out);(case side3=>exact laC (Kd.C_below HR0_1.out HB.out));(case side4=>exact HC0_1.out);(case side5=>exact laC (Kd.C_below HR0_2.out HB.out));(case side6=>exact HC0_2.out);rintro e w22 ⟨rfl,hb⟩;refine ⟨_,rfl,?_⟩;replace BK664:=Aside0.mk (laKb BK664.out hb);replace HB:=Aside0.mk (below_step (laB HB.out) hb);(try clear hb);(try clear hb2);(try clear hk);(try clear hi)) | (go_at_call 84;(with_reducible refine (impl_LabelOk.calls a1 false _ A6.out).mono ?_);rintro e w' ⟨rfl,⟨nd,rfl⟩⟩))
   go_ret
   exact ⟨by first | rfl | (simp [errW_none,errW_some] <;> rfl) | (simp [*,errW_none,errW_some] <;> rfl),laB HB.out⟩
 ·replace c5:=Bool.eq_false_iff.mpr c5
  subst c5;rw [if_neg (show ¬ (false = true) by decide)] at H
  obtain rfl:=Option.some.inj H
  go_enter Try.func90,Try.ntmps90
  go_wp2_with (first | ((with_reducible refine gate_dst (N:=3) rfl ?_);refine box_event ?hg (N:=3) ?hd (cs:=#[.slice A0_0 l0_0.length c0_0,.slice A0_1 l0_1.length c0_1,.slice A0_2 l0_2.length c0_2]) (t:=37) ?hr ?_;(case hd=>rfl);(case hg=>rfl);(case hr=>first | (go_simp;done) | (go_simp;rfl));intro gb664 hg w23 hbox hb;have BK664:=Aside0.mk (hbox);have GW664:=Aside0.mk ((by rw [hg];exact (below_size (laB HB.out)) : w.heap.size ≤ gb664));have GE664:=Aside0.mk ((by rw [hg];exact (below_size (laB HB.out)) : w.heap.size ≤ gb664));have ge664_:=Nonempty.intro GE664.out;replace HB:=Aside0.mk (below_step (laB HB.out) hb);clear hb hbox hg;have hcz24_0 : w23.cell? ⟨gb664,0,none⟩ = some (.slice A0_0 l0_0.length c0_0):=(blk_cell BK664.out 0).trans rfl;have hcz24_1 : w23.cell? ⟨gb664,1,none⟩ = some (.slice A0_1 l0_1.length c0_1):=(blk_cell BK664.out 1).trans rfl;have hcz24_2 : w23.cell? ⟨gb664,2,none⟩ = some (.slice A0_2 l0_2.length c0_2):=(blk_cell BK664.out 2).trans rfl;have hfz24_0:=blk_frozen BK664.out 0;have hfz24_1:=blk_frozen BK664.out 1;have hfz24_2:=blk_frozen BK664.out 2) | ((with_reducible refine gate_callee (f:=87) rfl ?_);refine goesL_ (some 8) rfl rfl Try.func87 (by kernel_rfl) rfl #[.agg #[.slice A0_0 l0_0.length c0_0,.slice A0_1 l0_1.length c0_1,.slice A0_2 l0_2.length c0_2]] rfl (by (try simp only [List.map_toArray,List.map_cons,List.map_nil]);first | done | rfl | (simp only [List.length_drop,List.length_take];rfl)) ?_;(with_reducible refine (impl_CostOk.calls k _ _ l0_0 _ _ l0_1 _ _ l0_2 false _ ?side1 ?side2 ?side3 ?side4 ?side5 ?side6 A4.out).mono ?_);(case side1=>exact laC (Kd.C_below HR0_0.out HB.out));(case side2=>exact HC0_0.out);(case side3=>exact laC (Kd.C_below HR0_1.out HB.out));(case side4=>exact HC0_1.out);(case side5=>exact laC (Kd.C_below HR0_2.out HB.out));(case side6=>exact HC0_2.out);rintro e w25 ⟨rfl,hb⟩;refine ⟨_,rfl,?_⟩;replace BK664:=Aside0.mk (laKb BK664.out hb);replace HB:=Aside0.mk (below_step (laB HB.out) hb);(try clear hb);(try clear hb2);(try clear hk);(try clear hi)))
  go_ret
  exact ⟨by first | rfl | (simp [errW_none,errW_some] <;> rfl) | (simp [*,errW_none,errW_some] <;> rfl),laB HB.out⟩



/-! ### impl_topdown_dist: function 53 -/
section
variable [impl_topdown_dist_O]
def impl_topdown_distB.f (k : Nat) (l0_0 : List (S59)) (l0_1 : List (S59)) (l0_2 : List Int) (l0_3 : List Int) (l0_4 : List Int) (a0_5 : Int) (a1_0 : Int) (a1_1 : Int) : Option (Int):=(impl_topdown_table.f k l0_0 l0_1 l0_2 l0_3 l0_4 a0_5 a1_0 a1_1).bind fun t671=>(if 0 ≤ (wrap64 ((t671.length : Int) - 1)) then (if (wrap64 ((t671.length : Int) - 1)) < (t671.length : Int) then (if 0 ≤ a1_0 then (if a1_0 < (l0_0.length : Int) then (if 0 ≤ a1_1 then (if a1_1 < (l0_1.length : Int) then ((impl_RelCost.f k l0_2 l0_3 l0_4 ((rd_T59 l0_0 a1_0).f0) ((rd_T59 l0_1 a1_1).f0)).bind fun t677=>(if 0 ≤ (wrap64 (((rd_L3 t671 (wrap64 ((t671.length : Int) - 1))).length : Int) - 1)) then (if (wrap64 (((rd_L3 t671 (wrap64 ((t671.length : Int) - 1))).length : Int) - 1)) < ((rd_L3 t671 (wrap64 ((t671.length : Int) - 1))).length : Int) then (some (wrap64 (t677 + (rd (rd_L3 t671 (wrap64 ((t671.length : Int) - 1))) (wrap64 (((rd_L3 t671 (wrap64 ((t671.length : Int) - 1))).length : Int) - 1)))))) else (none)) else (none))) else (none)) else (none)) else (none)) else (none)) else (none)) else (none))
theorem impl_topdown_distB.mono : ∀ a0 a1 a2 a3 a4 a5 a6 a7 k,LeO (impl_topdown_distB.f k a0 a1 a2 a3 a4 a5 a6 a7) (impl_topdown_distB.f (k + 1) a0 a1 a2 a3 a4 a5 a6 a7):=by
 intro a0 a1 a2 a3 a4 a5 a6 a7 k
 unfold impl_topdown_distB.f
 repeat' first
   | (with_reducible exact impl_RelCost.mono _ _ _ _ _ _)
   | (with_reducible exact impl_topdown_table.mono _ _ _ _ _ _ _ _ _)
   | (with_reducible exact LeO.refl _)
   | (with_reducible exact LeO.none _)
   | (with_reducible refine LeO.ite ?_ ?_)
   | (with_reducible refine LeO.bind ?_ (fun _=>?_))
   | exact impl_RelCost.mono _ _ _ _ _ _
   | exact impl_topdown_table.mono _ _ _ _ _ _ _ _ _
   | exact LeO.none _
   | refine LeO.ite ?_ ?_
   | refine LeO.bind ?_ (fun _=>?_)
end
theorem impl_topdown_distB.omono {O O' : impl_topdown_dist_O} (K : Nat) (ho : ∀ j,j < K → ∀ a0 a1 a2 a3 a4 a5 a6 a7,LeO (@impl_topdown_dist_O.f O j a0 a1 a2 a3 a4 a5 a6 a7) (@impl_topdown_dist_O.f O' j a0 a1 a2 a3 a4 a5 a6 a7)) (l0_0 : List (S59)) (l0_1 : List (S59)) (l0_2 : List Int) (l0_3 : List Int) (l0_4 : List Int) (a0_5 : Int) (a1_0 : Int) (a1_1 : Int) : LeO (@impl_topdown_distB.f O K l0_0 l0_1 l0_2 l0_3 l0_4 a0_5 a1_0 a1_1) (@impl_topdown_distB.f O' K l0_0 l0_1 l0_2 l0_3 l0_4 a0_5 a1_0 a1_1):=by
  unfold impl_topdown_distB.f
  exact LeO.bind (impl_topdown_table.omono K ho l0_0 l0_1 l0_2 l0_3 l0_4 a0_5 a1_0 a1_1) (fun _=>LeO.refl _)
def impl_topdown_distB.T6 : Bool × List (List Nat × List Nat):=(true,[([],[]),([0],[0]),([],[]),([2],[2]),([],[]),([4],[4]),([3,5],[3,5]),([6],[6]),([7],[7]),([],[]),([9],[9]),([],[]),([11],[11]),([10,12],[10,12]),([13],[13]),([14],[14]),([1,8,15],[1,8,15]),([],[]),([],[]),([18],[18]),([19],[19]),([17,20],[17,20]),([21],[21]),([16,22],[16,22]),([23,16,0,1,2,3,4,5,6,7,8,9,10,11,12,13,14,15,16,17,18,19,20,21,22,23],[23])])
def impl_topdown_distB.B6 : List Nat:=[0,1,0,4,0,16,60,124,252,0,512,0,2048,7680,15872,32256,65535,0,0,262144,786432,1966080,4063232,8388607,16777215]
theorem impl_topdown_distB.tab6 : rtab .any (opsOf Try.f53 6) = impl_topdown_distB.T6:=by kernel_rfl
theorem impl_topdown_distB.bits6 : waitsOk impl_topdown_distB.T6.2 impl_topdown_distB.B6 = true:=by kernel_rfl
theorem pair_law : Maps.Keyed Try.prog 75:=Maps.Keyed.of_law (deep_law_laid (show laidOutB Try.prog = true by kernel_rfl) (m:=2) (by omega) (of_decide_eq_true (by kernel_rfl)) (by kernel_rfl) (by rw [Try.underlying75]))
theorem pair_key (a b : Int) (ha : (Lit.int .i64 a).wf = true) (hb : (Lit.int .i64 b).wf = true) : ∃ l,keyOf Try.prog 75 (.agg #[.int .i64 a,.int .i64 b]) = some l:=by
  refine key_ints (xs:=[a,b]) Try.underlying75 (by kernel_rfl) (of_decide_eq_true (by kernel_rfl)) (by kernel_rfl) (by simp [ha,hb]) rfl ?_;intro j h;have h2 : j = 0 ∨ j = 1:=by simp at h;omega
  rcases h2 with rfl | rfl
  · exact ⟨rfl,by kernel_rfl,Try.underlying3,by kernel_rfl⟩
  · exact ⟨rfl,by kernel_rfl,Try.underlying3,by kernel_rfl⟩
theorem zero_int (w : World) : (zeroValue 3).run Try.prog w = .ok (.int .i64 0) w:=by kernel_rfl
section
variable [impl_topdown_dist_O] [impl_topdown_dist_C]
set_option maxHeartbeats 8000000 in
set_option maxRecDepth 100000 in
theorem impl_topdown_distB.calls (MB_ : Nat) (k : Nat) (A0_0 : Option Addr) (c0_0 : Nat) (l0_0 : List (S59)) (A0_1 : Option Addr) (c0_1 : Nat) (l0_1 : List (S59)) (A0_2 : Option Addr) (c0_2 : Nat) (l0_2 : List Int) (A0_3 : Option Addr) (c0_3 : Nat) (l0_3 : List Int) (A0_4 : Option Addr) (c0_4 : Nat) (l0_4 : List Int) (a0_5 : Int) (a1_0 : Int) (a1_1 : Int) (r : Int) (w : World) (hr0_0 : Kd.C k59 w A0_0 l0_0.length l0_0) (hc0_0 : l0_0.length ≤ c0_0) (hr0_1 : Kd.C k59 w A0_1 l0_1.length l0_1) (hc0_1 : l0_1.length ≤ c0_1) (hr0_2 : Kd.C (Kd.int .i64) w A0_2 l0_2.length l0_2) (hc0_2 : l0_2.length ≤ c0_2) (hr0_3 : Kd.C (Kd.int .i64) w A0_3 l0_3.length l0_3) (hc0_3 : l0_3.length ≤ c0_3) (hr0_4 : Kd.C (Kd.int .i64) w A0_4 l0_4.length l0_4) (hc0_4 : l0_4.length ≤ c0_4) (h : impl_topdown_distB.f k l0_0 l0_1 l0_2 l0_3 l0_4 a0_5 a1_0 a1_1 = some r) (hG : MI MB_ (impl_topdown_dist_C.MP l0_0 l0_1 l0_2 l0_3 l0_4 a0_5) w) (hw0 : (Lit.int .i64 a1_0).wf = true) (hw1 : (Lit.int .i64 a1_1).wf = true) (hm1 : ∀ o,(impl_topdown_dist_C.MP l0_0 l0_1 l0_2 l0_3 l0_4 a0_5) o → ∃ es clock,o = .map es clock ∧ ∀ y ∈ es.toList,(∃ l,keyOf Try.prog 75 y.key = some l) ∧ (y.key = .agg #[.int .i64 a1_0,.int .i64 a1_1] → y.val = .int .i64 r)) (hm2 : ∀ es clock es' clock',(impl_topdown_dist_C.MP l0_0 l0_1 l0_2 l0_3 l0_4 a0_5) (.map es clock) → (∀ y ∈ es'.toList,y ∈ es.toList ∨ (y.key = .agg #[.int .i64 a1_0,.int .i64 a1_1] ∧ y.val = .int .i64 r)) → (impl_topdown_dist_C.MP l0_0 l0_1 l0_2 l0_3 l0_4 a0_5) (.map es' clock')) :
  Calls Try.prog 53 #[.agg #[.slice A0_0 l0_0.length c0_0,.slice A0_1 l0_1.length c0_1,.slice A0_2 l0_2.length c0_2,.slice A0_3 l0_3.length c0_3,.slice A0_4 l0_4.length c0_4,.map (some MB_)],.agg #[.int .i64 a1_0,.int .i64 a1_1]] w fun e w'=>e = .returned (.int .i64 r) ∧ BelowX MB_ (impl_topdown_dist_C.MP l0_0 l0_1 l0_2 l0_3 l0_4 a0_5) w.heap.size w w':=by
 have hu70:=Try.underlying70
 have hu75:=Try.underlying75
 have hu37:=Try.underlying37
 have HR0_0:=Aside0.mk hr0_0
 have HC0_0:=Aside0.mk hc0_0
 clear hr0_0 hc0_0
 have HR0_1:=Aside0.mk hr0_1
 have HC0_1:=Aside0.mk hc0_1
 clear hr0_1 hc0_1
 have HR0_2:=Aside0.mk hr0_2
 have HC0_2:=Aside0.mk hc0_2
 clear hr0_2 hc0_2
 have HR0_3:=Aside0.mk hr0_3
 have HC0_3:=Aside0.mk hc0_3
 clear hr0_3 hc0_3
 have HR0_4:=Aside0.mk hr0_4
 have HC0_4:=Aside0.mk hc0_4
 clear hr0_4 hc0_4
 have HG:=Aside0.mk hG
 have HW0:=Aside0.mk hw0
 clear hw0
 have HW1:=Aside0.mk hw1
 clear hw1
 have HM1:=Aside0.mk hm1
 clear hm1
 have HM2:=Aside0.mk hm2
 clear hm2
 clear hG
 have HB:=Aside0.mk (BelowX.refl (B:=MB_) (Pm:=(impl_topdown_dist_C.MP l0_0 l0_1 l0_2 l0_3 l0_4 a0_5)) w.heap.size w)
 have H : ((impl_topdown_table.f k l0_0 l0_1 l0_2 l0_3 l0_4 a0_5 a1_0 a1_1).bind fun t671=>(if 0 ≤ (wrap64 ((t671.length : Int) - 1)) then (if (wrap64 ((t671.length : Int) - 1)) < (t671.length : Int) then (if 0 ≤ a1_0 then (if a1_0 < (l0_0.length : Int) then (if 0 ≤ a1_1 then (if a1_1 < (l0_1.length : Int) then ((impl_RelCost.f k l0_2 l0_3 l0_4 ((rd_T59 l0_0 a1_0).f0) ((rd_T59 l0_1 a1_1).f0)).bind fun t677=>(if 0 ≤ (wrap64 (((rd_L3 t671 (wrap64 ((t671.length : Int) - 1))).length : Int) - 1)) then (if (wrap64 (((rd_L3 t671 (wrap64 ((t671.length : Int) - 1))).length : Int) - 1)) < ((rd_L3 t671 (wrap64 ((t671.length : Int) - 1))).length : Int) then (some (wrap64 (t677 + (rd (rd_L3 t671 (wrap64 ((t671.length : Int) - 1))) (wrap64 (((rd_L3 t671 (wrap64 ((t671.length : Int) - 1))).length : Int) - 1)))))) else (none)) else (none))) else (none)) else (none)) else (none)) else (none)) else (none)) else (none))) = some r:=h
 clear h
 replace H:=Option.bind_eq_some_iff.mp H
 obtain ⟨t671,A30,H⟩:=H
 have A3:=Aside0.mk A30
 clear A30
 obtain ⟨ji4,hji4⟩ : ∃ j_ : Int,(wrap64 ((t671.length : Int) - 1)) = j_:=⟨_,rfl⟩
 replace H : (if 0 ≤ (ji4) then (if (ji4) < (t671.length : Int) then (if 0 ≤ a1_0 then (if a1_0 < (l0_0.length : Int) then (if 0 ≤ a1_1 then (if a1_1 < (l0_1.length : Int) then ((impl_RelCost.f k l0_2 l0_3 l0_4 ((rd_T59 l0_0 a1_0).f0) ((rd_T59 l0_1 a1_1).f0)).bind fun t677=>(if 0 ≤ (wrap64 (((rd_L3 t671 (ji4)).length : Int) - 1)) then (if (wrap64 (((rd_L3 t671 (ji4)).length : Int) - 1)) < ((rd_L3 t671 (ji4)).length : Int) then (some (wrap64 (t677 + (rd (rd_L3 t671 (ji4)) (wrap64 (((rd_L3 t671 (ji4)).length : Int) - 1)))))) else (none)) else (none))) else (none)) else (none)) else (none)) else (none)) else (none)) else (none)) = some r:=by first | (rw [hji4] at H;exact H) | (simp only [hji4] at H ⊢;exact H)
 (try rw [hji4] at A3)
 have hji4w : (IntKind.i64.wrap ((t671.length : Int) - 1)) = ji4:=(i64_w _).trans hji4
 by_cases c5 : 0 ≤ (ji4)
 ·rw [if_pos c5] at H
  have c5b0 : decide (0 ≤ (ji4)) = true:=decide_eq_true c5;clear c5
  by_cases c6 : (ji4) < (t671.length : Int)
  rotate_left
  ·rw [if_neg c6] at H
   exact absurd H (by simp)
  rw [if_pos c6] at H;have c6b0 : decide ((ji4) < (t671.length : Int)) = true:=decide_eq_true c6;clear c6
  by_cases c7 : 0 ≤ a1_0
  rotate_left
  ·rw [if_neg c7] at H
   exact absurd H (by simp)
  rw [if_pos c7] at H;have c7b0 : decide (0 ≤ a1_0) = true:=decide_eq_true c7;clear c7
  by_cases c8 : a1_0 < (l0_0.length : Int)
  rotate_left
  ·rw [if_neg c8] at H
   exact absurd H (by simp)
  rw [if_pos c8] at H;have c8b0 : decide (a1_0 < (l0_0.length : Int)) = true:=decide_eq_true c8;clear c8
  by_cases c9 : 0 ≤ a1_1
  rotate_left
  ·rw [if_neg c9] at H
   exact absurd H (by simp)
  rw [if_pos c9] at H;have c9b0 : decide (0 ≤ a1_1) = true:=decide_eq_true c9;clear c9
  by_cases c10 : a1_1 < (l0_1.length : Int)
  rotate_left
  ·rw [if_neg c10] at H
   exact absurd H (by simp)
  rw [if_pos c10] at H;have c10b0 : decide (a1_1 < (l0_1.length : Int)) = true:=decide_eq_true c10;clear c10;replace H:=Option.bind_eq_some_iff.mp H
  obtain ⟨t677,A110,H⟩:=H
  have A11:=Aside0.mk A110;clear A110
  obtain ⟨ji12,hji12⟩ : ∃ j_ : Int,(wrap64 (((rd_L3 t671 (ji4)).length : Int) - 1)) = j_:=⟨_,rfl⟩
  replace H : (if 0 ≤ (ji12) then (if (ji12) < ((rd_L3 t671 (ji4)).length : Int) then (some (wrap64 (t677 + (rd (rd_L3 t671 (ji4)) (ji12))))) else (none)) else (none)) = some r:=by first | (rw [hji12] at H;exact H) | (simp only [hji12] at H ⊢;exact H)
  (try rw [hji12] at A3)
  (try rw [hji12] at A11)
  have hji12w : (IntKind.i64.wrap (((rd_L3 t671 (ji4)).length : Int) - 1)) = ji12:=(i64_w _).trans hji12
  by_cases c13 : 0 ≤ (ji12)
  rotate_left
  ·rw [if_neg c13] at H
   exact absurd H (by simp)
  rw [if_pos c13] at H;have c13b0 : decide (0 ≤ (ji12)) = true:=decide_eq_true c13;clear c13
  by_cases c14 : (ji12) < ((rd_L3 t671 (ji4)).length : Int)
  rotate_left
  ·rw [if_neg c14] at H
   exact absurd H (by simp)
  rw [if_pos c14] at H;have c14b0 : decide ((ji12) < ((rd_L3 t671 (ji4)).length : Int)) = true:=decide_eq_true c14;clear c14
  obtain rfl:=Option.some.inj H
  go_enter Try.func53,Try.ntmps53
  go_wp2_with (first | (at_lookup;obtain ⟨o_,hq_,hP_⟩:=mx_mi HG.out HB.out;obtain ⟨es_,cl_,he_,hy_⟩:=HM1.out _ hP_;subst he_;obtain ⟨kl_,hkl_⟩:=pair_key a1_0 a1_1 HW0.out HW1.out;refine mx_lookup rfl _ _ 68 rfl 75 3 pair_law Try.underlying68 (.int .i64 0) (zero_int _) MB_ rfl _ kl_ rfl hkl_ es_ cl_ hq_ (fun y_ h_=>(hy_ y_ h_).1) ?hit_ ?_;(case hit_=>intro y_ hy1_ hk_;rw [(hy_ y_ hy1_).2 hk_];clear hy_ hq_ hP_ hkl_ hk_ hy1_;go_wp2;go_ret;exact ⟨rfl,HB.out⟩);clear hy_ hq_ hP_ hkl_) | ((with_reducible refine gate_dst (N:=2) rfl ?_);refine box_event ?hg (N:=2) ?hd (cs:=#[.slice A0_0 l0_0.length c0_0,.slice A0_1 l0_1.length c0_1,.slice A0_2 l0_2.length c0_2,.slice A0_3 l0_3.length c0_3,.slice A0_4 l0_4.length c0_4,.map (some MB_)]) (t:=70) ?hr ?_;(case hd=>rfl);(case hg=>rfl);(case hr=>first | (go_simp;done) | (go_simp;rfl));intro gb669 hg w15 hbox hb;(try replace hb:=mx_of (B:=MB_) (Pm:=(impl_topdown_dist_C.MP l0_0 l0_1 l0_2 l0_3 l0_4 a0_5)) hb);have BK669:=Aside0.mk (hbox);have GW669:=Aside0.mk ((by rw [hg];exact (mx_size (mx_laB HB.out)) : w.heap.size ≤ gb669));have GE669:=Aside0.mk ((by rw [hg];exact (mx_size (mx_laB HB.out)) : w.heap.size ≤ gb669));have ge669_:=Nonempty.intro GE669.out;replace HB:=Aside0.mk (mx_step (mx_laB HB.out) hb);clear hb hbox hg) | ((with_reducible refine gate_dst (N:=3) rfl ?_);refine box_event ?hg (N:=3) ?hd (cs:=#[.int .i64 a1_0,.int .i64 a1_1]) (t:=75) ?hr ?_;(case hd=>rfl);(case hg=>rfl);(case hr=>first | (go_simp;done) | (go_simp;rfl));intro gb670 hg w16 hbox hb;(try replace hb:=mx_of (B:=MB_) (Pm:=(impl_topdown_dist_C.MP l0_0 l0_1 l0_2 l0_3 l0_4 a0_5)) hb);have BK670:=Aside0.mk (hbox);have GW670:=Aside0.mk ((by rw [hg];exact (mx_size (mx_laB HB.out)) : w.heap.size ≤ gb670));have GE670:=Aside0.mk ((by rw [hg];exact (mx_size (mx_laB HB.out)) : w.heap.size ≤ gb670));have ge670_:=Nonempty.intro GE670.out;replace HB:=Aside0.mk (mx_step (mx_laB HB.out) hb);have NB669_670:=Aside0.mk ((by rw [hg];exact Nat.ne_of_lt (blk_lt (g:=gb669) (o:=.cells #[.slice A0_0 l0_0.length c0_0,.slice A0_1 l0_1.length c0_1,.slice A0_2 l0_2.length c0_2,.slice A0_3 l0_3.length c0_3,.slice A0_4 l0_4.length c0_4,.map (some MB_)] 70 (0,0)) (laK BK669.out)) : gb669 ≠ gb670));have NB670_669:=Aside0.mk ((by rw [hg];exact Nat.ne_of_gt (blk_lt (g:=gb669) (o:=.cells #[.slice A0_0 l0_0.length c0_0,.slice A0_1 l0_1.length c0_1,.slice A0_2 l0_2.length c0_2,.slice A0_3 l0_3.length c0_3,.slice A0_4 l0_4.length c0_4,.map (some MB_)] 70 (0,0)) (laK BK669.out)) : gb670 ≠ gb669));replace BK669:=Aside0.mk (mx_laKb BK669.out hb);clear hb hbox hg;have hnb17:=NB669_670.out;have hnc17:=NB670_669.out;have hcz18_0 : w16.cell? ⟨gb669,0,none⟩ = some (.slice A0_0 l0_0.length c0_0):=(blk_cell BK669.out 0).trans rfl;have hcz18_1 : w16.cell? ⟨gb669,1,none⟩ = some (.slice A0_1 l0_1.length c0_1):=(blk_cell BK669.out 1).trans rfl;have hcz18_2 : w16.cell? ⟨gb669,2,none⟩ = some (.slice A0_2 l0_2.length c0_2):=(blk_cell BK669.out 2).trans rfl;have hcz18_3 : w16.cell? ⟨gb669,3,none⟩ = some (.slice A0_3 l0_3.length c0_3):=(blk_cell BK669.out 3).trans rfl;have hcz18_4 : w16.cell? ⟨gb669,4,none⟩ = some (.slice A0_4 l0_4.length c0_4):=(blk_cell BK669.out 4).trans rfl;have hcz18_5 : w16.cell? ⟨gb669,5,none⟩ = some (.map (some MB_)):=(blk_cell BK669.out 5).trans rfl;have hfz18_0:=blk_frozen BK669.out 0;have hfz18_1:=blk_frozen BK669.out 1;have hfz18_2:=blk_frozen BK669.out 2;have hfz18_3:=blk_frozen BK669.out 3;have hfz18_4:=blk_frozen BK669.out 4;have hfz18_5:=blk_frozen BK669.out 5;have hcz19_0 : w16.cell? ⟨gb670,0,none⟩ = some (.int .i64 a1_0):=(blk_cell BK670.out 0).trans rfl;have hcz19_1 : w16.cell? ⟨gb670,1,none⟩ = some (.int .i64 a1_1):=(blk_cell BK670.out 1).trans rfl;have hfz19_0:=blk_frozen BK670.out 0;have hfz19_1:=blk_frozen BK670.out 1) | ((with_reducible refine gate_callee (f:=89) rfl ?_);refine goesL_ (some 21) rfl rfl Try.func89 (by kernel_rfl) rfl #[.agg #[.slice A0_0 l0_0.length c0_0,.slice A0_1 l0_1.length c0_1,.slice A0_2 l0_2.length c0_2,.slice A0_3 l0_3.length c0_3,.slice A0_4 l0_4.length c0_4,.map (some MB_)],.agg #[.int .i64 a1_0,.int .i64 a1_1]] rfl (by (try simp only [List.map_toArray,List.map_cons,List.map_nil]);first | done | rfl | (simp only [List.length_drop,List.length_take];rfl)) ?_;(with_reducible refine (impl_topdown_table.calls MB_ k _ _ l0_0 _ _ l0_1 _ _ l0_2 _ _ l0_3 _ _ l0_4 a0_5 a1_0 a1_1 t671 _ ?side1 ?side2 ?side3 ?side4 ?side5 ?side6 ?side7 ?side8 ?side9 ?side10 A3.out ?sideG).mono ?_);(case sideG=>first | exact mx_mi HG.out HB.out | exact mx_miA (mx_mi HG.out HB.out));(case side1=>exact laC (mx_C_below HR0_0.out HB.out));(case side2=>exact HC0_0.out);(case side3=>exact laC (mx_C_below HR0_1.out HB.out));(case side4=>exact HC0_1.out);(case side5=>exact laC (mx_C_below HR0_2.out HB.out));(case side6=>exact HC0_2.out);(case side7=>exact laC (mx_C_below HR0_3.out HB.out));(case side8=>exact HC0_3.out);(case side9=>exact laC (mx_C_below HR0_4.out HB.out));(case side10=>exact HC0_4.out);rintro e w20 ⟨v672,rfl,ho0,hb⟩;(try replace hb:=mx_of (B:=MB_) (Pm:=(impl_topdown_dist_C.MP l0_0 l0_1 l0_2 l0_3 l0_4 a0_5)) hb);refine ⟨_,rfl,?_⟩;have HO673:=Aside0.mk (Kd.S_lower ho0 (mx_size (mx_laB HB.out)));replace BK669:=Aside0.mk (mx_laKb BK669.out hb);replace BK670:=Aside0.mk (mx_laKb BK670.out hb);replace HB:=Aside0.mk (mx_step (mx_laB HB.out) hb);(try clear hb);(try clear hb2);(try clear hk);(try clear hi);(try clear ho0);obtain ⟨Ao21,co21,eo21⟩:=Kd.S_slice HO673.out;subst eo21;have p674 : 0 ≤ ((ji4) : Int):=of_decide_eq_true (by first | (with_reducible assumption) | assumption);have q674 : (ji4) < (t671.length : Int):=of_decide_eq_true (by first | (with_reducible assumption) | assumption);obtain ⟨ad674,A674_0,c674_0,e674,hx674_0,hl674_0,hi674_0⟩:=at_L3 (Kd.S_reads' HO673.out).2.2 (ji4) p674 q674;cases e674;obtain ⟨ce674,hce674,hMe674,hcc674⟩:=Kd.S_get HO673.out [] (ji4) p674 (by first | exact q674 | exact of_decide_eq_true (by first | (with_reducible assumption) | assumption) | (have e_:=(Kd.S_reads' HO673.out).1;omega));obtain ⟨ve674_0,rfl,ge674_0⟩:=hMe674;have hv674_0:=hcc674 0 _ rfl;rw [Nat.add_zero,show ((Kd.slice 3 (Kd.int .i64))).sz = 1 from rfl,Nat.mul_one] at hv674_0;replace hv674_0:=Option.some.inj (hv674_0.symm.trans hx674_0);rw [hv674_0] at ge674_0;have HL674_0:=Aside0.mk (show Kd.R (Kd.int .i64) 3 _ _ _ _ (rd_L3 t671 (ji4)) from ge674_0);clear hv674_0 ge674_0;clear hcc674 hce674;have HR674_0:=Aside0.mk hi674_0;have HC674_0:=Aside0.mk hl674_0;clear hi674_0 hl674_0;replace p674:=eq_true p674;replace q674:=eq_true q674))
  replace HO673:=Aside0.mk (Kd.S_drew HO673.out);replace HL674_0:=Aside0.mk (Kd.R_drew HL674_0.out);replace BK669:=Aside0.mk (blk_drew BK669.out);replace BK670:=Aside0.mk (blk_drew BK670.out);replace HR674_0:=Aside0.mk (Kd.C_drew HR674_0.out);replace HB:=Aside0.mk (mx_drew1 HB.out);have p675 : 0 ≤ (a1_0 : Int):=of_decide_eq_true (by first | (with_reducible assumption) | assumption);have q675 : a1_0 < (l0_0.length : Int):=of_decide_eq_true (by first | (with_reducible assumption) | assumption)
  obtain ⟨ad675,e675,hx675_0,hx675_1⟩:=at_T59 HR0_0.out a1_0 p675 q675
  have hw675_1:=hx675_1;have hw675_0:=hx675_0
  cases e675
  replace hx675_0:=(HB.out.cell (World.block_lt_of_cell? w _ hx675_0)).trans hx675_0;replace hx675_1:=(HB.out.cell (World.block_lt_of_cell? w _ hx675_1)).trans hx675_1;replace p675:=eq_true p675;replace q675:=eq_true q675;have p676 : 0 ≤ (a1_1 : Int):=of_decide_eq_true (by first | (with_reducible assumption) | assumption);have q676 : a1_1 < (l0_1.length : Int):=of_decide_eq_true (by first | (with_reducible assumption) | assumption)
  obtain ⟨ad676,e676,hx676_0,hx676_1⟩:=at_T59 HR0_1.out a1_1 p676 q676
  have hw676_1:=hx676_1;have hw676_0:=hx676_0
  cases e676
  replace hx676_0:=(HB.out.cell (World.block_lt_of_cell? w _ hx676_0)).trans hx676_0;replace hx676_1:=(HB.out.cell (World.block_lt_of_cell? w _ hx676_1)).trans hx676_1;replace p676:=eq_true p676;replace q676:=eq_true q676;have p678 : 0 ≤ ((ji12) : Int):=of_decide_eq_true (by first | (with_reducible assumption) | assumption);have q678 : (ji12) < ((rd_L3 t671 (ji4)).length : Int):=of_decide_eq_true (by first | (with_reducible assumption) | assumption)
  obtain ⟨ad678,e678,hx678_0⟩:=Kd.at_int (by repeat (first | (with_reducible exact HR674_0.out) | (with_reducible refine Kd.C_alloc ?_ _) | (with_reducible refine Kd.C_drewN ?_ _) | (with_reducible refine Kd.C_drew ?_) | exact HR674_0.out)) (ji12) p678 q678
  cases e678
  replace p678:=eq_true p678;replace q678:=eq_true q678;refine start_ (n:=25) (S:=fun w'=>w'.cell? ⟨gb669,0,none⟩ = some (.slice (some ad675) l0_0.length c0_0) ∧ w'.cell? ⟨gb669,1,none⟩ = some (.slice (some ad676) l0_1.length c0_1) ∧ w'.cell? ⟨gb669,2,none⟩ = some (.slice A0_2 l0_2.length c0_2) ∧ w'.cell? ⟨gb669,3,none⟩ = some (.slice A0_3 l0_3.length c0_3) ∧ w'.cell? ⟨gb669,4,none⟩ = some (.slice A0_4 l0_4.length c0_4) ∧ w'.cell? ⟨gb669,5,none⟩ = some (.map (some MB_)) ∧ w'.cell? ⟨gb670,0,none⟩ = some (.int .i64 a1_0) ∧ w'.cell? ⟨gb670,1,none⟩ = some (.int .i64 a1_1) ∧ w'.cell? (ad675.add ((a1_0).toNat * 2)) = some (.int .i64 ((rd_T59 l0_0 a1_0).f0)) ∧ w'.cell? ⟨(ad675.add ((a1_0).toNat * 2)).block,(ad675.add ((a1_0).toNat * 2)).off + 1,none⟩ = some (.int .i64 ((rd_T59 l0_0 a1_0).f1)) ∧ w'.cell? (ad676.add ((a1_1).toNat * 2)) = some (.int .i64 ((rd_T59 l0_1 a1_1).f0)) ∧ w'.cell? ⟨(ad676.add ((a1_1).toNat * 2)).block,(ad676.add ((a1_1).toNat * 2)).off + 1,none⟩ = some (.int .i64 ((rd_T59 l0_1 a1_1).f1)) ∧ w'.cell? (ad678.add ((ji12)).toNat) = some (.int .i64 (rd (rd_L3 t671 (ji4)) (ji12)))) (ds:=[]) (pw 25 0) (by kernel_rfl) rfl rfl ⟨(blk_cell BK669.out 0).trans rfl,(blk_cell BK669.out 1).trans rfl,(blk_cell BK669.out 2).trans rfl,(blk_cell BK669.out 3).trans rfl,(blk_cell BK669.out 4).trans rfl,(blk_cell BK669.out 5).trans rfl,(blk_cell BK670.out 0).trans rfl,(blk_cell BK670.out 1).trans rfl,((HB.out.cell (World.block_lt_of_cell? w _ hw675_0)).trans hw675_0),((HB.out.cell (World.block_lt_of_cell? w _ hw675_1)).trans hw675_1),((HB.out.cell (World.block_lt_of_cell? w _ hw676_0)).trans hw676_0),((HB.out.cell (World.block_lt_of_cell? w _ hw676_1)).trans hw676_1),hx678_0⟩ (fun hHeld=>?_);refine with_tabW impl_topdown_distB.tab6 impl_topdown_distB.bits6 (fun HT_ HW_=>?_)
  generalize w20.drew = w22 at HO673 HL674_0 BK669 BK670 HR674_0 HB hx675_0 hx675_1 hx676_0 hx676_1 hx678_0 hHeld ⊢
  refine pure_ (i:=0) (N:=some 28) (v:=?_) (a':=?_) (pw 25 1) rfl rfl (any_of HT_.out (by kernel_rfl)) (fun _ _ _ h=>h) (Or.inl ⟨by rfl,?_⟩) ?_ ?_;rotate_left
  ·intro w';go_simp;with_reducible rfl
  rotate_left;·simp only [Act.put,za,zb,zc,i64_w,i32_w];rfl
  refine pure_ (i:=2) (N:=some 30) (v:=?_) (a':=?_) (bw 25 5) rfl rfl (any_of HT_.out (by kernel_rfl)) (fun _ _ _ h=>h) (Or.inl ⟨by rfl,?_⟩) ?_ ?_;rotate_left
  ·intro w';go_simp;with_reducible rfl
  rotate_left;·simp only [Act.put,za,zb,zc,i64_w,i32_w];rfl
  refine pure_ (i:=4) (N:=some 32) (v:=?_) (a':=?_) (bw 25 21) rfl rfl (any_of HT_.out (by kernel_rfl)) (fun _ _ _ h=>h) (Or.inl ⟨by rfl,?_⟩) ?_ ?_;rotate_left
  ·intro w';go_simp;with_reducible rfl
  rotate_left;·simp only [Act.put,za,zb,zc,i64_w,i32_w];rfl
  refine pure_ (i:=9) (N:=some 37) (v:=?_) (a':=?_) (bw 25 533) rfl rfl (any_of HT_.out (by kernel_rfl)) (fun _ _ _ h=>h) (Or.inl ⟨by rfl,?_⟩) ?_ ?_;rotate_left
  ·intro w';go_simp;with_reducible rfl
  rotate_left;·simp only [Act.put,za,zb,zc,i64_w,i32_w];rfl
  refine pure_ (i:=11) (N:=some 39) (v:=?_) (a':=?_) (bw 25 2581) rfl rfl (any_of HT_.out (by kernel_rfl)) (fun _ _ _ h=>h) (Or.inl ⟨by rfl,?_⟩) ?_ ?_;rotate_left
  ·intro w';go_simp;with_reducible rfl
  rotate_left;·simp only [Act.put,za,zb,zc,i64_w,i32_w];rfl
  refine pure_ (i:=17) (N:=some 45) (v:=?_) (a':=?_) (bw 25 133653) rfl rfl (any_of HT_.out (by kernel_rfl)) (fun _ _ _ h=>h) (Or.inl ⟨by rfl,?_⟩) ?_ ?_;rotate_left
  ·intro w';go_simp;with_reducible rfl
  rotate_left;·simp only [Act.put,za,zb,zc,i64_w,i32_w];rfl
  refine pure_ (i:=18) (N:=some 46) (v:=?_) (a':=?_) (bw 25 395797) rfl rfl (any_of HT_.out (by kernel_rfl)) (fun _ _ _ h=>h) (Or.inl ⟨by rfl,?_⟩) ?_ ?_;rotate_left
  ·intro w';go_simp;with_reducible rfl
  rotate_left;·simp only [Act.put,za,zb,zc,i64_w,i32_w];rfl
  refine pure_ (i:=19) (N:=some 47) (v:=?_) (a':=?_) (bw 25 920085) rfl rfl (any_of HT_.out (by kernel_rfl)) (fun _ _ _ h=>h) (Or.inl ⟨by rfl,?_⟩) ?_ ?_;rotate_left
  ·intro w';go_simp;with_reducible rfl
  rotate_left;·simp only [Act.put,za,zb,zc,i64_w,i32_w];rfl
  refine pure_ (i:=20) (N:=some 48) (v:=?_) (a':=?_) (bw 25 1968661) rfl rfl (any_of HT_.out (by kernel_rfl)) (fun _ _ _ h=>h) (Or.inl ⟨by rfl,?_⟩) ?_ ?_;rotate_left
  ·intro w';go_simp;with_reducible rfl
  rotate_left;·simp only [Act.put,za,zb,zc,i64_w,i32_w];rfl
  refine pure_ (i:=21) (N:=some 49) (v:=?_) (a':=?_) (bw 25 4065813) rfl rfl (any_of HT_.out (by kernel_rfl)) (fun _ _ _ h=>h) (Or.inl ⟨by rfl,?_⟩) ?_ ?_;rotate_left
  ·intro w';go_simp;with_reducible rfl
  rotate_left;·simp only [Act.put,za,zb,zc,i64_w,i32_w];rfl
  refine take_ (i:=1) (N:=some 29) (v:=?_) (a':=?_) (bw 25 4065815) rfl rfl (take_ofW HT_.out HW_.out (by kernel_rfl)) (fun _ _ _ h=>h) (Or.inl ⟨by rfl,?_⟩) hHeld ?_ ?_;rotate_left
  ·rintro w' ⟨s0,s1,s2,s3,s4,s5,s6,s7,s8,s9,s10,s11,s12⟩
   go_simp;with_reducible rfl
  rotate_left;·simp only [Act.put,za,zb,zc,i64_w,i32_w];rfl
  refine take_ (i:=3) (N:=some 31) (v:=?_) (a':=?_) (bw 25 4065823) rfl rfl (take_ofW HT_.out HW_.out (by kernel_rfl)) (fun _ _ _ h=>h) (Or.inl ⟨by rfl,?_⟩) hHeld ?_ ?_;rotate_left
  ·rintro w' ⟨s0,s1,s2,s3,s4,s5,s6,s7,s8,s9,s10,s11,s12⟩
   go_simp;with_reducible rfl
  rotate_left;·simp only [Act.put,za,zb,zc,i64_w,i32_w];rfl
  refine take_ (i:=5) (N:=some 33) (v:=?_) (a':=?_) (bw 25 4065855) rfl rfl (take_ofW HT_.out HW_.out (by kernel_rfl)) (fun _ _ _ h=>h) (Or.inl ⟨by rfl,?_⟩) hHeld ?_ ?_;rotate_left
  ·rintro w' ⟨s0,s1,s2,s3,s4,s5,s6,s7,s8,s9,s10,s11,s12⟩
   go_simp;with_reducible rfl
  rotate_left;·simp only [Act.put,za,zb,zc,i64_w,i32_w];rfl
  refine pure_ (i:=6) (N:=some 34) (v:=?_) (a':=?_) (bw 25 4065919) rfl rfl (any_of HT_.out (by kernel_rfl)) (fun _ _ _ h=>h) (Or.inl ⟨by rfl,?_⟩) ?_ ?_;rotate_left
  ·intro w';go_simp;with_reducible rfl
  rotate_left;·simp only [Act.put,za,zb,zc,i64_w,i32_w];rfl
  refine pure_ (i:=7) (N:=some 35) (v:=?_) (a':=?_) (bw 25 4066047) rfl rfl (any_of HT_.out (by kernel_rfl)) (fun _ _ _ h=>h) (Or.inl ⟨by rfl,?_⟩) ?_ ?_;rotate_left
  ·intro w';go_simp;with_reducible rfl
  rotate_left;·simp only [Act.put,za,zb,zc,i64_w,i32_w];rfl
  refine take_ (i:=8) (N:=some 36) (v:=?_) (a':=?_) (bw 25 4066303) rfl rfl (take_ofW HT_.out HW_.out (by kernel_rfl)) (fun _ _ _ h=>h) (Or.inl ⟨by rfl,?_⟩) hHeld ?_ ?_;rotate_left
  ·rintro w' ⟨s0,s1,s2,s3,s4,s5,s6,s7,s8,s9,s10,s11,s12⟩
   go_simp;with_reducible rfl
  rotate_left;·simp only [Act.put,za,zb,zc,i64_w,i32_w];rfl
  refine take_ (i:=10) (N:=some 38) (v:=?_) (a':=?_) (bw 25 4067327) rfl rfl (take_ofW HT_.out HW_.out (by kernel_rfl)) (fun _ _ _ h=>h) (Or.inl ⟨by rfl,?_⟩) hHeld ?_ ?_;rotate_left
  ·rintro w' ⟨s0,s1,s2,s3,s4,s5,s6,s7,s8,s9,s10,s11,s12⟩
   go_simp;with_reducible rfl
  rotate_left;·simp only [Act.put,za,zb,zc,i64_w,i32_w];rfl
  refine take_ (i:=12) (N:=some 40) (v:=?_) (a':=?_) (bw 25 4071423) rfl rfl (take_ofW HT_.out HW_.out (by kernel_rfl)) (fun _ _ _ h=>h) (Or.inl ⟨by rfl,?_⟩) hHeld ?_ ?_;rotate_left
  ·rintro w' ⟨s0,s1,s2,s3,s4,s5,s6,s7,s8,s9,s10,s11,s12⟩
   go_simp;with_reducible rfl
  rotate_left;·simp only [Act.put,za,zb,zc,i64_w,i32_w];rfl
  refine pure_ (i:=13) (N:=some 41) (v:=?_) (a':=?_) (bw 25 4079615) rfl rfl (any_of HT_.out (by kernel_rfl)) (fun _ _ _ h=>h) (Or.inl ⟨by rfl,?_⟩) ?_ ?_;rotate_left
  ·intro w';go_simp;with_reducible rfl
  rotate_left;·simp only [Act.put,za,zb,zc,i64_w,i32_w];rfl
  refine pure_ (i:=14) (N:=some 42) (v:=?_) (a':=?_) (bw 25 4095999) rfl rfl (any_of HT_.out (by kernel_rfl)) (fun _ _ _ h=>h) (Or.inl ⟨by rfl,?_⟩) ?_ ?_;rotate_left
  ·intro w';go_simp;with_reducible rfl
  rotate_left;·simp only [Act.put,za,zb,zc,i64_w,i32_w];rfl
  refine take_ (i:=15) (N:=some 43) (v:=?_) (a':=?_) (bw 25 4128767) rfl rfl (take_ofW HT_.out HW_.out (by kernel_rfl)) (fun _ _ _ h=>h) (Or.inl ⟨by rfl,?_⟩) hHeld ?_ ?_;rotate_left
  ·rintro w' ⟨s0,s1,s2,s3,s4,s5,s6,s7,s8,s9,s10,s11,s12⟩
   go_simp;with_reducible rfl
  rotate_left;·simp only [Act.put,za,zb,zc,i64_w,i32_w];rfl
  refine take_ (i:=22) (N:=some 50) (v:=?_) (a':=?_) (bw 25 8323071) rfl rfl (take_ofW HT_.out HW_.out (by kernel_rfl)) (fun _ _ _ h=>h) (Or.inl ⟨by rfl,?_⟩) hHeld ?_ ?_;rotate_left
  ·rintro w' ⟨s0,s1,s2,s3,s4,s5,s6,s7,s8,s9,s10,s11,s12⟩
   go_simp;with_reducible rfl
  rotate_left;·simp only [Act.put,za,zb,zc,i64_w,i32_w];rfl
  refine one_ (i:=16) (N:=some 44) (pw 25 23) rfl rfl (one_of HT_.out (by kernel_rfl)) (by decide) (fun K hK=>?_);refine goes_ Try.func90 (by kernel_rfl) rfl #[.agg #[.slice A0_2 l0_2.length c0_2,.slice A0_3 l0_3.length c0_3,.slice A0_4 l0_4.length c0_4],.int .i64 ((rd_T59 l0_0 a1_0).f0),.int .i64 ((rd_T59 l0_1 a1_1).f0)] (by rfl) rfl rfl (by (try simp only [List.map_toArray,List.map_cons,List.map_nil]);first | done | rfl | (simp only [List.length_drop,List.length_take];rfl)) ?_;with_reducible refine (impl_RelCost.calls k _ _ l0_2 _ _ l0_3 _ _ l0_4 ((rd_T59 l0_0 a1_0).f0) ((rd_T59 l0_1 a1_1).f0) t677 _ ?side1 ?side2 ?side3 ?side4 ?side5 ?side6 A11.out).mono ?_
  (case side1=>exact laC (mx_C_below HR0_2.out HB.out));(case side2=>exact HC0_2.out);(case side3=>exact laC (mx_C_below HR0_3.out HB.out));(case side4=>exact HC0_3.out);(case side5=>exact laC (mx_C_below HR0_4.out HB.out));(case side6=>exact HC0_4.out);rintro e w23 ⟨rfl,hb⟩;(try replace hb:=mx_of (B:=MB_) (Pm:=(impl_topdown_dist_C.MP l0_0 l0_1 l0_2 l0_3 l0_4 a0_5)) hb);have HS12_:=(hb.cell (World.block_lt_of_cell? _ _ (hHeld.2.2.2.2.2.2.2.2.2.2.2.2))).trans (hHeld.2.2.2.2.2.2.2.2.2.2.2.2);refine ⟨_,rfl,?_⟩;replace HO673:=Aside0.mk (mx_laSb HO673.out hb);replace HL674_0:=Aside0.mk (mx_laRb HL674_0.out hb);replace BK669:=Aside0.mk (mx_laKb BK669.out hb);replace BK670:=Aside0.mk (mx_laKb BK670.out hb);replace HR674_0:=Aside0.mk (mx_C_below (by repeat (first | (with_reducible exact HR674_0.out) | (with_reducible refine Kd.C_alloc ?_ _) | (with_reducible refine Kd.C_drewN ?_ _) | (with_reducible refine Kd.C_drew ?_) | exact HR674_0.out)) hb);replace HB:=Aside0.mk (mx_step (mx_laB HB.out) hb);(try clear hb);(try clear hb2);(try clear hk);(try clear hi);refine hK.out _ _ ⟨(blk_cell BK669.out 0).trans rfl,(blk_cell BK669.out 1).trans rfl,(blk_cell BK669.out 2).trans rfl,(blk_cell BK669.out 3).trans rfl,(blk_cell BK669.out 4).trans rfl,(blk_cell BK669.out 5).trans rfl,(blk_cell BK670.out 0).trans rfl,(blk_cell BK670.out 1).trans rfl,((HB.out.cell (World.block_lt_of_cell? w _ hw675_0)).trans hw675_0),((HB.out.cell (World.block_lt_of_cell? w _ hw675_1)).trans hw675_1),((HB.out.cell (World.block_lt_of_cell? w _ hw676_0)).trans hw676_0),((HB.out.cell (World.block_lt_of_cell? w _ hw676_1)).trans hw676_1),HS12_⟩ (fun hHeld=>?_);clear hK K;refine norm_ (a':=?_) ?_ ?_;rotate_left
  ·show Act.put _ (some 44) _ = _
   simp only [Act.put,za,zb,zc,i64_w,i32_w];rfl
  refine pure_ (i:=23) (N:=some 51) (v:=?_) (a':=?_) (pw 25 24) rfl rfl (any_of HT_.out (by kernel_rfl)) (fun _ _ _ h=>h) (Or.inl ⟨by rfl,?_⟩) ?_ ?_;rotate_left
  ·intro w';go_simp;with_reducible rfl
  rotate_left;·simp only [Act.put,za,zb,zc,i64_w,i32_w];rfl
  refine pure_ (i:=24) (N:=some 9) (v:=?_) (a':=?_) (pw 25 25) rfl rfl (any_of HT_.out (by kernel_rfl)) (fun _ _ _ h=>h) (Or.inl ⟨by rfl,?_⟩) ?_ ?_;rotate_left
  ·intro w';go_simp;with_reducible rfl
  rotate_left;·simp only [Act.put,za,zb,zc,i64_w,i32_w];rfl
  refine done_ (done_of HT_.out (by kernel_rfl)) ?_;have hcz24_0 : w23.cell? ⟨gb669,0,none⟩ = some (.slice (some ad675) l0_0.length c0_0):=(blk_cell BK669.out 0).trans rfl;have hcz24_1 : w23.cell? ⟨gb669,1,none⟩ = some (.slice (some ad676) l0_1.length c0_1):=(blk_cell BK669.out 1).trans rfl;have hcz24_2 : w23.cell? ⟨gb669,2,none⟩ = some (.slice A0_2 l0_2.length c0_2):=(blk_cell BK669.out 2).trans rfl;have hcz24_3 : w23.cell? ⟨gb669,3,none⟩ = some (.slice A0_3 l0_3.length c0_3):=(blk_cell BK669.out 3).trans rfl;have hcz24_4 : w23.cell? ⟨gb669,4,none⟩ = some (.slice A0_4 l0_4.length c0_4):=(blk_cell BK669.out 4).trans rfl;have hcz24_5 : w23.cell? ⟨gb669,5,none⟩ = some (.map (some MB_)):=(blk_cell BK669.out 5).trans rfl;have hfz24_0:=blk_frozen BK669.out 0;have hfz24_1:=blk_frozen BK669.out 1;have hfz24_2:=blk_frozen BK669.out 2;have hfz24_3:=blk_frozen BK669.out 3;have hfz24_4:=blk_frozen BK669.out 4;have hfz24_5:=blk_frozen BK669.out 5;have hcz25_0 : w23.cell? ⟨gb670,0,none⟩ = some (.int .i64 a1_0):=(blk_cell BK670.out 0).trans rfl;have hcz25_1 : w23.cell? ⟨gb670,1,none⟩ = some (.int .i64 a1_1):=(blk_cell BK670.out 1).trans rfl;have hfz25_0:=blk_frozen BK670.out 0;have hfz25_1:=blk_frozen BK670.out 1
  go_wp2_with (first | (at_mapUpdate;obtain ⟨o_,hq_,hP_⟩:=mx_mi HG.out HB.out;obtain ⟨es_,cl_,he_,hy_⟩:=HM1.out _ hP_;subst he_;obtain ⟨kl_,hkl_⟩:=pair_key a1_0 a1_1 HW0.out HW1.out;refine mx_update rfl _ _ _ 68 rfl 75 3 pair_law Try.underlying68 MB_ rfl _ _ kl_ rfl rfl hkl_ es_ cl_ hq_ (fun y_ h_=>(hy_ y_ h_).1) (impl_topdown_dist_C.MP l0_0 l0_1 l0_2 l0_3 l0_4 a0_5) (fun es'_ cl'_ hw_=>HM2.out _ _ es'_ cl'_ hP_ hw_) ?_;intro w_ hb_;have n0_:=Aside0.mk (mx_step HB.out hb_);clear hy_ hq_ hP_ hkl_ HB hb_;have HB:=n0_;clear n0_))
  go_ret
  exact ⟨by first | rfl | (simp [errW_none,errW_some] <;> rfl) | (simp only [← hji4,← hji12];first | rfl | (simp [errW_none,errW_some] <;> rfl)) | (simp [*,errW_none,errW_some] <;> rfl),mx_laB HB.out⟩
 ·rw [if_neg c5] at H
  exact absurd H (by simp)
end
theorem impl_topdown_distB.dom [impl_topdown_dist_O] {k : Nat} {l0_0 : List (S59)} {l0_1 : List (S59)} {l0_2 : List Int} {l0_3 : List Int} {l0_4 : List Int} {a0_5 : Int} {a1_0 : Int} {a1_1 : Int} {r : Int} (h : impl_topdown_distB.f k l0_0 l0_1 l0_2 l0_3 l0_4 a0_5 a1_0 a1_1 = some r) : 0 ≤ a1_0 ∧ a1_0 < l0_0.length ∧ 0 ≤ a1_1 ∧ a1_1 < l0_1.length:=by
  unfold impl_topdown_distB.f at h
  obtain ⟨t,_,h⟩:=Option.bind_eq_some_iff.1 h
  iterate 6 (split at h;rotate_left;· cases h)
  exact ⟨by assumption,by assumption,by assumption,by assumption⟩
def impl_topdown_dist.f : Nat → (List (S59)) → (List (S59)) → (List Int) → (List Int) → (List Int) → Int → Int → Int → Option Int
  | 0=>fun _ _ _ _ _ _ _ _=>none
  | k + 1=>fun a0 a1 a2 a3 a4 a5 a6 a7=>@impl_topdown_distB.f ⟨fun _=>impl_topdown_dist.f k,fun _ _ _ _ _ _ _ _ _=>LeO.refl _⟩ (k + 1) a0 a1 a2 a3 a4 a5 a6 a7
abbrev impl_topdown_dist.o (k : Nat) : impl_topdown_dist_O:=⟨fun _=>impl_topdown_dist.f k,fun _ _ _ _ _ _ _ _ _=>LeO.refl _⟩
theorem impl_topdown_dist.mono : ∀ a0 a1 a2 a3 a4 a5 a6 a7 k,LeO (impl_topdown_dist.f k a0 a1 a2 a3 a4 a5 a6 a7) (impl_topdown_dist.f (k + 1) a0 a1 a2 a3 a4 a5 a6 a7):=by
  intro a0 a1 a2 a3 a4 a5 a6 a7 k
  induction k generalizing a0 a1 a2 a3 a4 a5 a6 a7 with
  | zero=>exact LeO.none _
  | succ k ih=>exact LeO.trans (@impl_topdown_distB.omono (impl_topdown_dist.o k) (impl_topdown_dist.o (k + 1)) (k + 1) (fun j _ b0 b1 b2 b3 b4 b5 b6 b7=>ih b0 b1 b2 b3 b4 b5 b6 b7) a0 a1 a2 a3 a4 a5 a6 a7) (@impl_topdown_distB.mono (impl_topdown_dist.o (k + 1)) a0 a1 a2 a3 a4 a5 a6 a7 (k + 1))
instance impl_topdown_dist.inst : impl_topdown_dist_O:=⟨impl_topdown_dist.f,impl_topdown_dist.mono⟩
def impl_topdown_dist.MP (l0_0 : List (S59)) (l0_1 : List (S59)) (l0_2 : List Int) (l0_3 : List Int) (l0_4 : List Int) (a0_5 : Int) (o : Obj) : Prop:=∃ es clock,o = .map es clock ∧ ∀ y ∈ es.toList,∃ u v n : Int,y.key = .agg #[.int .i64 u,.int .i64 v] ∧ y.val = .int .i64 n ∧ (Lit.int .i64 u).wf = true ∧ (Lit.int .i64 v).wf = true ∧ ∃ k,impl_topdown_dist.f k l0_0 l0_1 l0_2 l0_3 l0_4 a0_5 u v = some n
theorem wf_range {a : Int} (h0 : 0 ≤ a) (h1 : a ≤ 9223372036854775807) : (Lit.int .i64 a).wf = true:=by
  simp [Lit.wf,IntKind.min,IntKind.max,IntKind.signed,IntKind.bits]
  omega
set_option maxHeartbeats 2000000 in
theorem impl_topdown_dist.calls_k (K : Nat) : ∀ (MB_ : Nat) (k : Nat) (A0_0 : Option Addr) (c0_0 : Nat) (l0_0 : List (S59)) (A0_1 : Option Addr) (c0_1 : Nat) (l0_1 : List (S59)) (A0_2 : Option Addr) (c0_2 : Nat) (l0_2 : List Int) (A0_3 : Option Addr) (c0_3 : Nat) (l0_3 : List Int) (A0_4 : Option Addr) (c0_4 : Nat) (l0_4 : List Int) (a0_5 : Int) (a1_0 : Int) (a1_1 : Int) (r : Int) (w : World) (hr0_0 : Kd.C k59 w A0_0 l0_0.length l0_0) (hc0_0 : l0_0.length ≤ c0_0) (hr0_1 : Kd.C k59 w A0_1 l0_1.length l0_1) (hc0_1 : l0_1.length ≤ c0_1) (hr0_2 : Kd.C (Kd.int .i64) w A0_2 l0_2.length l0_2) (hc0_2 : l0_2.length ≤ c0_2) (hr0_3 : Kd.C (Kd.int .i64) w A0_3 l0_3.length l0_3) (hc0_3 : l0_3.length ≤ c0_3) (hr0_4 : Kd.C (Kd.int .i64) w A0_4 l0_4.length l0_4) (hc0_4 : l0_4.length ≤ c0_4) (h : impl_topdown_dist.f K l0_0 l0_1 l0_2 l0_3 l0_4 a0_5 a1_0 a1_1 = some r) (hG : MI MB_ (impl_topdown_dist.MP l0_0 l0_1 l0_2 l0_3 l0_4 a0_5) w),Calls Try.prog 53 #[.agg #[.slice A0_0 l0_0.length c0_0,.slice A0_1 l0_1.length c0_1,.slice A0_2 l0_2.length c0_2,.slice A0_3 l0_3.length c0_3,.slice A0_4 l0_4.length c0_4,.map (some MB_)],.agg #[.int .i64 a1_0,.int .i64 a1_1]] w fun e w'=>e = .returned (.int .i64 r) ∧ BelowX MB_ (impl_topdown_dist.MP l0_0 l0_1 l0_2 l0_3 l0_4 a0_5) w.heap.size w w':=by
  induction K with
  | zero=>intro MB_ k A0_0 c0_0 l0_0 A0_1 c0_1 l0_1 A0_2 c0_2 l0_2 A0_3 c0_3 l0_3 A0_4 c0_4 l0_4 a0_5 a1_0 a1_1 r w hr0_0 hc0_0 hr0_1 hc0_1 hr0_2 hc0_2 hr0_3 hc0_3 hr0_4 hc0_4 h;cases h
  | succ K ih =>
    intro MB_ k A0_0 c0_0 l0_0 A0_1 c0_1 l0_1 A0_2 c0_2 l0_2 A0_3 c0_3 l0_3 A0_4 c0_4 l0_4 a0_5 a1_0 a1_1 r w hr0_0 hc0_0 hr0_1 hc0_1 hr0_2 hc0_2 hr0_3 hc0_3 hr0_4 hc0_4 h hG
    obtain ⟨d0,d1,d2,d3⟩:=@impl_topdown_distB.dom (impl_topdown_dist.o K) _ _ _ _ _ _ _ _ _ _ h
    have hw0 : (Lit.int .i64 a1_0).wf = true:=wf_range d0 (by have:=hr0_0.2.1;omega);have hw1 : (Lit.int .i64 a1_1).wf = true:=wf_range d2 (by have:=hr0_1.2.1;omega);refine @impl_topdown_distB.calls (impl_topdown_dist.o K) (by refine @impl_topdown_dist_C.mk (impl_topdown_dist.o K) impl_topdown_dist.MP (fun MB_ k=>?_);exact ih MB_ 0) MB_ (K + 1) A0_0 c0_0 l0_0 A0_1 c0_1 l0_1 A0_2 c0_2 l0_2 A0_3 c0_3 l0_3 A0_4 c0_4 l0_4 a0_5 a1_0 a1_1 r w hr0_0 hc0_0 hr0_1 hc0_1 hr0_2 hc0_2 hr0_3 hc0_3 hr0_4 hc0_4 h hG hw0 hw1 ?_ ?_
    · rintro o ⟨es,clock,rfl,hy⟩
      refine ⟨es,clock,rfl,fun y hm=>?_⟩
      obtain ⟨u,v,n,e1,e2,w1,w2,j,hj⟩:=hy y hm
      refine ⟨by rw [e1];exact pair_key u v w1 w2,fun e=>?_⟩;rw [e1] at e
      injection e with e
      simp only [Array.mk.injEq,List.cons.injEq,Value.int.injEq,true_and,and_true] at e
      obtain ⟨rfl,rfl⟩:=e
      have h1:=at_rounds (g:=fun k=>impl_topdown_dist.f k l0_0 l0_1 l0_2 l0_3 l0_4 a0_5 u v) (fun k=>impl_topdown_dist.mono _ _ _ _ _ _ _ _ k) (Nat.le_max_left j (K + 1)) hj;have h2:=at_rounds (g:=fun k=>impl_topdown_dist.f k l0_0 l0_1 l0_2 l0_3 l0_4 a0_5 u v) (fun k=>impl_topdown_dist.mono _ _ _ _ _ _ _ _ k) (Nat.le_max_right j (K + 1)) h;rw [e2,Option.some.inj (h1.symm.trans h2)]
    · rintro es clock es' clock' ⟨es0,clock0,e,hy⟩ hw
      injection e with e _
      subst e;refine ⟨es',clock',rfl,fun y hm=>?_⟩
      rcases hw y hm with h1 | ⟨h1,h2⟩
      · exact hy y h1
      · exact ⟨a1_0,a1_1,r,h1,h2,hw0,hw1,K + 1,h⟩
instance impl_topdown_dist.instC : impl_topdown_dist_C:=⟨impl_topdown_dist.MP,fun MB_ k=>impl_topdown_dist.calls_k k MB_ 0⟩

end Go.Proofs.Ytockkelkdimehaa.P
