-- Written by this session's program mk.py with the kit's print program,out of the translation;not by hand. Lean checks it.
import Derived.Test.YtockkelkdimehaaP0
import Derived.Test.YtockkelkdimehaaSh
import Derived.Test.YtockkelkdimehaaHand
import Derived.Test.YtockkelkdimehaaG102
import Derived.Test.YtockkelkdimehaaG58
import Derived.Test.YtockkelkdimehaaG66
namespace Go.Proofs.Ytockkelkdimehaa.P
open Go.RowKit Go.Proofs.YtockkelkdimehaaW.PrintWords Go.Proofs.YtockkelkdimehaaW.PrintLast Go.Proofs.YtockkelkdimehaaW.PrintMore
attribute [local go_sem] max2_int min2_int max_two min_two max_three min_three max_four min_four   -- for this text's walks alone
set_option linter.unusedVariables false
set_option linter.unusedSimpArgs false


/-! ### spec_l26Table: function 88 -/
class spec_l26Dist_O where
  f : Nat → (List (S59)) → (List (S59)) → (List Int) → (List Int) → (List Int) → Int → Int → Option (Int)
  mono : ∀ a0 a1 a2 a3 a4 a5 a6 k,LeO (f k a0 a1 a2 a3 a4 a5 a6) (f (k + 1) a0 a1 a2 a3 a4 a5 a6)
section
variable [spec_l26Dist_O]
mutual
def spec_l26Table.l0 : Nat → List (S59) → List (S59) → List Int → List Int → Int → List Int → Int → List Int → List Int → List Int → Option (List Int)
 | 0,_,_,_,_,_,_,_,_,_,_=>none
 | k + 1,x0,x1,x11,x12,x13,x14,x15,x519000,x519001,x519002=>if x15 ≤ (x11.length : Int) then (spec_l26Table.l1 k x0 x1 x11 x12 x13 x14 x15 0 x519000 x519001 x519002) else (some x14)
def spec_l26Table.l1 : Nat → List (S59) → List (S59) → List Int → List Int → Int → List Int → Int → Int → List Int → List Int → List Int → Option (List Int)
 | 0,_,_,_,_,_,_,_,_,_,_,_=>none
 | k + 1,x0,x1,x11,x12,x13,x14,x15,x16,x519000,x519001,x519002=>if x16 ≤ (x12.length : Int) then (if (wrap64 (x15 + x16)) = 0 then (spec_l26Table.l1 k x0 x1 x11 x12 x13 x14 x15 (wrap64 (x16 + 1)) x519000 x519001 x519002) else (if x15 > 0 then (if 0 ≤ (wrap64 ((wrap64 ((wrap64 (x15 - 1)) * x13)) + x16)) then (if (wrap64 ((wrap64 ((wrap64 (x15 - 1)) * x13)) + x16)) < (x14.length : Int) then (if 0 ≤ (wrap64 (x15 - 1)) then (if (wrap64 (x15 - 1)) < (x11.length : Int) then ((spec_SubTree.f k x0 (rd x11 (wrap64 (x15 - 1)))).bind fun t530=>((spec_DelTree.f k t530 x519000 x519001 x519002).bind fun t533=>(spec_l26Table.j2 k x0 x1 x11 x12 x13 x14 x15 x16 (mn 1000000000 (wrap64 ((rd x14 (wrap64 ((wrap64 ((wrap64 (x15 - 1)) * x13)) + x16))) + t533))) x519000 x519001 x519002))) else (none)) else (none)) else (none)) else (none)) else (spec_l26Table.j2 k x0 x1 x11 x12 x13 x14 x15 x16 1000000000 x519000 x519001 x519002))) else (spec_l26Table.l0 k x0 x1 x11 x12 x13 x14 (wrap64 (x15 + 1)) x519000 x519001 x519002)
def spec_l26Table.j2 : Nat → List (S59) → List (S59) → List Int → List Int → Int → List Int → Int → Int → Int → List Int → List Int → List Int → Option (List Int)
 | 0,_,_,_,_,_,_,_,_,_,_,_,_=>none
 | k + 1,x0,x1,x11,x12,x13,x14,x15,x16,x17,x519000,x519001,x519002=>if x16 > 0 then (if 0 ≤ (wrap64 ((wrap64 ((wrap64 (x15 * x13)) + x16)) - 1)) then (if (wrap64 ((wrap64 ((wrap64 (x15 * x13)) + x16)) - 1)) < (x14.length : Int) then (if 0 ≤ (wrap64 (x16 - 1)) then (if (wrap64 (x16 - 1)) < (x12.length : Int) then ((spec_SubTree.f k x1 (rd x12 (wrap64 (x16 - 1)))).bind fun t536=>((spec_InsTree.f k t536 x519000 x519001 x519002).bind fun t539=>(if x15 > 0 then (if 0 ≤ (wrap64 ((wrap64 ((wrap64 ((wrap64 (x15 - 1)) * x13)) + x16)) - 1)) then (if (wrap64 ((wrap64 ((wrap64 ((wrap64 (x15 - 1)) * x13)) + x16)) - 1)) < (x14.length : Int) then (if 0 ≤ (wrap64 (x15 - 1)) then (if (wrap64 (x15 - 1)) < (x11.length : Int) then ((spec_l26Dist_O.f k x0 x1 x519000 x519001 x519002 (rd x11 (wrap64 (x15 - 1))) (rd x12 (wrap64 (x16 - 1)))).bind fun t543=>(if 0 ≤ (wrap64 ((wrap64 (x15 * x13)) + x16)) then (if (wrap64 ((wrap64 (x15 * x13)) + x16)) < (x14.length : Int) then (spec_l26Table.l1 k x0 x1 x11 x12 x13 (x14.set ((wrap64 ((wrap64 (x15 * x13)) + x16)) : Int).toNat (mn (mn x17 (wrap64 ((rd x14 (wrap64 ((wrap64 ((wrap64 (x15 * x13)) + x16)) - 1))) + t539))) (wrap64 ((rd x14 (wrap64 ((wrap64 ((wrap64 ((wrap64 (x15 - 1)) * x13)) + x16)) - 1))) + t543)))) x15 (wrap64 (x16 + 1)) x519000 x519001 x519002) else (none)) else (none))) else (none)) else (none)) else (none)) else (none)) else (if 0 ≤ (wrap64 ((wrap64 (x15 * x13)) + x16)) then (if (wrap64 ((wrap64 (x15 * x13)) + x16)) < (x14.length : Int) then (spec_l26Table.l1 k x0 x1 x11 x12 x13 (x14.set ((wrap64 ((wrap64 (x15 * x13)) + x16)) : Int).toNat (mn x17 (wrap64 ((rd x14 (wrap64 ((wrap64 ((wrap64 (x15 * x13)) + x16)) - 1))) + t539)))) x15 (wrap64 (x16 + 1)) x519000 x519001 x519002) else (none)) else (none))))) else (none)) else (none)) else (none)) else (none)) else (if x15 > 0 then (if 0 ≤ (wrap64 ((wrap64 (x15 * x13)) + x16)) then (if (wrap64 ((wrap64 (x15 * x13)) + x16)) < (x14.length : Int) then (spec_l26Table.l1 k x0 x1 x11 x12 x13 (x14.set ((wrap64 ((wrap64 (x15 * x13)) + x16)) : Int).toNat x17) x15 (wrap64 (x16 + 1)) x519000 x519001 x519002) else (none)) else (none)) else (if 0 ≤ (wrap64 ((wrap64 (x15 * x13)) + x16)) then (if (wrap64 ((wrap64 (x15 * x13)) + x16)) < (x14.length : Int) then (spec_l26Table.l1 k x0 x1 x11 x12 x13 (x14.set ((wrap64 ((wrap64 (x15 * x13)) + x16)) : Int).toNat x17) x15 (wrap64 (x16 + 1)) x519000 x519001 x519002) else (none)) else (none)))
end
def spec_l26Table.f (k : Nat) (l0 : List (S59)) (l1 : List (S59)) (l2_0 : List Int) (l2_1 : List Int) (l2_2 : List Int) (a3 : Int) (a4 : Int) : Option (List Int):=(spec_KidsOf.f k l0 a3).bind fun t519=>((spec_KidsOf.f k l1 a4).bind fun t522=>(if 0 ≤ (wrap64 ((wrap64 ((t519.length : Int) + 1)) * (wrap64 ((t522.length : Int) + 1)))) then (if (wrap64 ((wrap64 ((t519.length : Int) + 1)) * (wrap64 ((t522.length : Int) + 1))) : Int).toNat ≤ 35184372088832 then (spec_l26Table.l0 k l0 l1 t519 t522 (wrap64 ((t522.length : Int) + 1)) (List.replicate (wrap64 ((wrap64 ((t519.length : Int) + 1)) * (wrap64 ((t522.length : Int) + 1))) : Int).toNat 0) 0 l2_0 l2_1 l2_2) else (none)) else (none)))
theorem spec_l26Table.mono_l : ∀ k,(∀ y0 y1 y2 y3 y4 y5 y6 y7 y8 y9,LeO (spec_l26Table.l0 k y0 y1 y2 y3 y4 y5 y6 y7 y8 y9) (spec_l26Table.l0 (k + 1) y0 y1 y2 y3 y4 y5 y6 y7 y8 y9)) ∧ (∀ y0 y1 y2 y3 y4 y5 y6 y7 y8 y9 y10,LeO (spec_l26Table.l1 k y0 y1 y2 y3 y4 y5 y6 y7 y8 y9 y10) (spec_l26Table.l1 (k + 1) y0 y1 y2 y3 y4 y5 y6 y7 y8 y9 y10)) ∧ (∀ y0 y1 y2 y3 y4 y5 y6 y7 y8 y9 y10 y11,LeO (spec_l26Table.j2 k y0 y1 y2 y3 y4 y5 y6 y7 y8 y9 y10 y11) (spec_l26Table.j2 (k + 1) y0 y1 y2 y3 y4 y5 y6 y7 y8 y9 y10 y11))
 | 0=>⟨fun _ _ _ _ _ _ _ _ _ _ r h=>by simp [spec_l26Table.l0] at h,fun _ _ _ _ _ _ _ _ _ _ _ r h=>by simp [spec_l26Table.l1] at h,fun _ _ _ _ _ _ _ _ _ _ _ _ r h=>by simp [spec_l26Table.j2] at h⟩
 | k + 1=>by
  obtain ⟨ih0,ih1,ih2⟩:=spec_l26Table.mono_l k
  refine ⟨?_,?_,?_⟩
  ·intro y0 y1 y2 y3 y4 y5 y6 y7 y8 y9
   unfold spec_l26Table.l0
   repeat' first
   | (with_reducible exact ih0 _ _ _ _ _ _ _ _ _ _)
   | (with_reducible exact ih1 _ _ _ _ _ _ _ _ _ _ _)
   | (with_reducible exact ih2 _ _ _ _ _ _ _ _ _ _ _ _)
   | (with_reducible exact spec_DelTree.mono _ _ _ _ _)
   | (with_reducible exact spec_InsTree.mono _ _ _ _ _)
   | (with_reducible exact spec_KidsOf.mono _ _ _)
   | (with_reducible exact spec_SubTree.mono _ _ _)
   | (with_reducible exact spec_l26Dist_O.mono _ _ _ _ _ _ _ _)
   | (with_reducible exact LeO.refl _)
   | (with_reducible exact LeO.none _)
   | (with_reducible refine LeO.ite ?_ ?_)
   | (with_reducible refine LeO.bind ?_ (fun _=>?_))
   | exact ih0 _ _ _ _ _ _ _ _ _ _
   | exact ih1 _ _ _ _ _ _ _ _ _ _ _
   | exact ih2 _ _ _ _ _ _ _ _ _ _ _ _
   | exact spec_DelTree.mono _ _ _ _ _
   | exact spec_InsTree.mono _ _ _ _ _
   | exact spec_KidsOf.mono _ _ _
   | exact spec_SubTree.mono _ _ _
   | exact spec_l26Dist_O.mono _ _ _ _ _ _ _ _
   | exact LeO.none _
   | refine LeO.ite ?_ ?_
   | refine LeO.bind ?_ (fun _=>?_)
  ·intro y0 y1 y2 y3 y4 y5 y6 y7 y8 y9 y10
   unfold spec_l26Table.l1
   repeat' first
   | (with_reducible exact ih0 _ _ _ _ _ _ _ _ _ _)
   | (with_reducible exact ih1 _ _ _ _ _ _ _ _ _ _ _)
   | (with_reducible exact ih2 _ _ _ _ _ _ _ _ _ _ _ _)
   | (with_reducible exact spec_DelTree.mono _ _ _ _ _)
   | (with_reducible exact spec_InsTree.mono _ _ _ _ _)
   | (with_reducible exact spec_KidsOf.mono _ _ _)
   | (with_reducible exact spec_SubTree.mono _ _ _)
   | (with_reducible exact spec_l26Dist_O.mono _ _ _ _ _ _ _ _)
   | (with_reducible exact LeO.refl _)
   | (with_reducible exact LeO.none _)
   | (with_reducible refine LeO.ite ?_ ?_)
   | (with_reducible refine LeO.bind ?_ (fun _=>?_))
   | exact ih0 _ _ _ _ _ _ _ _ _ _
   | exact ih1 _ _ _ _ _ _ _ _ _ _ _
   | exact ih2 _ _ _ _ _ _ _ _ _ _ _ _
   | exact spec_DelTree.mono _ _ _ _ _
   | exact spec_InsTree.mono _ _ _ _ _
   | exact spec_KidsOf.mono _ _ _
   | exact spec_SubTree.mono _ _ _
   | exact spec_l26Dist_O.mono _ _ _ _ _ _ _ _
   | exact LeO.none _
   | refine LeO.ite ?_ ?_
   | refine LeO.bind ?_ (fun _=>?_)
  ·intro y0 y1 y2 y3 y4 y5 y6 y7 y8 y9 y10 y11
   unfold spec_l26Table.j2
   repeat' first
   | (with_reducible exact ih0 _ _ _ _ _ _ _ _ _ _)
   | (with_reducible exact ih1 _ _ _ _ _ _ _ _ _ _ _)
   | (with_reducible exact ih2 _ _ _ _ _ _ _ _ _ _ _ _)
   | (with_reducible exact spec_DelTree.mono _ _ _ _ _)
   | (with_reducible exact spec_InsTree.mono _ _ _ _ _)
   | (with_reducible exact spec_KidsOf.mono _ _ _)
   | (with_reducible exact spec_SubTree.mono _ _ _)
   | (with_reducible exact spec_l26Dist_O.mono _ _ _ _ _ _ _ _)
   | (with_reducible exact LeO.refl _)
   | (with_reducible exact LeO.none _)
   | (with_reducible refine LeO.ite ?_ ?_)
   | (with_reducible refine LeO.bind ?_ (fun _=>?_))
   | exact ih0 _ _ _ _ _ _ _ _ _ _
   | exact ih1 _ _ _ _ _ _ _ _ _ _ _
   | exact ih2 _ _ _ _ _ _ _ _ _ _ _ _
   | exact spec_DelTree.mono _ _ _ _ _
   | exact spec_InsTree.mono _ _ _ _ _
   | exact spec_KidsOf.mono _ _ _
   | exact spec_SubTree.mono _ _ _
   | exact spec_l26Dist_O.mono _ _ _ _ _ _ _ _
   | exact LeO.none _
   | refine LeO.ite ?_ ?_
   | refine LeO.bind ?_ (fun _=>?_)
theorem spec_l26Table.mono : ∀ a0 a1 a2 a3 a4 a5 a6 k,LeO (spec_l26Table.f k a0 a1 a2 a3 a4 a5 a6) (spec_l26Table.f (k + 1) a0 a1 a2 a3 a4 a5 a6):=by
 intro a0 a1 a2 a3 a4 a5 a6 k
 obtain ⟨ih0,ih1,ih2⟩:=spec_l26Table.mono_l k
 unfold spec_l26Table.f
 repeat' first
   | (with_reducible exact ih0 _ _ _ _ _ _ _ _ _ _)
   | (with_reducible exact ih1 _ _ _ _ _ _ _ _ _ _ _)
   | (with_reducible exact ih2 _ _ _ _ _ _ _ _ _ _ _ _)
   | (with_reducible exact spec_DelTree.mono _ _ _ _ _)
   | (with_reducible exact spec_InsTree.mono _ _ _ _ _)
   | (with_reducible exact spec_KidsOf.mono _ _ _)
   | (with_reducible exact spec_SubTree.mono _ _ _)
   | (with_reducible exact spec_l26Dist_O.mono _ _ _ _ _ _ _ _)
   | (with_reducible exact LeO.refl _)
   | (with_reducible exact LeO.none _)
   | (with_reducible refine LeO.ite ?_ ?_)
   | (with_reducible refine LeO.bind ?_ (fun _=>?_))
   | exact ih0 _ _ _ _ _ _ _ _ _ _
   | exact ih1 _ _ _ _ _ _ _ _ _ _ _
   | exact ih2 _ _ _ _ _ _ _ _ _ _ _ _
   | exact spec_DelTree.mono _ _ _ _ _
   | exact spec_InsTree.mono _ _ _ _ _
   | exact spec_KidsOf.mono _ _ _
   | exact spec_SubTree.mono _ _ _
   | exact spec_l26Dist_O.mono _ _ _ _ _ _ _ _
   | exact LeO.none _
   | refine LeO.ite ?_ ?_
   | refine LeO.bind ?_ (fun _=>?_)
end
theorem spec_l26Table.omono_l {O O' : spec_l26Dist_O} (K : Nat) (ho : ∀ j,j < K → ∀ y0 y1 y2 y3 y4 y5 y6,LeO (@spec_l26Dist_O.f O j y0 y1 y2 y3 y4 y5 y6) (@spec_l26Dist_O.f O' j y0 y1 y2 y3 y4 y5 y6)) : ∀ k,k ≤ K → (∀ y0 y1 y2 y3 y4 y5 y6 y7 y8 y9,LeO (@spec_l26Table.l0 O k y0 y1 y2 y3 y4 y5 y6 y7 y8 y9) (@spec_l26Table.l0 O' k y0 y1 y2 y3 y4 y5 y6 y7 y8 y9)) ∧ (∀ y0 y1 y2 y3 y4 y5 y6 y7 y8 y9 y10,LeO (@spec_l26Table.l1 O k y0 y1 y2 y3 y4 y5 y6 y7 y8 y9 y10) (@spec_l26Table.l1 O' k y0 y1 y2 y3 y4 y5 y6 y7 y8 y9 y10)) ∧ (∀ y0 y1 y2 y3 y4 y5 y6 y7 y8 y9 y10 y11,LeO (@spec_l26Table.j2 O k y0 y1 y2 y3 y4 y5 y6 y7 y8 y9 y10 y11) (@spec_l26Table.j2 O' k y0 y1 y2 y3 y4 y5 y6 y7 y8 y9 y10 y11))
  | 0,_=>⟨fun _ _ _ _ _ _ _ _ _ _ r h=>by simp [spec_l26Table.l0] at h,fun _ _ _ _ _ _ _ _ _ _ _ r h=>by simp [spec_l26Table.l1] at h,fun _ _ _ _ _ _ _ _ _ _ _ _ r h=>by simp [spec_l26Table.j2] at h⟩
  | k + 1,hk=>by
    have ih:=spec_l26Table.omono_l K ho k (by omega)
    obtain ⟨ih0,ih1,ih2⟩:=ih
    refine ⟨?_,?_,?_⟩
    · intro y0 y1 y2 y3 y4 y5 y6 y7 y8 y9
      unfold spec_l26Table.l0
      repeat' first
      | (with_reducible exact ih0 _ _ _ _ _ _ _ _ _ _)
      | (with_reducible exact ih1 _ _ _ _ _ _ _ _ _ _ _)
      | (with_reducible exact ih2 _ _ _ _ _ _ _ _ _ _ _ _)
      | (with_reducible exact ho k (by omega) _ _ _ _ _ _ _)
      | (with_reducible exact LeO.refl _)
      | (with_reducible refine LeO.ite ?_ ?_)
      | (with_reducible refine LeO.bind ?_ (fun _=>?_))
      | exact ih0 _ _ _ _ _ _ _ _ _ _
      | exact ih1 _ _ _ _ _ _ _ _ _ _ _
      | exact ih2 _ _ _ _ _ _ _ _ _ _ _ _
      | exact ho k (by omega) _ _ _ _ _ _ _
      | exact LeO.refl _
      | refine LeO.ite ?_ ?_
      | refine LeO.bind ?_ (fun _=>?_)
    · intro y0 y1 y2 y3 y4 y5 y6 y7 y8 y9 y10
      unfold spec_l26Table.l1
      repeat' first
      | (with_reducible exact ih0 _ _ _ _ _ _ _ _ _ _)
      | (with_reducible exact ih1 _ _ _ _ _ _ _ _ _ _ _)
      | (with_reducible exact ih2 _ _ _ _ _ _ _ _ _ _ _ _)
      | (with_reducible exact ho k (by omega) _ _ _ _ _ _ _)
      | (with_reducible exact LeO.refl _)
      | (with_reducible refine LeO.ite ?_ ?_)
      | (with_reducible refine LeO.bind ?_ (fun _=>?_))
      | exact ih0 _ _ _ _ _ _ _ _ _ _
      | exact ih1 _ _ _ _ _ _ _ _ _ _ _
      | exact ih2 _ _ _ _ _ _ _ _ _ _ _ _
      | exact ho k (by omega) _ _ _ _ _ _ _
      | exact LeO.refl _
      | refine LeO.ite ?_ ?_
      | refine LeO.bind ?_ (fun _=>?_)
    · intro y0 y1 y2 y3 y4 y5 y6 y7 y8 y9 y10 y11
      unfold spec_l26Table.j2
      repeat' first
      | (with_reducible exact ih0 _ _ _ _ _ _ _ _ _ _)
      | (with_reducible exact ih1 _ _ _ _ _ _ _ _ _ _ _)
      | (with_reducible exact ih2 _ _ _ _ _ _ _ _ _ _ _ _)
      | (with_reducible exact ho k (by omega) _ _ _ _ _ _ _)
      | (with_reducible exact LeO.refl _)
      | (with_reducible refine LeO.ite ?_ ?_)
      | (with_reducible refine LeO.bind ?_ (fun _=>?_))
      | exact ih0 _ _ _ _ _ _ _ _ _ _
      | exact ih1 _ _ _ _ _ _ _ _ _ _ _
      | exact ih2 _ _ _ _ _ _ _ _ _ _ _ _
      | exact ho k (by omega) _ _ _ _ _ _ _
      | exact LeO.refl _
      | refine LeO.ite ?_ ?_
      | refine LeO.bind ?_ (fun _=>?_)
theorem spec_l26Table.omono {O O' : spec_l26Dist_O} (K : Nat) (ho : ∀ j,j < K + 1 → ∀ a0 a1 a2 a3 a4 a5 a6,LeO (@spec_l26Dist_O.f O j a0 a1 a2 a3 a4 a5 a6) (@spec_l26Dist_O.f O' j a0 a1 a2 a3 a4 a5 a6)) (l0 : List (S59)) (l1 : List (S59)) (l2_0 : List Int) (l2_1 : List Int) (l2_2 : List Int) (a3 : Int) (a4 : Int) : LeO (@spec_l26Table.f O K l0 l1 l2_0 l2_1 l2_2 a3 a4) (@spec_l26Table.f O' K l0 l1 l2_0 l2_1 l2_2 a3 a4):=by
  have ih:=spec_l26Table.omono_l (O:=O) (O':=O') (K + 1) ho K (by omega);have hK : K < K + 1:=by omega
  obtain ⟨ih0,ih1,ih2⟩:=ih
  unfold spec_l26Table.f
  repeat' first
    | (with_reducible exact ih0 _ _ _ _ _ _ _ _ _ _)
    | (with_reducible exact ih1 _ _ _ _ _ _ _ _ _ _ _)
    | (with_reducible exact ih2 _ _ _ _ _ _ _ _ _ _ _ _)
    | (with_reducible exact ho K hK _ _ _ _ _ _ _)
    | (with_reducible exact LeO.refl _)
    | (with_reducible refine LeO.ite ?_ ?_)
    | (with_reducible refine LeO.bind ?_ (fun _=>?_))
def spec_l26Table.T14 : Bool × List (List Nat × List Nat):=(true,[([],[]),([],[]),([],[]),([2],[2]),([],[]),([3,4],[3,4]),([],[]),([5,6],[5,6]),([1,7],[1,7]),([8],[8]),([],[]),([],[]),([],[]),([12],[12]),([11,13],[11,13]),([14],[14]),([10,15],[10,15]),([],[]),([16,17,16],[16,17]),([9,18],[9,18]),([0,19],[0,19]),([20,18,0,1,2,3,4,5,6,7,8,9,10,11,12,13,14,15,16,17,18,19,20],[0,20])])
def spec_l26Table.B14 : List Nat:=[0,0,0,4,0,28,0,124,254,510,0,0,0,4096,14336,30720,64512,0,261120,524286,1048575,2097151]
theorem spec_l26Table.tab14 : rtab .any (opsOf Try.f88 14) = spec_l26Table.T14:=by kernel_rfl
theorem spec_l26Table.bits14 : waitsOk spec_l26Table.T14.2 spec_l26Table.B14 = true:=by kernel_rfl
def spec_l26Table.T16 : Bool × List (List Nat × List Nat):=(true,[([],[]),([],[]),([],[]),([],[]),([2,3],[2,3]),([],[]),([4,5],[4,5]),([6],[6]),([1,7],[1,7]),([8],[8]),([],[]),([],[]),([],[]),([12],[12]),([11,13],[11,13]),([14],[14]),([10,15],[10,15]),([],[]),([16,17,16],[16,17]),([9,18],[9,18]),([0,19],[0,19]),([20,18,0,1,2,3,4,5,6,7,8,9,10,11,12,13,14,15,16,17,18,19,20],[0,20])])
def spec_l26Table.B16 : List Nat:=[0,0,0,0,12,0,60,124,254,510,0,0,0,4096,14336,30720,64512,0,261120,524286,1048575,2097151]
theorem spec_l26Table.tab16 : rtab .any (opsOf Try.f88 16) = spec_l26Table.T16:=by kernel_rfl
theorem spec_l26Table.bits16 : waitsOk spec_l26Table.T16.2 spec_l26Table.B16 = true:=by kernel_rfl
def spec_l26Table.T18 : Bool × List (List Nat × List Nat):=(true,[([],[]),([],[]),([],[]),([2],[2]),([],[]),([3,4],[3,4]),([],[]),([5,6],[5,6]),([7],[7]),([1,8],[1,8]),([9],[9]),([],[]),([],[]),([],[]),([],[]),([],[]),([15],[15]),([14,16],[14,16]),([17],[17]),([],[]),([],[]),([20],[20]),([19,21],[19,21]),([22],[22]),([11,12,13,18,23],[11,12,13,18,23]),([10,24],[10,24]),([0,25],[0,25]),([26,24,0,1,2,3,4,5,6,7,8,9,10,11,12,13,14,15,16,17,18,19,20,21,22,23,24,25,26],[0,26])])
def spec_l26Table.B18 : List Nat:=[0,0,0,4,0,28,0,124,252,510,1022,0,0,0,0,0,32768,114688,245760,0,0,1048576,3670016,7864320,16775168,33554430,67108863,134217727]
theorem spec_l26Table.tab18 : rtab .any (opsOf Try.f88 18) = spec_l26Table.T18:=by kernel_rfl
theorem spec_l26Table.bits18 : waitsOk spec_l26Table.T18.2 spec_l26Table.B18 = true:=by kernel_rfl
class spec_l26Dist_C [spec_l26Dist_O] : Prop where
  calls : ∀ (k : Nat) (A0 : Option Addr) (c0 : Nat) (l0 : List (S59)) (A1 : Option Addr) (c1 : Nat) (l1 : List (S59)) (A2_0 : Option Addr) (c2_0 : Nat) (l2_0 : List Int) (A2_1 : Option Addr) (c2_1 : Nat) (l2_1 : List Int) (A2_2 : Option Addr) (c2_2 : Nat) (l2_2 : List Int) (a3 : Int) (a4 : Int) (r : Int) (w : World) (hr0 : Kd.C k59 w A0 l0.length l0) (hc0 : l0.length ≤ c0) (hr1 : Kd.C k59 w A1 l1.length l1) (hc1 : l1.length ≤ c1) (hr2_0 : Kd.C (Kd.int .i64) w A2_0 l2_0.length l2_0) (hc2_0 : l2_0.length ≤ c2_0) (hr2_1 : Kd.C (Kd.int .i64) w A2_1 l2_1.length l2_1) (hc2_1 : l2_1.length ≤ c2_1) (hr2_2 : Kd.C (Kd.int .i64) w A2_2 l2_2.length l2_2) (hc2_2 : l2_2.length ≤ c2_2) (h : spec_l26Dist_O.f k l0 l1 l2_0 l2_1 l2_2 a3 a4 = some r),Calls Try.prog 51 #[.slice A0 l0.length c0,.slice A1 l1.length c1,.agg #[.slice A2_0 l2_0.length c2_0,.slice A2_1 l2_1.length c2_1,.slice A2_2 l2_2.length c2_2],.int .i64 a3,.int .i64 a4] w fun e w'=>e = .returned (.int .i64 r) ∧ Below w.heap.size w w'
section
variable [spec_l26Dist_O] [spec_l26Dist_C]
set_option maxHeartbeats 8000000 in
set_option maxRecDepth 100000 in
theorem spec_l26Table.calls (k : Nat) (A0 : Option Addr) (c0 : Nat) (l0 : List (S59)) (A1 : Option Addr) (c1 : Nat) (l1 : List (S59)) (A2_0 : Option Addr) (c2_0 : Nat) (l2_0 : List Int) (A2_1 : Option Addr) (c2_1 : Nat) (l2_1 : List Int) (A2_2 : Option Addr) (c2_2 : Nat) (l2_2 : List Int) (a3 : Int) (a4 : Int) (r : List Int) (w : World) (hr0 : Kd.C k59 w A0 l0.length l0) (hc0 : l0.length ≤ c0) (hr1 : Kd.C k59 w A1 l1.length l1) (hc1 : l1.length ≤ c1) (hr2_0 : Kd.C (Kd.int .i64) w A2_0 l2_0.length l2_0) (hc2_0 : l2_0.length ≤ c2_0) (hr2_1 : Kd.C (Kd.int .i64) w A2_1 l2_1.length l2_1) (hc2_1 : l2_1.length ≤ c2_1) (hr2_2 : Kd.C (Kd.int .i64) w A2_2 l2_2.length l2_2) (hc2_2 : l2_2.length ≤ c2_2) (h : spec_l26Table.f k l0 l1 l2_0 l2_1 l2_2 a3 a4 = some r) :
  Calls Try.prog 88 #[.slice A0 l0.length c0,.slice A1 l1.length c1,.agg #[.slice A2_0 l2_0.length c2_0,.slice A2_1 l2_1.length c2_1,.slice A2_2 l2_2.length c2_2],.int .i64 a3,.int .i64 a4] w fun e w'=>∃ v0_ : Value,e = .returned (v0_) ∧ Kd.R (Kd.int .i64) 3 w' w.heap.size (fun _=>True) v0_ r ∧ Below w.heap.size w w':=by
 have hu37:=Try.underlying37
 have HR0:=Aside0.mk hr0
 have HC0:=Aside0.mk hc0
 clear hr0 hc0
 have HR1:=Aside0.mk hr1
 have HC1:=Aside0.mk hc1
 clear hr1 hc1
 have HR2_0:=Aside0.mk hr2_0
 have HC2_0:=Aside0.mk hc2_0
 clear hr2_0 hc2_0
 have HR2_1:=Aside0.mk hr2_1
 have HC2_1:=Aside0.mk hc2_1
 clear hr2_1 hc2_1
 have HR2_2:=Aside0.mk hr2_2
 have HC2_2:=Aside0.mk hc2_2
 clear hr2_2 hc2_2
 have HB:=Aside0.mk (Below.refl w.heap.size w)
 have H : ((spec_KidsOf.f k l0 a3).bind fun t519=>((spec_KidsOf.f k l1 a4).bind fun t522=>(if 0 ≤ (wrap64 ((wrap64 ((t519.length : Int) + 1)) * (wrap64 ((t522.length : Int) + 1)))) then (if (wrap64 ((wrap64 ((t519.length : Int) + 1)) * (wrap64 ((t522.length : Int) + 1))) : Int).toNat ≤ 35184372088832 then (spec_l26Table.l0 k l0 l1 t519 t522 (wrap64 ((t522.length : Int) + 1)) (List.replicate (wrap64 ((wrap64 ((t519.length : Int) + 1)) * (wrap64 ((t522.length : Int) + 1))) : Int).toNat 0) 0 l2_0 l2_1 l2_2) else (none)) else (none)))) = some r:=h
 clear h
 replace H:=Option.bind_eq_some_iff.mp H
 obtain ⟨t519,A60,H⟩:=H
 have A6:=Aside0.mk A60
 clear A60
 replace H:=Option.bind_eq_some_iff.mp H
 obtain ⟨t522,A70,H⟩:=H
 have A7:=Aside0.mk A70
 clear A70
 obtain ⟨ji8,hji8⟩ : ∃ j_ : Int,(wrap64 ((wrap64 ((t519.length : Int) + 1)) * (wrap64 ((t522.length : Int) + 1)))) = j_:=⟨_,rfl⟩
 replace H : (if 0 ≤ (ji8) then (if (ji8 : Int).toNat ≤ 35184372088832 then (spec_l26Table.l0 k l0 l1 t519 t522 (wrap64 ((t522.length : Int) + 1)) (List.replicate (ji8 : Int).toNat 0) 0 l2_0 l2_1 l2_2) else (none)) else (none)) = some r:=by first | (rw [hji8] at H;exact H) | (simp only [hji8] at H ⊢;exact H)
 (try rw [hji8] at A6)
 (try rw [hji8] at A7)
 have hji8w : (IntKind.i64.wrap ((wrap64 ((t519.length : Int) + 1)) * (wrap64 ((t522.length : Int) + 1)))) = ji8:=(i64_w _).trans hji8
 by_cases c9 : 0 ≤ (ji8)
 ·rw [if_pos c9] at H
  have c9b0:=eq_true c9;have c9b1 : decide (0 ≤ (ji8)) = true:=decide_eq_true c9;clear c9
  by_cases c10 : (ji8 : Int).toNat ≤ 35184372088832
  rotate_left
  ·rw [if_neg c10] at H
   exact absurd H (by simp)
  rw [if_pos c10] at H;have c10b0:=eq_true c10;have c10b1 : decide ((ji8 : Int).toNat ≤ 35184372088832) = true:=decide_eq_true c10;clear c10
  obtain ⟨y525,hy525⟩ : ∃ y_ : List Int,y_ = (List.replicate (ji8 : Int).toNat 0):=⟨_,rfl⟩
  replace H : (spec_l26Table.l0 k l0 l1 t519 t522 (wrap64 ((t522.length : Int) + 1)) y525 0 l2_0 l2_1 l2_2) = some r:=by first | (rw [hy525];with_reducible exact H) | (have H2_:=(Option.bind_some _ _).symm.trans H;rw [hy525];with_reducible exact H2_) | (have H2_:=(Option.bind_some _ _).symm.trans H;with_reducible exact H2_) | with_reducible exact H | (rw [hy525];exact H) | exact H
  have Ny525:=Aside0.mk hy525;clear hy525;have H':=Aside0.mk H;clear H
  go_enter Try.func88,Try.ntmps88
  go_wp2_with (first | ((with_reducible refine gate_dst (N:=7) rfl ?_);refine box_event ?hg (N:=7) ?hd (cs:=#[.slice A2_0 l2_0.length c2_0,.slice A2_1 l2_1.length c2_1,.slice A2_2 l2_2.length c2_2]) (t:=37) ?hr ?_;(case hd=>rfl);(case hg=>rfl);(case hr=>first | (go_simp;done) | (go_simp;rfl));intro gb518 hg w11 hbox hb;have BK518:=Aside0.mk (hbox);have GW518:=Aside0.mk ((by rw [hg];exact (below_size (laB HB.out)) : w.heap.size ≤ gb518));have GE518:=Aside0.mk ((by rw [hg];exact (below_size (laB HB.out)) : w.heap.size ≤ gb518));have ge518_:=Nonempty.intro GE518.out;replace HB:=Aside0.mk (below_step (laB HB.out) hb);clear hb hbox hg) | ((with_reducible refine gate_callee (f:=104) rfl ?_);refine goesL_ (some 20) rfl rfl Try.func104 (by kernel_rfl) rfl #[.slice A0 l0.length c0,.int .i64 a3] rfl (by (try simp only [List.map_toArray,List.map_cons,List.map_nil]);first | done | rfl | (simp only [List.length_drop,List.length_take];rfl)) ?_;(with_reducible refine (spec_KidsOf.calls k _ _ l0 a3 t519 _ ?side1 ?side2 A6.out).mono ?_);(case side1=>exact laC (Kd.C_below HR0.out HB.out));(case side2=>exact HC0.out);rintro e w12 ⟨v520,rfl,ho0,hb⟩;refine ⟨_,rfl,?_⟩;have HO521:=Aside0.mk (Kd.R_lower ho0 (below_size (laB HB.out)));replace BK518:=Aside0.mk (laKb BK518.out hb);replace HB:=Aside0.mk (below_step (laB HB.out) hb);(try clear hb);(try clear hb2);(try clear hk);(try clear hi);(try clear ho0)) | ((with_reducible refine gate_callee (f:=104) rfl ?_);refine goesL_ (some 23) rfl rfl Try.func104 (by kernel_rfl) rfl #[.slice A1 l1.length c1,.int .i64 a4] rfl (by (try simp only [List.map_toArray,List.map_cons,List.map_nil]);first | done | rfl | (simp only [List.length_drop,List.length_take];rfl)) ?_;(with_reducible refine (spec_KidsOf.calls k _ _ l1 a4 t522 _ ?side1 ?side2 A7.out).mono ?_);(case side1=>exact laC (Kd.C_below HR1.out HB.out));(case side2=>exact HC1.out);rintro e w13 ⟨v523,rfl,ho0,hb⟩;refine ⟨_,rfl,?_⟩;have HO524:=Aside0.mk (Kd.R_lower (Kd.R_new' ho0 (Kd.R_lt (laR HO521.out))) (below_size (laB HB.out)));replace HO521:=Aside0.mk (Kd.R_elder' (laR HO521.out) (Kd.R_base ho0) hb);replace BK518:=Aside0.mk (laKb BK518.out hb);replace HB:=Aside0.mk (below_step (laB HB.out) hb);(try clear hb);(try clear hb2);(try clear hk);(try clear hi);(try clear ho0);obtain ⟨Ao14,co14,eo14⟩:=Kd.R_slice HO524.out;subst eo14;obtain ⟨Ao15,co15,eo15⟩:=Kd.R_slice HO521.out;subst eo15) | ((with_reducible refine gate_dst (N:=32) rfl ?_);refine Kd.R_make (Kd.int .i64) _ 3 rfl (N:=32) rfl 24 _ _ rfl ji8 rfl rfl Try.underlying24 (.int .i64 0) 8 info3 rfl (by decide) (by omega) 0 (ok:=fun _=>True) (okp:=fun _=>True) rfl (fun _ hk=>hk) trivial (of_decide_eq_true (by first | (with_reducible assumption) | assumption)) (Nat.le_trans (Nat.mul_le_mul_right _ (of_decide_eq_true (by first | (with_reducible assumption) | assumption) : ji8.toNat ≤ 35184372088832)) (by omega)) (Below.refl _ _) (Nat.le_refl _) ?_;intro v526 w16 ho17 hb hg_ hnew_;clear hg_ hnew_;(first | rw [← Ny525.out] at ho17 | (simp only [Int.reduceToNat] at ho17;rw [← Ny525.out] at ho17));have HO527:=Aside0.mk (Kd.R_lower (Kd.R_new' (Kd.R_new' ho17 (Kd.R_lt (laR HO521.out))) (Kd.R_lt (laR HO524.out))) (below_size (laB HB.out)));replace HO521:=Aside0.mk (Kd.R_elder' (laR HO521.out) (Kd.R_base ho17) hb);replace HO524:=Aside0.mk (Kd.R_elder' (laR HO524.out) (Kd.R_base ho17) hb);replace BK518:=Aside0.mk (laKb BK518.out hb);replace HB:=Aside0.mk (below_step (laB HB.out) hb);clear hb ho17))
  go_loopg [15] k (fun kq v15 w'=>∃ (x14_1 : List Int) (x15_1 : Int),v15 = .int .i64 x15_1 ∧ Aside0 (spec_l26Table.l0 kq l0 l1 t519 t522 (wrap64 ((t522.length : Int) + 1)) x14_1 x15_1 l2_0 l2_1 l2_2 = some r) ∧ Aside0 (kq ≤ k) ∧ Aside0 (Kd.R (Kd.int .i64) 3 w' w.heap.size (fun k_=>some k_ ≠ ((.slice Ao14 t522.length co14) : Value).ownBlock ∧ some k_ ≠ (v526 : Value).ownBlock) (.slice Ao15 t519.length co15) t519) ∧ Aside0 (Kd.R (Kd.int .i64) 3 w' w.heap.size (fun k_=>some k_ ≠ ((.slice Ao15 t519.length co15) : Value).ownBlock ∧ some k_ ≠ (v526 : Value).ownBlock) (.slice Ao14 t522.length co14) t522) ∧ Aside0 (Kd.R (Kd.int .i64) 3 w' w.heap.size (fun k_=>some k_ ≠ ((.slice Ao15 t519.length co15) : Value).ownBlock ∧ some k_ ≠ ((.slice Ao14 t522.length co14) : Value).ownBlock) v526 x14_1) ∧ Aside0 (w'.heap[gb518]? = some (.cells #[(.slice A2_0 l2_0.length c2_0),(.slice A2_1 l2_1.length c2_1),(.slice A2_2 l2_2.length c2_2)] 37 (0,0))) ∧ Aside0 (Below w.heap.size w w'))
  case atStart=>exact ⟨(y525),(0),(by first | rfl | (simp;done) | (simp [*];done)),H',⟨Nat.le_refl _⟩,⟨laR (Kd.R_mono HO521.out (fun _ hk=>⟨hk.1.2,hk.2⟩))⟩,⟨laR (Kd.R_mono HO524.out (fun _ hk=>⟨hk.1.2,hk.2⟩))⟩,⟨laR (Kd.R_mono HO527.out (fun _ hk=>⟨hk.1.2,hk.2⟩))⟩,⟨laK BK518.out⟩,⟨laB HB.out⟩⟩
  case round =>
   clear H'
   try clear c1
   try clear c2
   try clear p2
   try clear p6
   try clear c8
   try clear c9
   try clear c9b0
   try clear c9b1
   try clear c10
   try clear c10b0
   try clear c10b1
   obtain ⟨x14_1,x15_1,rfl,HA,HK1,HO_11,HO_12,HO_14,BK518,HB⟩:=hrel
   cases gk with
   | zero=>exact absurd HA.out (by simp [spec_l26Table.l0])
   | succ k1 =>
    have H:=HA.out;clear HA;simp only [spec_l26Table.l0] at H
    by_cases c18 : x15_1 ≤ (t519.length : Int)
    rotate_left
    ·rw [if_neg c18] at H
     have c18b0 : decide (x15_1 ≤ (t519.length : Int)) = false:=decide_eq_false c18;clear c18
     obtain rfl:=Option.some.inj H
     go_wp2
     go_ret
     exact ⟨_,by first | rfl | (simp [errW_none,errW_some] <;> rfl) | (simp only [← hji8];first | rfl | (simp [errW_none,errW_some] <;> rfl)) | (simp [*,errW_none,errW_some] <;> rfl),by (with_reducible repeat (first | apply Kd.R_alloc | apply Kd.R_drewN | apply Kd.R_drew));exact Kd.R_mono HO_14.out (fun _ hk=>trivial),laB HB.out⟩
    rw [if_pos c18] at H;have c18b0 : decide (x15_1 ≤ (t519.length : Int)) = true:=decide_eq_true c18;clear c18;have H':=Aside0.mk H;clear H
    go_wp2
    go_loopg [16] k1 (fun kq v16 w'=>∃ (x14_2 : List Int) (x16_2 : Int),v16 = .int .i64 x16_2 ∧ Aside0 (spec_l26Table.l1 kq l0 l1 t519 t522 (wrap64 ((t522.length : Int) + 1)) x14_2 x15_1 x16_2 l2_0 l2_1 l2_2 = some r) ∧ Aside0 (kq ≤ k1) ∧ Aside0 (Kd.R (Kd.int .i64) 3 w' w.heap.size (fun k_=>some k_ ≠ ((.slice Ao14 t522.length co14) : Value).ownBlock ∧ some k_ ≠ (v526 : Value).ownBlock) (.slice Ao15 t519.length co15) t519) ∧ Aside0 (Kd.R (Kd.int .i64) 3 w' w.heap.size (fun k_=>some k_ ≠ ((.slice Ao15 t519.length co15) : Value).ownBlock ∧ some k_ ≠ (v526 : Value).ownBlock) (.slice Ao14 t522.length co14) t522) ∧ Aside0 (Kd.R (Kd.int .i64) 3 w' w.heap.size (fun k_=>some k_ ≠ ((.slice Ao15 t519.length co15) : Value).ownBlock ∧ some k_ ≠ ((.slice Ao14 t522.length co14) : Value).ownBlock) v526 x14_2) ∧ Aside0 (w'.heap[gb518]? = some (.cells #[(.slice A2_0 l2_0.length c2_0),(.slice A2_1 l2_1.length c2_1),(.slice A2_2 l2_2.length c2_2)] 37 (0,0))) ∧ Aside0 (Below w.heap.size w w'))
    case atStart=>exact ⟨(x14_1),(0),(by first | rfl | (simp;done) | (simp [*];done)),H',⟨Nat.le_refl _⟩,⟨laR HO_11.out⟩,⟨laR HO_12.out⟩,⟨laR HO_14.out⟩,⟨laK BK518.out⟩,⟨laB HB.out⟩⟩
    case round =>
     clear H'
     try clear c1
     try clear c2
     try clear p2
     try clear p6
     try clear c8
     try clear c9
     try clear c9b0
     try clear c9b1
     try clear c10
     try clear c10b0
     try clear c10b1
     try clear c18
     try clear c18b0
     try clear p2
     try clear p6
     obtain ⟨x14_2,x16_2,rfl,HA,HK2,HO_11,HO_12,HO_14,BK518,HB⟩:=hrel
     cases gk with
     | zero=>exact absurd HA.out (by simp [spec_l26Table.l1])
     | succ k2 =>
      have H:=HA.out;clear HA;simp only [spec_l26Table.l1] at H
      by_cases c19 : x16_2 ≤ (t522.length : Int)
      rotate_left
      ·rw [if_neg c19] at H
       have c19b0 : decide (x16_2 ≤ (t522.length : Int)) = false:=decide_eq_false c19;clear c19;have H':=Aside0.mk H;clear H
       go_wp2
       go_roundg k2
       case measure=>have:=HK1.out;have:=HK2.out;omega
       case rel=>exact ⟨(x14_2),(wrap64 (x15_1 + 1)),(by first | rfl | (simp;done) | (simp [*];done)),H',⟨by have:=HK1.out;have:=HK2.out;omega⟩,⟨laR HO_11.out⟩,⟨laR HO_12.out⟩,⟨laR HO_14.out⟩,⟨laK BK518.out⟩,⟨laB HB.out⟩⟩
      rw [if_pos c19] at H;have c19b0 : decide (x16_2 ≤ (t522.length : Int)) = true:=decide_eq_true c19;clear c19
      by_cases c20 : (wrap64 (x15_1 + x16_2)) = 0
      ·rw [if_pos c20] at H
       have c20b0 : ((wrap64 (x15_1 + x16_2)) == 0) = true:=beq_iff_eq.mpr c20;have c20b1 : ((wrap64 (x15_1 + x16_2)) != 0) = false:=bne_eq_false_iff_eq.mpr c20;clear c20;have H':=Aside0.mk H;clear H
       go_wp2
       go_roundg k2
       case measure=>have:=HK1.out;have:=HK2.out;omega
       case rel=>exact ⟨(x14_2),(wrap64 (x16_2 + 1)),(by first | rfl | (simp;done) | (simp [*];done)),H',⟨by have:=HK1.out;have:=HK2.out;omega⟩,⟨laR HO_11.out⟩,⟨laR HO_12.out⟩,⟨laR HO_14.out⟩,⟨laK BK518.out⟩,⟨laB HB.out⟩⟩
      ·rw [if_neg c20] at H
       have c20b0 : ((wrap64 (x15_1 + x16_2)) == 0) = false:=beq_eq_false_iff_ne.mpr c20;have c20b1 : ((wrap64 (x15_1 + x16_2)) != 0) = true:=bne_iff_ne.mpr c20;have HC21:=Aside0.mk H;clear H
       go_upto_if 50 with (fail)
       go_cut [17] (fun v17 wc=>∃ (kq : Nat) (x17_20 : Int),v17 = .int .i64 x17_20 ∧ Aside0 (spec_l26Table.j2 kq l0 l1 t519 t522 (wrap64 ((t522.length : Int) + 1)) x14_2 x15_1 x16_2 x17_20 l2_0 l2_1 l2_2 = some r) ∧ Aside0 (kq ≤ k2) ∧ Aside0 (Kd.R (Kd.int .i64) 3 wc w.heap.size (fun k_=>some k_ ≠ ((.slice Ao14 t522.length co14) : Value).ownBlock ∧ some k_ ≠ (v526 : Value).ownBlock) (.slice Ao15 t519.length co15) t519) ∧ Aside0 (Kd.R (Kd.int .i64) 3 wc w.heap.size (fun k_=>some k_ ≠ ((.slice Ao15 t519.length co15) : Value).ownBlock ∧ some k_ ≠ (v526 : Value).ownBlock) (.slice Ao14 t522.length co14) t522) ∧ Aside0 (Kd.R (Kd.int .i64) 3 wc w.heap.size (fun k_=>some k_ ≠ ((.slice Ao15 t519.length co15) : Value).ownBlock ∧ some k_ ≠ ((.slice Ao14 t522.length co14) : Value).ownBlock) v526 x14_2) ∧ Aside0 (wc.heap[gb518]? = some (.cells #[(.slice A2_0 l2_0.length c2_0),(.slice A2_1 l2_1.length c2_1),(.slice A2_2 l2_2.length c2_2)] 37 (0,0))) ∧ Aside0 (Below w.heap.size w wc))
       case first =>
        have H:=HC21.out;clear HC21
        by_cases c22 : x15_1 > 0
        rotate_left
        ·rw [if_neg c22] at H
         have c22b0 : decide (0 < x15_1) = false:=decide_eq_false c22;clear c22
         (first | rw [c22b0] | (simp only [i64_w,i32_w];rw [c22b0]) | skip)
         have H':=Aside0.mk H;clear H
         go_wp2
         go_meet
         case rel=>exact ⟨_,(1000000000),(by first | rfl | (simp;done) | (simp [*];done)),H',⟨by have:=HK1.out;have:=HK2.out;first | omega | exact Nat.le_refl _⟩,⟨laR HO_11.out⟩,⟨laR HO_12.out⟩,⟨laR HO_14.out⟩,⟨laK BK518.out⟩,⟨laB HB.out⟩⟩
        rw [if_pos c22] at H;have c22b0 : decide (0 < x15_1) = true:=decide_eq_true c22;clear c22
        (first | rw [c22b0] | (simp only [i64_w,i32_w];rw [c22b0]) | skip)
        obtain ⟨ji23,hji23⟩ : ∃ j_ : Int,(wrap64 ((wrap64 ((wrap64 (x15_1 - 1)) * (wrap64 ((t522.length : Int) + 1)))) + x16_2)) = j_:=⟨_,rfl⟩
        replace H : (if 0 ≤ (ji23) then (if (ji23) < (x14_2.length : Int) then (if 0 ≤ (wrap64 (x15_1 - 1)) then (if (wrap64 (x15_1 - 1)) < (t519.length : Int) then ((spec_SubTree.f k2 l0 (rd t519 (wrap64 (x15_1 - 1)))).bind fun t530=>((spec_DelTree.f k2 t530 l2_0 l2_1 l2_2).bind fun t533=>(spec_l26Table.j2 k2 l0 l1 t519 t522 (wrap64 ((t522.length : Int) + 1)) x14_2 x15_1 x16_2 (mn 1000000000 (wrap64 ((rd x14_2 (ji23)) + t533))) l2_0 l2_1 l2_2))) else (none)) else (none)) else (none)) else (none)) = some r:=by first | (rw [hji23] at H;exact H) | (simp only [hji23] at H ⊢;exact H)
        have hji23w : (IntKind.i64.wrap ((wrap64 ((wrap64 (x15_1 - 1)) * (wrap64 ((t522.length : Int) + 1)))) + x16_2)) = ji23:=(i64_w _).trans hji23
        by_cases c24 : 0 ≤ (ji23)
        rotate_left
        ·rw [if_neg c24] at H
         exact absurd H (by simp)
        rw [if_pos c24] at H;have c24b0 : decide (0 ≤ (ji23)) = true:=decide_eq_true c24;clear c24
        by_cases c25 : (ji23) < (x14_2.length : Int)
        rotate_left
        ·rw [if_neg c25] at H
         exact absurd H (by simp)
        rw [if_pos c25] at H;have c25b0 : decide ((ji23) < (x14_2.length : Int)) = true:=decide_eq_true c25;clear c25
        obtain ⟨ji26,hji26⟩ : ∃ j_ : Int,(wrap64 (x15_1 - 1)) = j_:=⟨_,rfl⟩
        replace H : (if 0 ≤ (ji26) then (if (ji26) < (t519.length : Int) then ((spec_SubTree.f k2 l0 (rd t519 (ji26))).bind fun t530=>((spec_DelTree.f k2 t530 l2_0 l2_1 l2_2).bind fun t533=>(spec_l26Table.j2 k2 l0 l1 t519 t522 (wrap64 ((t522.length : Int) + 1)) x14_2 x15_1 x16_2 (mn 1000000000 (wrap64 ((rd x14_2 (ji23)) + t533))) l2_0 l2_1 l2_2))) else (none)) else (none)) = some r:=by first | (rw [hji26] at H;exact H) | (simp only [hji26] at H ⊢;exact H)
        have hji26w : (IntKind.i64.wrap (x15_1 - 1)) = ji26:=(i64_w _).trans hji26
        by_cases c27 : 0 ≤ (ji26)
        rotate_left
        ·rw [if_neg c27] at H
         exact absurd H (by simp)
        rw [if_pos c27] at H;have c27b0 : decide (0 ≤ (ji26)) = true:=decide_eq_true c27;clear c27
        by_cases c28 : (ji26) < (t519.length : Int)
        rotate_left
        ·rw [if_neg c28] at H
         exact absurd H (by simp)
        rw [if_pos c28] at H;have c28b0 : decide ((ji26) < (t519.length : Int)) = true:=decide_eq_true c28;clear c28;replace H:=Option.bind_eq_some_iff.mp H
        obtain ⟨t530,A290,H⟩:=H
        have A29:=Aside0.mk A290;clear A290;replace H:=Option.bind_eq_some_iff.mp H
        obtain ⟨t533,A300,H⟩:=H
        have A30:=Aside0.mk A300;clear A300
        obtain ⟨ji31,hji31⟩ : ∃ j_ : Int,(mn 1000000000 (wrap64 ((rd x14_2 (ji23)) + t533))) = j_:=⟨_,rfl⟩
        replace H : (spec_l26Table.j2 k2 l0 l1 t519 t522 (wrap64 ((t522.length : Int) + 1)) x14_2 x15_1 x16_2 ji31 l2_0 l2_1 l2_2) = some r:=by first | (rw [hji31] at H;exact H) | (simp only [hji31] at H ⊢;exact H)
        (try rw [hji31] at A29)
        (try rw [hji31] at A30)
        have hji31_ : (if (wrap64 ((rd x14_2 (ji23)) + t533)) < 1000000000 then (wrap64 ((rd x14_2 (ji23)) + t533)) else 1000000000) = ji31:=hji31;have H':=Aside0.mk H;clear H
        try go_wp2
        replace HO_11:=Aside0.mk (Kd.R_drew HO_11.out);replace HO_12:=Aside0.mk (Kd.R_drew HO_12.out);replace HO_14:=Aside0.mk (Kd.R_drew HO_14.out);replace BK518:=Aside0.mk (blk_drew BK518.out);replace HB:=Aside0.mk (below_drew1 HB.out)
        obtain ⟨Ao33,co33,eo33⟩:=Kd.R_slice HO_14.out
        (first | subst eo33 | (injection eo33 with f1_ f2_ f3_;have f4_:=f1_.symm;have f5_:=f3_.symm;clear f1_ f2_ f3_;subst f4_;subst f5_))
        have p528 : 0 ≤ ((ji23) : Int):=of_decide_eq_true (by first | (with_reducible assumption) | assumption);have q528 : (ji23) < (x14_2.length : Int):=of_decide_eq_true (by first | (with_reducible assumption) | assumption)
        obtain ⟨ad528,e528,hx528_0⟩:=Kd.at_int (Kd.R_reads' HO_14.out).2.2 (ji23) p528 q528
        cases e528
        replace p528:=eq_true p528;replace q528:=eq_true q528;have p529 : 0 ≤ ((ji26) : Int):=of_decide_eq_true (by first | (with_reducible assumption) | assumption);have q529 : (ji26) < (t519.length : Int):=of_decide_eq_true (by first | (with_reducible assumption) | assumption)
        obtain ⟨ad529,e529,hx529_0⟩:=Kd.at_int (Kd.R_reads' HO_11.out).2.2 (ji26) p529 q529
        cases e529
        replace p529:=eq_true p529;replace q529:=eq_true q529
        try rw [hji26] at hji23w
        try rw [hji26] at hji23
        obtain ⟨q9_,hq9_⟩ : ∃ j_ : Int,(wrap64 ((ji26) * (wrap64 ((t522.length : Int) + 1)))) = j_:=⟨_,rfl⟩
        have hq9_w : (IntKind.i64.wrap ((ji26) * (wrap64 ((t522.length : Int) + 1)))) = q9_:=(i64_w _).trans hq9_
        try rw [hq9_] at hji23w
        try rw [hq9_] at hji23
        refine start_ (n:=22) (S:=fun w'=>w'.cell? ⟨gb518,0,none⟩ = some (.slice A2_0 l2_0.length c2_0) ∧ w'.cell? ⟨gb518,1,none⟩ = some (.slice A2_1 l2_1.length c2_1) ∧ w'.cell? ⟨gb518,2,none⟩ = some (.slice A2_2 l2_2.length c2_2) ∧ w'.cell? (ad528.add ((ji23)).toNat) = some (.int .i64 (rd x14_2 (ji23))) ∧ w'.cell? (ad529.add ((ji26)).toNat) = some (.int .i64 (rd t519 (ji26)))) (ds:=[]) (pw 22 0) (by kernel_rfl) rfl rfl ⟨(blk_cell BK518.out 0).trans rfl,(blk_cell BK518.out 1).trans rfl,(blk_cell BK518.out 2).trans rfl,hx528_0,hx529_0⟩ (fun hHeld=>?_);refine with_tabW spec_l26Table.tab14 spec_l26Table.bits14 (fun HT_ HW_=>?_)
        generalize wr.drew = w32 at HO_11 HO_12 HO_14 BK518 HB hx528_0 hx529_0 hHeld ⊢
        refine pure_ (i:=0) (N:=some 51) (v:=?_) (a':=?_) (pw 22 1) rfl rfl (any_of HT_.out (by kernel_rfl)) (fun _ _ _ h=>h) (Or.inl ⟨by rfl,?_⟩) ?_ ?_;rotate_left
        ·intro w';go_simp;with_reducible rfl
        rotate_left;·simp only [Act.put,za,zb,zc,i64_w,i32_w];rfl
        refine pure_ (i:=1) (N:=some 52) (v:=?_) (a':=?_) (pw 22 2) rfl rfl (any_of HT_.out (by kernel_rfl)) (fun _ _ _ h=>h) (Or.inl ⟨by rfl,?_⟩) ?_ ?_;rotate_left
        ·intro w';go_simp;with_reducible rfl
        rotate_left;·simp only [Act.put,za,zb,zc,i64_w,i32_w];rfl
        refine pure_ (i:=2) (N:=some 53) (v:=?_) (a':=?_) (pw 22 3) rfl rfl (any_of HT_.out (by kernel_rfl)) (fun _ _ _ h=>h) (Or.inl ⟨by rfl,?_⟩) ?_ ?_;rotate_left
        ·intro w';go_simp;with_reducible rfl
        rotate_left;·simp only [Act.put,za,zb,zc,i64_w,i32_w];rfl
        refine pure_ (i:=3) (N:=some 54) (v:=?_) (a':=?_) (pw 22 4) rfl rfl (any_of HT_.out (by kernel_rfl)) (fun _ _ _ h=>h) (Or.inl ⟨by rfl,?_⟩) ?_ ?_;rotate_left
        ·intro w';go_simp;with_reducible rfl
        rotate_left;·simp only [Act.put,za,zb,zc,i64_w,i32_w];rfl
        refine pure_ (i:=4) (N:=some 55) (v:=?_) (a':=?_) (pw 22 5) rfl rfl (any_of HT_.out (by kernel_rfl)) (fun _ _ _ h=>h) (Or.inl ⟨by rfl,?_⟩) ?_ ?_;rotate_left
        ·intro w';go_simp;with_reducible rfl
        rotate_left;·simp only [Act.put,za,zb,zc,i64_w,i32_w];rfl
        refine pure_ (i:=5) (N:=some 56) (v:=?_) (a':=?_) (pw 22 6) rfl rfl (any_of HT_.out (by kernel_rfl)) (fun _ _ _ h=>h) (Or.inl ⟨by rfl,?_⟩) ?_ ?_;rotate_left
        ·intro w';go_simp;with_reducible rfl
        rotate_left;·simp only [Act.put,za,zb,zc,i64_w,i32_w];rfl
        refine pure_ (i:=6) (N:=some 57) (v:=?_) (a':=?_) (pw 22 7) rfl rfl (any_of HT_.out (by kernel_rfl)) (fun _ _ _ h=>h) (Or.inl ⟨by rfl,?_⟩) ?_ ?_;rotate_left
        ·intro w';go_simp;with_reducible rfl
        rotate_left;·simp only [Act.put,za,zb,zc,i64_w,i32_w];rfl
        refine pure_ (i:=7) (N:=some 58) (v:=?_) (a':=?_) (pw 22 8) rfl rfl (any_of HT_.out (by kernel_rfl)) (fun _ _ _ h=>h) (Or.inl ⟨by rfl,?_⟩) ?_ ?_;rotate_left
        ·intro w';go_simp;with_reducible rfl
        rotate_left;·simp only [Act.put,za,zb,zc,i64_w,i32_w];rfl
        refine pure_ (i:=8) (N:=some 59) (v:=?_) (a':=?_) (pw 22 9) rfl rfl (any_of HT_.out (by kernel_rfl)) (fun _ _ _ h=>h) (Or.inl ⟨by rfl,?_⟩) ?_ ?_;rotate_left
        ·intro w';go_simp;with_reducible rfl
        rotate_left;·simp only [Act.put,za,zb,zc,i64_w,i32_w];rfl
        refine pure_ (i:=10) (N:=some 61) (v:=?_) (a':=?_) (bw 22 1535) rfl rfl (any_of HT_.out (by kernel_rfl)) (fun _ _ _ h=>h) (Or.inl ⟨by rfl,?_⟩) ?_ ?_;rotate_left
        ·intro w';go_simp;with_reducible rfl
        rotate_left;·simp only [Act.put,za,zb,zc,i64_w,i32_w];rfl
        refine pure_ (i:=11) (N:=some 62) (v:=?_) (a':=?_) (bw 22 3583) rfl rfl (any_of HT_.out (by kernel_rfl)) (fun _ _ _ h=>h) (Or.inl ⟨by rfl,?_⟩) ?_ ?_;rotate_left
        ·intro w';go_simp;with_reducible rfl
        rotate_left;·simp only [Act.put,za,zb,zc,i64_w,i32_w];rfl
        refine pure_ (i:=12) (N:=some 63) (v:=?_) (a':=?_) (bw 22 7679) rfl rfl (any_of HT_.out (by kernel_rfl)) (fun _ _ _ h=>h) (Or.inl ⟨by rfl,?_⟩) ?_ ?_;rotate_left
        ·intro w';go_simp;with_reducible rfl
        rotate_left;·simp only [Act.put,za,zb,zc,i64_w,i32_w];rfl
        refine pure_ (i:=13) (N:=some 64) (v:=?_) (a':=?_) (bw 22 15871) rfl rfl (any_of HT_.out (by kernel_rfl)) (fun _ _ _ h=>h) (Or.inl ⟨by rfl,?_⟩) ?_ ?_;rotate_left
        ·intro w';go_simp;with_reducible rfl
        rotate_left;·simp only [Act.put,za,zb,zc,i64_w,i32_w];rfl
        refine pure_ (i:=14) (N:=some 65) (v:=?_) (a':=?_) (bw 22 32255) rfl rfl (any_of HT_.out (by kernel_rfl)) (fun _ _ _ h=>h) (Or.inl ⟨by rfl,?_⟩) ?_ ?_;rotate_left
        ·intro w';go_simp;with_reducible rfl
        rotate_left;·simp only [Act.put,za,zb,zc,i64_w,i32_w];rfl
        refine take_ (i:=9) (N:=some 60) (v:=?_) (a':=?_) (pw 22 15) rfl rfl (take_ofW HT_.out HW_.out (by kernel_rfl)) (fun _ _ _ h=>h) (Or.inl ⟨by rfl,?_⟩) hHeld ?_ ?_;rotate_left
        ·rintro w' ⟨s0,s1,s2,s3,s4⟩
         go_simp;with_reducible rfl
        rotate_left;·simp only [Act.put,za,zb,zc,i64_w,i32_w];rfl
        refine take_ (i:=15) (N:=some 66) (v:=?_) (a':=?_) (pw 22 16) rfl rfl (take_ofW HT_.out HW_.out (by kernel_rfl)) (fun _ _ _ h=>h) (Or.inl ⟨by rfl,?_⟩) hHeld ?_ ?_;rotate_left
        ·rintro w' ⟨s0,s1,s2,s3,s4⟩
         go_simp;with_reducible rfl
        rotate_left;·simp only [Act.put,za,zb,zc,i64_w,i32_w];rfl
        refine take_ (i:=17) (N:=some 68) (v:=?_) (a':=?_) (bw 22 196607) rfl rfl (take_ofW HT_.out HW_.out (by kernel_rfl)) (fun _ _ _ h=>h) (Or.inl ⟨by rfl,?_⟩) hHeld ?_ ?_;rotate_left
        ·rintro w' ⟨s0,s1,s2,s3,s4⟩
         go_simp;with_reducible rfl
        rotate_left;·simp only [Act.put,za,zb,zc,i64_w,i32_w];rfl
        refine one_ (i:=16) (N:=some 67) (pw 22 18) rfl rfl (one_of HT_.out (by kernel_rfl)) (by decide) (fun K hK=>?_);refine goes_ Try.func106 (by kernel_rfl) rfl #[.slice A0 l0.length c0,.int .i64 (rd t519 (ji26))] (by rfl) rfl rfl (by (try simp only [List.map_toArray,List.map_cons,List.map_nil]);first | done | (simp only [hji26];rfl) | rfl | (simp only [List.length_drop,List.length_take];rfl)) ?_;with_reducible refine (spec_SubTree.calls k2 _ _ l0 (rd t519 (ji26)) t530 _ ?side1 ?side2 A29.out).mono ?_
        (case side1=>exact laC (Kd.C_below HR0.out HB.out));(case side2=>exact HC0.out);rintro e w34 ⟨v531,rfl,ho0,hb⟩;have HS3_:=(hb.cell (World.block_lt_of_cell? _ _ (hHeld.2.2.2.1))).trans (hHeld.2.2.2.1);have HS4_:=(hb.cell (World.block_lt_of_cell? _ _ (hHeld.2.2.2.2))).trans (hHeld.2.2.2.2);refine ⟨_,rfl,?_⟩;replace HO_11:=Aside0.mk (laRb HO_11.out hb);replace HO_12:=Aside0.mk (laRb HO_12.out hb);replace HO_14:=Aside0.mk (laRb HO_14.out hb);have HO532:=Aside0.mk (Kd.R_lower ho0 (below_size (laB HB.out)));replace BK518:=Aside0.mk (laKb BK518.out hb);replace HB:=Aside0.mk (below_step (laB HB.out) hb);(try clear hb);(try clear hb2);(try clear hk);(try clear hi);(try clear ho0)
        obtain ⟨Ao35,co35,eo35⟩:=Kd.R_slice HO532.out
        (first | subst eo35 | (injection eo35 with f1_ f2_ f3_;have f4_:=f1_.symm;have f5_:=f3_.symm;clear f1_ f2_ f3_;subst f4_;subst f5_))
        refine hK.out _ _ ⟨(blk_cell BK518.out 0).trans rfl,(blk_cell BK518.out 1).trans rfl,(blk_cell BK518.out 2).trans rfl,HS3_,HS4_⟩ (fun hHeld=>?_);clear hK K;refine norm_ (a':=?_) ?_ ?_;rotate_left
        ·show Act.put _ (some 67) _ = _
         simp only [Act.put,za,zb,zc,i64_w,i32_w];rfl
        refine one_ (i:=18) (N:=some 69) (pw 22 19) rfl rfl (one_of HT_.out (by kernel_rfl)) (by decide) (fun K hK=>?_);refine goes_ Try.func105 (by kernel_rfl) rfl #[.slice Ao35 t530.length co35,.agg #[.slice A2_0 l2_0.length c2_0,.slice A2_1 l2_1.length c2_1,.slice A2_2 l2_2.length c2_2]] (by rfl) rfl rfl (by (try simp only [List.map_toArray,List.map_cons,List.map_nil]);first | done | rfl | (simp only [List.length_drop,List.length_take];rfl)) ?_;with_reducible refine (spec_DelTree.calls k2 _ _ t530 _ _ l2_0 _ _ l2_1 _ _ l2_2 t533 _ ?side1 ?side2 ?side3 ?side4 ?side5 ?side6 ?side7 ?side8 A30.out).mono ?_
        (case side1=>exact laC (Kd.R_reads' HO532.out).2.2);(case side2=>exact (Kd.R_reads' HO532.out).2.1);(case side3=>exact laC (Kd.C_below HR2_0.out HB.out));(case side4=>exact HC2_0.out);(case side5=>exact laC (Kd.C_below HR2_1.out HB.out));(case side6=>exact HC2_1.out);(case side7=>exact laC (Kd.C_below HR2_2.out HB.out));(case side8=>exact HC2_2.out);rintro e w36 ⟨rfl,hb⟩;have HS3_:=(hb.cell (World.block_lt_of_cell? _ _ (hHeld.2.2.2.1))).trans (hHeld.2.2.2.1);have HS4_:=(hb.cell (World.block_lt_of_cell? _ _ (hHeld.2.2.2.2))).trans (hHeld.2.2.2.2);refine ⟨_,rfl,?_⟩;replace HO_11:=Aside0.mk (laRb HO_11.out hb);replace HO_12:=Aside0.mk (laRb HO_12.out hb);replace HO_14:=Aside0.mk (laRb HO_14.out hb);replace HO532:=Aside0.mk (laRb HO532.out hb);replace BK518:=Aside0.mk (laKb BK518.out hb);replace HB:=Aside0.mk (below_step (laB HB.out) hb);(try clear hb);(try clear hb2);(try clear hk);(try clear hi);refine hK.out _ _ ⟨(blk_cell BK518.out 0).trans rfl,(blk_cell BK518.out 1).trans rfl,(blk_cell BK518.out 2).trans rfl,HS3_,HS4_⟩ (fun hHeld=>?_);clear hK K;refine norm_ (a':=?_) ?_ ?_;rotate_left
        ·show Act.put _ (some 69) _ = _
         simp only [Act.put,za,zb,zc,i64_w,i32_w];rfl
        refine pure_ (i:=19) (N:=some 70) (v:=?_) (a':=?_) (pw 22 20) rfl rfl (any_of HT_.out (by kernel_rfl)) (fun _ _ _ h=>h) (Or.inl ⟨by rfl,?_⟩) ?_ ?_;rotate_left
        ·intro w';go_simp;with_reducible rfl
        rotate_left;·simp only [Act.put,za,zb,zc,i64_w,i32_w];rfl
        refine pure_ (i:=20) (N:=some 71) (v:=?_) (a':=?_) (pw 22 21) rfl rfl (any_of HT_.out (by kernel_rfl)) (fun _ _ _ h=>h) (Or.inl ⟨by rfl,?_⟩) ?_ ?_;rotate_left
        ·intro w';go_simp;with_reducible rfl
        rotate_left;·simp only [Act.put,za,zb,zc,i64_w,i32_w];rfl
        refine pure_ (i:=21) (N:=some 17) (v:=?_) (a':=?_) (pw 22 22) rfl rfl (any_of HT_.out (by kernel_rfl)) (fun _ _ _ h=>h) (Or.inl ⟨by rfl,?_⟩) ?_ ?_;rotate_left
        ·intro w';go_simp;with_reducible rfl
        rotate_left;·simp only [Act.put,za,zb,zc,i64_w,i32_w];rfl
        refine done_ (done_of HT_.out (by kernel_rfl)) ?_
        try go_wp2
        go_meet
        case rel=>exact ⟨_,(ji31),(by first | rfl | (simp;done) | (simp only [← hji31] <;> (first | rfl | simp)) | (simp [*];done)),H',⟨by have:=HK1.out;have:=HK2.out;first | omega | exact Nat.le_refl _⟩,⟨laR HO_11.out⟩,⟨laR HO_12.out⟩,⟨laR HO_14.out⟩,⟨laK BK518.out⟩,⟨laB HB.out⟩⟩
       case rest =>
        clear HC21
        try clear c1
        try clear c2
        try clear p2
        try clear p5
        try clear q5
        try clear hx5
        try clear p6
        try clear c8
        try clear c9
        try clear c9b0
        try clear c9b1
        try clear c10
        try clear c10b0
        try clear c10b1
        try clear c18
        try clear c18b0
        try clear c19
        try clear c19b0
        try clear c20
        try clear c20b0
        try clear c20b1
        try clear c22
        try clear c22b0
        try clear c24
        try clear c24b0
        try clear c25
        try clear c25b0
        try clear c27
        try clear c27b0
        try clear c28
        try clear c28b0
        try clear hx528_0
        try clear hx529_0
        try clear p2
        try clear p528
        try clear p529
        try clear p6
        try clear q528
        try clear q529
        obtain ⟨kq,x17_20,rfl,HA,HJ20,HO_11,HO_12,HO_14,BK518,HB⟩:=hcut
        cases kq with
        | zero=>exact absurd HA.out (by simp [spec_l26Table.j2])
        | succ kj20 =>
         have H:=HA.out;clear HA;simp only [spec_l26Table.j2] at H
         by_cases c37 : x16_2 > 0
         rotate_left
         ·rw [if_neg c37] at H
          have c37b0 : decide (0 < x16_2) = false:=decide_eq_false c37;clear c37
          by_cases c80 : x15_1 > 0
          ·rw [if_pos c80] at H
           have c80b0 : decide (0 < x15_1) = true:=decide_eq_true c80;clear c80
           obtain ⟨ji81,hji81⟩ : ∃ j_ : Int,(wrap64 ((wrap64 (x15_1 * (wrap64 ((t522.length : Int) + 1)))) + x16_2)) = j_:=⟨_,rfl⟩
           replace H : (if 0 ≤ (ji81) then (if (ji81) < (x14_2.length : Int) then (spec_l26Table.l1 kj20 l0 l1 t519 t522 (wrap64 ((t522.length : Int) + 1)) (x14_2.set ((ji81) : Int).toNat x17_20) x15_1 (wrap64 (x16_2 + 1)) l2_0 l2_1 l2_2) else (none)) else (none)) = some r:=by first | (rw [hji81] at H;exact H) | (simp only [hji81] at H ⊢;exact H)
           have hji81w : (IntKind.i64.wrap ((wrap64 (x15_1 * (wrap64 ((t522.length : Int) + 1)))) + x16_2)) = ji81:=(i64_w _).trans hji81
           by_cases c82 : 0 ≤ (ji81)
           ·rw [if_pos c82] at H
            have c82b0 : decide (0 ≤ (ji81)) = true:=decide_eq_true c82;clear c82
            by_cases c83 : (ji81) < (x14_2.length : Int)
            ·rw [if_pos c83] at H
             have c83b0 : decide ((ji81) < (x14_2.length : Int)) = true:=decide_eq_true c83;clear c83
             obtain ⟨y546,hy546⟩ : ∃ y_ : List Int,y_ = (x14_2.set ((ji81) : Int).toNat x17_20):=⟨_,rfl⟩
             replace H : (spec_l26Table.l1 kj20 l0 l1 t519 t522 (wrap64 ((t522.length : Int) + 1)) y546 x15_1 (wrap64 (x16_2 + 1)) l2_0 l2_1 l2_2) = some r:=by first | (rw [hy546];with_reducible exact H) | (have H2_:=(Option.bind_some _ _).symm.trans H;rw [hy546];with_reducible exact H2_) | (have H2_:=(Option.bind_some _ _).symm.trans H;with_reducible exact H2_) | with_reducible exact H | (rw [hy546];exact H) | exact H
             have Ny546:=Aside0.mk hy546;clear hy546;have H':=Aside0.mk H;clear H;have p84 : 0 ≤ ((ji81) : Int):=of_decide_eq_true (by first | (with_reducible assumption) | assumption);have q84 : ((ji81) : Int) < ((x14_2.length : Int) : Int):=of_decide_eq_true (by first | (with_reducible assumption) | assumption)
             obtain ⟨go84,co84,eo84,gb84,gl84,cl84,HG84⟩:=Kd.R_form HO_14.out (by omega)
             (first | cases eo84 | (injection eo84 with ea_ en_ ec_;(first | subst ea_ | (injection ea_ with ea_;subst ea_));subst ec_;clear en_))
             have GB84:=Aside0.mk gb84;have GG84:=Aside0.mk HG84;clear gb84 gl84 HG84
             obtain ⟨hx84_0,hf84_0⟩:=Kd.R_celln 0 HO_14.out ((ji81) : Int) p84 q84
             replace p84:=eq_true p84;replace q84:=eq_true q84;have HP85:=Kd.R_putg HO_14.out ((ji81) : Int) x17_20
             go_wp2_with (first | ((with_reducible refine gate_store (t:=3) (p:=135) rfl ?_);refine store_event (t:=3) (p:=135) (v:=?vo_w86) (w1:=(wc.setCell ⟨go84,((ji81) : Int).toNat,none⟩ (.int .i64 x17_20))) ?hg ?ho ?hn ?hr ?_;(case ho=>rfl);(case hg=>rfl);(case hn=>rfl);(case hr=>first | (go_simp;done) | (go_simp;rfl));intro w86 hw;have hg : wc.grownBy w86 (some go84):=(by rw [hw];exact HP85.2);have hp_ : Kd.R (Kd.int .i64) 3 w86 w.heap.size (fun k_=>some k_ ≠ (.slice Ao15 t519.length co15 : Value).ownBlock ∧ some k_ ≠ (.slice Ao14 t522.length co14 : Value).ownBlock) (.slice (some ⟨go84,0,none⟩) x14_2.length co84) y546:=(by rw [hw,Ny546.out];exact HP85.1);clear HP85;replace HO_11:=Aside0.mk (Kd.R_after (v:=(.slice (some ⟨go84,0,none⟩) x14_2.length co84)) (v1:=(.slice (some ⟨go84,0,none⟩) x14_2.length co84)) (ok:=(fun k_=>some k_ ≠ (.slice Ao14 t522.length co14 : Value).ownBlock)) (laR HO_11.out) hg (.inl rfl));replace HO_12:=Aside0.mk (Kd.R_after (v:=(.slice (some ⟨go84,0,none⟩) x14_2.length co84)) (v1:=(.slice (some ⟨go84,0,none⟩) x14_2.length co84)) (ok:=(fun k_=>some k_ ≠ (.slice Ao15 t519.length co15 : Value).ownBlock)) (laR HO_12.out) hg (.inl rfl));replace BK518:=Aside0.mk (blk_grown (g:=gb518) (o:=.cells #[.slice A2_0 l2_0.length c2_0,.slice A2_1 l2_1.length c2_1,.slice A2_2 l2_2.length c2_2] 37 (0,0)) (laK BK518.out) hg (Kd.R_ne HO_14.out BK518.out (by decide)));replace HO_14:=Aside0.mk (hp_);replace HB:=Aside0.mk ((by rw [hw];exact below_set (HB.out) GB84.out : Below w.heap.size w w86));clear hg hw hp_))
             go_roundg kj20
             case measure=>have:=HK1.out;have:=HK2.out;have:=HJ20.out;omega
             case rel=>exact ⟨(y546),(wrap64 (x16_2 + 1)),(by first | rfl | (simp;done) | (simp [*];done)),H',⟨by have:=HK1.out;have:=HK2.out;have:=HJ20.out;omega⟩,⟨laR HO_11.out⟩,⟨laR HO_12.out⟩,⟨laR HO_14.out⟩,⟨laK BK518.out⟩,⟨laB HB.out⟩⟩
            ·rw [if_neg c83] at H
             exact absurd H (by simp)
           ·rw [if_neg c82] at H
            exact absurd H (by simp)
          ·rw [if_neg c80] at H
           have c80b0 : decide (0 < x15_1) = false:=decide_eq_false c80;clear c80
           obtain ⟨ji87,hji87⟩ : ∃ j_ : Int,(wrap64 ((wrap64 (x15_1 * (wrap64 ((t522.length : Int) + 1)))) + x16_2)) = j_:=⟨_,rfl⟩
           replace H : (if 0 ≤ (ji87) then (if (ji87) < (x14_2.length : Int) then (spec_l26Table.l1 kj20 l0 l1 t519 t522 (wrap64 ((t522.length : Int) + 1)) (x14_2.set ((ji87) : Int).toNat x17_20) x15_1 (wrap64 (x16_2 + 1)) l2_0 l2_1 l2_2) else (none)) else (none)) = some r:=by first | (rw [hji87] at H;exact H) | (simp only [hji87] at H ⊢;exact H)
           have hji87w : (IntKind.i64.wrap ((wrap64 (x15_1 * (wrap64 ((t522.length : Int) + 1)))) + x16_2)) = ji87:=(i64_w _).trans hji87
           by_cases c88 : 0 ≤ (ji87)
           ·rw [if_pos c88] at H
            have c88b0 : decide (0 ≤ (ji87)) = true:=decide_eq_true c88;clear c88
            by_cases c89 : (ji87) < (x14_2.length : Int)
            ·rw [if_pos c89] at H
             have c89b0 : decide ((ji87) < (x14_2.length : Int)) = true:=decide_eq_true c89;clear c89
             obtain ⟨y547,hy547⟩ : ∃ y_ : List Int,y_ = (x14_2.set ((ji87) : Int).toNat x17_20):=⟨_,rfl⟩
             replace H : (spec_l26Table.l1 kj20 l0 l1 t519 t522 (wrap64 ((t522.length : Int) + 1)) y547 x15_1 (wrap64 (x16_2 + 1)) l2_0 l2_1 l2_2) = some r:=by first | (rw [hy547];with_reducible exact H) | (have H2_:=(Option.bind_some _ _).symm.trans H;rw [hy547];with_reducible exact H2_) | (have H2_:=(Option.bind_some _ _).symm.trans H;with_reducible exact H2_) | with_reducible exact H | (rw [hy547];exact H) | exact H
             have Ny547:=Aside0.mk hy547;clear hy547;have H':=Aside0.mk H;clear H;have p90 : 0 ≤ ((ji87) : Int):=of_decide_eq_true (by first | (with_reducible assumption) | assumption);have q90 : ((ji87) : Int) < ((x14_2.length : Int) : Int):=of_decide_eq_true (by first | (with_reducible assumption) | assumption)
             obtain ⟨go90,co90,eo90,gb90,gl90,cl90,HG90⟩:=Kd.R_form HO_14.out (by omega)
             (first | cases eo90 | (injection eo90 with ea_ en_ ec_;(first | subst ea_ | (injection ea_ with ea_;subst ea_));subst ec_;clear en_))
             have GB90:=Aside0.mk gb90;have GG90:=Aside0.mk HG90;clear gb90 gl90 HG90
             obtain ⟨hx90_0,hf90_0⟩:=Kd.R_celln 0 HO_14.out ((ji87) : Int) p90 q90
             replace p90:=eq_true p90;replace q90:=eq_true q90;have HP91:=Kd.R_putg HO_14.out ((ji87) : Int) x17_20
             go_wp2_with (first | ((with_reducible refine gate_store (t:=3) (p:=135) rfl ?_);refine store_event (t:=3) (p:=135) (v:=?vo_w92) (w1:=(wc.setCell ⟨go90,((ji87) : Int).toNat,none⟩ (.int .i64 x17_20))) ?hg ?ho ?hn ?hr ?_;(case ho=>rfl);(case hg=>rfl);(case hn=>rfl);(case hr=>first | (go_simp;done) | (go_simp;rfl));intro w92 hw;have hg : wc.grownBy w92 (some go90):=(by rw [hw];exact HP91.2);have hp_ : Kd.R (Kd.int .i64) 3 w92 w.heap.size (fun k_=>some k_ ≠ (.slice Ao15 t519.length co15 : Value).ownBlock ∧ some k_ ≠ (.slice Ao14 t522.length co14 : Value).ownBlock) (.slice (some ⟨go90,0,none⟩) x14_2.length co90) y547:=(by rw [hw,Ny547.out];exact HP91.1);clear HP91;replace HO_11:=Aside0.mk (Kd.R_after (v:=(.slice (some ⟨go90,0,none⟩) x14_2.length co90)) (v1:=(.slice (some ⟨go90,0,none⟩) x14_2.length co90)) (ok:=(fun k_=>some k_ ≠ (.slice Ao14 t522.length co14 : Value).ownBlock)) (laR HO_11.out) hg (.inl rfl));replace HO_12:=Aside0.mk (Kd.R_after (v:=(.slice (some ⟨go90,0,none⟩) x14_2.length co90)) (v1:=(.slice (some ⟨go90,0,none⟩) x14_2.length co90)) (ok:=(fun k_=>some k_ ≠ (.slice Ao15 t519.length co15 : Value).ownBlock)) (laR HO_12.out) hg (.inl rfl));replace BK518:=Aside0.mk (blk_grown (g:=gb518) (o:=.cells #[.slice A2_0 l2_0.length c2_0,.slice A2_1 l2_1.length c2_1,.slice A2_2 l2_2.length c2_2] 37 (0,0)) (laK BK518.out) hg (Kd.R_ne HO_14.out BK518.out (by decide)));replace HO_14:=Aside0.mk (hp_);replace HB:=Aside0.mk ((by rw [hw];exact below_set (HB.out) GB90.out : Below w.heap.size w w92));clear hg hw hp_))
             go_roundg kj20
             case measure=>have:=HK1.out;have:=HK2.out;have:=HJ20.out;omega
             case rel=>exact ⟨(y547),(wrap64 (x16_2 + 1)),(by first | rfl | (simp;done) | (simp [*];done)),H',⟨by have:=HK1.out;have:=HK2.out;have:=HJ20.out;omega⟩,⟨laR HO_11.out⟩,⟨laR HO_12.out⟩,⟨laR HO_14.out⟩,⟨laK BK518.out⟩,⟨laB HB.out⟩⟩
            ·rw [if_neg c89] at H
             exact absurd H (by simp)
           ·rw [if_neg c88] at H
            exact absurd H (by simp)
         rw [if_pos c37] at H;have c37b0 : decide (0 < x16_2) = true:=decide_eq_true c37;clear c37
         obtain ⟨ji38,hji38⟩ : ∃ j_ : Int,(wrap64 ((wrap64 ((wrap64 (x15_1 * (wrap64 ((t522.length : Int) + 1)))) + x16_2)) - 1)) = j_:=⟨_,rfl⟩
         replace H : (if 0 ≤ (ji38) then (if (ji38) < (x14_2.length : Int) then (if 0 ≤ (wrap64 (x16_2 - 1)) then (if (wrap64 (x16_2 - 1)) < (t522.length : Int) then ((spec_SubTree.f kj20 l1 (rd t522 (wrap64 (x16_2 - 1)))).bind fun t536=>((spec_InsTree.f kj20 t536 l2_0 l2_1 l2_2).bind fun t539=>(if x15_1 > 0 then (if 0 ≤ (wrap64 ((wrap64 ((wrap64 ((wrap64 (x15_1 - 1)) * (wrap64 ((t522.length : Int) + 1)))) + x16_2)) - 1)) then (if (wrap64 ((wrap64 ((wrap64 ((wrap64 (x15_1 - 1)) * (wrap64 ((t522.length : Int) + 1)))) + x16_2)) - 1)) < (x14_2.length : Int) then (if 0 ≤ (wrap64 (x15_1 - 1)) then (if (wrap64 (x15_1 - 1)) < (t519.length : Int) then ((spec_l26Dist_O.f kj20 l0 l1 l2_0 l2_1 l2_2 (rd t519 (wrap64 (x15_1 - 1))) (rd t522 (wrap64 (x16_2 - 1)))).bind fun t543=>(if 0 ≤ (wrap64 ((wrap64 (x15_1 * (wrap64 ((t522.length : Int) + 1)))) + x16_2)) then (if (wrap64 ((wrap64 (x15_1 * (wrap64 ((t522.length : Int) + 1)))) + x16_2)) < (x14_2.length : Int) then (spec_l26Table.l1 kj20 l0 l1 t519 t522 (wrap64 ((t522.length : Int) + 1)) (x14_2.set ((wrap64 ((wrap64 (x15_1 * (wrap64 ((t522.length : Int) + 1)))) + x16_2)) : Int).toNat (mn (mn x17_20 (wrap64 ((rd x14_2 (ji38)) + t539))) (wrap64 ((rd x14_2 (wrap64 ((wrap64 ((wrap64 ((wrap64 (x15_1 - 1)) * (wrap64 ((t522.length : Int) + 1)))) + x16_2)) - 1))) + t543)))) x15_1 (wrap64 (x16_2 + 1)) l2_0 l2_1 l2_2) else (none)) else (none))) else (none)) else (none)) else (none)) else (none)) else (if 0 ≤ (wrap64 ((wrap64 (x15_1 * (wrap64 ((t522.length : Int) + 1)))) + x16_2)) then (if (wrap64 ((wrap64 (x15_1 * (wrap64 ((t522.length : Int) + 1)))) + x16_2)) < (x14_2.length : Int) then (spec_l26Table.l1 kj20 l0 l1 t519 t522 (wrap64 ((t522.length : Int) + 1)) (x14_2.set ((wrap64 ((wrap64 (x15_1 * (wrap64 ((t522.length : Int) + 1)))) + x16_2)) : Int).toNat (mn x17_20 (wrap64 ((rd x14_2 (ji38)) + t539)))) x15_1 (wrap64 (x16_2 + 1)) l2_0 l2_1 l2_2) else (none)) else (none))))) else (none)) else (none)) else (none)) else (none)) = some r:=by first | (rw [hji38] at H;exact H) | (simp only [hji38] at H ⊢;exact H)
         have hji38w : (IntKind.i64.wrap ((wrap64 ((wrap64 (x15_1 * (wrap64 ((t522.length : Int) + 1)))) + x16_2)) - 1)) = ji38:=(i64_w _).trans hji38
         by_cases c39 : 0 ≤ (ji38)
         rotate_left
         ·rw [if_neg c39] at H
          exact absurd H (by simp)
         rw [if_pos c39] at H;have c39b0 : decide (0 ≤ (ji38)) = true:=decide_eq_true c39;clear c39
         by_cases c40 : (ji38) < (x14_2.length : Int)
         rotate_left
         ·rw [if_neg c40] at H
          exact absurd H (by simp)
         rw [if_pos c40] at H;have c40b0 : decide ((ji38) < (x14_2.length : Int)) = true:=decide_eq_true c40;clear c40
         obtain ⟨ji41,hji41⟩ : ∃ j_ : Int,(wrap64 (x16_2 - 1)) = j_:=⟨_,rfl⟩
         replace H : (if 0 ≤ (ji41) then (if (ji41) < (t522.length : Int) then ((spec_SubTree.f kj20 l1 (rd t522 (ji41))).bind fun t536=>((spec_InsTree.f kj20 t536 l2_0 l2_1 l2_2).bind fun t539=>(if x15_1 > 0 then (if 0 ≤ (wrap64 ((wrap64 ((wrap64 ((wrap64 (x15_1 - 1)) * (wrap64 ((t522.length : Int) + 1)))) + x16_2)) - 1)) then (if (wrap64 ((wrap64 ((wrap64 ((wrap64 (x15_1 - 1)) * (wrap64 ((t522.length : Int) + 1)))) + x16_2)) - 1)) < (x14_2.length : Int) then (if 0 ≤ (wrap64 (x15_1 - 1)) then (if (wrap64 (x15_1 - 1)) < (t519.length : Int) then ((spec_l26Dist_O.f kj20 l0 l1 l2_0 l2_1 l2_2 (rd t519 (wrap64 (x15_1 - 1))) (rd t522 (ji41))).bind fun t543=>(if 0 ≤ (wrap64 ((wrap64 (x15_1 * (wrap64 ((t522.length : Int) + 1)))) + x16_2)) then (if (wrap64 ((wrap64 (x15_1 * (wrap64 ((t522.length : Int) + 1)))) + x16_2)) < (x14_2.length : Int) then (spec_l26Table.l1 kj20 l0 l1 t519 t522 (wrap64 ((t522.length : Int) + 1)) (x14_2.set ((wrap64 ((wrap64 (x15_1 * (wrap64 ((t522.length : Int) + 1)))) + x16_2)) : Int).toNat (mn (mn x17_20 (wrap64 ((rd x14_2 (ji38)) + t539))) (wrap64 ((rd x14_2 (wrap64 ((wrap64 ((wrap64 ((wrap64 (x15_1 - 1)) * (wrap64 ((t522.length : Int) + 1)))) + x16_2)) - 1))) + t543)))) x15_1 (wrap64 (x16_2 + 1)) l2_0 l2_1 l2_2) else (none)) else (none))) else (none)) else (none)) else (none)) else (none)) else (if 0 ≤ (wrap64 ((wrap64 (x15_1 * (wrap64 ((t522.length : Int) + 1)))) + x16_2)) then (if (wrap64 ((wrap64 (x15_1 * (wrap64 ((t522.length : Int) + 1)))) + x16_2)) < (x14_2.length : Int) then (spec_l26Table.l1 kj20 l0 l1 t519 t522 (wrap64 ((t522.length : Int) + 1)) (x14_2.set ((wrap64 ((wrap64 (x15_1 * (wrap64 ((t522.length : Int) + 1)))) + x16_2)) : Int).toNat (mn x17_20 (wrap64 ((rd x14_2 (ji38)) + t539)))) x15_1 (wrap64 (x16_2 + 1)) l2_0 l2_1 l2_2) else (none)) else (none))))) else (none)) else (none)) = some r:=by first | (rw [hji41] at H;exact H) | (simp only [hji41] at H ⊢;exact H)
         have hji41w : (IntKind.i64.wrap (x16_2 - 1)) = ji41:=(i64_w _).trans hji41
         by_cases c42 : 0 ≤ (ji41)
         rotate_left
         ·rw [if_neg c42] at H
          exact absurd H (by simp)
         rw [if_pos c42] at H;have c42b0 : decide (0 ≤ (ji41)) = true:=decide_eq_true c42;clear c42
         by_cases c43 : (ji41) < (t522.length : Int)
         rotate_left
         ·rw [if_neg c43] at H
          exact absurd H (by simp)
         rw [if_pos c43] at H;have c43b0 : decide ((ji41) < (t522.length : Int)) = true:=decide_eq_true c43;clear c43;replace H:=Option.bind_eq_some_iff.mp H
         obtain ⟨t536,A440,H⟩:=H
         have A44:=Aside0.mk A440;clear A440;replace H:=Option.bind_eq_some_iff.mp H
         obtain ⟨t539,A450,H⟩:=H
         have A45:=Aside0.mk A450;clear A450
         obtain ⟨ji46,hji46⟩ : ∃ j_ : Int,(mn x17_20 (wrap64 ((rd x14_2 (ji38)) + t539))) = j_:=⟨_,rfl⟩
         replace H : (if x15_1 > 0 then (if 0 ≤ (wrap64 ((wrap64 ((wrap64 ((wrap64 (x15_1 - 1)) * (wrap64 ((t522.length : Int) + 1)))) + x16_2)) - 1)) then (if (wrap64 ((wrap64 ((wrap64 ((wrap64 (x15_1 - 1)) * (wrap64 ((t522.length : Int) + 1)))) + x16_2)) - 1)) < (x14_2.length : Int) then (if 0 ≤ (wrap64 (x15_1 - 1)) then (if (wrap64 (x15_1 - 1)) < (t519.length : Int) then ((spec_l26Dist_O.f kj20 l0 l1 l2_0 l2_1 l2_2 (rd t519 (wrap64 (x15_1 - 1))) (rd t522 (ji41))).bind fun t543=>(if 0 ≤ (wrap64 ((wrap64 (x15_1 * (wrap64 ((t522.length : Int) + 1)))) + x16_2)) then (if (wrap64 ((wrap64 (x15_1 * (wrap64 ((t522.length : Int) + 1)))) + x16_2)) < (x14_2.length : Int) then (spec_l26Table.l1 kj20 l0 l1 t519 t522 (wrap64 ((t522.length : Int) + 1)) (x14_2.set ((wrap64 ((wrap64 (x15_1 * (wrap64 ((t522.length : Int) + 1)))) + x16_2)) : Int).toNat (mn (ji46) (wrap64 ((rd x14_2 (wrap64 ((wrap64 ((wrap64 ((wrap64 (x15_1 - 1)) * (wrap64 ((t522.length : Int) + 1)))) + x16_2)) - 1))) + t543)))) x15_1 (wrap64 (x16_2 + 1)) l2_0 l2_1 l2_2) else (none)) else (none))) else (none)) else (none)) else (none)) else (none)) else (if 0 ≤ (wrap64 ((wrap64 (x15_1 * (wrap64 ((t522.length : Int) + 1)))) + x16_2)) then (if (wrap64 ((wrap64 (x15_1 * (wrap64 ((t522.length : Int) + 1)))) + x16_2)) < (x14_2.length : Int) then (spec_l26Table.l1 kj20 l0 l1 t519 t522 (wrap64 ((t522.length : Int) + 1)) (x14_2.set ((wrap64 ((wrap64 (x15_1 * (wrap64 ((t522.length : Int) + 1)))) + x16_2)) : Int).toNat (ji46)) x15_1 (wrap64 (x16_2 + 1)) l2_0 l2_1 l2_2) else (none)) else (none))) = some r:=by first | (rw [hji46] at H;exact H) | (simp only [hji46] at H ⊢;exact H)
         (try rw [hji46] at A44)
         (try rw [hji46] at A45)
         have hji46_ : (if (wrap64 ((rd x14_2 (ji38)) + t539)) < x17_20 then (wrap64 ((rd x14_2 (ji38)) + t539)) else x17_20) = ji46:=hji46
         by_cases c47 : x15_1 > 0
         rotate_left
         ·rw [if_neg c47] at H
          have c47b0 : decide (0 < x15_1) = false:=decide_eq_false c47;clear c47
          obtain ⟨ji69,hji69⟩ : ∃ j_ : Int,(wrap64 ((wrap64 (x15_1 * (wrap64 ((t522.length : Int) + 1)))) + x16_2)) = j_:=⟨_,rfl⟩
          replace H : (if 0 ≤ (ji69) then (if (ji69) < (x14_2.length : Int) then (spec_l26Table.l1 kj20 l0 l1 t519 t522 (wrap64 ((t522.length : Int) + 1)) (x14_2.set ((ji69) : Int).toNat (ji46)) x15_1 (wrap64 (x16_2 + 1)) l2_0 l2_1 l2_2) else (none)) else (none)) = some r:=by first | (rw [hji69] at H;exact H) | (simp only [hji69] at H ⊢;exact H)
          (try rw [hji69] at A44)
          (try rw [hji69] at A45)
          have hji69w : (IntKind.i64.wrap ((wrap64 (x15_1 * (wrap64 ((t522.length : Int) + 1)))) + x16_2)) = ji69:=(i64_w _).trans hji69
          by_cases c70 : 0 ≤ (ji69)
          ·rw [if_pos c70] at H
           have c70b0 : decide (0 ≤ (ji69)) = true:=decide_eq_true c70;clear c70
           by_cases c71 : (ji69) < (x14_2.length : Int)
           ·rw [if_pos c71] at H
            have c71b0 : decide ((ji69) < (x14_2.length : Int)) = true:=decide_eq_true c71;clear c71
            obtain ⟨y545,hy545⟩ : ∃ y_ : List Int,y_ = (x14_2.set ((ji69) : Int).toNat (ji46)):=⟨_,rfl⟩
            replace H : (spec_l26Table.l1 kj20 l0 l1 t519 t522 (wrap64 ((t522.length : Int) + 1)) y545 x15_1 (wrap64 (x16_2 + 1)) l2_0 l2_1 l2_2) = some r:=by first | (rw [hy545];with_reducible exact H) | (have H2_:=(Option.bind_some _ _).symm.trans H;rw [hy545];with_reducible exact H2_) | (have H2_:=(Option.bind_some _ _).symm.trans H;with_reducible exact H2_) | with_reducible exact H | (rw [hy545];exact H) | exact H
            have Ny545:=Aside0.mk hy545;clear hy545;have H':=Aside0.mk H;clear H
            try go_wp2
            replace HO_11:=Aside0.mk (Kd.R_drew HO_11.out);replace HO_12:=Aside0.mk (Kd.R_drew HO_12.out);replace HO_14:=Aside0.mk (Kd.R_drew HO_14.out);replace BK518:=Aside0.mk (blk_drew BK518.out);replace HB:=Aside0.mk (below_drew1 HB.out)
            obtain ⟨Ao74,co74,eo74⟩:=Kd.R_slice HO_14.out
            (first | subst eo74 | (injection eo74 with f1_ f2_ f3_;have f4_:=f1_.symm;have f5_:=f3_.symm;clear f1_ f2_ f3_;subst f4_;subst f5_))
            have p534 : 0 ≤ ((ji38) : Int):=of_decide_eq_true (by first | (with_reducible assumption) | assumption);have q534 : (ji38) < (x14_2.length : Int):=of_decide_eq_true (by first | (with_reducible assumption) | assumption)
            obtain ⟨ad534,e534,hx534_0⟩:=Kd.at_int (Kd.R_reads' HO_14.out).2.2 (ji38) p534 q534
            cases e534
            replace p534:=eq_true p534;replace q534:=eq_true q534;have p535 : 0 ≤ ((ji41) : Int):=of_decide_eq_true (by first | (with_reducible assumption) | assumption);have q535 : (ji41) < (t522.length : Int):=of_decide_eq_true (by first | (with_reducible assumption) | assumption)
            obtain ⟨ad535,e535,hx535_0⟩:=Kd.at_int (Kd.R_reads' HO_12.out).2.2 (ji41) p535 q535
            cases e535
            replace p535:=eq_true p535;replace q535:=eq_true q535
            obtain ⟨q16_,hq16_⟩ : ∃ j_ : Int,(wrap64 (x15_1 * (wrap64 ((t522.length : Int) + 1)))) = j_:=⟨_,rfl⟩
            have hq16_w : (IntKind.i64.wrap (x15_1 * (wrap64 ((t522.length : Int) + 1)))) = q16_:=(i64_w _).trans hq16_
            try rw [hq16_] at hji38w
            try rw [hq16_] at hji38
            try rw [hq16_] at hji69w
            try rw [hq16_] at hji69
            try rw [hji69] at hji38w
            try rw [hji69] at hji38
            refine start_ (n:=22) (S:=fun w'=>w'.cell? ⟨gb518,0,none⟩ = some (.slice A2_0 l2_0.length c2_0) ∧ w'.cell? ⟨gb518,1,none⟩ = some (.slice A2_1 l2_1.length c2_1) ∧ w'.cell? ⟨gb518,2,none⟩ = some (.slice A2_2 l2_2.length c2_2) ∧ w'.cell? (ad534.add ((ji38)).toNat) = some (.int .i64 (rd x14_2 (ji38))) ∧ w'.cell? (ad535.add ((ji41)).toNat) = some (.int .i64 (rd t522 (ji41)))) (ds:=[]) (pw 22 0) (by kernel_rfl) rfl rfl ⟨(blk_cell BK518.out 0).trans rfl,(blk_cell BK518.out 1).trans rfl,(blk_cell BK518.out 2).trans rfl,hx534_0,hx535_0⟩ (fun hHeld=>?_);refine with_tabW spec_l26Table.tab16 spec_l26Table.bits16 (fun HT_ HW_=>?_)
            generalize wc.drew = w73 at HO_11 HO_12 HO_14 BK518 HB hx534_0 hx535_0 hHeld ⊢
            refine pure_ (i:=0) (N:=some 74) (v:=?_) (a':=?_) (pw 22 1) rfl rfl (any_of HT_.out (by kernel_rfl)) (fun _ _ _ h=>h) (Or.inl ⟨by rfl,?_⟩) ?_ ?_;rotate_left
            ·intro w';go_simp;with_reducible rfl
            rotate_left;·simp only [Act.put,za,zb,zc,i64_w,i32_w];rfl
            refine pure_ (i:=1) (N:=some 75) (v:=?_) (a':=?_) (pw 22 2) rfl rfl (any_of HT_.out (by kernel_rfl)) (fun _ _ _ h=>h) (Or.inl ⟨by rfl,?_⟩) ?_ ?_;rotate_left
            ·intro w';go_simp;with_reducible rfl
            rotate_left;·simp only [Act.put,za,zb,zc,i64_w,i32_w];rfl
            refine pure_ (i:=2) (N:=some 76) (v:=?_) (a':=?_) (pw 22 3) rfl rfl (any_of HT_.out (by kernel_rfl)) (fun _ _ _ h=>h) (Or.inl ⟨by rfl,?_⟩) ?_ ?_;rotate_left
            ·intro w';go_simp;with_reducible rfl
            rotate_left;·simp only [Act.put,za,zb,zc,i64_w,i32_w];rfl
            refine pure_ (i:=3) (N:=some 77) (v:=?_) (a':=?_) (pw 22 4) rfl rfl (any_of HT_.out (by kernel_rfl)) (fun _ _ _ h=>h) (Or.inl ⟨by rfl,?_⟩) ?_ ?_;rotate_left
            ·intro w';go_simp;with_reducible rfl
            rotate_left;·simp only [Act.put,za,zb,zc,i64_w,i32_w];rfl
            refine pure_ (i:=4) (N:=some 78) (v:=?_) (a':=?_) (pw 22 5) rfl rfl (any_of HT_.out (by kernel_rfl)) (fun _ _ _ h=>h) (Or.inl ⟨by rfl,?_⟩) ?_ ?_;rotate_left
            ·intro w';go_simp;with_reducible rfl
            rotate_left;·simp only [Act.put,za,zb,zc,i64_w,i32_w];rfl
            refine pure_ (i:=5) (N:=some 79) (v:=?_) (a':=?_) (pw 22 6) rfl rfl (any_of HT_.out (by kernel_rfl)) (fun _ _ _ h=>h) (Or.inl ⟨by rfl,?_⟩) ?_ ?_;rotate_left
            ·intro w';go_simp;with_reducible rfl
            rotate_left;·simp only [Act.put,za,zb,zc,i64_w,i32_w];rfl
            refine pure_ (i:=6) (N:=some 80) (v:=?_) (a':=?_) (pw 22 7) rfl rfl (any_of HT_.out (by kernel_rfl)) (fun _ _ _ h=>h) (Or.inl ⟨by rfl,?_⟩) ?_ ?_;rotate_left
            ·intro w';go_simp;with_reducible rfl
            rotate_left;·simp only [Act.put,za,zb,zc,i64_w,i32_w];rfl
            refine pure_ (i:=7) (N:=some 81) (v:=?_) (a':=?_) (pw 22 8) rfl rfl (any_of HT_.out (by kernel_rfl)) (fun _ _ _ h=>h) (Or.inl ⟨by rfl,?_⟩) ?_ ?_;rotate_left
            ·intro w';go_simp;with_reducible rfl
            rotate_left;·simp only [Act.put,za,zb,zc,i64_w,i32_w];rfl
            refine pure_ (i:=8) (N:=some 82) (v:=?_) (a':=?_) (pw 22 9) rfl rfl (any_of HT_.out (by kernel_rfl)) (fun _ _ _ h=>h) (Or.inl ⟨by rfl,?_⟩) ?_ ?_;rotate_left
            ·intro w';go_simp;with_reducible rfl
            rotate_left;·simp only [Act.put,za,zb,zc,i64_w,i32_w];rfl
            refine pure_ (i:=10) (N:=some 84) (v:=?_) (a':=?_) (bw 22 1535) rfl rfl (any_of HT_.out (by kernel_rfl)) (fun _ _ _ h=>h) (Or.inl ⟨by rfl,?_⟩) ?_ ?_;rotate_left
            ·intro w';go_simp;with_reducible rfl
            rotate_left;·simp only [Act.put,za,zb,zc,i64_w,i32_w];rfl
            refine pure_ (i:=11) (N:=some 85) (v:=?_) (a':=?_) (bw 22 3583) rfl rfl (any_of HT_.out (by kernel_rfl)) (fun _ _ _ h=>h) (Or.inl ⟨by rfl,?_⟩) ?_ ?_;rotate_left
            ·intro w';go_simp;with_reducible rfl
            rotate_left;·simp only [Act.put,za,zb,zc,i64_w,i32_w];rfl
            refine pure_ (i:=12) (N:=some 86) (v:=?_) (a':=?_) (bw 22 7679) rfl rfl (any_of HT_.out (by kernel_rfl)) (fun _ _ _ h=>h) (Or.inl ⟨by rfl,?_⟩) ?_ ?_;rotate_left
            ·intro w';go_simp;with_reducible rfl
            rotate_left;·simp only [Act.put,za,zb,zc,i64_w,i32_w];rfl
            refine pure_ (i:=13) (N:=some 87) (v:=?_) (a':=?_) (bw 22 15871) rfl rfl (any_of HT_.out (by kernel_rfl)) (fun _ _ _ h=>h) (Or.inl ⟨by rfl,?_⟩) ?_ ?_;rotate_left
            ·intro w';go_simp;with_reducible rfl
            rotate_left;·simp only [Act.put,za,zb,zc,i64_w,i32_w];rfl
            refine pure_ (i:=14) (N:=some 88) (v:=?_) (a':=?_) (bw 22 32255) rfl rfl (any_of HT_.out (by kernel_rfl)) (fun _ _ _ h=>h) (Or.inl ⟨by rfl,?_⟩) ?_ ?_;rotate_left
            ·intro w';go_simp;with_reducible rfl
            rotate_left;·simp only [Act.put,za,zb,zc,i64_w,i32_w];rfl
            refine take_ (i:=9) (N:=some 83) (v:=?_) (a':=?_) (pw 22 15) rfl rfl (take_ofW HT_.out HW_.out (by kernel_rfl)) (fun _ _ _ h=>h) (Or.inl ⟨by rfl,?_⟩) hHeld ?_ ?_;rotate_left
            ·rintro w' ⟨s0,s1,s2,s3,s4⟩
             go_simp;with_reducible rfl
            rotate_left;·simp only [Act.put,za,zb,zc,i64_w,i32_w];rfl
            refine take_ (i:=15) (N:=some 89) (v:=?_) (a':=?_) (pw 22 16) rfl rfl (take_ofW HT_.out HW_.out (by kernel_rfl)) (fun _ _ _ h=>h) (Or.inl ⟨by rfl,?_⟩) hHeld ?_ ?_;rotate_left
            ·rintro w' ⟨s0,s1,s2,s3,s4⟩
             go_simp;with_reducible rfl
            rotate_left;·simp only [Act.put,za,zb,zc,i64_w,i32_w];rfl
            refine take_ (i:=17) (N:=some 91) (v:=?_) (a':=?_) (bw 22 196607) rfl rfl (take_ofW HT_.out HW_.out (by kernel_rfl)) (fun _ _ _ h=>h) (Or.inl ⟨by rfl,?_⟩) hHeld ?_ ?_;rotate_left
            ·rintro w' ⟨s0,s1,s2,s3,s4⟩
             go_simp;with_reducible rfl
            rotate_left;·simp only [Act.put,za,zb,zc,i64_w,i32_w];rfl
            refine one_ (i:=16) (N:=some 90) (pw 22 18) rfl rfl (one_of HT_.out (by kernel_rfl)) (by decide) (fun K hK=>?_);refine goes_ Try.func106 (by kernel_rfl) rfl #[.slice A1 l1.length c1,.int .i64 (rd t522 (ji41))] (by rfl) rfl rfl (by (try simp only [List.map_toArray,List.map_cons,List.map_nil]);first | done | (simp only [hji41];rfl) | rfl | (simp only [List.length_drop,List.length_take];rfl)) ?_;with_reducible refine (spec_SubTree.calls kj20 _ _ l1 (rd t522 (ji41)) t536 _ ?side1 ?side2 A44.out).mono ?_
            (case side1=>exact laC (Kd.C_below HR1.out HB.out));(case side2=>exact HC1.out);rintro e w75 ⟨v537,rfl,ho0,hb⟩;have HS3_:=(hb.cell (World.block_lt_of_cell? _ _ (hHeld.2.2.2.1))).trans (hHeld.2.2.2.1);have HS4_:=(hb.cell (World.block_lt_of_cell? _ _ (hHeld.2.2.2.2))).trans (hHeld.2.2.2.2);refine ⟨_,rfl,?_⟩;replace HO_11:=Aside0.mk (laRb HO_11.out hb);replace HO_12:=Aside0.mk (laRb HO_12.out hb);replace HO_14:=Aside0.mk (laRb HO_14.out hb);have HO538:=Aside0.mk (Kd.R_lower ho0 (below_size (laB HB.out)));replace BK518:=Aside0.mk (laKb BK518.out hb);replace HB:=Aside0.mk (below_step (laB HB.out) hb);(try clear hb);(try clear hb2);(try clear hk);(try clear hi);(try clear ho0)
            obtain ⟨Ao76,co76,eo76⟩:=Kd.R_slice HO538.out
            (first | subst eo76 | (injection eo76 with f1_ f2_ f3_;have f4_:=f1_.symm;have f5_:=f3_.symm;clear f1_ f2_ f3_;subst f4_;subst f5_))
            refine hK.out _ _ ⟨(blk_cell BK518.out 0).trans rfl,(blk_cell BK518.out 1).trans rfl,(blk_cell BK518.out 2).trans rfl,HS3_,HS4_⟩ (fun hHeld=>?_);clear hK K;refine norm_ (a':=?_) ?_ ?_;rotate_left
            ·show Act.put _ (some 90) _ = _
             simp only [Act.put,za,zb,zc,i64_w,i32_w];rfl
            refine one_ (i:=18) (N:=some 92) (pw 22 19) rfl rfl (one_of HT_.out (by kernel_rfl)) (by decide) (fun K hK=>?_);refine goes_ Try.func107 (by kernel_rfl) rfl #[.slice Ao76 t536.length co76,.agg #[.slice A2_0 l2_0.length c2_0,.slice A2_1 l2_1.length c2_1,.slice A2_2 l2_2.length c2_2]] (by rfl) rfl rfl (by (try simp only [List.map_toArray,List.map_cons,List.map_nil]);first | done | rfl | (simp only [List.length_drop,List.length_take];rfl)) ?_;with_reducible refine (spec_InsTree.calls kj20 _ _ t536 _ _ l2_0 _ _ l2_1 _ _ l2_2 t539 _ ?side1 ?side2 ?side3 ?side4 ?side5 ?side6 ?side7 ?side8 A45.out).mono ?_
            (case side1=>exact laC (Kd.R_reads' HO538.out).2.2);(case side2=>exact (Kd.R_reads' HO538.out).2.1);(case side3=>exact laC (Kd.C_below HR2_0.out HB.out));(case side4=>exact HC2_0.out);(case side5=>exact laC (Kd.C_below HR2_1.out HB.out));(case side6=>exact HC2_1.out);(case side7=>exact laC (Kd.C_below HR2_2.out HB.out));(case side8=>exact HC2_2.out);rintro e w77 ⟨rfl,hb⟩;have HS3_:=(hb.cell (World.block_lt_of_cell? _ _ (hHeld.2.2.2.1))).trans (hHeld.2.2.2.1);have HS4_:=(hb.cell (World.block_lt_of_cell? _ _ (hHeld.2.2.2.2))).trans (hHeld.2.2.2.2);refine ⟨_,rfl,?_⟩;replace HO_11:=Aside0.mk (laRb HO_11.out hb);replace HO_12:=Aside0.mk (laRb HO_12.out hb);replace HO_14:=Aside0.mk (laRb HO_14.out hb);replace HO538:=Aside0.mk (laRb HO538.out hb);replace BK518:=Aside0.mk (laKb BK518.out hb);replace HB:=Aside0.mk (below_step (laB HB.out) hb);(try clear hb);(try clear hb2);(try clear hk);(try clear hi);refine hK.out _ _ ⟨(blk_cell BK518.out 0).trans rfl,(blk_cell BK518.out 1).trans rfl,(blk_cell BK518.out 2).trans rfl,HS3_,HS4_⟩ (fun hHeld=>?_);clear hK K;refine norm_ (a':=?_) ?_ ?_;rotate_left
            ·show Act.put _ (some 92) _ = _
             simp only [Act.put,za,zb,zc,i64_w,i32_w];rfl
            refine pure_ (i:=19) (N:=some 93) (v:=?_) (a':=?_) (pw 22 20) rfl rfl (any_of HT_.out (by kernel_rfl)) (fun _ _ _ h=>h) (Or.inl ⟨by rfl,?_⟩) ?_ ?_;rotate_left
            ·intro w';go_simp;with_reducible rfl
            rotate_left;·simp only [Act.put,za,zb,zc,i64_w,i32_w];rfl
            refine pure_ (i:=20) (N:=some 94) (v:=?_) (a':=?_) (pw 22 21) rfl rfl (any_of HT_.out (by kernel_rfl)) (fun _ _ _ h=>h) (Or.inl ⟨by rfl,?_⟩) ?_ ?_;rotate_left
            ·intro w';go_simp;with_reducible rfl
            rotate_left;·simp only [Act.put,za,zb,zc,i64_w,i32_w];rfl
            refine pure_ (i:=21) (N:=some 17) (v:=?_) (a':=?_) (pw 22 22) rfl rfl (any_of HT_.out (by kernel_rfl)) (fun _ _ _ h=>h) (Or.inl ⟨by rfl,?_⟩) ?_ ?_;rotate_left
            ·intro w';go_simp;with_reducible rfl
            rotate_left;·simp only [Act.put,za,zb,zc,i64_w,i32_w];rfl
            refine done_ (done_of HT_.out (by kernel_rfl)) ?_;have p72 : 0 ≤ ((ji69) : Int):=of_decide_eq_true (by first | (with_reducible assumption) | assumption);have q72 : ((ji69) : Int) < ((x14_2.length : Int) : Int):=of_decide_eq_true (by first | (with_reducible assumption) | assumption)
            obtain ⟨go72,co72,eo72,gb72,gl72,cl72,HG72⟩:=Kd.R_form HO_14.out (by omega)
            (first | cases eo72 | (injection eo72 with ea_ en_ ec_;(first | subst ea_ | (injection ea_ with ea_;subst ea_));subst ec_;clear en_))
            have GB72:=Aside0.mk gb72;have GG72:=Aside0.mk HG72;clear gb72 gl72 HG72
            (first | simp only [add_plain] at hx534_0 | skip)
            obtain ⟨hx72_0,hf72_0⟩:=Kd.R_celln 0 HO_14.out ((ji69) : Int) p72 q72
            replace p72:=eq_true p72;replace q72:=eq_true q72
            obtain ⟨hy78_,hz78_⟩:=Kd.R_celln 0 HO_14.out ((ji69) : Int) (of_decide_eq_true (by first | (with_reducible assumption) | assumption)) (of_decide_eq_true (by first | (with_reducible assumption) | assumption))
            have HP78:=Kd.R_putg HO_14.out ((ji69) : Int) ji46
            try go_wp2_with (first | ((with_reducible refine gate_store (t:=3) (p:=135) rfl ?_);refine store_event (t:=3) (p:=135) (v:=?vo_w79) (w1:=(w77.setCell ⟨go72,((ji69) : Int).toNat,none⟩ (.int .i64 ji46))) ?hg ?ho ?hn ?hr ?_;(case ho=>rfl);(case hg=>rfl);(case hn=>rfl);(case hr=>first | (go_simp;done) | (go_simp;rfl));intro w79 hw;have hg : w77.grownBy w79 (some go72):=(by rw [hw];exact HP78.2);have hp_ : Kd.R (Kd.int .i64) 3 w79 w.heap.size (fun k_=>some k_ ≠ (.slice Ao15 t519.length co15 : Value).ownBlock ∧ some k_ ≠ (.slice (some ad535) t522.length co14 : Value).ownBlock) (.slice (some ⟨go72,0,none⟩) x14_2.length co74) y545:=(by rw [hw,Ny545.out];exact HP78.1);clear HP78;replace HO_11:=Aside0.mk (Kd.R_after (v:=(.slice (some ⟨go72,0,none⟩) x14_2.length co74)) (v1:=(.slice (some ⟨go72,0,none⟩) x14_2.length co74)) (ok:=(fun k_=>some k_ ≠ (.slice (some ad535) t522.length co14 : Value).ownBlock)) (laR HO_11.out) hg (.inl rfl));replace HO_12:=Aside0.mk (Kd.R_after (v:=(.slice (some ⟨go72,0,none⟩) x14_2.length co74)) (v1:=(.slice (some ⟨go72,0,none⟩) x14_2.length co74)) (ok:=(fun k_=>some k_ ≠ (.slice Ao15 t519.length co15 : Value).ownBlock)) (laR HO_12.out) hg (.inl rfl));replace BK518:=Aside0.mk (blk_grown (g:=gb518) (o:=.cells #[.slice A2_0 l2_0.length c2_0,.slice A2_1 l2_1.length c2_1,.slice A2_2 l2_2.length c2_2] 37 (0,0)) (laK BK518.out) hg (Kd.R_ne HO_14.out BK518.out (by decide)));replace HO538:=Aside0.mk (Kd.R_over' (v:=(.slice (some ⟨go72,0,none⟩) x14_2.length co74)) (laR HO538.out) (Kd.R_typed HO_14.out) (by decide) hg);replace HO_14:=Aside0.mk (hp_);replace HB:=Aside0.mk ((by rw [hw];exact below_set (HB.out) GB72.out : Below w.heap.size w w79));clear hg hw hp_))
            go_roundg kj20
            case measure=>have:=HK1.out;have:=HK2.out;have:=HJ20.out;omega
            case rel=>exact ⟨(y545),(wrap64 (x16_2 + 1)),(by first | rfl | (simp;done) | (simp [*];done)),H',⟨by have:=HK1.out;have:=HK2.out;have:=HJ20.out;omega⟩,⟨laR HO_11.out⟩,⟨laR HO_12.out⟩,⟨laR HO_14.out⟩,⟨laK BK518.out⟩,⟨laB HB.out⟩⟩
           ·rw [if_neg c71] at H
            exact absurd H (by simp)
          ·rw [if_neg c70] at H
           exact absurd H (by simp)
         rw [if_pos c47] at H;have c47b0 : decide (0 < x15_1) = true:=decide_eq_true c47;clear c47
         obtain ⟨ji48,hji48⟩ : ∃ j_ : Int,(wrap64 ((wrap64 ((wrap64 ((wrap64 (x15_1 - 1)) * (wrap64 ((t522.length : Int) + 1)))) + x16_2)) - 1)) = j_:=⟨_,rfl⟩
         replace H : (if 0 ≤ (ji48) then (if (ji48) < (x14_2.length : Int) then (if 0 ≤ (wrap64 (x15_1 - 1)) then (if (wrap64 (x15_1 - 1)) < (t519.length : Int) then ((spec_l26Dist_O.f kj20 l0 l1 l2_0 l2_1 l2_2 (rd t519 (wrap64 (x15_1 - 1))) (rd t522 (ji41))).bind fun t543=>(if 0 ≤ (wrap64 ((wrap64 (x15_1 * (wrap64 ((t522.length : Int) + 1)))) + x16_2)) then (if (wrap64 ((wrap64 (x15_1 * (wrap64 ((t522.length : Int) + 1)))) + x16_2)) < (x14_2.length : Int) then (spec_l26Table.l1 kj20 l0 l1 t519 t522 (wrap64 ((t522.length : Int) + 1)) (x14_2.set ((wrap64 ((wrap64 (x15_1 * (wrap64 ((t522.length : Int) + 1)))) + x16_2)) : Int).toNat (mn (ji46) (wrap64 ((rd x14_2 (ji48)) + t543)))) x15_1 (wrap64 (x16_2 + 1)) l2_0 l2_1 l2_2) else (none)) else (none))) else (none)) else (none)) else (none)) else (none)) = some r:=by first | (rw [hji48] at H;exact H) | (simp only [hji48] at H ⊢;exact H)
         (try rw [hji48] at A44)
         (try rw [hji48] at A45)
         have hji48w : (IntKind.i64.wrap ((wrap64 ((wrap64 ((wrap64 (x15_1 - 1)) * (wrap64 ((t522.length : Int) + 1)))) + x16_2)) - 1)) = ji48:=(i64_w _).trans hji48
         by_cases c49 : 0 ≤ (ji48)
         rotate_left
         ·rw [if_neg c49] at H
          exact absurd H (by simp)
         rw [if_pos c49] at H;have c49b0 : decide (0 ≤ (ji48)) = true:=decide_eq_true c49;clear c49
         by_cases c50 : (ji48) < (x14_2.length : Int)
         rotate_left
         ·rw [if_neg c50] at H
          exact absurd H (by simp)
         rw [if_pos c50] at H;have c50b0 : decide ((ji48) < (x14_2.length : Int)) = true:=decide_eq_true c50;clear c50
         obtain ⟨ji51,hji51⟩ : ∃ j_ : Int,(wrap64 (x15_1 - 1)) = j_:=⟨_,rfl⟩
         replace H : (if 0 ≤ (ji51) then (if (ji51) < (t519.length : Int) then ((spec_l26Dist_O.f kj20 l0 l1 l2_0 l2_1 l2_2 (rd t519 (ji51)) (rd t522 (ji41))).bind fun t543=>(if 0 ≤ (wrap64 ((wrap64 (x15_1 * (wrap64 ((t522.length : Int) + 1)))) + x16_2)) then (if (wrap64 ((wrap64 (x15_1 * (wrap64 ((t522.length : Int) + 1)))) + x16_2)) < (x14_2.length : Int) then (spec_l26Table.l1 kj20 l0 l1 t519 t522 (wrap64 ((t522.length : Int) + 1)) (x14_2.set ((wrap64 ((wrap64 (x15_1 * (wrap64 ((t522.length : Int) + 1)))) + x16_2)) : Int).toNat (mn (ji46) (wrap64 ((rd x14_2 (ji48)) + t543)))) x15_1 (wrap64 (x16_2 + 1)) l2_0 l2_1 l2_2) else (none)) else (none))) else (none)) else (none)) = some r:=by first | (rw [hji51] at H;exact H) | (simp only [hji51] at H ⊢;exact H)
         (try rw [hji51] at A44)
         (try rw [hji51] at A45)
         have hji51w : (IntKind.i64.wrap (x15_1 - 1)) = ji51:=(i64_w _).trans hji51
         by_cases c52 : 0 ≤ (ji51)
         rotate_left
         ·rw [if_neg c52] at H
          exact absurd H (by simp)
         rw [if_pos c52] at H;have c52b0 : decide (0 ≤ (ji51)) = true:=decide_eq_true c52;clear c52
         by_cases c53 : (ji51) < (t519.length : Int)
         rotate_left
         ·rw [if_neg c53] at H
          exact absurd H (by simp)
         rw [if_pos c53] at H;have c53b0 : decide ((ji51) < (t519.length : Int)) = true:=decide_eq_true c53;clear c53;replace H:=Option.bind_eq_some_iff.mp H
         obtain ⟨t543,A540,H⟩:=H
         have A54:=Aside0.mk A540;clear A540
         obtain ⟨ji55,hji55⟩ : ∃ j_ : Int,(mn (ji46) (wrap64 ((rd x14_2 (ji48)) + t543))) = j_:=⟨_,rfl⟩
         replace H : (if 0 ≤ (wrap64 ((wrap64 (x15_1 * (wrap64 ((t522.length : Int) + 1)))) + x16_2)) then (if (wrap64 ((wrap64 (x15_1 * (wrap64 ((t522.length : Int) + 1)))) + x16_2)) < (x14_2.length : Int) then (spec_l26Table.l1 kj20 l0 l1 t519 t522 (wrap64 ((t522.length : Int) + 1)) (x14_2.set ((wrap64 ((wrap64 (x15_1 * (wrap64 ((t522.length : Int) + 1)))) + x16_2)) : Int).toNat (ji55)) x15_1 (wrap64 (x16_2 + 1)) l2_0 l2_1 l2_2) else (none)) else (none)) = some r:=by first | (rw [hji55] at H;exact H) | (simp only [hji55] at H ⊢;exact H)
         (try rw [hji55] at A44)
         (try rw [hji55] at A45)
         (try rw [hji55] at A54)
         have hji55_ : (if (wrap64 ((rd x14_2 (ji48)) + t543)) < (ji46) then (wrap64 ((rd x14_2 (ji48)) + t543)) else (ji46)) = ji55:=hji55
         obtain ⟨ji56,hji56⟩ : ∃ j_ : Int,(wrap64 ((wrap64 (x15_1 * (wrap64 ((t522.length : Int) + 1)))) + x16_2)) = j_:=⟨_,rfl⟩
         replace H : (if 0 ≤ (ji56) then (if (ji56) < (x14_2.length : Int) then (spec_l26Table.l1 kj20 l0 l1 t519 t522 (wrap64 ((t522.length : Int) + 1)) (x14_2.set ((ji56) : Int).toNat (ji55)) x15_1 (wrap64 (x16_2 + 1)) l2_0 l2_1 l2_2) else (none)) else (none)) = some r:=by first | (rw [hji56] at H;exact H) | (simp only [hji56] at H ⊢;exact H)
         (try rw [hji56] at A44)
         (try rw [hji56] at A45)
         (try rw [hji56] at A54)
         have hji56w : (IntKind.i64.wrap ((wrap64 (x15_1 * (wrap64 ((t522.length : Int) + 1)))) + x16_2)) = ji56:=(i64_w _).trans hji56
         by_cases c57 : 0 ≤ (ji56)
         rotate_left
         ·rw [if_neg c57] at H
          exact absurd H (by simp)
         rw [if_pos c57] at H;have c57b0 : decide (0 ≤ (ji56)) = true:=decide_eq_true c57;clear c57
         by_cases c58 : (ji56) < (x14_2.length : Int)
         rotate_left
         ·rw [if_neg c58] at H
          exact absurd H (by simp)
         rw [if_pos c58] at H;have c58b0 : decide ((ji56) < (x14_2.length : Int)) = true:=decide_eq_true c58;clear c58
         obtain ⟨y544,hy544⟩ : ∃ y_ : List Int,y_ = (x14_2.set ((ji56) : Int).toNat (ji55)):=⟨_,rfl⟩
         replace H : (spec_l26Table.l1 kj20 l0 l1 t519 t522 (wrap64 ((t522.length : Int) + 1)) y544 x15_1 (wrap64 (x16_2 + 1)) l2_0 l2_1 l2_2) = some r:=by first | (rw [hy544];with_reducible exact H) | (have H2_:=(Option.bind_some _ _).symm.trans H;rw [hy544];with_reducible exact H2_) | (have H2_:=(Option.bind_some _ _).symm.trans H;with_reducible exact H2_) | with_reducible exact H | (rw [hy544];exact H) | exact H
         have Ny544:=Aside0.mk hy544;clear hy544;have H':=Aside0.mk H;clear H
         try go_wp2
         replace HO_11:=Aside0.mk (Kd.R_drew HO_11.out);replace HO_12:=Aside0.mk (Kd.R_drew HO_12.out);replace HO_14:=Aside0.mk (Kd.R_drew HO_14.out);replace BK518:=Aside0.mk (blk_drew BK518.out);replace HB:=Aside0.mk (below_drew1 HB.out)
         obtain ⟨Ao61,co61,eo61⟩:=Kd.R_slice HO_14.out
         (first | subst eo61 | (injection eo61 with f1_ f2_ f3_;have f4_:=f1_.symm;have f5_:=f3_.symm;clear f1_ f2_ f3_;subst f4_;subst f5_))
         have p534 : 0 ≤ ((ji38) : Int):=of_decide_eq_true (by first | (with_reducible assumption) | assumption);have q534 : (ji38) < (x14_2.length : Int):=of_decide_eq_true (by first | (with_reducible assumption) | assumption)
         obtain ⟨ad534,e534,hx534_0⟩:=Kd.at_int (Kd.R_reads' HO_14.out).2.2 (ji38) p534 q534
         cases e534
         replace p534:=eq_true p534;replace q534:=eq_true q534;have p535 : 0 ≤ ((ji41) : Int):=of_decide_eq_true (by first | (with_reducible assumption) | assumption);have q535 : (ji41) < (t522.length : Int):=of_decide_eq_true (by first | (with_reducible assumption) | assumption)
         obtain ⟨ad535,e535,hx535_0⟩:=Kd.at_int (Kd.R_reads' HO_12.out).2.2 (ji41) p535 q535
         cases e535
         replace p535:=eq_true p535;replace q535:=eq_true q535
         try rw [hji51] at hji48w
         try rw [hji51] at hji48
         obtain ⟨q10_,hq10_⟩ : ∃ j_ : Int,(wrap64 (x15_1 * (wrap64 ((t522.length : Int) + 1)))) = j_:=⟨_,rfl⟩
         have hq10_w : (IntKind.i64.wrap (x15_1 * (wrap64 ((t522.length : Int) + 1)))) = q10_:=(i64_w _).trans hq10_
         try rw [hq10_] at hji38w
         try rw [hq10_] at hji38
         try rw [hq10_] at hji56w
         try rw [hq10_] at hji56
         try rw [hji56] at hji38w
         try rw [hji56] at hji38
         obtain ⟨q11_,hq11_⟩ : ∃ j_ : Int,(wrap64 ((ji51) * (wrap64 ((t522.length : Int) + 1)))) = j_:=⟨_,rfl⟩
         have hq11_w : (IntKind.i64.wrap ((ji51) * (wrap64 ((t522.length : Int) + 1)))) = q11_:=(i64_w _).trans hq11_
         try rw [hq11_] at hji48w
         try rw [hq11_] at hji48
         obtain ⟨q12_,hq12_⟩ : ∃ j_ : Int,(wrap64 ((q11_) + x16_2)) = j_:=⟨_,rfl⟩
         have hq12_w : (IntKind.i64.wrap ((q11_) + x16_2)) = q12_:=(i64_w _).trans hq12_
         try rw [hq12_] at hji48w
         try rw [hq12_] at hji48
         refine start_ (n:=22) (S:=fun w'=>w'.cell? ⟨gb518,0,none⟩ = some (.slice A2_0 l2_0.length c2_0) ∧ w'.cell? ⟨gb518,1,none⟩ = some (.slice A2_1 l2_1.length c2_1) ∧ w'.cell? ⟨gb518,2,none⟩ = some (.slice A2_2 l2_2.length c2_2) ∧ w'.cell? (ad534.add ((ji38)).toNat) = some (.int .i64 (rd x14_2 (ji38))) ∧ w'.cell? (ad535.add ((ji41)).toNat) = some (.int .i64 (rd t522 (ji41)))) (ds:=[]) (pw 22 0) (by kernel_rfl) rfl rfl ⟨(blk_cell BK518.out 0).trans rfl,(blk_cell BK518.out 1).trans rfl,(blk_cell BK518.out 2).trans rfl,hx534_0,hx535_0⟩ (fun hHeld=>?_);refine with_tabW spec_l26Table.tab16 spec_l26Table.bits16 (fun HT_ HW_=>?_)
         generalize wc.drew = w60 at HO_11 HO_12 HO_14 BK518 HB hx534_0 hx535_0 hHeld ⊢
         refine pure_ (i:=0) (N:=some 74) (v:=?_) (a':=?_) (pw 22 1) rfl rfl (any_of HT_.out (by kernel_rfl)) (fun _ _ _ h=>h) (Or.inl ⟨by rfl,?_⟩) ?_ ?_;rotate_left
         ·intro w';go_simp;with_reducible rfl
         rotate_left;·simp only [Act.put,za,zb,zc,i64_w,i32_w];rfl
         refine pure_ (i:=1) (N:=some 75) (v:=?_) (a':=?_) (pw 22 2) rfl rfl (any_of HT_.out (by kernel_rfl)) (fun _ _ _ h=>h) (Or.inl ⟨by rfl,?_⟩) ?_ ?_;rotate_left
         ·intro w';go_simp;with_reducible rfl
         rotate_left;·simp only [Act.put,za,zb,zc,i64_w,i32_w];rfl
         refine pure_ (i:=2) (N:=some 76) (v:=?_) (a':=?_) (pw 22 3) rfl rfl (any_of HT_.out (by kernel_rfl)) (fun _ _ _ h=>h) (Or.inl ⟨by rfl,?_⟩) ?_ ?_;rotate_left
         ·intro w';go_simp;with_reducible rfl
         rotate_left;·simp only [Act.put,za,zb,zc,i64_w,i32_w];rfl
         refine pure_ (i:=3) (N:=some 77) (v:=?_) (a':=?_) (pw 22 4) rfl rfl (any_of HT_.out (by kernel_rfl)) (fun _ _ _ h=>h) (Or.inl ⟨by rfl,?_⟩) ?_ ?_;rotate_left
         ·intro w';go_simp;with_reducible rfl
         rotate_left;·simp only [Act.put,za,zb,zc,i64_w,i32_w];rfl
         refine pure_ (i:=4) (N:=some 78) (v:=?_) (a':=?_) (pw 22 5) rfl rfl (any_of HT_.out (by kernel_rfl)) (fun _ _ _ h=>h) (Or.inl ⟨by rfl,?_⟩) ?_ ?_;rotate_left
         ·intro w';go_simp;with_reducible rfl
         rotate_left;·simp only [Act.put,za,zb,zc,i64_w,i32_w];rfl
         refine pure_ (i:=5) (N:=some 79) (v:=?_) (a':=?_) (pw 22 6) rfl rfl (any_of HT_.out (by kernel_rfl)) (fun _ _ _ h=>h) (Or.inl ⟨by rfl,?_⟩) ?_ ?_;rotate_left
         ·intro w';go_simp;with_reducible rfl
         rotate_left;·simp only [Act.put,za,zb,zc,i64_w,i32_w];rfl
         refine pure_ (i:=6) (N:=some 80) (v:=?_) (a':=?_) (pw 22 7) rfl rfl (any_of HT_.out (by kernel_rfl)) (fun _ _ _ h=>h) (Or.inl ⟨by rfl,?_⟩) ?_ ?_;rotate_left
         ·intro w';go_simp;with_reducible rfl
         rotate_left;·simp only [Act.put,za,zb,zc,i64_w,i32_w];rfl
         refine pure_ (i:=7) (N:=some 81) (v:=?_) (a':=?_) (pw 22 8) rfl rfl (any_of HT_.out (by kernel_rfl)) (fun _ _ _ h=>h) (Or.inl ⟨by rfl,?_⟩) ?_ ?_;rotate_left
         ·intro w';go_simp;with_reducible rfl
         rotate_left;·simp only [Act.put,za,zb,zc,i64_w,i32_w];rfl
         refine pure_ (i:=8) (N:=some 82) (v:=?_) (a':=?_) (pw 22 9) rfl rfl (any_of HT_.out (by kernel_rfl)) (fun _ _ _ h=>h) (Or.inl ⟨by rfl,?_⟩) ?_ ?_;rotate_left
         ·intro w';go_simp;with_reducible rfl
         rotate_left;·simp only [Act.put,za,zb,zc,i64_w,i32_w];rfl
         refine pure_ (i:=10) (N:=some 84) (v:=?_) (a':=?_) (bw 22 1535) rfl rfl (any_of HT_.out (by kernel_rfl)) (fun _ _ _ h=>h) (Or.inl ⟨by rfl,?_⟩) ?_ ?_;rotate_left
         ·intro w';go_simp;with_reducible rfl
         rotate_left;·simp only [Act.put,za,zb,zc,i64_w,i32_w];rfl
         refine pure_ (i:=11) (N:=some 85) (v:=?_) (a':=?_) (bw 22 3583) rfl rfl (any_of HT_.out (by kernel_rfl)) (fun _ _ _ h=>h) (Or.inl ⟨by rfl,?_⟩) ?_ ?_;rotate_left
         ·intro w';go_simp;with_reducible rfl
         rotate_left;·simp only [Act.put,za,zb,zc,i64_w,i32_w];rfl
         refine pure_ (i:=12) (N:=some 86) (v:=?_) (a':=?_) (bw 22 7679) rfl rfl (any_of HT_.out (by kernel_rfl)) (fun _ _ _ h=>h) (Or.inl ⟨by rfl,?_⟩) ?_ ?_;rotate_left
         ·intro w';go_simp;with_reducible rfl
         rotate_left;·simp only [Act.put,za,zb,zc,i64_w,i32_w];rfl
         refine pure_ (i:=13) (N:=some 87) (v:=?_) (a':=?_) (bw 22 15871) rfl rfl (any_of HT_.out (by kernel_rfl)) (fun _ _ _ h=>h) (Or.inl ⟨by rfl,?_⟩) ?_ ?_;rotate_left
         ·intro w';go_simp;with_reducible rfl
         rotate_left;·simp only [Act.put,za,zb,zc,i64_w,i32_w];rfl
         refine pure_ (i:=14) (N:=some 88) (v:=?_) (a':=?_) (bw 22 32255) rfl rfl (any_of HT_.out (by kernel_rfl)) (fun _ _ _ h=>h) (Or.inl ⟨by rfl,?_⟩) ?_ ?_;rotate_left
         ·intro w';go_simp;with_reducible rfl
         rotate_left;·simp only [Act.put,za,zb,zc,i64_w,i32_w];rfl
         refine take_ (i:=9) (N:=some 83) (v:=?_) (a':=?_) (pw 22 15) rfl rfl (take_ofW HT_.out HW_.out (by kernel_rfl)) (fun _ _ _ h=>h) (Or.inl ⟨by rfl,?_⟩) hHeld ?_ ?_;rotate_left
         ·rintro w' ⟨s0,s1,s2,s3,s4⟩
          go_simp;with_reducible rfl
         rotate_left;·simp only [Act.put,za,zb,zc,i64_w,i32_w];rfl
         refine take_ (i:=15) (N:=some 89) (v:=?_) (a':=?_) (pw 22 16) rfl rfl (take_ofW HT_.out HW_.out (by kernel_rfl)) (fun _ _ _ h=>h) (Or.inl ⟨by rfl,?_⟩) hHeld ?_ ?_;rotate_left
         ·rintro w' ⟨s0,s1,s2,s3,s4⟩
          go_simp;with_reducible rfl
         rotate_left;·simp only [Act.put,za,zb,zc,i64_w,i32_w];rfl
         refine take_ (i:=17) (N:=some 91) (v:=?_) (a':=?_) (bw 22 196607) rfl rfl (take_ofW HT_.out HW_.out (by kernel_rfl)) (fun _ _ _ h=>h) (Or.inl ⟨by rfl,?_⟩) hHeld ?_ ?_;rotate_left
         ·rintro w' ⟨s0,s1,s2,s3,s4⟩
          go_simp;with_reducible rfl
         rotate_left;·simp only [Act.put,za,zb,zc,i64_w,i32_w];rfl
         refine one_ (i:=16) (N:=some 90) (pw 22 18) rfl rfl (one_of HT_.out (by kernel_rfl)) (by decide) (fun K hK=>?_);refine goes_ Try.func106 (by kernel_rfl) rfl #[.slice A1 l1.length c1,.int .i64 (rd t522 (ji41))] (by rfl) rfl rfl (by (try simp only [List.map_toArray,List.map_cons,List.map_nil]);first | done | (simp only [hji41];rfl) | rfl | (simp only [List.length_drop,List.length_take];rfl)) ?_;with_reducible refine (spec_SubTree.calls kj20 _ _ l1 (rd t522 (ji41)) t536 _ ?side1 ?side2 A44.out).mono ?_
         (case side1=>exact laC (Kd.C_below HR1.out HB.out));(case side2=>exact HC1.out);rintro e w62 ⟨v537,rfl,ho0,hb⟩;have HS3_:=(hb.cell (World.block_lt_of_cell? _ _ (hHeld.2.2.2.1))).trans (hHeld.2.2.2.1);have HS4_:=(hb.cell (World.block_lt_of_cell? _ _ (hHeld.2.2.2.2))).trans (hHeld.2.2.2.2);refine ⟨_,rfl,?_⟩;replace HO_11:=Aside0.mk (laRb HO_11.out hb);replace HO_12:=Aside0.mk (laRb HO_12.out hb);replace HO_14:=Aside0.mk (laRb HO_14.out hb);have HO538:=Aside0.mk (Kd.R_lower ho0 (below_size (laB HB.out)));replace BK518:=Aside0.mk (laKb BK518.out hb);replace HB:=Aside0.mk (below_step (laB HB.out) hb);(try clear hb);(try clear hb2);(try clear hk);(try clear hi);(try clear ho0)
         obtain ⟨Ao63,co63,eo63⟩:=Kd.R_slice HO538.out
         (first | subst eo63 | (injection eo63 with f1_ f2_ f3_;have f4_:=f1_.symm;have f5_:=f3_.symm;clear f1_ f2_ f3_;subst f4_;subst f5_))
         refine hK.out _ _ ⟨(blk_cell BK518.out 0).trans rfl,(blk_cell BK518.out 1).trans rfl,(blk_cell BK518.out 2).trans rfl,HS3_,HS4_⟩ (fun hHeld=>?_);clear hK K;refine norm_ (a':=?_) ?_ ?_;rotate_left
         ·show Act.put _ (some 90) _ = _
          simp only [Act.put,za,zb,zc,i64_w,i32_w];rfl
         refine one_ (i:=18) (N:=some 92) (pw 22 19) rfl rfl (one_of HT_.out (by kernel_rfl)) (by decide) (fun K hK=>?_);refine goes_ Try.func107 (by kernel_rfl) rfl #[.slice Ao63 t536.length co63,.agg #[.slice A2_0 l2_0.length c2_0,.slice A2_1 l2_1.length c2_1,.slice A2_2 l2_2.length c2_2]] (by rfl) rfl rfl (by (try simp only [List.map_toArray,List.map_cons,List.map_nil]);first | done | rfl | (simp only [List.length_drop,List.length_take];rfl)) ?_;with_reducible refine (spec_InsTree.calls kj20 _ _ t536 _ _ l2_0 _ _ l2_1 _ _ l2_2 t539 _ ?side1 ?side2 ?side3 ?side4 ?side5 ?side6 ?side7 ?side8 A45.out).mono ?_
         (case side1=>exact laC (Kd.R_reads' HO538.out).2.2);(case side2=>exact (Kd.R_reads' HO538.out).2.1);(case side3=>exact laC (Kd.C_below HR2_0.out HB.out));(case side4=>exact HC2_0.out);(case side5=>exact laC (Kd.C_below HR2_1.out HB.out));(case side6=>exact HC2_1.out);(case side7=>exact laC (Kd.C_below HR2_2.out HB.out));(case side8=>exact HC2_2.out);rintro e w64 ⟨rfl,hb⟩;have HS3_:=(hb.cell (World.block_lt_of_cell? _ _ (hHeld.2.2.2.1))).trans (hHeld.2.2.2.1);have HS4_:=(hb.cell (World.block_lt_of_cell? _ _ (hHeld.2.2.2.2))).trans (hHeld.2.2.2.2);refine ⟨_,rfl,?_⟩;replace HO_11:=Aside0.mk (laRb HO_11.out hb);replace HO_12:=Aside0.mk (laRb HO_12.out hb);replace HO_14:=Aside0.mk (laRb HO_14.out hb);replace HO538:=Aside0.mk (laRb HO538.out hb);replace BK518:=Aside0.mk (laKb BK518.out hb);replace HB:=Aside0.mk (below_step (laB HB.out) hb);(try clear hb);(try clear hb2);(try clear hk);(try clear hi);refine hK.out _ _ ⟨(blk_cell BK518.out 0).trans rfl,(blk_cell BK518.out 1).trans rfl,(blk_cell BK518.out 2).trans rfl,HS3_,HS4_⟩ (fun hHeld=>?_);clear hK K;refine norm_ (a':=?_) ?_ ?_;rotate_left
         ·show Act.put _ (some 92) _ = _
          simp only [Act.put,za,zb,zc,i64_w,i32_w];rfl
         refine pure_ (i:=19) (N:=some 93) (v:=?_) (a':=?_) (pw 22 20) rfl rfl (any_of HT_.out (by kernel_rfl)) (fun _ _ _ h=>h) (Or.inl ⟨by rfl,?_⟩) ?_ ?_;rotate_left
         ·intro w';go_simp;with_reducible rfl
         rotate_left;·simp only [Act.put,za,zb,zc,i64_w,i32_w];rfl
         refine pure_ (i:=20) (N:=some 94) (v:=?_) (a':=?_) (pw 22 21) rfl rfl (any_of HT_.out (by kernel_rfl)) (fun _ _ _ h=>h) (Or.inl ⟨by rfl,?_⟩) ?_ ?_;rotate_left
         ·intro w';go_simp;with_reducible rfl
         rotate_left;·simp only [Act.put,za,zb,zc,i64_w,i32_w];rfl
         refine pure_ (i:=21) (N:=some 17) (v:=?_) (a':=?_) (pw 22 22) rfl rfl (any_of HT_.out (by kernel_rfl)) (fun _ _ _ h=>h) (Or.inl ⟨by rfl,?_⟩) ?_ ?_;rotate_left
         ·intro w';go_simp;with_reducible rfl
         rotate_left;·simp only [Act.put,za,zb,zc,i64_w,i32_w];rfl
         refine done_ (done_of HT_.out (by kernel_rfl)) ?_
         try go_wp2
         replace HO_11:=Aside0.mk (Kd.R_drew HO_11.out);replace HO_12:=Aside0.mk (Kd.R_drew HO_12.out);replace HO_14:=Aside0.mk (Kd.R_drew HO_14.out);replace HO538:=Aside0.mk (Kd.R_drew HO538.out);replace BK518:=Aside0.mk (blk_drew BK518.out);replace HB:=Aside0.mk (below_drew1 HB.out);have p540 : 0 ≤ ((ji48) : Int):=of_decide_eq_true (by first | (with_reducible assumption) | assumption);have q540 : (ji48) < (x14_2.length : Int):=of_decide_eq_true (by first | (with_reducible assumption) | assumption)
         obtain ⟨ad540,e540,hx540_0⟩:=Kd.at_int (Kd.R_reads' HO_14.out).2.2 (ji48) p540 q540
         obtain rfl : ad534 = ad540:=(by injection e540)
         replace p540:=eq_true p540;replace q540:=eq_true q540;have p541 : 0 ≤ ((ji51) : Int):=of_decide_eq_true (by first | (with_reducible assumption) | assumption);have q541 : (ji51) < (t519.length : Int):=of_decide_eq_true (by first | (with_reducible assumption) | assumption)
         obtain ⟨ad541,e541,hx541_0⟩:=Kd.at_int (Kd.R_reads' HO_11.out).2.2 (ji51) p541 q541
         cases e541
         replace p541:=eq_true p541;replace q541:=eq_true q541;have p542 : 0 ≤ ((ji41) : Int):=of_decide_eq_true (by first | (with_reducible assumption) | assumption);have q542 : (ji41) < (t522.length : Int):=of_decide_eq_true (by first | (with_reducible assumption) | assumption)
         obtain ⟨ad542,e542,hx542_0⟩:=Kd.at_int (Kd.R_reads' HO_12.out).2.2 (ji41) p542 q542
         obtain rfl : ad535 = ad542:=(by injection e542)
         replace p542:=eq_true p542;replace q542:=eq_true q542
         try rw [hji51] at hji48w
         try rw [hji51] at hji48
         obtain ⟨q13_,hq13_⟩ : ∃ j_ : Int,(wrap64 (x15_1 * (wrap64 ((t522.length : Int) + 1)))) = j_:=⟨_,rfl⟩
         have hq13_w : (IntKind.i64.wrap (x15_1 * (wrap64 ((t522.length : Int) + 1)))) = q13_:=(i64_w _).trans hq13_
         try rw [hq13_] at hji38w
         try rw [hq13_] at hji38
         try rw [hq13_] at hji56w
         try rw [hq13_] at hji56
         try rw [hji56] at hji38w
         try rw [hji56] at hji38
         obtain ⟨q14_,hq14_⟩ : ∃ j_ : Int,(wrap64 ((ji51) * (wrap64 ((t522.length : Int) + 1)))) = j_:=⟨_,rfl⟩
         have hq14_w : (IntKind.i64.wrap ((ji51) * (wrap64 ((t522.length : Int) + 1)))) = q14_:=(i64_w _).trans hq14_
         try rw [hq14_] at hji48w
         try rw [hq14_] at hji48
         obtain ⟨q15_,hq15_⟩ : ∃ j_ : Int,(wrap64 ((q14_) + x16_2)) = j_:=⟨_,rfl⟩
         have hq15_w : (IntKind.i64.wrap ((q14_) + x16_2)) = q15_:=(i64_w _).trans hq15_
         try rw [hq15_] at hji48w
         try rw [hq15_] at hji48
         refine start_ (n:=28) (S:=fun w'=>w'.cell? ⟨gb518,0,none⟩ = some (.slice A2_0 l2_0.length c2_0) ∧ w'.cell? ⟨gb518,1,none⟩ = some (.slice A2_1 l2_1.length c2_1) ∧ w'.cell? ⟨gb518,2,none⟩ = some (.slice A2_2 l2_2.length c2_2) ∧ w'.cell? (ad534.add ((ji48)).toNat) = some (.int .i64 (rd x14_2 (ji48))) ∧ w'.cell? (ad541.add ((ji51)).toNat) = some (.int .i64 (rd t519 (ji51))) ∧ w'.cell? (ad535.add ((ji41)).toNat) = some (.int .i64 (rd t522 (ji41)))) (ds:=[]) (pw 28 0) (by kernel_rfl) rfl rfl ⟨(blk_cell BK518.out 0).trans rfl,(blk_cell BK518.out 1).trans rfl,(blk_cell BK518.out 2).trans rfl,hx540_0,hx541_0,hx542_0⟩ (fun hHeld=>?_);refine with_tabW spec_l26Table.tab18 spec_l26Table.bits18 (fun HT_ HW_=>?_)
         generalize w64.drew = w65 at HO_11 HO_12 HO_14 HO538 BK518 HB hx540_0 hx541_0 hx542_0 hHeld ⊢
         refine pure_ (i:=0) (N:=some 101) (v:=?_) (a':=?_) (pw 28 1) rfl rfl (any_of HT_.out (by kernel_rfl)) (fun _ _ _ h=>h) (Or.inl ⟨by rfl,?_⟩) ?_ ?_;rotate_left
         ·intro w';go_simp;with_reducible rfl
         rotate_left;·simp only [Act.put,za,zb,zc,i64_w,i32_w];rfl
         refine pure_ (i:=1) (N:=some 102) (v:=?_) (a':=?_) (pw 28 2) rfl rfl (any_of HT_.out (by kernel_rfl)) (fun _ _ _ h=>h) (Or.inl ⟨by rfl,?_⟩) ?_ ?_;rotate_left
         ·intro w';go_simp;with_reducible rfl
         rotate_left;·simp only [Act.put,za,zb,zc,i64_w,i32_w];rfl
         refine pure_ (i:=2) (N:=some 103) (v:=?_) (a':=?_) (pw 28 3) rfl rfl (any_of HT_.out (by kernel_rfl)) (fun _ _ _ h=>h) (Or.inl ⟨by rfl,?_⟩) ?_ ?_;rotate_left
         ·intro w';go_simp;with_reducible rfl
         rotate_left;·simp only [Act.put,za,zb,zc,i64_w,i32_w];rfl
         refine pure_ (i:=3) (N:=some 104) (v:=?_) (a':=?_) (pw 28 4) rfl rfl (any_of HT_.out (by kernel_rfl)) (fun _ _ _ h=>h) (Or.inl ⟨by rfl,?_⟩) ?_ ?_;rotate_left
         ·intro w';go_simp;with_reducible rfl
         rotate_left;·simp only [Act.put,za,zb,zc,i64_w,i32_w];rfl
         refine pure_ (i:=4) (N:=some 105) (v:=?_) (a':=?_) (pw 28 5) rfl rfl (any_of HT_.out (by kernel_rfl)) (fun _ _ _ h=>h) (Or.inl ⟨by rfl,?_⟩) ?_ ?_;rotate_left
         ·intro w';go_simp;with_reducible rfl
         rotate_left;·simp only [Act.put,za,zb,zc,i64_w,i32_w];rfl
         refine pure_ (i:=5) (N:=some 106) (v:=?_) (a':=?_) (pw 28 6) rfl rfl (any_of HT_.out (by kernel_rfl)) (fun _ _ _ h=>h) (Or.inl ⟨by rfl,?_⟩) ?_ ?_;rotate_left
         ·intro w';go_simp;with_reducible rfl
         rotate_left;·simp only [Act.put,za,zb,zc,i64_w,i32_w];rfl
         refine pure_ (i:=6) (N:=some 107) (v:=?_) (a':=?_) (pw 28 7) rfl rfl (any_of HT_.out (by kernel_rfl)) (fun _ _ _ h=>h) (Or.inl ⟨by rfl,?_⟩) ?_ ?_;rotate_left
         ·intro w';go_simp;with_reducible rfl
         rotate_left;·simp only [Act.put,za,zb,zc,i64_w,i32_w];rfl
         refine pure_ (i:=7) (N:=some 108) (v:=?_) (a':=?_) (pw 28 8) rfl rfl (any_of HT_.out (by kernel_rfl)) (fun _ _ _ h=>h) (Or.inl ⟨by rfl,?_⟩) ?_ ?_;rotate_left
         ·intro w';go_simp;with_reducible rfl
         rotate_left;·simp only [Act.put,za,zb,zc,i64_w,i32_w];rfl
         refine pure_ (i:=8) (N:=some 109) (v:=?_) (a':=?_) (pw 28 9) rfl rfl (any_of HT_.out (by kernel_rfl)) (fun _ _ _ h=>h) (Or.inl ⟨by rfl,?_⟩) ?_ ?_;rotate_left
         ·intro w';go_simp;with_reducible rfl
         rotate_left;·simp only [Act.put,za,zb,zc,i64_w,i32_w];rfl
         refine pure_ (i:=9) (N:=some 110) (v:=?_) (a':=?_) (pw 28 10) rfl rfl (any_of HT_.out (by kernel_rfl)) (fun _ _ _ h=>h) (Or.inl ⟨by rfl,?_⟩) ?_ ?_;rotate_left
         ·intro w';go_simp;with_reducible rfl
         rotate_left;·simp only [Act.put,za,zb,zc,i64_w,i32_w];rfl
         refine pure_ (i:=11) (N:=some 112) (v:=?_) (a':=?_) (bw 28 3071) rfl rfl (any_of HT_.out (by kernel_rfl)) (fun _ _ _ h=>h) (Or.inl ⟨by rfl,?_⟩) ?_ ?_;rotate_left
         ·intro w';go_simp;with_reducible rfl
         rotate_left;·simp only [Act.put,za,zb,zc,i64_w,i32_w];rfl
         refine pure_ (i:=12) (N:=some 113) (v:=?_) (a':=?_) (bw 28 7167) rfl rfl (any_of HT_.out (by kernel_rfl)) (fun _ _ _ h=>h) (Or.inl ⟨by rfl,?_⟩) ?_ ?_;rotate_left
         ·intro w';go_simp;with_reducible rfl
         rotate_left;·simp only [Act.put,za,zb,zc,i64_w,i32_w];rfl
         refine pure_ (i:=14) (N:=some 115) (v:=?_) (a':=?_) (bw 28 23551) rfl rfl (any_of HT_.out (by kernel_rfl)) (fun _ _ _ h=>h) (Or.inl ⟨by rfl,?_⟩) ?_ ?_;rotate_left
         ·intro w';go_simp;with_reducible rfl
         rotate_left;·simp only [Act.put,za,zb,zc,i64_w,i32_w];rfl
         refine pure_ (i:=15) (N:=some 116) (v:=?_) (a':=?_) (bw 28 56319) rfl rfl (any_of HT_.out (by kernel_rfl)) (fun _ _ _ h=>h) (Or.inl ⟨by rfl,?_⟩) ?_ ?_;rotate_left
         ·intro w';go_simp;with_reducible rfl
         rotate_left;·simp only [Act.put,za,zb,zc,i64_w,i32_w];rfl
         refine pure_ (i:=16) (N:=some 117) (v:=?_) (a':=?_) (bw 28 121855) rfl rfl (any_of HT_.out (by kernel_rfl)) (fun _ _ _ h=>h) (Or.inl ⟨by rfl,?_⟩) ?_ ?_;rotate_left
         ·intro w';go_simp;with_reducible rfl
         rotate_left;·simp only [Act.put,za,zb,zc,i64_w,i32_w];rfl
         refine pure_ (i:=17) (N:=some 118) (v:=?_) (a':=?_) (bw 28 252927) rfl rfl (any_of HT_.out (by kernel_rfl)) (fun _ _ _ h=>h) (Or.inl ⟨by rfl,?_⟩) ?_ ?_;rotate_left
         ·intro w';go_simp;with_reducible rfl
         rotate_left;·simp only [Act.put,za,zb,zc,i64_w,i32_w];rfl
         refine pure_ (i:=19) (N:=some 120) (v:=?_) (a':=?_) (bw 28 777215) rfl rfl (any_of HT_.out (by kernel_rfl)) (fun _ _ _ h=>h) (Or.inl ⟨by rfl,?_⟩) ?_ ?_;rotate_left
         ·intro w';go_simp;with_reducible rfl
         rotate_left;·simp only [Act.put,za,zb,zc,i64_w,i32_w];rfl
         refine pure_ (i:=20) (N:=some 121) (v:=?_) (a':=?_) (bw 28 1825791) rfl rfl (any_of HT_.out (by kernel_rfl)) (fun _ _ _ h=>h) (Or.inl ⟨by rfl,?_⟩) ?_ ?_;rotate_left
         ·intro w';go_simp;with_reducible rfl
         rotate_left;·simp only [Act.put,za,zb,zc,i64_w,i32_w];rfl
         refine pure_ (i:=21) (N:=some 122) (v:=?_) (a':=?_) (bw 28 3922943) rfl rfl (any_of HT_.out (by kernel_rfl)) (fun _ _ _ h=>h) (Or.inl ⟨by rfl,?_⟩) ?_ ?_;rotate_left
         ·intro w';go_simp;with_reducible rfl
         rotate_left;·simp only [Act.put,za,zb,zc,i64_w,i32_w];rfl
         refine pure_ (i:=22) (N:=some 123) (v:=?_) (a':=?_) (bw 28 8117247) rfl rfl (any_of HT_.out (by kernel_rfl)) (fun _ _ _ h=>h) (Or.inl ⟨by rfl,?_⟩) ?_ ?_;rotate_left
         ·intro w';go_simp;with_reducible rfl
         rotate_left;·simp only [Act.put,za,zb,zc,i64_w,i32_w];rfl
         refine take_ (i:=10) (N:=some 111) (v:=?_) (a':=?_) (bw 28 8118271) rfl rfl (take_ofW HT_.out HW_.out (by kernel_rfl)) (fun _ _ _ h=>h) (Or.inl ⟨by rfl,?_⟩) hHeld ?_ ?_;rotate_left
         ·rintro w' ⟨s0,s1,s2,s3,s4,s5⟩
          go_simp;with_reducible rfl
         rotate_left;·simp only [Act.put,za,zb,zc,i64_w,i32_w];rfl
         refine take_ (i:=13) (N:=some 114) (v:=?_) (a':=?_) (bw 28 8126463) rfl rfl (take_ofW HT_.out HW_.out (by kernel_rfl)) (fun _ _ _ h=>h) (Or.inl ⟨by rfl,?_⟩) hHeld ?_ ?_;rotate_left
         ·rintro w' ⟨s0,s1,s2,s3,s4,s5⟩
          go_simp;with_reducible rfl
         rotate_left;·simp only [Act.put,za,zb,zc,i64_w,i32_w];rfl
         refine take_ (i:=18) (N:=some 119) (v:=?_) (a':=?_) (pw 28 23) rfl rfl (take_ofW HT_.out HW_.out (by kernel_rfl)) (fun _ _ _ h=>h) (Or.inl ⟨by rfl,?_⟩) hHeld ?_ ?_;rotate_left
         ·rintro w' ⟨s0,s1,s2,s3,s4,s5⟩
          go_simp;with_reducible rfl
         rotate_left;·simp only [Act.put,za,zb,zc,i64_w,i32_w];rfl
         refine take_ (i:=23) (N:=some 124) (v:=?_) (a':=?_) (pw 28 24) rfl rfl (take_ofW HT_.out HW_.out (by kernel_rfl)) (fun _ _ _ h=>h) (Or.inl ⟨by rfl,?_⟩) hHeld ?_ ?_;rotate_left
         ·rintro w' ⟨s0,s1,s2,s3,s4,s5⟩
          go_simp;with_reducible rfl
         rotate_left;·simp only [Act.put,za,zb,zc,i64_w,i32_w];rfl
         refine one_ (i:=24) (N:=some 125) (pw 28 25) rfl rfl (one_of HT_.out (by kernel_rfl)) (by decide) (fun K hK=>?_);refine goes_ Try.func51 (by kernel_rfl) rfl #[.slice A0 l0.length c0,.slice A1 l1.length c1,.agg #[.slice A2_0 l2_0.length c2_0,.slice A2_1 l2_1.length c2_1,.slice A2_2 l2_2.length c2_2],.int .i64 (rd t519 (ji51)),.int .i64 (rd t522 (ji41))] (by rfl) rfl rfl (by (try simp only [List.map_toArray,List.map_cons,List.map_nil]);first | done | (simp only [hji41,hji51];rfl) | rfl | (simp only [List.length_drop,List.length_take];rfl)) ?_;with_reducible refine (spec_l26Dist_C.calls kj20 _ _ l0 _ _ l1 _ _ l2_0 _ _ l2_1 _ _ l2_2 (rd t519 (ji51)) (rd t522 (ji41)) t543 _ ?side1 ?side2 ?side3 ?side4 ?side5 ?side6 ?side7 ?side8 ?side9 ?side10 A54.out).mono ?_
         (case side1=>exact laC (Kd.C_below HR0.out HB.out));(case side2=>exact HC0.out);(case side3=>exact laC (Kd.C_below HR1.out HB.out));(case side4=>exact HC1.out);(case side5=>exact laC (Kd.C_below HR2_0.out HB.out));(case side6=>exact HC2_0.out);(case side7=>exact laC (Kd.C_below HR2_1.out HB.out));(case side8=>exact HC2_1.out);(case side9=>exact laC (Kd.C_below HR2_2.out HB.out));(case side10=>exact HC2_2.out);rintro e w66 ⟨rfl,hb⟩;have HS3_:=(hb.cell (World.block_lt_of_cell? _ _ (hHeld.2.2.2.1))).trans (hHeld.2.2.2.1);have HS4_:=(hb.cell (World.block_lt_of_cell? _ _ (hHeld.2.2.2.2.1))).trans (hHeld.2.2.2.2.1);have HS5_:=(hb.cell (World.block_lt_of_cell? _ _ (hHeld.2.2.2.2.2))).trans (hHeld.2.2.2.2.2);refine ⟨_,rfl,?_⟩;replace HO_11:=Aside0.mk (laRb HO_11.out hb);replace HO_12:=Aside0.mk (laRb HO_12.out hb);replace HO_14:=Aside0.mk (laRb HO_14.out hb);replace HO538:=Aside0.mk (laRb HO538.out hb);replace BK518:=Aside0.mk (laKb BK518.out hb);replace HB:=Aside0.mk (below_step (laB HB.out) hb);(try clear hb);(try clear hb2);(try clear hk);(try clear hi);refine hK.out _ _ ⟨(blk_cell BK518.out 0).trans rfl,(blk_cell BK518.out 1).trans rfl,(blk_cell BK518.out 2).trans rfl,HS3_,HS4_,HS5_⟩ (fun hHeld=>?_);clear hK K;refine norm_ (a':=?_) ?_ ?_;rotate_left
         ·show Act.put _ (some 125) _ = _
          simp only [Act.put,za,zb,zc,i64_w,i32_w];rfl
         refine pure_ (i:=25) (N:=some 126) (v:=?_) (a':=?_) (pw 28 26) rfl rfl (any_of HT_.out (by kernel_rfl)) (fun _ _ _ h=>h) (Or.inl ⟨by rfl,?_⟩) ?_ ?_;rotate_left
         ·intro w';go_simp;with_reducible rfl
         rotate_left;·simp only [Act.put,za,zb,zc,i64_w,i32_w];rfl
         refine pure_ (i:=26) (N:=some 127) (v:=?_) (a':=?_) (pw 28 27) rfl rfl (any_of HT_.out (by kernel_rfl)) (fun _ _ _ h=>h) (Or.inl ⟨by rfl,?_⟩) ?_ ?_;rotate_left
         ·intro w';go_simp;with_reducible rfl
         rotate_left;·simp only [Act.put,za,zb,zc,i64_w,i32_w];rfl
         refine pure_ (i:=27) (N:=some 17) (v:=?_) (a':=?_) (pw 28 28) rfl rfl (any_of HT_.out (by kernel_rfl)) (fun _ _ _ h=>h) (Or.inl ⟨by rfl,?_⟩) ?_ ?_;rotate_left
         ·intro w';go_simp;with_reducible rfl
         rotate_left;·simp only [Act.put,za,zb,zc,i64_w,i32_w];rfl
         refine done_ (done_of HT_.out (by kernel_rfl)) ?_;have p59 : 0 ≤ ((ji56) : Int):=of_decide_eq_true (by first | (with_reducible assumption) | assumption);have q59 : ((ji56) : Int) < ((x14_2.length : Int) : Int):=of_decide_eq_true (by first | (with_reducible assumption) | assumption)
         obtain ⟨go59,co59,eo59,gb59,gl59,cl59,HG59⟩:=Kd.R_form HO_14.out (by omega)
         (first | cases eo59 | (injection eo59 with ea_ en_ ec_;(first | subst ea_ | (injection ea_ with ea_;subst ea_));subst ec_;clear en_))
         have GB59:=Aside0.mk gb59;have GG59:=Aside0.mk HG59;clear gb59 gl59 HG59
         (first | simp only [add_plain] at hx534_0 | skip)
         (first | simp only [add_plain] at hx540_0 | skip)
         obtain ⟨hx59_0,hf59_0⟩:=Kd.R_celln 0 HO_14.out ((ji56) : Int) p59 q59
         replace p59:=eq_true p59;replace q59:=eq_true q59
         obtain ⟨hy67_,hz67_⟩:=Kd.R_celln 0 HO_14.out ((ji56) : Int) (of_decide_eq_true (by first | (with_reducible assumption) | assumption)) (of_decide_eq_true (by first | (with_reducible assumption) | assumption))
         have HP67:=Kd.R_putg HO_14.out ((ji56) : Int) ji55
         try go_wp2_with (first | ((with_reducible refine gate_store (t:=3) (p:=135) rfl ?_);refine store_event (t:=3) (p:=135) (v:=?vo_w68) (w1:=(w66.setCell ⟨go59,((ji56) : Int).toNat,none⟩ (.int .i64 ji55))) ?hg ?ho ?hn ?hr ?_;(case ho=>rfl);(case hg=>rfl);(case hn=>rfl);(case hr=>first | (go_simp;done) | (go_simp;rfl));intro w68 hw;have hg : w66.grownBy w68 (some go59):=(by rw [hw];exact HP67.2);have hp_ : Kd.R (Kd.int .i64) 3 w68 w.heap.size (fun k_=>some k_ ≠ (.slice (some ad541) t519.length co15 : Value).ownBlock ∧ some k_ ≠ (.slice (some ad535) t522.length co14 : Value).ownBlock) (.slice (some ⟨go59,0,none⟩) x14_2.length co61) y544:=(by rw [hw,Ny544.out];exact HP67.1);clear HP67;replace HO_11:=Aside0.mk (Kd.R_after (v:=(.slice (some ⟨go59,0,none⟩) x14_2.length co61)) (v1:=(.slice (some ⟨go59,0,none⟩) x14_2.length co61)) (ok:=(fun k_=>some k_ ≠ (.slice (some ad535) t522.length co14 : Value).ownBlock)) (laR HO_11.out) hg (.inl rfl));replace HO_12:=Aside0.mk (Kd.R_after (v:=(.slice (some ⟨go59,0,none⟩) x14_2.length co61)) (v1:=(.slice (some ⟨go59,0,none⟩) x14_2.length co61)) (ok:=(fun k_=>some k_ ≠ (.slice (some ad541) t519.length co15 : Value).ownBlock)) (laR HO_12.out) hg (.inl rfl));replace BK518:=Aside0.mk (blk_grown (g:=gb518) (o:=.cells #[.slice A2_0 l2_0.length c2_0,.slice A2_1 l2_1.length c2_1,.slice A2_2 l2_2.length c2_2] 37 (0,0)) (laK BK518.out) hg (Kd.R_ne HO_14.out BK518.out (by decide)));replace HO538:=Aside0.mk (Kd.R_over' (v:=(.slice (some ⟨go59,0,none⟩) x14_2.length co61)) (laR HO538.out) (Kd.R_typed HO_14.out) (by decide) hg);replace HO_14:=Aside0.mk (hp_);replace HB:=Aside0.mk ((by rw [hw];exact below_set (HB.out) GB59.out : Below w.heap.size w w68));clear hg hw hp_))
         go_roundg kj20
         case measure=>have:=HK1.out;have:=HK2.out;have:=HJ20.out;omega
         case rel=>exact ⟨(y544),(wrap64 (x16_2 + 1)),(by first | rfl | (simp;done) | (simp [*];done)),H',⟨by have:=HK1.out;have:=HK2.out;have:=HJ20.out;omega⟩,⟨laR HO_11.out⟩,⟨laR HO_12.out⟩,⟨laR HO_14.out⟩,⟨laK BK518.out⟩,⟨laB HB.out⟩⟩
 ·rw [if_neg c9] at H
  exact absurd H (by simp)
end


/-! ### spec_l26Dist: function 51 -/
section
variable [spec_l26Dist_O]
def spec_l26DistB.f (k : Nat) (l0 : List (S59)) (l1 : List (S59)) (l2_0 : List Int) (l2_1 : List Int) (l2_2 : List Int) (a3 : Int) (a4 : Int) : Option (Int):=(spec_l26Table.f k l0 l1 l2_0 l2_1 l2_2 a3 a4).bind fun t549=>(if 0 ≤ (wrap64 ((t549.length : Int) - 1)) then (if (wrap64 ((t549.length : Int) - 1)) < (t549.length : Int) then (if 0 ≤ a3 then (if a3 < (l0.length : Int) then (if 0 ≤ a4 then (if a4 < (l1.length : Int) then ((spec_RelCost.f k l2_0 l2_1 l2_2 ((rd_T59 l0 a3).f0) ((rd_T59 l1 a4).f0)).bind fun t555=>(some (wrap64 ((rd t549 (wrap64 ((t549.length : Int) - 1))) + t555)))) else (none)) else (none)) else (none)) else (none)) else (none)) else (none))
theorem spec_l26DistB.mono : ∀ a0 a1 a2 a3 a4 a5 a6 k,LeO (spec_l26DistB.f k a0 a1 a2 a3 a4 a5 a6) (spec_l26DistB.f (k + 1) a0 a1 a2 a3 a4 a5 a6):=by
 intro a0 a1 a2 a3 a4 a5 a6 k
 unfold spec_l26DistB.f
 repeat' first
   | (with_reducible exact spec_RelCost.mono _ _ _ _ _ _)
   | (with_reducible exact spec_l26Table.mono _ _ _ _ _ _ _ _)
   | (with_reducible exact LeO.refl _)
   | (with_reducible exact LeO.none _)
   | (with_reducible refine LeO.ite ?_ ?_)
   | (with_reducible refine LeO.bind ?_ (fun _=>?_))
   | exact spec_RelCost.mono _ _ _ _ _ _
   | exact spec_l26Table.mono _ _ _ _ _ _ _ _
   | exact LeO.none _
   | refine LeO.ite ?_ ?_
   | refine LeO.bind ?_ (fun _=>?_)
end
theorem spec_l26DistB.omono {O O' : spec_l26Dist_O} (K : Nat) (ho : ∀ j,j < K + 1 → ∀ a0 a1 a2 a3 a4 a5 a6,LeO (@spec_l26Dist_O.f O j a0 a1 a2 a3 a4 a5 a6) (@spec_l26Dist_O.f O' j a0 a1 a2 a3 a4 a5 a6)) (l0 : List (S59)) (l1 : List (S59)) (l2_0 : List Int) (l2_1 : List Int) (l2_2 : List Int) (a3 : Int) (a4 : Int) : LeO (@spec_l26DistB.f O K l0 l1 l2_0 l2_1 l2_2 a3 a4) (@spec_l26DistB.f O' K l0 l1 l2_0 l2_1 l2_2 a3 a4):=by
  unfold spec_l26DistB.f
  repeat' first
    | (with_reducible exact spec_l26Table.omono K ho _ _ _ _ _ _ _)
    | (with_reducible exact LeO.refl _)
    | (with_reducible refine LeO.ite ?_ ?_)
    | (with_reducible refine LeO.bind ?_ (fun _=>?_))
def spec_l26DistB.T2 : Bool × List (List Nat × List Nat):=(true,[([],[]),([],[]),([1],[1]),([2],[2]),([0,3],[0,3]),([4],[4]),([],[]),([],[]),([],[]),([7,8],[7,8]),([9],[9]),([10],[10]),([],[]),([],[]),([12,13],[12,13]),([14],[14]),([15],[15]),([6,11,16],[6,11,16]),([5,17],[5,17]),([18,17,0,1,2,3,4,5,6,7,8,9,10,11,12,13,14,15,16,17,18],[18])])
def spec_l26DistB.B2 : List Nat:=[0,0,2,6,15,31,0,0,0,384,896,1920,0,0,12288,28672,61440,131008,262143,524287]
theorem spec_l26DistB.tab2 : rtab .any (opsOf Try.f51 2) = spec_l26DistB.T2:=by kernel_rfl
theorem spec_l26DistB.bits2 : waitsOk spec_l26DistB.T2.2 spec_l26DistB.B2 = true:=by kernel_rfl
section
variable [spec_l26Dist_O] [spec_l26Dist_C]
set_option maxHeartbeats 8000000 in
set_option maxRecDepth 100000 in
theorem spec_l26DistB.calls (k : Nat) (A0 : Option Addr) (c0 : Nat) (l0 : List (S59)) (A1 : Option Addr) (c1 : Nat) (l1 : List (S59)) (A2_0 : Option Addr) (c2_0 : Nat) (l2_0 : List Int) (A2_1 : Option Addr) (c2_1 : Nat) (l2_1 : List Int) (A2_2 : Option Addr) (c2_2 : Nat) (l2_2 : List Int) (a3 : Int) (a4 : Int) (r : Int) (w : World) (hr0 : Kd.C k59 w A0 l0.length l0) (hc0 : l0.length ≤ c0) (hr1 : Kd.C k59 w A1 l1.length l1) (hc1 : l1.length ≤ c1) (hr2_0 : Kd.C (Kd.int .i64) w A2_0 l2_0.length l2_0) (hc2_0 : l2_0.length ≤ c2_0) (hr2_1 : Kd.C (Kd.int .i64) w A2_1 l2_1.length l2_1) (hc2_1 : l2_1.length ≤ c2_1) (hr2_2 : Kd.C (Kd.int .i64) w A2_2 l2_2.length l2_2) (hc2_2 : l2_2.length ≤ c2_2) (h : spec_l26DistB.f k l0 l1 l2_0 l2_1 l2_2 a3 a4 = some r) :
  Calls Try.prog 51 #[.slice A0 l0.length c0,.slice A1 l1.length c1,.agg #[.slice A2_0 l2_0.length c2_0,.slice A2_1 l2_1.length c2_1,.slice A2_2 l2_2.length c2_2],.int .i64 a3,.int .i64 a4] w fun e w'=>e = .returned (.int .i64 r) ∧ Below w.heap.size w w':=by
 have hu37:=Try.underlying37
 have HR0:=Aside0.mk hr0
 have HC0:=Aside0.mk hc0
 clear hr0 hc0
 have HR1:=Aside0.mk hr1
 have HC1:=Aside0.mk hc1
 clear hr1 hc1
 have HR2_0:=Aside0.mk hr2_0
 have HC2_0:=Aside0.mk hc2_0
 clear hr2_0 hc2_0
 have HR2_1:=Aside0.mk hr2_1
 have HC2_1:=Aside0.mk hc2_1
 clear hr2_1 hc2_1
 have HR2_2:=Aside0.mk hr2_2
 have HC2_2:=Aside0.mk hc2_2
 clear hr2_2 hc2_2
 have HB:=Aside0.mk (Below.refl w.heap.size w)
 have H : ((spec_l26Table.f k l0 l1 l2_0 l2_1 l2_2 a3 a4).bind fun t549=>(if 0 ≤ (wrap64 ((t549.length : Int) - 1)) then (if (wrap64 ((t549.length : Int) - 1)) < (t549.length : Int) then (if 0 ≤ a3 then (if a3 < (l0.length : Int) then (if 0 ≤ a4 then (if a4 < (l1.length : Int) then ((spec_RelCost.f k l2_0 l2_1 l2_2 ((rd_T59 l0 a3).f0) ((rd_T59 l1 a4).f0)).bind fun t555=>(some (wrap64 ((rd t549 (wrap64 ((t549.length : Int) - 1))) + t555)))) else (none)) else (none)) else (none)) else (none)) else (none)) else (none))) = some r:=h
 clear h
 replace H:=Option.bind_eq_some_iff.mp H
 obtain ⟨t549,A60,H⟩:=H
 have A6:=Aside0.mk A60
 clear A60
 obtain ⟨ji7,hji7⟩ : ∃ j_ : Int,(wrap64 ((t549.length : Int) - 1)) = j_:=⟨_,rfl⟩
 replace H : (if 0 ≤ (ji7) then (if (ji7) < (t549.length : Int) then (if 0 ≤ a3 then (if a3 < (l0.length : Int) then (if 0 ≤ a4 then (if a4 < (l1.length : Int) then ((spec_RelCost.f k l2_0 l2_1 l2_2 ((rd_T59 l0 a3).f0) ((rd_T59 l1 a4).f0)).bind fun t555=>(some (wrap64 ((rd t549 (ji7)) + t555)))) else (none)) else (none)) else (none)) else (none)) else (none)) else (none)) = some r:=by first | (rw [hji7] at H;exact H) | (simp only [hji7] at H ⊢;exact H)
 (try rw [hji7] at A6)
 have hji7w : (IntKind.i64.wrap ((t549.length : Int) - 1)) = ji7:=(i64_w _).trans hji7
 by_cases c8 : 0 ≤ (ji7)
 ·rw [if_pos c8] at H
  have c8b0 : decide (0 ≤ (ji7)) = true:=decide_eq_true c8;clear c8
  by_cases c9 : (ji7) < (t549.length : Int)
  rotate_left
  ·rw [if_neg c9] at H
   exact absurd H (by simp)
  rw [if_pos c9] at H;have c9b0 : decide ((ji7) < (t549.length : Int)) = true:=decide_eq_true c9;clear c9
  by_cases c10 : 0 ≤ a3
  rotate_left
  ·rw [if_neg c10] at H
   exact absurd H (by simp)
  rw [if_pos c10] at H;have c10b0 : decide (0 ≤ a3) = true:=decide_eq_true c10;clear c10
  by_cases c11 : a3 < (l0.length : Int)
  rotate_left
  ·rw [if_neg c11] at H
   exact absurd H (by simp)
  rw [if_pos c11] at H;have c11b0 : decide (a3 < (l0.length : Int)) = true:=decide_eq_true c11;clear c11
  by_cases c12 : 0 ≤ a4
  rotate_left
  ·rw [if_neg c12] at H
   exact absurd H (by simp)
  rw [if_pos c12] at H;have c12b0 : decide (0 ≤ a4) = true:=decide_eq_true c12;clear c12
  by_cases c13 : a4 < (l1.length : Int)
  rotate_left
  ·rw [if_neg c13] at H
   exact absurd H (by simp)
  rw [if_pos c13] at H;have c13b0 : decide (a4 < (l1.length : Int)) = true:=decide_eq_true c13;clear c13;replace H:=Option.bind_eq_some_iff.mp H
  obtain ⟨t555,A140,H⟩:=H
  have A14:=Aside0.mk A140;clear A140
  obtain rfl:=Option.some.inj H
  go_enter Try.func51,Try.ntmps51
  try go_wp2_with (first | ((with_reducible refine gate_dst (N:=7) rfl ?_);refine box_event ?hg (N:=7) ?hd (cs:=#[.slice A2_0 l2_0.length c2_0,.slice A2_1 l2_1.length c2_1,.slice A2_2 l2_2.length c2_2]) (t:=37) ?hr ?_;(case hd=>rfl);(case hg=>rfl);(case hr=>first | (go_simp;done) | (go_simp;rfl));intro gb548 hg w15 hbox hb;have BK548:=Aside0.mk (hbox);have GW548:=Aside0.mk ((by rw [hg];exact (below_size (laB HB.out)) : w.heap.size ≤ gb548));have GE548:=Aside0.mk ((by rw [hg];exact (below_size (laB HB.out)) : w.heap.size ≤ gb548));have ge548_:=Nonempty.intro GE548.out;replace HB:=Aside0.mk (below_step (laB HB.out) hb);clear hb hbox hg;have hcz16_0 : w15.cell? ⟨gb548,0,none⟩ = some (.slice A2_0 l2_0.length c2_0):=(blk_cell BK548.out 0).trans rfl;have hcz16_1 : w15.cell? ⟨gb548,1,none⟩ = some (.slice A2_1 l2_1.length c2_1):=(blk_cell BK548.out 1).trans rfl;have hcz16_2 : w15.cell? ⟨gb548,2,none⟩ = some (.slice A2_2 l2_2.length c2_2):=(blk_cell BK548.out 2).trans rfl;have hfz16_0:=blk_frozen BK548.out 0;have hfz16_1:=blk_frozen BK548.out 1;have hfz16_2:=blk_frozen BK548.out 2) | ((with_reducible refine gate_callee (f:=88) rfl ?_);refine goesL_ (some 17) rfl rfl Try.func88 (by kernel_rfl) rfl #[.slice A0 l0.length c0,.slice A1 l1.length c1,.agg #[.slice A2_0 l2_0.length c2_0,.slice A2_1 l2_1.length c2_1,.slice A2_2 l2_2.length c2_2],.int .i64 a3,.int .i64 a4] rfl (by (try simp only [List.map_toArray,List.map_cons,List.map_nil]);first | done | rfl | (simp only [List.length_drop,List.length_take];rfl)) ?_;(with_reducible refine (spec_l26Table.calls k _ _ l0 _ _ l1 _ _ l2_0 _ _ l2_1 _ _ l2_2 a3 a4 t549 _ ?side1 ?side2 ?side3 ?side4 ?side5 ?side6 ?side7 ?side8 ?side9 ?side10 A6.out).mono ?_);(case side1=>exact laC (Kd.C_below HR0.out HB.out));(case side2=>exact HC0.out);(case side3=>exact laC (Kd.C_below HR1.out HB.out));(case side4=>exact HC1.out);(case side5=>exact laC (Kd.C_below HR2_0.out HB.out));(case side6=>exact HC2_0.out);(case side7=>exact laC (Kd.C_below HR2_1.out HB.out));(case side8=>exact HC2_1.out);(case side9=>exact laC (Kd.C_below HR2_2.out HB.out));(case side10=>exact HC2_2.out);rintro e w17 ⟨v550,rfl,ho0,hb⟩;refine ⟨_,rfl,?_⟩;have HO551:=Aside0.mk (Kd.R_lower ho0 (below_size (laB HB.out)));replace BK548:=Aside0.mk (laKb BK548.out hb);replace HB:=Aside0.mk (below_step (laB HB.out) hb);(try clear hb);(try clear hb2);(try clear hk);(try clear hi);(try clear ho0)))
  replace HO551:=Aside0.mk (Kd.R_drew HO551.out);replace BK548:=Aside0.mk (blk_drew BK548.out);replace HB:=Aside0.mk (below_drew1 HB.out)
  obtain ⟨Ao19,co19,eo19⟩:=Kd.R_slice HO551.out
  (first | subst eo19 | (injection eo19 with f1_ f2_ f3_;have f4_:=f1_.symm;have f5_:=f3_.symm;clear f1_ f2_ f3_;subst f4_;subst f5_))
  have p552 : 0 ≤ ((ji7) : Int):=of_decide_eq_true (by first | (with_reducible assumption) | assumption);have q552 : (ji7) < (t549.length : Int):=of_decide_eq_true (by first | (with_reducible assumption) | assumption)
  obtain ⟨ad552,e552,hx552_0⟩:=Kd.at_int (Kd.R_reads' HO551.out).2.2 (ji7) p552 q552
  cases e552
  replace p552:=eq_true p552;replace q552:=eq_true q552;have p553 : 0 ≤ (a3 : Int):=of_decide_eq_true (by first | (with_reducible assumption) | assumption);have q553 : a3 < (l0.length : Int):=of_decide_eq_true (by first | (with_reducible assumption) | assumption)
  obtain ⟨ad553,e553,hx553_0,hx553_1⟩:=at_T59 HR0.out a3 p553 q553
  have hw553_1:=hx553_1;have hw553_0:=hx553_0
  cases e553
  replace hx553_0:=(HB.out.cell (World.block_lt_of_cell? w _ hx553_0)).trans hx553_0;replace hx553_1:=(HB.out.cell (World.block_lt_of_cell? w _ hx553_1)).trans hx553_1;replace p553:=eq_true p553;replace q553:=eq_true q553;have p554 : 0 ≤ (a4 : Int):=of_decide_eq_true (by first | (with_reducible assumption) | assumption);have q554 : a4 < (l1.length : Int):=of_decide_eq_true (by first | (with_reducible assumption) | assumption)
  obtain ⟨ad554,e554,hx554_0,hx554_1⟩:=at_T59 HR1.out a4 p554 q554
  have hw554_1:=hx554_1;have hw554_0:=hx554_0
  cases e554
  replace hx554_0:=(HB.out.cell (World.block_lt_of_cell? w _ hx554_0)).trans hx554_0;replace hx554_1:=(HB.out.cell (World.block_lt_of_cell? w _ hx554_1)).trans hx554_1;replace p554:=eq_true p554;replace q554:=eq_true q554;refine start_ (n:=20) (S:=fun w'=>w'.cell? ⟨gb548,0,none⟩ = some (.slice A2_0 l2_0.length c2_0) ∧ w'.cell? ⟨gb548,1,none⟩ = some (.slice A2_1 l2_1.length c2_1) ∧ w'.cell? ⟨gb548,2,none⟩ = some (.slice A2_2 l2_2.length c2_2) ∧ w'.cell? (ad552.add ((ji7)).toNat) = some (.int .i64 (rd t549 (ji7))) ∧ w'.cell? (ad553.add ((a3).toNat * 2)) = some (.int .i64 ((rd_T59 l0 a3).f0)) ∧ w'.cell? ⟨(ad553.add ((a3).toNat * 2)).block,(ad553.add ((a3).toNat * 2)).off + 1,none⟩ = some (.int .i64 ((rd_T59 l0 a3).f1)) ∧ w'.cell? (ad554.add ((a4).toNat * 2)) = some (.int .i64 ((rd_T59 l1 a4).f0)) ∧ w'.cell? ⟨(ad554.add ((a4).toNat * 2)).block,(ad554.add ((a4).toNat * 2)).off + 1,none⟩ = some (.int .i64 ((rd_T59 l1 a4).f1))) (ds:=[]) (pw 20 0) (by kernel_rfl) rfl rfl ⟨(blk_cell BK548.out 0).trans rfl,(blk_cell BK548.out 1).trans rfl,(blk_cell BK548.out 2).trans rfl,hx552_0,((HB.out.cell (World.block_lt_of_cell? w _ hw553_0)).trans hw553_0),((HB.out.cell (World.block_lt_of_cell? w _ hw553_1)).trans hw553_1),((HB.out.cell (World.block_lt_of_cell? w _ hw554_0)).trans hw554_0),((HB.out.cell (World.block_lt_of_cell? w _ hw554_1)).trans hw554_1)⟩ (fun hHeld=>?_);refine with_tabW spec_l26DistB.tab2 spec_l26DistB.bits2 (fun HT_ HW_=>?_)
  generalize w17.drew = w18 at HO551 BK548 HB hx552_0 hx553_0 hx553_1 hx554_0 hx554_1 hHeld ⊢
  refine pure_ (i:=0) (N:=some 18) (v:=?_) (a':=?_) (pw 20 1) rfl rfl (any_of HT_.out (by kernel_rfl)) (fun _ _ _ h=>h) (Or.inl ⟨by rfl,?_⟩) ?_ ?_;rotate_left
  ·intro w';go_simp;with_reducible rfl
  rotate_left;·simp only [Act.put,za,zb,zc,i64_w,i32_w];rfl
  refine pure_ (i:=1) (N:=some 19) (v:=?_) (a':=?_) (pw 20 2) rfl rfl (any_of HT_.out (by kernel_rfl)) (fun _ _ _ h=>h) (Or.inl ⟨by rfl,?_⟩) ?_ ?_;rotate_left
  ·intro w';go_simp;with_reducible rfl
  rotate_left;·simp only [Act.put,za,zb,zc,i64_w,i32_w];rfl
  refine pure_ (i:=2) (N:=some 20) (v:=?_) (a':=?_) (pw 20 3) rfl rfl (any_of HT_.out (by kernel_rfl)) (fun _ _ _ h=>h) (Or.inl ⟨by rfl,?_⟩) ?_ ?_;rotate_left
  ·intro w';go_simp;with_reducible rfl
  rotate_left;·simp only [Act.put,za,zb,zc,i64_w,i32_w];rfl
  refine pure_ (i:=3) (N:=some 21) (v:=?_) (a':=?_) (pw 20 4) rfl rfl (any_of HT_.out (by kernel_rfl)) (fun _ _ _ h=>h) (Or.inl ⟨by rfl,?_⟩) ?_ ?_;rotate_left
  ·intro w';go_simp;with_reducible rfl
  rotate_left;·simp only [Act.put,za,zb,zc,i64_w,i32_w];rfl
  refine pure_ (i:=4) (N:=some 22) (v:=?_) (a':=?_) (pw 20 5) rfl rfl (any_of HT_.out (by kernel_rfl)) (fun _ _ _ h=>h) (Or.inl ⟨by rfl,?_⟩) ?_ ?_;rotate_left
  ·intro w';go_simp;with_reducible rfl
  rotate_left;·simp only [Act.put,za,zb,zc,i64_w,i32_w];rfl
  refine pure_ (i:=7) (N:=some 25) (v:=?_) (a':=?_) (bw 20 159) rfl rfl (any_of HT_.out (by kernel_rfl)) (fun _ _ _ h=>h) (Or.inl ⟨by rfl,?_⟩) ?_ ?_;rotate_left
  ·intro w';go_simp;with_reducible rfl
  rotate_left;·simp only [Act.put,za,zb,zc,i64_w,i32_w];rfl
  refine pure_ (i:=8) (N:=some 26) (v:=?_) (a':=?_) (bw 20 415) rfl rfl (any_of HT_.out (by kernel_rfl)) (fun _ _ _ h=>h) (Or.inl ⟨by rfl,?_⟩) ?_ ?_;rotate_left
  ·intro w';go_simp;with_reducible rfl
  rotate_left;·simp only [Act.put,za,zb,zc,i64_w,i32_w];rfl
  refine pure_ (i:=9) (N:=some 27) (v:=?_) (a':=?_) (bw 20 927) rfl rfl (any_of HT_.out (by kernel_rfl)) (fun _ _ _ h=>h) (Or.inl ⟨by rfl,?_⟩) ?_ ?_;rotate_left
  ·intro w';go_simp;with_reducible rfl
  rotate_left;·simp only [Act.put,za,zb,zc,i64_w,i32_w];rfl
  refine pure_ (i:=10) (N:=some 28) (v:=?_) (a':=?_) (bw 20 1951) rfl rfl (any_of HT_.out (by kernel_rfl)) (fun _ _ _ h=>h) (Or.inl ⟨by rfl,?_⟩) ?_ ?_;rotate_left
  ·intro w';go_simp;with_reducible rfl
  rotate_left;·simp only [Act.put,za,zb,zc,i64_w,i32_w];rfl
  refine pure_ (i:=12) (N:=some 30) (v:=?_) (a':=?_) (bw 20 6047) rfl rfl (any_of HT_.out (by kernel_rfl)) (fun _ _ _ h=>h) (Or.inl ⟨by rfl,?_⟩) ?_ ?_;rotate_left
  ·intro w';go_simp;with_reducible rfl
  rotate_left;·simp only [Act.put,za,zb,zc,i64_w,i32_w];rfl
  refine pure_ (i:=13) (N:=some 31) (v:=?_) (a':=?_) (bw 20 14239) rfl rfl (any_of HT_.out (by kernel_rfl)) (fun _ _ _ h=>h) (Or.inl ⟨by rfl,?_⟩) ?_ ?_;rotate_left
  ·intro w';go_simp;with_reducible rfl
  rotate_left;·simp only [Act.put,za,zb,zc,i64_w,i32_w];rfl
  refine pure_ (i:=14) (N:=some 32) (v:=?_) (a':=?_) (bw 20 30623) rfl rfl (any_of HT_.out (by kernel_rfl)) (fun _ _ _ h=>h) (Or.inl ⟨by rfl,?_⟩) ?_ ?_;rotate_left
  ·intro w';go_simp;with_reducible rfl
  rotate_left;·simp only [Act.put,za,zb,zc,i64_w,i32_w];rfl
  refine pure_ (i:=15) (N:=some 33) (v:=?_) (a':=?_) (bw 20 63391) rfl rfl (any_of HT_.out (by kernel_rfl)) (fun _ _ _ h=>h) (Or.inl ⟨by rfl,?_⟩) ?_ ?_;rotate_left
  ·intro w';go_simp;with_reducible rfl
  rotate_left;·simp only [Act.put,za,zb,zc,i64_w,i32_w];rfl
  refine take_ (i:=5) (N:=some 23) (v:=?_) (a':=?_) (bw 20 63423) rfl rfl (take_ofW HT_.out HW_.out (by kernel_rfl)) (fun _ _ _ h=>h) (Or.inl ⟨by rfl,?_⟩) hHeld ?_ ?_;rotate_left
  ·rintro w' ⟨s0,s1,s2,s3,s4,s5,s6,s7⟩
   go_simp;with_reducible rfl
  rotate_left;·simp only [Act.put,za,zb,zc,i64_w,i32_w];rfl
  refine take_ (i:=6) (N:=some 24) (v:=?_) (a':=?_) (bw 20 63487) rfl rfl (take_ofW HT_.out HW_.out (by kernel_rfl)) (fun _ _ _ h=>h) (Or.inl ⟨by rfl,?_⟩) hHeld ?_ ?_;rotate_left
  ·rintro w' ⟨s0,s1,s2,s3,s4,s5,s6,s7⟩
   go_simp;with_reducible rfl
  rotate_left;·simp only [Act.put,za,zb,zc,i64_w,i32_w];rfl
  refine take_ (i:=11) (N:=some 29) (v:=?_) (a':=?_) (pw 20 16) rfl rfl (take_ofW HT_.out HW_.out (by kernel_rfl)) (fun _ _ _ h=>h) (Or.inl ⟨by rfl,?_⟩) hHeld ?_ ?_;rotate_left
  ·rintro w' ⟨s0,s1,s2,s3,s4,s5,s6,s7⟩
   go_simp;with_reducible rfl
  rotate_left;·simp only [Act.put,za,zb,zc,i64_w,i32_w];rfl
  refine take_ (i:=16) (N:=some 34) (v:=?_) (a':=?_) (pw 20 17) rfl rfl (take_ofW HT_.out HW_.out (by kernel_rfl)) (fun _ _ _ h=>h) (Or.inl ⟨by rfl,?_⟩) hHeld ?_ ?_;rotate_left
  ·rintro w' ⟨s0,s1,s2,s3,s4,s5,s6,s7⟩
   go_simp;with_reducible rfl
  rotate_left;·simp only [Act.put,za,zb,zc,i64_w,i32_w];rfl
  refine one_ (i:=17) (N:=some 35) (pw 20 18) rfl rfl (one_of HT_.out (by kernel_rfl)) (by decide) (fun K hK=>?_);refine goes_ Try.func66 (by kernel_rfl) rfl #[.agg #[.slice A2_0 l2_0.length c2_0,.slice A2_1 l2_1.length c2_1,.slice A2_2 l2_2.length c2_2],.int .i64 ((rd_T59 l0 a3).f0),.int .i64 ((rd_T59 l1 a4).f0)] (by rfl) rfl rfl (by (try simp only [List.map_toArray,List.map_cons,List.map_nil]);first | done | rfl | (simp only [List.length_drop,List.length_take];rfl)) ?_;with_reducible refine (spec_RelCost.calls k _ _ l2_0 _ _ l2_1 _ _ l2_2 ((rd_T59 l0 a3).f0) ((rd_T59 l1 a4).f0) t555 _ ?side1 ?side2 ?side3 ?side4 ?side5 ?side6 A14.out).mono ?_
  (case side1=>exact laC (Kd.C_below HR2_0.out HB.out));(case side2=>exact HC2_0.out);(case side3=>exact laC (Kd.C_below HR2_1.out HB.out));(case side4=>exact HC2_1.out);(case side5=>exact laC (Kd.C_below HR2_2.out HB.out));(case side6=>exact HC2_2.out);rintro e w20 ⟨rfl,hb⟩;have HS3_:=(hb.cell (World.block_lt_of_cell? _ _ (hHeld.2.2.2.1))).trans (hHeld.2.2.2.1);refine ⟨_,rfl,?_⟩;replace HO551:=Aside0.mk (laRb HO551.out hb);replace BK548:=Aside0.mk (laKb BK548.out hb);replace HB:=Aside0.mk (below_step (laB HB.out) hb);(try clear hb);(try clear hb2);(try clear hk);(try clear hi);refine hK.out _ _ ⟨(blk_cell BK548.out 0).trans rfl,(blk_cell BK548.out 1).trans rfl,(blk_cell BK548.out 2).trans rfl,HS3_,((HB.out.cell (World.block_lt_of_cell? w _ hw553_0)).trans hw553_0),((HB.out.cell (World.block_lt_of_cell? w _ hw553_1)).trans hw553_1),((HB.out.cell (World.block_lt_of_cell? w _ hw554_0)).trans hw554_0),((HB.out.cell (World.block_lt_of_cell? w _ hw554_1)).trans hw554_1)⟩ (fun hHeld=>?_);clear hK K;refine norm_ (a':=?_) ?_ ?_;rotate_left
  ·show Act.put _ (some 35) _ = _
   simp only [Act.put,za,zb,zc,i64_w,i32_w];rfl
  refine pure_ (i:=18) (N:=some 36) (v:=?_) (a':=?_) (pw 20 19) rfl rfl (any_of HT_.out (by kernel_rfl)) (fun _ _ _ h=>h) (Or.inl ⟨by rfl,?_⟩) ?_ ?_;rotate_left
  ·intro w';go_simp;with_reducible rfl
  rotate_left;·simp only [Act.put,za,zb,zc,i64_w,i32_w];rfl
  refine pure_ (i:=19) (N:=some 10) (v:=?_) (a':=?_) (pw 20 20) rfl rfl (any_of HT_.out (by kernel_rfl)) (fun _ _ _ h=>h) (Or.inl ⟨by rfl,?_⟩) ?_ ?_;rotate_left
  ·intro w';go_simp;with_reducible rfl
  rotate_left;·simp only [Act.put,za,zb,zc,i64_w,i32_w];rfl
  refine done_ (done_of HT_.out (by kernel_rfl)) ?_
  try go_wp2
  go_ret
  exact ⟨by first | rfl | (simp [errW_none,errW_some] <;> rfl) | (simp only [← hji7];first | rfl | (simp [errW_none,errW_some] <;> rfl)) | (simp [*,errW_none,errW_some] <;> rfl),laB HB.out⟩
 ·rw [if_neg c8] at H
  exact absurd H (by simp)
end
def spec_l26Dist.f : Nat → (List (S59)) → (List (S59)) → (List Int) → (List Int) → (List Int) → Int → Int → Option (Int)
  | 0=>fun _ _ _ _ _ _ _=>none
  | k + 1=>fun a0 a1 a2 a3 a4 a5 a6=>@spec_l26DistB.f ⟨fun _=>spec_l26Dist.f k,fun _ _ _ _ _ _ _ _=>LeO.refl _⟩ (k + 1) a0 a1 a2 a3 a4 a5 a6
abbrev spec_l26Dist.o (k : Nat) : spec_l26Dist_O:=⟨fun _=>spec_l26Dist.f k,fun _ _ _ _ _ _ _ _=>LeO.refl _⟩
theorem spec_l26Dist.mono : ∀ a0 a1 a2 a3 a4 a5 a6 k,LeO (spec_l26Dist.f k a0 a1 a2 a3 a4 a5 a6) (spec_l26Dist.f (k + 1) a0 a1 a2 a3 a4 a5 a6):=by
  intro a0 a1 a2 a3 a4 a5 a6 k
  induction k generalizing a0 a1 a2 a3 a4 a5 a6 with
  | zero=>exact LeO.none _
  | succ k ih=>exact LeO.trans (@spec_l26DistB.omono (spec_l26Dist.o k) (spec_l26Dist.o (k + 1)) (k + 1) (fun j _ b0 b1 b2 b3 b4 b5 b6=>ih b0 b1 b2 b3 b4 b5 b6) a0 a1 a2 a3 a4 a5 a6) (@spec_l26DistB.mono (spec_l26Dist.o (k + 1)) a0 a1 a2 a3 a4 a5 a6 (k + 1))
instance spec_l26Dist.inst : spec_l26Dist_O:=⟨spec_l26Dist.f,spec_l26Dist.mono⟩
set_option maxHeartbeats 2000000 in
theorem spec_l26Dist.calls_k (K : Nat) : ∀ (k : Nat) (A0 : Option Addr) (c0 : Nat) (l0 : List (S59)) (A1 : Option Addr) (c1 : Nat) (l1 : List (S59)) (A2_0 : Option Addr) (c2_0 : Nat) (l2_0 : List Int) (A2_1 : Option Addr) (c2_1 : Nat) (l2_1 : List Int) (A2_2 : Option Addr) (c2_2 : Nat) (l2_2 : List Int) (a3 : Int) (a4 : Int) (r : Int) (w : World) (hr0 : Kd.C k59 w A0 l0.length l0) (hc0 : l0.length ≤ c0) (hr1 : Kd.C k59 w A1 l1.length l1) (hc1 : l1.length ≤ c1) (hr2_0 : Kd.C (Kd.int .i64) w A2_0 l2_0.length l2_0) (hc2_0 : l2_0.length ≤ c2_0) (hr2_1 : Kd.C (Kd.int .i64) w A2_1 l2_1.length l2_1) (hc2_1 : l2_1.length ≤ c2_1) (hr2_2 : Kd.C (Kd.int .i64) w A2_2 l2_2.length l2_2) (hc2_2 : l2_2.length ≤ c2_2) (h : spec_l26Dist.f K l0 l1 l2_0 l2_1 l2_2 a3 a4 = some r),Calls Try.prog 51 #[.slice A0 l0.length c0,.slice A1 l1.length c1,.agg #[.slice A2_0 l2_0.length c2_0,.slice A2_1 l2_1.length c2_1,.slice A2_2 l2_2.length c2_2],.int .i64 a3,.int .i64 a4] w fun e w'=>e = .returned (.int .i64 r) ∧ Below w.heap.size w w':=by
  induction K with
  | zero=>intro k A0 c0 l0 A1 c1 l1 A2_0 c2_0 l2_0 A2_1 c2_1 l2_1 A2_2 c2_2 l2_2 a3 a4 r w hr0 hc0 hr1 hc1 hr2_0 hc2_0 hr2_1 hc2_1 hr2_2 hc2_2 h;cases h
  | succ K ih =>
    intro k A0 c0 l0 A1 c1 l1 A2_0 c2_0 l2_0 A2_1 c2_1 l2_1 A2_2 c2_2 l2_2 a3 a4 r w hr0 hc0 hr1 hc1 hr2_0 hc2_0 hr2_1 hc2_1 hr2_2 hc2_2 h;exact @spec_l26DistB.calls (spec_l26Dist.o K) (by refine @spec_l26Dist_C.mk (spec_l26Dist.o K) (fun k=>?_);exact ih 0) (K + 1) A0 c0 l0 A1 c1 l1 A2_0 c2_0 l2_0 A2_1 c2_1 l2_1 A2_2 c2_2 l2_2 a3 a4 r w hr0 hc0 hr1 hc1 hr2_0 hc2_0 hr2_1 hc2_1 hr2_2 hc2_2 h
instance spec_l26Dist.instC : spec_l26Dist_C:=⟨fun k=>spec_l26Dist.calls_k k 0⟩
theorem spec_l26Dist.calls (k : Nat) (A0 : Option Addr) (c0 : Nat) (l0 : List (S59)) (A1 : Option Addr) (c1 : Nat) (l1 : List (S59)) (A2_0 : Option Addr) (c2_0 : Nat) (l2_0 : List Int) (A2_1 : Option Addr) (c2_1 : Nat) (l2_1 : List Int) (A2_2 : Option Addr) (c2_2 : Nat) (l2_2 : List Int) (a3 : Int) (a4 : Int) (r : Int) (w : World) (hr0 : Kd.C k59 w A0 l0.length l0) (hc0 : l0.length ≤ c0) (hr1 : Kd.C k59 w A1 l1.length l1) (hc1 : l1.length ≤ c1) (hr2_0 : Kd.C (Kd.int .i64) w A2_0 l2_0.length l2_0) (hc2_0 : l2_0.length ≤ c2_0) (hr2_1 : Kd.C (Kd.int .i64) w A2_1 l2_1.length l2_1) (hc2_1 : l2_1.length ≤ c2_1) (hr2_2 : Kd.C (Kd.int .i64) w A2_2 l2_2.length l2_2) (hc2_2 : l2_2.length ≤ c2_2) (h : spec_l26Dist.f k l0 l1 l2_0 l2_1 l2_2 a3 a4 = some r) : Calls Try.prog 51 #[.slice A0 l0.length c0,.slice A1 l1.length c1,.agg #[.slice A2_0 l2_0.length c2_0,.slice A2_1 l2_1.length c2_1,.slice A2_2 l2_2.length c2_2],.int .i64 a3,.int .i64 a4] w fun e w'=>e = .returned (.int .i64 r) ∧ Below w.heap.size w w':=spec_l26Dist.calls_k k 0 A0 c0 l0 A1 c1 l1 A2_0 c2_0 l2_0 A2_1 c2_1 l2_1 A2_2 c2_2 l2_2 a3 a4 r w hr0 hc0 hr1 hc1 hr2_0 hc2_0 hr2_1 hc2_1 hr2_2 hc2_2 h


/-! ### spec_TopDist: function 23 -/
def spec_TopDist.f (k : Nat) (l0 : List (S59)) (l1 : List (S59)) (l2_0 : List Int) (l2_1 : List Int) (l2_2 : List Int) : Option (Int):=(spec_l8Three.f k l0 l1 l2_0 l2_1 l2_2).bind fun t557=>(if t557 = true then ((spec_l26Dist.f k l0 l1 l2_0 l2_1 l2_2 0 0).bind fun t558=>(some t558)) else (some (-1)))
theorem spec_TopDist.mono : ∀ a0 a1 a2 a3 a4 k,LeO (spec_TopDist.f k a0 a1 a2 a3 a4) (spec_TopDist.f (k + 1) a0 a1 a2 a3 a4):=by
 intro a0 a1 a2 a3 a4 k
 unfold spec_TopDist.f
 repeat' first
   | (with_reducible exact spec_l26Dist.mono _ _ _ _ _ _ _ _)
   | (with_reducible exact spec_l8Three.mono _ _ _ _ _ _)
   | (with_reducible exact LeO.refl _)
   | (with_reducible exact LeO.none _)
   | (with_reducible refine LeO.ite ?_ ?_)
   | (with_reducible refine LeO.bind ?_ (fun _=>?_))
   | exact spec_l26Dist.mono _ _ _ _ _ _ _ _
   | exact spec_l8Three.mono _ _ _ _ _ _
   | exact LeO.none _
   | refine LeO.ite ?_ ?_
   | refine LeO.bind ?_ (fun _=>?_)
set_option maxHeartbeats 8000000 in
set_option maxRecDepth 100000 in
theorem spec_TopDist.calls (k : Nat) (A0 : Option Addr) (c0 : Nat) (l0 : List (S59)) (A1 : Option Addr) (c1 : Nat) (l1 : List (S59)) (A2_0 : Option Addr) (c2_0 : Nat) (l2_0 : List Int) (A2_1 : Option Addr) (c2_1 : Nat) (l2_1 : List Int) (A2_2 : Option Addr) (c2_2 : Nat) (l2_2 : List Int) (r : Int) (w : World) (hr0 : Kd.C k59 w A0 l0.length l0) (hc0 : l0.length ≤ c0) (hr1 : Kd.C k59 w A1 l1.length l1) (hc1 : l1.length ≤ c1) (hr2_0 : Kd.C (Kd.int .i64) w A2_0 l2_0.length l2_0) (hc2_0 : l2_0.length ≤ c2_0) (hr2_1 : Kd.C (Kd.int .i64) w A2_1 l2_1.length l2_1) (hc2_1 : l2_1.length ≤ c2_1) (hr2_2 : Kd.C (Kd.int .i64) w A2_2 l2_2.length l2_2) (hc2_2 : l2_2.length ≤ c2_2) (h : spec_TopDist.f k l0 l1 l2_0 l2_1 l2_2 = some r) :
  Calls Try.prog 23 #[.slice A0 l0.length c0,.slice A1 l1.length c1,.agg #[.slice A2_0 l2_0.length c2_0,.slice A2_1 l2_1.length c2_1,.slice A2_2 l2_2.length c2_2]] w fun e w'=>e = .returned (.int .i64 r) ∧ Below w.heap.size w w':=by
 have hu37:=Try.underlying37
 have HR0:=Aside0.mk hr0
 have HC0:=Aside0.mk hc0
 clear hr0 hc0
 have HR1:=Aside0.mk hr1
 have HC1:=Aside0.mk hc1
 clear hr1 hc1
 have HR2_0:=Aside0.mk hr2_0
 have HC2_0:=Aside0.mk hc2_0
 clear hr2_0 hc2_0
 have HR2_1:=Aside0.mk hr2_1
 have HC2_1:=Aside0.mk hc2_1
 clear hr2_1 hc2_1
 have HR2_2:=Aside0.mk hr2_2
 have HC2_2:=Aside0.mk hc2_2
 clear hr2_2 hc2_2
 have HB:=Aside0.mk (Below.refl w.heap.size w)
 have H : ((spec_l8Three.f k l0 l1 l2_0 l2_1 l2_2).bind fun t557=>(if t557 = true then ((spec_l26Dist.f k l0 l1 l2_0 l2_1 l2_2 0 0).bind fun t558=>(some t558)) else (some (-1)))) = some r:=h
 clear h
 replace H:=Option.bind_eq_some_iff.mp H
 obtain ⟨t557,A40,H⟩:=H
 have A4:=Aside0.mk A40
 clear A40
 by_cases c5 : t557 = true
 ·subst c5
  rw [if_pos rfl] at H;replace H:=Option.bind_eq_some_iff.mp H
  obtain ⟨t558,A60,H⟩:=H
  have A6:=Aside0.mk A60;clear A60
  obtain rfl:=Option.some.inj H
  go_enter Try.func23,Try.ntmps23
  go_wp2_with (first | ((with_reducible refine gate_dst (N:=5) rfl ?_);refine box_event ?hg (N:=5) ?hd (cs:=#[.slice A2_0 l2_0.length c2_0,.slice A2_1 l2_1.length c2_1,.slice A2_2 l2_2.length c2_2]) (t:=37) ?hr ?_;(case hd=>rfl);(case hg=>rfl);(case hr=>first | (go_simp;done) | (go_simp;rfl));intro gb556 hg w7 hbox hb;have BK556:=Aside0.mk (hbox);have GW556:=Aside0.mk ((by rw [hg];exact (below_size (laB HB.out)) : w.heap.size ≤ gb556));have GE556:=Aside0.mk ((by rw [hg];exact (below_size (laB HB.out)) : w.heap.size ≤ gb556));have ge556_:=Nonempty.intro GE556.out;replace HB:=Aside0.mk (below_step (laB HB.out) hb);clear hb hbox hg;have hcz8_0 : w7.cell? ⟨gb556,0,none⟩ = some (.slice A2_0 l2_0.length c2_0):=(blk_cell BK556.out 0).trans rfl;have hcz8_1 : w7.cell? ⟨gb556,1,none⟩ = some (.slice A2_1 l2_1.length c2_1):=(blk_cell BK556.out 1).trans rfl;have hcz8_2 : w7.cell? ⟨gb556,2,none⟩ = some (.slice A2_2 l2_2.length c2_2):=(blk_cell BK556.out 2).trans rfl;have hfz8_0:=blk_frozen BK556.out 0;have hfz8_1:=blk_frozen BK556.out 1;have hfz8_2:=blk_frozen BK556.out 2) | ((with_reducible refine gate_callee (f:=44) rfl ?_);refine goesL_ (some 10) rfl rfl Try.func44 (by kernel_rfl) rfl #[.slice A0 l0.length c0,.slice A1 l1.length c1,.agg #[.slice A2_0 l2_0.length c2_0,.slice A2_1 l2_1.length c2_1,.slice A2_2 l2_2.length c2_2]] rfl (by (try simp only [List.map_toArray,List.map_cons,List.map_nil]);first | done | rfl | (simp only [List.length_drop,List.length_take];rfl)) ?_;(with_reducible refine (spec_l8Three.calls k _ _ l0 _ _ l1 _ _ l2_0 _ _ l2_1 _ _ l2_2 true _ ?side1 ?side2 ?side3 ?side4 ?side5 ?side6 ?side7 ?side8 ?side9 ?side10 A4.out).mono ?_);(case side1=>exact laC (Kd.C_below HR0.out HB.out));(case side2=>exact HC0.out);(case side3=>exact laC (Kd.C_below HR1.out HB.out));(case side4=>exact HC1.out);(case side5=>exact laC (Kd.C_below HR2_0.out HB.out));(case side6=>exact HC2_0.out);(case side7=>exact laC (Kd.C_below HR2_1.out HB.out));(case side8=>exact HC2_1.out);(case side9=>exact laC (Kd.C_below HR2_2.out HB.out));(case side10=>exact HC2_2.out);rintro e w9 ⟨rfl,hb⟩;refine ⟨_,rfl,?_⟩;replace BK556:=Aside0.mk (laKb BK556.out hb);replace HB:=Aside0.mk (below_step (laB HB.out) hb);(try clear hb);(try clear hb2);(try clear hk);(try clear hi);have hcz10_0 : w9.cell? ⟨gb556,0,none⟩ = some (.slice A2_0 l2_0.length c2_0):=(blk_cell BK556.out 0).trans rfl;have hcz10_1 : w9.cell? ⟨gb556,1,none⟩ = some (.slice A2_1 l2_1.length c2_1):=(blk_cell BK556.out 1).trans rfl;have hcz10_2 : w9.cell? ⟨gb556,2,none⟩ = some (.slice A2_2 l2_2.length c2_2):=(blk_cell BK556.out 2).trans rfl;have hfz10_0:=blk_frozen BK556.out 0;have hfz10_1:=blk_frozen BK556.out 1;have hfz10_2:=blk_frozen BK556.out 2) | ((with_reducible refine gate_callee (f:=51) rfl ?_);refine goesL_ (some 15) rfl rfl Try.func51 (by kernel_rfl) rfl #[.slice A0 l0.length c0,.slice A1 l1.length c1,.agg #[.slice A2_0 l2_0.length c2_0,.slice A2_1 l2_1.length c2_1,.slice A2_2 l2_2.length c2_2],.int .i64 0,.int .i64 0] rfl (by (try simp only [List.map_toArray,List.map_cons,List.map_nil]);first | done | rfl | (simp only [List.length_drop,List.length_take];rfl)) ?_;(with_reducible refine (spec_l26Dist.calls k _ _ l0 _ _ l1 _ _ l2_0 _ _ l2_1 _ _ l2_2 0 0 t558 _ ?side1 ?side2 ?side3 ?side4 ?side5 ?side6 ?side7 ?side8 ?side9 ?side10 A6.out).mono ?_);(case side1=>exact laC (Kd.C_below HR0.out HB.out));(case side2=>exact HC0.out);(case side3=>exact laC (Kd.C_below HR1.out HB.out));(case side4=>exact HC1.out);(case side5=>exact laC (Kd.C_below HR2_0.out HB.out));(case side6=>exact HC2_0.out);(case side7=>exact laC (Kd.C_below HR2_1.out HB.out));(case side8=>exact HC2_1.out);(case side9=>exact laC (Kd.C_below HR2_2.out HB.out));(case side10=>exact HC2_2.out);rintro e w11 ⟨rfl,hb⟩;refine ⟨_,rfl,?_⟩;replace BK556:=Aside0.mk (laKb BK556.out hb);replace HB:=Aside0.mk (below_step (laB HB.out) hb);(try clear hb);(try clear hb2);(try clear hk);(try clear hi)))
  go_ret
  exact ⟨by first | rfl | (simp [errW_none,errW_some] <;> rfl) | (simp [*,errW_none,errW_some] <;> rfl),laB HB.out⟩
 ·replace c5:=Bool.eq_false_iff.mpr c5
  subst c5;rw [if_neg (show ¬ (false = true) by decide)] at H
  obtain rfl:=Option.some.inj H
  go_enter Try.func23,Try.ntmps23
  go_wp2_with (first | ((with_reducible refine gate_dst (N:=5) rfl ?_);refine box_event ?hg (N:=5) ?hd (cs:=#[.slice A2_0 l2_0.length c2_0,.slice A2_1 l2_1.length c2_1,.slice A2_2 l2_2.length c2_2]) (t:=37) ?hr ?_;(case hd=>rfl);(case hg=>rfl);(case hr=>first | (go_simp;done) | (go_simp;rfl));intro gb556 hg w12 hbox hb;have BK556:=Aside0.mk (hbox);have GW556:=Aside0.mk ((by rw [hg];exact (below_size (laB HB.out)) : w.heap.size ≤ gb556));have GE556:=Aside0.mk ((by rw [hg];exact (below_size (laB HB.out)) : w.heap.size ≤ gb556));have ge556_:=Nonempty.intro GE556.out;replace HB:=Aside0.mk (below_step (laB HB.out) hb);clear hb hbox hg;have hcz13_0 : w12.cell? ⟨gb556,0,none⟩ = some (.slice A2_0 l2_0.length c2_0):=(blk_cell BK556.out 0).trans rfl;have hcz13_1 : w12.cell? ⟨gb556,1,none⟩ = some (.slice A2_1 l2_1.length c2_1):=(blk_cell BK556.out 1).trans rfl;have hcz13_2 : w12.cell? ⟨gb556,2,none⟩ = some (.slice A2_2 l2_2.length c2_2):=(blk_cell BK556.out 2).trans rfl;have hfz13_0:=blk_frozen BK556.out 0;have hfz13_1:=blk_frozen BK556.out 1;have hfz13_2:=blk_frozen BK556.out 2) | ((with_reducible refine gate_callee (f:=44) rfl ?_);refine goesL_ (some 10) rfl rfl Try.func44 (by kernel_rfl) rfl #[.slice A0 l0.length c0,.slice A1 l1.length c1,.agg #[.slice A2_0 l2_0.length c2_0,.slice A2_1 l2_1.length c2_1,.slice A2_2 l2_2.length c2_2]] rfl (by (try simp only [List.map_toArray,List.map_cons,List.map_nil]);first | done | rfl | (simp only [List.length_drop,List.length_take];rfl)) ?_;(with_reducible refine (spec_l8Three.calls k _ _ l0 _ _ l1 _ _ l2_0 _ _ l2_1 _ _ l2_2 false _ ?side1 ?side2 ?side3 ?side4 ?side5 ?side6 ?side7 ?side8 ?side9 ?side10 A4.out).mono ?_);(case side1=>exact laC (Kd.C_below HR0.out HB.out));(case side2=>exact HC0.out);(case side3=>exact laC (Kd.C_below HR1.out HB.out));(case side4=>exact HC1.out);(case side5=>exact laC (Kd.C_below HR2_0.out HB.out));(case side6=>exact HC2_0.out);(case side7=>exact laC (Kd.C_below HR2_1.out HB.out));(case side8=>exact HC2_1.out);(case side9=>exact laC (Kd.C_below HR2_2.out HB.out));(case side10=>exact HC2_2.out);rintro e w14 ⟨rfl,hb⟩;refine ⟨_,rfl,?_⟩;replace BK556:=Aside0.mk (laKb BK556.out hb);replace HB:=Aside0.mk (below_step (laB HB.out) hb);(try clear hb);(try clear hb2);(try clear hk);(try clear hi)))
  go_ret
  exact ⟨by first | rfl | (simp [errW_none,errW_some] <;> rfl) | (simp [*,errW_none,errW_some] <;> rfl),laB HB.out⟩


end Go.Proofs.Ytockkelkdimehaa.P
