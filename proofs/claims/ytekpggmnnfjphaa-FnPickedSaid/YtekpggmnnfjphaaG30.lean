-- Written by this session's program mk.py with the kit's print program, out of the translation; not by hand. Lean checks it.
import Derived.Test.YtekpggmnnfjphaaP0
import Derived.Test.YtekpggmnnfjphaaG104
import Derived.Test.YtekpggmnnfjphaaG13
import Derived.Test.YtekpggmnnfjphaaG90
import Derived.Test.YtekpggmnnfjphaaG92
namespace Go.Proofs.Ytekpggmnnfjphaa.P
open Go.RowKit Go.Proofs.YtekpggmnnfjphaaW.PrintWords Go.Proofs.YtekpggmnnfjphaaW.PrintLast Go.Proofs.YtekpggmnnfjphaaW.PrintMore
attribute [local go_sem] max2_int min2_int max_two min_two max_three min_three max_four min_four   -- for this text's walks alone
set_option linter.unusedVariables false
set_option linter.unusedSimpArgs false


/-! ### impl_Select: function 30 -/
mutual
def impl_Select.j0 : Nat → List (S56) → List Int → Bool → List (S48) → Option (List Int)
 | 0, _, _, _, _ => none
 | k + 1, x1, x5, x20, x937000 => if x20 = true then (some x5) else (impl_Select.l0 k x5 x1 (x1.length : Int) 0 x937000)
def impl_Select.l0 : Nat → List Int → List (S56) → Int → Int → List (S48) → Option (List Int)
 | 0, _, _, _, _, _ => none
 | k + 1, x5, x22, x23, x24, x937000 => if x24 < x23 then (if 0 ≤ x24 then (if x24 < (x22.length : Int) then (impl_Select.l1 k x5 x24 (([] : List Int)) x22 x23 x24 x937000 (x937000.length : Int) 0 x937000 ((rd_T56 x22 x24).f0) ((rd_T56 x22 x24).f1)) else (none)) else (none)) else (some x5)
def impl_Select.l1 : Nat → List Int → Int → List Int → List (S56) → Int → Int → List (S48) → Int → Int → List (S48) → Bool → Int → Option (List Int)
 | 0, _, _, _, _, _, _, _, _, _, _, _, _ => none
 | k + 1, x5, x6, x8, x22, x23, x24, x30, x31, x32, x937000, x944000, x944001 => if x32 < x31 then (if 0 ≤ x32 then (if x32 < (x30.length : Int) then (if x6 = 0 then (if x944000 = true then (impl_Select.j3 k x5 x6 x8 true x22 x23 x24 x30 x31 x32 x937000 x944000 x944001 x32 ((rd_T48 x30 x32).f0) ((rd_T48 x30 x32).f1)) else (impl_Select.j3 k x5 x6 x8 (x32 == 0) x22 x23 x24 x30 x31 x32 x937000 x944000 x944001 x32 ((rd_T48 x30 x32).f0) ((rd_T48 x30 x32).f1))) else (impl_Select.j3 k x5 x6 x8 false x22 x23 x24 x30 x31 x32 x937000 x944000 x944001 x32 ((rd_T48 x30 x32).f0) ((rd_T48 x30 x32).f1))) else (none)) else (none)) else (impl_Select.l0 k x8 x22 x23 (wrap64 (x24 + 1)) x937000)
def impl_Select.j3 : Nat → List Int → Int → List Int → Bool → List (S56) → Int → Int → List (S48) → Int → Int → List (S48) → Bool → Int → Int → Int → Int → Option (List Int)
 | 0, _, _, _, _, _, _, _, _, _, _, _, _, _, _, _, _ => none
 | k + 1, x5, x6, x8, x11, x22, x23, x24, x30, x31, x32, x937000, x944000, x944001, x949000, x950000, x950001 => if x6 > 0 then (impl_Select.j4 k x5 x6 x8 x11 x22 x23 x24 x30 x31 x32 x944000 x937000 x944000 x944001 x949000 x950000 x950001) else (impl_Select.j4 k x5 x6 x8 x11 x22 x23 x24 x30 x31 x32 false x937000 x944000 x944001 x949000 x950000 x950001)
def impl_Select.j4 : Nat → List Int → Int → List Int → Bool → List (S56) → Int → Int → List (S48) → Int → Int → Bool → List (S48) → Bool → Int → Int → Int → Int → Option (List Int)
 | 0, _, _, _, _, _, _, _, _, _, _, _, _, _, _, _, _, _ => none
 | k + 1, x5, x6, x8, x11, x22, x23, x24, x30, x31, x32, x52, x937000, x944000, x944001, x949000, x950000, x950001 => if x52 = true then ((slices_ContainsFunc_int_int__Select_lit1.f k x5 x937000 x949000).bind fun t950 => (if t950 = true then (if x944001 = (-1) then (if x8.length < 17592186044416 then (impl_Select.l1 k x5 x6 (x8 ++ [x949000]) x22 x23 x24 x30 x31 (wrap64 (x32 + 1)) x937000 x944000 x944001) else (none)) else (if x944001 = x950000 then (if x8.length < 17592186044416 then (impl_Select.l1 k x5 x6 (x8 ++ [x949000]) x22 x23 x24 x30 x31 (wrap64 (x32 + 1)) x937000 x944000 x944001) else (none)) else (impl_Select.l1 k x5 x6 x8 x22 x23 x24 x30 x31 (wrap64 (x32 + 1)) x937000 x944000 x944001))) else (impl_Select.l1 k x5 x6 x8 x22 x23 x24 x30 x31 (wrap64 (x32 + 1)) x937000 x944000 x944001))) else (if x6 > 0 then ((impl_ParentOf.f k x937000 x949000).bind fun t957 => ((slices_Contains_int_int.f k x5 t957).bind fun t958 => (if t958 = true then (if x944001 = (-1) then (if x8.length < 17592186044416 then (impl_Select.l1 k x5 x6 (x8 ++ [x949000]) x22 x23 x24 x30 x31 (wrap64 (x32 + 1)) x937000 x944000 x944001) else (none)) else (if x944001 = x950000 then (if x8.length < 17592186044416 then (impl_Select.l1 k x5 x6 (x8 ++ [x949000]) x22 x23 x24 x30 x31 (wrap64 (x32 + 1)) x937000 x944000 x944001) else (none)) else (impl_Select.l1 k x5 x6 x8 x22 x23 x24 x30 x31 (wrap64 (x32 + 1)) x937000 x944000 x944001))) else (impl_Select.l1 k x5 x6 x8 x22 x23 x24 x30 x31 (wrap64 (x32 + 1)) x937000 x944000 x944001)))) else (if x11 = true then (if x944001 = (-1) then (if x8.length < 17592186044416 then (impl_Select.l1 k x5 x6 (x8 ++ [x949000]) x22 x23 x24 x30 x31 (wrap64 (x32 + 1)) x937000 x944000 x944001) else (none)) else (if x944001 = x950000 then (if x8.length < 17592186044416 then (impl_Select.l1 k x5 x6 (x8 ++ [x949000]) x22 x23 x24 x30 x31 (wrap64 (x32 + 1)) x937000 x944000 x944001) else (none)) else (impl_Select.l1 k x5 x6 x8 x22 x23 x24 x30 x31 (wrap64 (x32 + 1)) x937000 x944000 x944001))) else (impl_Select.l1 k x5 x6 x8 x22 x23 x24 x30 x31 (wrap64 (x32 + 1)) x937000 x944000 x944001)))
end
def impl_Select.f (k : Nat) (l0 : List (S48)) (l1 : List (S56)) : Option (List Int) := (some (([] : List Int) : List Int)).bind fun y937 => ((impl_TreeOk.f k l0).bind fun t940 => (if t940 = true then ((impl_QueryOk.f k l1).bind fun t941 => (impl_Select.j0 k l1 y937 (!t941) l0)) else (impl_Select.j0 k l1 y937 true l0)))
theorem impl_Select.mono_l : ∀ k, (∀ y0 y1 y2 y3, LeO (impl_Select.j0 k y0 y1 y2 y3) (impl_Select.j0 (k + 1) y0 y1 y2 y3)) ∧ (∀ y0 y1 y2 y3 y4, LeO (impl_Select.l0 k y0 y1 y2 y3 y4) (impl_Select.l0 (k + 1) y0 y1 y2 y3 y4)) ∧ (∀ y0 y1 y2 y3 y4 y5 y6 y7 y8 y9 y10 y11, LeO (impl_Select.l1 k y0 y1 y2 y3 y4 y5 y6 y7 y8 y9 y10 y11) (impl_Select.l1 (k + 1) y0 y1 y2 y3 y4 y5 y6 y7 y8 y9 y10 y11)) ∧ (∀ y0 y1 y2 y3 y4 y5 y6 y7 y8 y9 y10 y11 y12 y13 y14 y15, LeO (impl_Select.j3 k y0 y1 y2 y3 y4 y5 y6 y7 y8 y9 y10 y11 y12 y13 y14 y15) (impl_Select.j3 (k + 1) y0 y1 y2 y3 y4 y5 y6 y7 y8 y9 y10 y11 y12 y13 y14 y15)) ∧ (∀ y0 y1 y2 y3 y4 y5 y6 y7 y8 y9 y10 y11 y12 y13 y14 y15 y16, LeO (impl_Select.j4 k y0 y1 y2 y3 y4 y5 y6 y7 y8 y9 y10 y11 y12 y13 y14 y15 y16) (impl_Select.j4 (k + 1) y0 y1 y2 y3 y4 y5 y6 y7 y8 y9 y10 y11 y12 y13 y14 y15 y16))
 | 0 => ⟨fun _ _ _ _ r h => by simp [impl_Select.j0] at h, fun _ _ _ _ _ r h => by simp [impl_Select.l0] at h, fun _ _ _ _ _ _ _ _ _ _ _ _ r h => by simp [impl_Select.l1] at h, fun _ _ _ _ _ _ _ _ _ _ _ _ _ _ _ _ r h => by simp [impl_Select.j3] at h, fun _ _ _ _ _ _ _ _ _ _ _ _ _ _ _ _ _ r h => by simp [impl_Select.j4] at h⟩
 | k + 1 => by
  obtain ⟨ih0, ih1, ih2, ih3, ih4⟩ := impl_Select.mono_l k
  refine ⟨?_, ?_, ?_, ?_, ?_⟩
  ·intro y0 y1 y2 y3
   unfold impl_Select.j0
   repeat' first
   | (with_reducible exact ih0 _ _ _ _)
   | (with_reducible exact ih1 _ _ _ _ _)
   | (with_reducible exact ih2 _ _ _ _ _ _ _ _ _ _ _ _)
   | (with_reducible exact ih3 _ _ _ _ _ _ _ _ _ _ _ _ _ _ _ _)
   | (with_reducible exact ih4 _ _ _ _ _ _ _ _ _ _ _ _ _ _ _ _ _)
   | (with_reducible exact impl_ParentOf.mono _ _ _)
   | (with_reducible exact impl_QueryOk.mono _ _)
   | (with_reducible exact impl_TreeOk.mono _ _)
   | (with_reducible exact slices_ContainsFunc_int_int__Select_lit1.mono _ _ _ _)
   | (with_reducible exact slices_Contains_int_int.mono _ _ _)
   | (with_reducible exact LeO.refl _)
   | (with_reducible exact LeO.none _)
   | (with_reducible refine LeO.ite ?_ ?_)
   | (with_reducible refine LeO.bind ?_ (fun _ => ?_))
   | exact ih0 _ _ _ _
   | exact ih1 _ _ _ _ _
   | exact ih2 _ _ _ _ _ _ _ _ _ _ _ _
   | exact ih3 _ _ _ _ _ _ _ _ _ _ _ _ _ _ _ _
   | exact ih4 _ _ _ _ _ _ _ _ _ _ _ _ _ _ _ _ _
   | exact impl_ParentOf.mono _ _ _
   | exact impl_QueryOk.mono _ _
   | exact impl_TreeOk.mono _ _
   | exact slices_ContainsFunc_int_int__Select_lit1.mono _ _ _ _
   | exact slices_Contains_int_int.mono _ _ _
   | exact LeO.none _
   | refine LeO.ite ?_ ?_
   | refine LeO.bind ?_ (fun _ => ?_)
  ·intro y0 y1 y2 y3 y4
   unfold impl_Select.l0
   repeat' first
   | (with_reducible exact ih0 _ _ _ _)
   | (with_reducible exact ih1 _ _ _ _ _)
   | (with_reducible exact ih2 _ _ _ _ _ _ _ _ _ _ _ _)
   | (with_reducible exact ih3 _ _ _ _ _ _ _ _ _ _ _ _ _ _ _ _)
   | (with_reducible exact ih4 _ _ _ _ _ _ _ _ _ _ _ _ _ _ _ _ _)
   | (with_reducible exact impl_ParentOf.mono _ _ _)
   | (with_reducible exact impl_QueryOk.mono _ _)
   | (with_reducible exact impl_TreeOk.mono _ _)
   | (with_reducible exact slices_ContainsFunc_int_int__Select_lit1.mono _ _ _ _)
   | (with_reducible exact slices_Contains_int_int.mono _ _ _)
   | (with_reducible exact LeO.refl _)
   | (with_reducible exact LeO.none _)
   | (with_reducible refine LeO.ite ?_ ?_)
   | (with_reducible refine LeO.bind ?_ (fun _ => ?_))
   | exact ih0 _ _ _ _
   | exact ih1 _ _ _ _ _
   | exact ih2 _ _ _ _ _ _ _ _ _ _ _ _
   | exact ih3 _ _ _ _ _ _ _ _ _ _ _ _ _ _ _ _
   | exact ih4 _ _ _ _ _ _ _ _ _ _ _ _ _ _ _ _ _
   | exact impl_ParentOf.mono _ _ _
   | exact impl_QueryOk.mono _ _
   | exact impl_TreeOk.mono _ _
   | exact slices_ContainsFunc_int_int__Select_lit1.mono _ _ _ _
   | exact slices_Contains_int_int.mono _ _ _
   | exact LeO.none _
   | refine LeO.ite ?_ ?_
   | refine LeO.bind ?_ (fun _ => ?_)
  ·intro y0 y1 y2 y3 y4 y5 y6 y7 y8 y9 y10 y11
   unfold impl_Select.l1
   repeat' first
   | (with_reducible exact ih0 _ _ _ _)
   | (with_reducible exact ih1 _ _ _ _ _)
   | (with_reducible exact ih2 _ _ _ _ _ _ _ _ _ _ _ _)
   | (with_reducible exact ih3 _ _ _ _ _ _ _ _ _ _ _ _ _ _ _ _)
   | (with_reducible exact ih4 _ _ _ _ _ _ _ _ _ _ _ _ _ _ _ _ _)
   | (with_reducible exact impl_ParentOf.mono _ _ _)
   | (with_reducible exact impl_QueryOk.mono _ _)
   | (with_reducible exact impl_TreeOk.mono _ _)
   | (with_reducible exact slices_ContainsFunc_int_int__Select_lit1.mono _ _ _ _)
   | (with_reducible exact slices_Contains_int_int.mono _ _ _)
   | (with_reducible exact LeO.refl _)
   | (with_reducible exact LeO.none _)
   | (with_reducible refine LeO.ite ?_ ?_)
   | (with_reducible refine LeO.bind ?_ (fun _ => ?_))
   | exact ih0 _ _ _ _
   | exact ih1 _ _ _ _ _
   | exact ih2 _ _ _ _ _ _ _ _ _ _ _ _
   | exact ih3 _ _ _ _ _ _ _ _ _ _ _ _ _ _ _ _
   | exact ih4 _ _ _ _ _ _ _ _ _ _ _ _ _ _ _ _ _
   | exact impl_ParentOf.mono _ _ _
   | exact impl_QueryOk.mono _ _
   | exact impl_TreeOk.mono _ _
   | exact slices_ContainsFunc_int_int__Select_lit1.mono _ _ _ _
   | exact slices_Contains_int_int.mono _ _ _
   | exact LeO.none _
   | refine LeO.ite ?_ ?_
   | refine LeO.bind ?_ (fun _ => ?_)
  ·intro y0 y1 y2 y3 y4 y5 y6 y7 y8 y9 y10 y11 y12 y13 y14 y15
   unfold impl_Select.j3
   repeat' first
   | (with_reducible exact ih0 _ _ _ _)
   | (with_reducible exact ih1 _ _ _ _ _)
   | (with_reducible exact ih2 _ _ _ _ _ _ _ _ _ _ _ _)
   | (with_reducible exact ih3 _ _ _ _ _ _ _ _ _ _ _ _ _ _ _ _)
   | (with_reducible exact ih4 _ _ _ _ _ _ _ _ _ _ _ _ _ _ _ _ _)
   | (with_reducible exact impl_ParentOf.mono _ _ _)
   | (with_reducible exact impl_QueryOk.mono _ _)
   | (with_reducible exact impl_TreeOk.mono _ _)
   | (with_reducible exact slices_ContainsFunc_int_int__Select_lit1.mono _ _ _ _)
   | (with_reducible exact slices_Contains_int_int.mono _ _ _)
   | (with_reducible exact LeO.refl _)
   | (with_reducible exact LeO.none _)
   | (with_reducible refine LeO.ite ?_ ?_)
   | (with_reducible refine LeO.bind ?_ (fun _ => ?_))
   | exact ih0 _ _ _ _
   | exact ih1 _ _ _ _ _
   | exact ih2 _ _ _ _ _ _ _ _ _ _ _ _
   | exact ih3 _ _ _ _ _ _ _ _ _ _ _ _ _ _ _ _
   | exact ih4 _ _ _ _ _ _ _ _ _ _ _ _ _ _ _ _ _
   | exact impl_ParentOf.mono _ _ _
   | exact impl_QueryOk.mono _ _
   | exact impl_TreeOk.mono _ _
   | exact slices_ContainsFunc_int_int__Select_lit1.mono _ _ _ _
   | exact slices_Contains_int_int.mono _ _ _
   | exact LeO.none _
   | refine LeO.ite ?_ ?_
   | refine LeO.bind ?_ (fun _ => ?_)
  ·intro y0 y1 y2 y3 y4 y5 y6 y7 y8 y9 y10 y11 y12 y13 y14 y15 y16
   unfold impl_Select.j4
   repeat' first
   | (with_reducible exact ih0 _ _ _ _)
   | (with_reducible exact ih1 _ _ _ _ _)
   | (with_reducible exact ih2 _ _ _ _ _ _ _ _ _ _ _ _)
   | (with_reducible exact ih3 _ _ _ _ _ _ _ _ _ _ _ _ _ _ _ _)
   | (with_reducible exact ih4 _ _ _ _ _ _ _ _ _ _ _ _ _ _ _ _ _)
   | (with_reducible exact impl_ParentOf.mono _ _ _)
   | (with_reducible exact impl_QueryOk.mono _ _)
   | (with_reducible exact impl_TreeOk.mono _ _)
   | (with_reducible exact slices_ContainsFunc_int_int__Select_lit1.mono _ _ _ _)
   | (with_reducible exact slices_Contains_int_int.mono _ _ _)
   | (with_reducible exact LeO.refl _)
   | (with_reducible exact LeO.none _)
   | (with_reducible refine LeO.ite ?_ ?_)
   | (with_reducible refine LeO.bind ?_ (fun _ => ?_))
   | exact ih0 _ _ _ _
   | exact ih1 _ _ _ _ _
   | exact ih2 _ _ _ _ _ _ _ _ _ _ _ _
   | exact ih3 _ _ _ _ _ _ _ _ _ _ _ _ _ _ _ _
   | exact ih4 _ _ _ _ _ _ _ _ _ _ _ _ _ _ _ _ _
   | exact impl_ParentOf.mono _ _ _
   | exact impl_QueryOk.mono _ _
   | exact impl_TreeOk.mono _ _
   | exact slices_ContainsFunc_int_int__Select_lit1.mono _ _ _ _
   | exact slices_Contains_int_int.mono _ _ _
   | exact LeO.none _
   | refine LeO.ite ?_ ?_
   | refine LeO.bind ?_ (fun _ => ?_)
theorem impl_Select.mono : ∀ a0 a1 k, LeO (impl_Select.f k a0 a1) (impl_Select.f (k + 1) a0 a1) := by
 intro a0 a1 k
 obtain ⟨ih0, ih1, ih2, ih3, ih4⟩ := impl_Select.mono_l k
 unfold impl_Select.f
 repeat' first
   | (with_reducible exact ih0 _ _ _ _)
   | (with_reducible exact ih1 _ _ _ _ _)
   | (with_reducible exact ih2 _ _ _ _ _ _ _ _ _ _ _ _)
   | (with_reducible exact ih3 _ _ _ _ _ _ _ _ _ _ _ _ _ _ _ _)
   | (with_reducible exact ih4 _ _ _ _ _ _ _ _ _ _ _ _ _ _ _ _ _)
   | (with_reducible exact impl_ParentOf.mono _ _ _)
   | (with_reducible exact impl_QueryOk.mono _ _)
   | (with_reducible exact impl_TreeOk.mono _ _)
   | (with_reducible exact slices_ContainsFunc_int_int__Select_lit1.mono _ _ _ _)
   | (with_reducible exact slices_Contains_int_int.mono _ _ _)
   | (with_reducible exact LeO.refl _)
   | (with_reducible exact LeO.none _)
   | (with_reducible refine LeO.ite ?_ ?_)
   | (with_reducible refine LeO.bind ?_ (fun _ => ?_))
   | exact ih0 _ _ _ _
   | exact ih1 _ _ _ _ _
   | exact ih2 _ _ _ _ _ _ _ _ _ _ _ _
   | exact ih3 _ _ _ _ _ _ _ _ _ _ _ _ _ _ _ _
   | exact ih4 _ _ _ _ _ _ _ _ _ _ _ _ _ _ _ _ _
   | exact impl_ParentOf.mono _ _ _
   | exact impl_QueryOk.mono _ _
   | exact impl_TreeOk.mono _ _
   | exact slices_ContainsFunc_int_int__Select_lit1.mono _ _ _ _
   | exact slices_Contains_int_int.mono _ _ _
   | exact LeO.none _
   | refine LeO.ite ?_ ?_
   | refine LeO.bind ?_ (fun _ => ?_)
set_option maxHeartbeats 8000000 in
set_option maxRecDepth 100000 in
theorem impl_Select.calls (k : Nat) (A0 : Option Addr) (c0 : Nat) (l0 : List (S48)) (A1 : Option Addr) (c1 : Nat) (l1 : List (S56)) (r : List Int) (w : World) (hr0 : Kd.C k48 w A0 l0.length l0) (hc0 : l0.length ≤ c0) (hr1 : Kd.C k56 w A1 l1.length l1) (hc1 : l1.length ≤ c1) (h : impl_Select.f k l0 l1 = some r) :
  Calls Try.prog 30 #[.slice A0 l0.length c0, .slice A1 l1.length c1] w fun e w' => ∃ v0_ : Value, e = .returned (v0_) ∧ Kd.R (Kd.int .i64) 3 w' w.heap.size (fun _ => True) v0_ r ∧ Below w.heap.size w w' := by
 have hu56 := Try.underlying56
 have hu48 := Try.underlying48
 have HR0 := Aside0.mk hr0
 have HC0 := Aside0.mk hc0
 clear hr0 hc0
 have HR1 := Aside0.mk hr1
 have HC1 := Aside0.mk hc1
 clear hr1 hc1
 have HB := Aside0.mk (Below.refl w.heap.size w)
 have H : ((some (([] : List Int) : List Int)).bind fun y937 => ((impl_TreeOk.f k l0).bind fun t940 => (if t940 = true then ((impl_QueryOk.f k l1).bind fun t941 => (impl_Select.j0 k l1 y937 (!t941) l0)) else (impl_Select.j0 k l1 y937 true l0)))) = some r := h
 clear h
 obtain ⟨y937, hy937⟩ : ∃ y_ : List Int, y_ = (([] : List Int)) := ⟨_, rfl⟩
 replace H : ((impl_TreeOk.f k l0).bind fun t940 => (if t940 = true then ((impl_QueryOk.f k l1).bind fun t941 => (impl_Select.j0 k l1 y937 (!t941) l0)) else (impl_Select.j0 k l1 y937 true l0))) = some r := by first | (rw [hy937]; with_reducible exact H) | (have H2_ := (Option.bind_some _ _).symm.trans H; rw [hy937]; with_reducible exact H2_) | (have H2_ := (Option.bind_some _ _).symm.trans H; with_reducible exact H2_) | with_reducible exact H | (rw [hy937]; exact H) | exact H
 have Ny937 := Aside0.mk hy937
 clear hy937
 have HC3 := Aside0.mk H
 clear H
 go_enter Try.func30, Try.ntmps30
 go_upto_region 2 with (first | ((with_reducible refine gate_dst (N := 2) rfl ?_); refine box_event ?hg (N := 2) ?hd (cs := #[.slice A0 l0.length c0]) (t := 24) ?hr ?_; (case hd => rfl); (case hg => rfl); (case hr => first | (go_simp; done) | (go_simp; rfl)); intro gb936 hg w4 hbox hb; have n0_ := Aside0.mk (below_step (by repeat (first | (with_reducible first | exact HB.out | apply below_alloc | apply pw_below_drewN | apply below_drew1) | exact HB.out)) hb); have n1_ := Aside0.mk (hbox); have n2_ := Aside0.mk ((by rw [hg]; exact (below_size (by repeat (first | (with_reducible first | exact HB.out | apply below_alloc | apply pw_below_drewN | apply below_drew1) | exact HB.out))) : w.heap.size ≤ gb936)); have n3_ := Aside0.mk ((by rw [hg]; exact (below_size (by repeat (first | (with_reducible first | exact HB.out | apply below_alloc | apply pw_below_drewN | apply below_drew1) | exact HB.out))) : w.heap.size ≤ gb936)); clear HB; have HB := n0_; have BK936 := n1_; have GW936 := n2_; have GE936 := n3_; clear n0_ n1_ n2_ n3_; clear hb hbox hg) | ((with_reducible refine gate_dst (N := 12) rfl ?_); refine Kd.R_lit (Kd.int .i64) _ 3 ?hg (N := 12) ?hd (xs := ([] : List Int)) (inner := []) (ok := fun _ => True) (okp := fun _ => True) ?hr ?hp (fun _ hk => hk) trivial (Below.refl _ _) (Nat.le_refl _) (by simp) ?_; (case hd => rfl); (case hg => rfl); (case hr => first | (go_simp; done) | (go_simp; rfl)); (case hp => exact (Reps.none _ _)); intro v938 w5 ho6 hb hg_ hnew_; clear hg_ hnew_; (first | rw [← Ny937.out] at ho6 | (simp only [Int.reduceToNat] at ho6; rw [← Ny937.out] at ho6)); have n0_ := Aside0.mk (Kd.R_lower ho6 (below_size (by repeat (first | (with_reducible first | exact HB.out | apply below_alloc | apply pw_below_drewN | apply below_drew1 | refine below_set ?_ GE936.out) | exact HB.out)))); have n1_ := Aside0.mk (blk_below (g := gb936) (o := .cells #[.slice A0 l0.length c0] 24 (0, 0)) (by (with_reducible repeat (first | refine blk_drewN ?_ _ | refine blk_drew ?_ | refine blk_alloc ?_ _)); exact BK936.out) hb); have n2_ := Aside0.mk (below_step (by repeat (first | (with_reducible first | exact HB.out | apply below_alloc | apply pw_below_drewN | apply below_drew1 | refine below_set ?_ GE936.out) | exact HB.out)) hb); clear BK936; clear HB; have HO939 := n0_; have BK936 := n1_; have HB := n2_; clear n0_ n1_ n2_; clear hb ho6))
 (try simp only [Act.put, List.setIfInBounds_toArray, List.set_cons_zero, List.set_cons_succ])
 go_cut [20] (fun v20 wc => ∃ (kq : Nat) (x20_2 : Bool), v20 = .bool x20_2 ∧ Aside0 (impl_Select.j0 kq l1 y937 x20_2 l0 = some r) ∧ Aside0 (kq ≤ k) ∧ Aside0 (Kd.R (Kd.int .i64) 3 wc w.heap.size (fun _ => True) v938 y937) ∧ Aside0 (wc.heap[gb936]? = some (.cells #[(.slice A0 l0.length c0)] 24 (0, 0))) ∧ Aside0 (Below w.heap.size w wc))
 case first =>
  have H := HC3.out
  clear HC3
  replace H := Option.bind_eq_some_iff.mp H
  obtain ⟨t940, A70, H⟩ := H
  have A7 := Aside0.mk A70
  clear A70
  by_cases c8 : t940 = true
  ·subst c8
   rw [if_pos rfl] at H
   replace H := Option.bind_eq_some_iff.mp H
   obtain ⟨t941, A90, H⟩ := H
   have A9 := Aside0.mk A90
   clear A90
   have H' := Aside0.mk H
   clear H
   have hcz10_0 : w5.cell? ⟨gb936, 0, none⟩ = some (.slice A0 l0.length c0) := (blk_cell BK936.out 0).trans rfl
   have hfz10_0 := blk_frozen BK936.out 0
   go_wp2_with (first | ((with_reducible refine gate_callee (f := 53) rfl ?_); refine goesL_ (some 14) rfl rfl Try.func53 (by kernel_rfl) rfl #[.slice A0 l0.length c0] rfl (by (try simp only [List.map_toArray, List.map_cons, List.map_nil]); first | done | rfl | (simp only [List.length_drop, List.length_take]; rfl)) ?_; (with_reducible refine (impl_TreeOk.calls k _ _ l0 true _ ?side1 ?side2 A7.out).mono ?_); (case side1 => repeat (first | exact (Kd.C_below HR0.out HB.out) | (with_reducible refine Kd.C_alloc ?_ _) | (with_reducible refine Kd.C_drewN ?_ _) | (with_reducible refine Kd.C_drew ?_))); (case side2 => exact HC0.out); rintro e w11 ⟨rfl, hb⟩; refine ⟨_, rfl, ?_⟩; have n0_ := Aside0.mk (Kd.R_below (by (with_reducible repeat (first | apply Kd.R_alloc | apply Kd.R_drewN | apply Kd.R_drew)); exact HO939.out) hb); have n1_ := Aside0.mk (blk_below (g := gb936) (o := .cells #[.slice A0 l0.length c0] 24 (0, 0)) (by (with_reducible repeat (first | refine blk_drewN ?_ _ | refine blk_drew ?_ | refine blk_alloc ?_ _)); exact BK936.out) hb); have n2_ := Aside0.mk (below_step (by repeat (first | (with_reducible first | exact HB.out | apply below_alloc | apply pw_below_drewN | apply below_drew1 | refine below_set ?_ GE936.out) | exact HB.out)) hb); clear HO939; clear BK936; clear HB; have HO939 := n0_; have BK936 := n1_; have HB := n2_; clear n0_ n1_ n2_; (try clear hb); (try clear hb2); (try clear hk); (try clear hi)) | (go_at_call 70; (with_reducible refine (impl_QueryOk.calls k _ _ l1 t941 _ ?side1 ?side2 A9.out).mono ?_); (case side1 => repeat (first | exact (Kd.C_below HR1.out HB.out) | (with_reducible refine Kd.C_alloc ?_ _) | (with_reducible refine Kd.C_drewN ?_ _) | (with_reducible refine Kd.C_drew ?_))); (case side2 => exact HC1.out); rintro e w12 ⟨rfl, hb⟩; have n0_ := Aside0.mk (Kd.R_below (by (with_reducible repeat (first | apply Kd.R_alloc | apply Kd.R_drewN | apply Kd.R_drew)); exact HO939.out) hb); have n1_ := Aside0.mk (blk_below (g := gb936) (o := .cells #[.slice A0 l0.length c0] 24 (0, 0)) (by (with_reducible repeat (first | refine blk_drewN ?_ _ | refine blk_drew ?_ | refine blk_alloc ?_ _)); exact BK936.out) hb); have n2_ := Aside0.mk (below_step (by repeat (first | (with_reducible first | exact HB.out | apply below_alloc | apply pw_below_drewN | apply below_drew1 | refine below_set ?_ GE936.out) | exact HB.out)) hb); clear HO939; clear BK936; clear HB; have HO939 := n0_; have BK936 := n1_; have HB := n2_; clear n0_ n1_ n2_; (try clear hb); (try clear hb2); (try clear hk); (try clear hi)))
   go_meet
   case rel => exact ⟨_, (!t941), (by first | rfl | (simp; done) | (simp [*]; done)), H', ⟨by first | omega | exact Nat.le_refl _⟩, ⟨by (with_reducible repeat (first | apply Kd.R_alloc | apply Kd.R_drewN | apply Kd.R_drew)); exact HO939.out⟩, ⟨by (with_reducible repeat (first | refine blk_drewN ?_ _ | refine blk_drew ?_ | refine blk_alloc ?_ _)); exact BK936.out⟩, ⟨by repeat (first | (with_reducible first | exact HB.out | apply below_alloc | apply pw_below_drewN | apply below_drew1 | refine below_set ?_ GE936.out) | exact HB.out)⟩⟩
  ·replace c8 := Bool.eq_false_iff.mpr c8
   subst c8
   rw [if_neg (show ¬ (false = true) by decide)] at H
   have H' := Aside0.mk H
   clear H
   have hcz13_0 : w5.cell? ⟨gb936, 0, none⟩ = some (.slice A0 l0.length c0) := (blk_cell BK936.out 0).trans rfl
   have hfz13_0 := blk_frozen BK936.out 0
   go_wp2_with (first | ((with_reducible refine gate_callee (f := 53) rfl ?_); refine goesL_ (some 14) rfl rfl Try.func53 (by kernel_rfl) rfl #[.slice A0 l0.length c0] rfl (by (try simp only [List.map_toArray, List.map_cons, List.map_nil]); first | done | rfl | (simp only [List.length_drop, List.length_take]; rfl)) ?_; (with_reducible refine (impl_TreeOk.calls k _ _ l0 false _ ?side1 ?side2 A7.out).mono ?_); (case side1 => repeat (first | exact (Kd.C_below HR0.out HB.out) | (with_reducible refine Kd.C_alloc ?_ _) | (with_reducible refine Kd.C_drewN ?_ _) | (with_reducible refine Kd.C_drew ?_))); (case side2 => exact HC0.out); rintro e w14 ⟨rfl, hb⟩; refine ⟨_, rfl, ?_⟩; have n0_ := Aside0.mk (Kd.R_below (by (with_reducible repeat (first | apply Kd.R_alloc | apply Kd.R_drewN | apply Kd.R_drew)); exact HO939.out) hb); have n1_ := Aside0.mk (blk_below (g := gb936) (o := .cells #[.slice A0 l0.length c0] 24 (0, 0)) (by (with_reducible repeat (first | refine blk_drewN ?_ _ | refine blk_drew ?_ | refine blk_alloc ?_ _)); exact BK936.out) hb); have n2_ := Aside0.mk (below_step (by repeat (first | (with_reducible first | exact HB.out | apply below_alloc | apply pw_below_drewN | apply below_drew1 | refine below_set ?_ GE936.out) | exact HB.out)) hb); clear HO939; clear BK936; clear HB; have HO939 := n0_; have BK936 := n1_; have HB := n2_; clear n0_ n1_ n2_; (try clear hb); (try clear hb2); (try clear hk); (try clear hi)))
   go_meet
   case rel => exact ⟨_, (true), (by first | rfl | (simp; done) | (simp [*]; done)), H', ⟨by first | omega | exact Nat.le_refl _⟩, ⟨by (with_reducible repeat (first | apply Kd.R_alloc | apply Kd.R_drewN | apply Kd.R_drew)); exact HO939.out⟩, ⟨by (with_reducible repeat (first | refine blk_drewN ?_ _ | refine blk_drew ?_ | refine blk_alloc ?_ _)); exact BK936.out⟩, ⟨by repeat (first | (with_reducible first | exact HB.out | apply below_alloc | apply pw_below_drewN | apply below_drew1 | refine below_set ?_ GE936.out) | exact HB.out)⟩⟩
 case rest =>
  clear HC3
  try clear c1
  try clear p2
  try clear c3
  try clear c5
  try clear c8
  try clear hcz10_0
  try clear hcz13_0
  try clear hfz10_0
  try clear hfz13_0
  obtain ⟨kq, x20_2, rfl, HA, HJ2, HO_5, BK936, HB⟩ := hcut
  cases kq with
  | zero => exact absurd HA.out (by simp [impl_Select.j0])
  | succ kj2 =>
   have H := HA.out
   clear HA
   simp only [impl_Select.j0] at H
   by_cases c15 : x20_2 = true
   ·subst c15
    rw [if_pos rfl] at H
    obtain rfl := Option.some.inj H
    go_wp2
    go_ret
    exact ⟨_, by first | rfl | (simp [errW_none, errW_some] <;> rfl) | (simp [*, errW_none, errW_some] <;> rfl), by (with_reducible repeat (first | apply Kd.R_alloc | apply Kd.R_drewN | apply Kd.R_drew)); exact HO_5.out, by repeat (first | (with_reducible first | exact HB.out | apply below_alloc | apply pw_below_drewN | apply below_drew1 | refine below_set ?_ GE936.out) | exact HB.out)⟩
   ·replace c15 := Bool.eq_false_iff.mpr c15
    subst c15
    rw [if_neg (show ¬ (false = true) by decide)] at H
    have H' := Aside0.mk H
    clear H
    go_wp2
    go_loopg [5, 24] kj2 (fun kq v5 v24 w' => ∃ (x5_2 : List Int) (x24_2 : Int), v24 = .int .i64 x24_2 ∧ Aside0 (impl_Select.l0 kq x5_2 l1 (l1.length : Int) x24_2 l0 = some r) ∧ Aside0 (kq ≤ kj2) ∧ Aside0 (Kd.R (Kd.int .i64) 3 w' w.heap.size (fun _ => True) v5 x5_2) ∧ Aside0 (w'.heap[gb936]? = some (.cells #[(.slice A0 l0.length c0)] 24 (0, 0))) ∧ Aside0 (Below w.heap.size w w'))
    case atStart => exact ⟨(y937), (0), (by first | rfl | (simp; done) | (simp [*]; done)), H', ⟨Nat.le_refl _⟩, ⟨by (with_reducible repeat (first | apply Kd.R_alloc | apply Kd.R_drewN | apply Kd.R_drew)); exact HO_5.out⟩, ⟨by (with_reducible repeat (first | refine blk_drewN ?_ _ | refine blk_drew ?_ | refine blk_alloc ?_ _)); exact BK936.out⟩, ⟨by repeat (first | (with_reducible first | exact HB.out | apply below_alloc | apply pw_below_drewN | apply below_drew1 | refine below_set ?_ GE936.out) | exact HB.out)⟩⟩
    case round =>
     clear H'
     try clear c1
     try clear p2
     try clear c3
     try clear c5
     try clear c8
     try clear c15
     try clear hcz10_0
     try clear hcz13_0
     try clear hfz10_0
     try clear hfz13_0
     try clear p2
     obtain ⟨x5_2, x24_2, rfl, HA, HK2, HO_5, BK936, HB⟩ := hrel
     cases gk with
     | zero => exact absurd HA.out (by simp [impl_Select.l0])
     | succ k2 =>
      have H := HA.out
      clear HA
      simp only [impl_Select.l0] at H
      by_cases c16 : x24_2 < (l1.length : Int)
      ·rw [if_pos c16] at H
       have c16b0 : decide (x24_2 < (l1.length : Int)) = true := decide_eq_true c16
       clear c16
       by_cases c17 : 0 ≤ x24_2
       ·rw [if_pos c17] at H
        have c17b0 : decide (0 ≤ x24_2) = true := decide_eq_true c17
        clear c17
        by_cases c18 : x24_2 < (l1.length : Int)
        ·rw [if_pos c18] at H
         have c18b0 : decide (x24_2 < (l1.length : Int)) = true := decide_eq_true c18
         clear c18
         obtain ⟨y944, hy944⟩ : ∃ y_ : List Int, y_ = (([] : List Int)) := ⟨_, rfl⟩
         replace H : (impl_Select.l1 k2 x5_2 x24_2 y944 l1 (l1.length : Int) x24_2 l0 (l0.length : Int) 0 l0 ((rd_T56 l1 x24_2).f0) ((rd_T56 l1 x24_2).f1)) = some r := by first | (rw [hy944]; with_reducible exact H) | (have H2_ := (Option.bind_some _ _).symm.trans H; rw [hy944]; with_reducible exact H2_) | (have H2_ := (Option.bind_some _ _).symm.trans H; with_reducible exact H2_) | with_reducible exact H | (rw [hy944]; exact H) | exact H
         have Ny944 := Aside0.mk hy944
         clear hy944
         have H' := Aside0.mk H
         clear H
         have p942 : 0 ≤ (x24_2 : Int) := of_decide_eq_true (by first | (with_reducible assumption) | assumption)
         have q942 : x24_2 < (l1.length : Int) := of_decide_eq_true (by first | (with_reducible assumption) | assumption)
         obtain ⟨ad942, e942, hx942_0, hx942_1⟩ := at_T56 HR1.out x24_2 p942 q942
         cases e942
         replace hx942_0 := (HB.out.cell (World.block_lt_of_cell? w _ hx942_0)).trans hx942_0
         replace hx942_1 := (HB.out.cell (World.block_lt_of_cell? w _ hx942_1)).trans hx942_1
         replace p942 := eq_true p942
         replace q942 := eq_true q942
         go_wp2_with (first | ((with_reducible refine gate_dst (N := 7) rfl ?_); refine box_event ?hg (N := 7) ?hd (cs := #[.bool false, .int .i64 0]) (t := 56) ?hr ?_; (case hd => rfl); (case hg => rfl); (case hr => first | (go_simp; done) | (go_simp; rfl)); intro gb943 hg w19 hbox hb; have n0_ := Aside0.mk (Kd.R_below (by (with_reducible repeat (first | apply Kd.R_alloc | apply Kd.R_drewN | apply Kd.R_drew)); exact HO_5.out) hb); have n1_ := Aside0.mk (blk_below (g := gb936) (o := .cells #[.slice A0 l0.length c0] 24 (0, 0)) (by (with_reducible repeat (first | refine blk_drewN ?_ _ | refine blk_drew ?_ | refine blk_alloc ?_ _)); exact BK936.out) hb); have n2_ := Aside0.mk (below_step (by repeat (first | (with_reducible first | exact HB.out | apply below_alloc | apply pw_below_drewN | apply below_drew1 | refine below_set ?_ GE936.out) | exact HB.out)) hb); have n3_ := Aside0.mk (hbox); have n4_ := Aside0.mk ((by rw [hg]; exact (below_size (by repeat (first | (with_reducible first | exact HB.out | apply below_alloc | apply pw_below_drewN | apply below_drew1 | refine below_set ?_ GE936.out) | exact HB.out))) : w.heap.size ≤ gb943)); have n5_ := Aside0.mk ((by rw [hg]; exact (below_size (by repeat (first | (with_reducible first | exact HB.out | apply below_alloc | apply pw_below_drewN | apply below_drew1 | refine below_set ?_ GE936.out) | exact HB.out))) : w.heap.size ≤ gb943)); have n6_ := Aside0.mk ((by rw [hg]; exact Nat.ne_of_lt (blk_lt (g := gb936) (o := .cells #[.slice A0 l0.length c0] 24 (0, 0)) (by (with_reducible repeat (first | refine blk_drewN ?_ _ | refine blk_drew ?_ | refine blk_alloc ?_ _)); exact BK936.out)) : gb936 ≠ gb943)); have n7_ := Aside0.mk ((by rw [hg]; exact Nat.ne_of_gt (blk_lt (g := gb936) (o := .cells #[.slice A0 l0.length c0] 24 (0, 0)) (by (with_reducible repeat (first | refine blk_drewN ?_ _ | refine blk_drew ?_ | refine blk_alloc ?_ _)); exact BK936.out)) : gb943 ≠ gb936)); clear HO_5; clear BK936; clear HB; have HO_5 := n0_; have BK936 := n1_; have HB := n2_; have BK943 := n3_; have GW943 := n4_; have GE943 := n5_; have NB936_943 := n6_; have NB943_936 := n7_; clear n0_ n1_ n2_ n3_ n4_ n5_ n6_ n7_; clear hb hbox hg; have hnb20 := NB943_936.out; have hnc20 := NB936_943.out; have hcz21_0 : w19.cell? ⟨gb943, 0, none⟩ = some (.bool false) := (blk_cell BK943.out 0).trans rfl; have hcz21_1 : w19.cell? ⟨gb943, 1, none⟩ = some (.int .i64 0) := (blk_cell BK943.out 1).trans rfl; have hfz21_0 := blk_frozen BK943.out 0; have hfz21_1 := blk_frozen BK943.out 1) | ((with_reducible refine gate_dst (N := 29) rfl ?_); refine Kd.R_lit (Kd.int .i64) _ 3 ?hg (N := 29) ?hd (xs := ([] : List Int)) (inner := []) (ok := fun _ => True) (okp := fun _ => True) ?hr ?hp (fun _ hk => hk) trivial (Below.refl _ _) (Nat.le_refl _) (by simp) ?_; (case hd => rfl); (case hg => rfl); (case hr => first | (go_simp; done) | (go_simp; rfl)); (case hp => exact (Reps.none _ _)); intro v945 w22 ho23 hb hg_ hnew_; clear hg_ hnew_; (first | rw [← Ny944.out] at ho23 | (simp only [Int.reduceToNat] at ho23; rw [← Ny944.out] at ho23)); have n0_ := Aside0.mk (Kd.R_elder' (by (with_reducible repeat (first | apply Kd.R_alloc | apply Kd.R_drewN | apply Kd.R_drew)); exact (Kd.R_mono (Kd.R_far (p := ⟨gb943, 1, none⟩) (Kd.R_far (p := ⟨gb943, 0, none⟩) (Kd.R_types HO_5.out BK943.out (by decide)) (fun _ hk => hk.2) (.bool ((rd_T56 l1 x24_2).f0))) (fun _ hk => hk.2) (.int .i64 ((rd_T56 l1 x24_2).f1))) (fun _ h_ => h_.1))) (Kd.R_base ho23) hb); have n1_ := Aside0.mk (Kd.R_lower (Kd.R_new' ho23 (Kd.R_lt (by (with_reducible repeat (first | apply Kd.R_alloc | apply Kd.R_drewN | apply Kd.R_drew)); exact (Kd.R_mono (Kd.R_far (p := ⟨gb943, 1, none⟩) (Kd.R_far (p := ⟨gb943, 0, none⟩) (Kd.R_types HO_5.out BK943.out (by decide)) (fun _ hk => hk.2) (.bool ((rd_T56 l1 x24_2).f0))) (fun _ hk => hk.2) (.int .i64 ((rd_T56 l1 x24_2).f1))) (fun _ h_ => h_.1))))) (below_size (by repeat (first | (with_reducible first | exact HB.out | apply below_alloc | apply pw_below_drewN | apply below_drew1 | refine below_set ?_ GE936.out | refine below_set ?_ GE943.out) | exact HB.out)))); have n2_ := Aside0.mk (blk_below (g := gb936) (o := .cells #[.slice A0 l0.length c0] 24 (0, 0)) (by (with_reducible repeat (first | refine blk_drewN ?_ _ | refine blk_drew ?_ | refine blk_alloc ?_ _)); refine blk_far ?_ NB936_943.out _; (with_reducible repeat (first | refine blk_drewN ?_ _ | refine blk_drew ?_ | refine blk_alloc ?_ _)); refine blk_far ?_ NB936_943.out _; (with_reducible repeat (first | refine blk_drewN ?_ _ | refine blk_drew ?_ | refine blk_alloc ?_ _)); exact BK936.out) hb); have n3_ := Aside0.mk (blk_below (g := gb943) (o := .cells #[.bool ((rd_T56 l1 x24_2).f0), .int .i64 ((rd_T56 l1 x24_2).f1)] 56 (0, 0)) (by (with_reducible repeat (first | refine blk_drewN ?_ _ | refine blk_drew ?_ | refine blk_alloc ?_ _)); refine blk_put (cs := #[.bool ((rd_T56 l1 x24_2).f0), .int .i64 0]) ?_ 1 _ rfl; (with_reducible repeat (first | refine blk_drewN ?_ _ | refine blk_drew ?_ | refine blk_alloc ?_ _)); refine blk_put (cs := #[.bool false, .int .i64 0]) ?_ 0 _ rfl; (with_reducible repeat (first | refine blk_drewN ?_ _ | refine blk_drew ?_ | refine blk_alloc ?_ _)); exact BK943.out) hb); have n4_ := Aside0.mk (below_step (by repeat (first | (with_reducible first | exact HB.out | apply below_alloc | apply pw_below_drewN | apply below_drew1 | refine below_set ?_ GE936.out | refine below_set ?_ GE943.out) | exact HB.out)) hb); clear HO_5; clear BK936; clear BK943; clear HB; have HO_5 := n0_; have HO946 := n1_; have BK936 := n2_; have BK943 := n3_; have HB := n4_; clear n0_ n1_ n2_ n3_ n4_; clear hb ho23; have hcz24_0 : w22.cell? ⟨gb936, 0, none⟩ = some (.slice A0 l0.length c0) := (blk_cell BK936.out 0).trans rfl; have hfz24_0 := blk_frozen BK936.out 0))
         go_loopg [8, 32] k2 (fun kq v8 v32 w' => ∃ (x8_3 : List Int) (x32_3 : Int), v32 = .int .i64 x32_3 ∧ Aside0 (impl_Select.l1 kq x5_2 x24_2 x8_3 l1 (l1.length : Int) x24_2 l0 (l0.length : Int) x32_3 l0 ((rd_T56 l1 x24_2).f0) ((rd_T56 l1 x24_2).f1) = some r) ∧ Aside0 (kq ≤ k2) ∧ Aside0 (Kd.R (Kd.int .i64) 3 w' w.heap.size (fun k_ => some k_ ≠ (v8 : Value).ownBlock) u5 x5_2) ∧ Aside0 (Kd.R (Kd.int .i64) 3 w' w.heap.size (fun k_ => some k_ ≠ (u5 : Value).ownBlock) v8 x8_3) ∧ Aside0 (w'.heap[gb936]? = some (.cells #[(.slice A0 l0.length c0)] 24 (0, 0))) ∧ Aside0 (w'.heap[gb943]? = some (.cells #[.bool ((rd_T56 l1 x24_2).f0), .int .i64 ((rd_T56 l1 x24_2).f1)] 56 (0, 0))) ∧ Aside0 (Below w.heap.size w w'))
         case atStart => exact ⟨(y944), (0), (by first | rfl | (simp; done) | (simp [*]; done)), H', ⟨Nat.le_refl _⟩, ⟨by (with_reducible repeat (first | apply Kd.R_alloc | apply Kd.R_drewN | apply Kd.R_drew)); exact Kd.R_mono HO_5.out (fun _ hk => hk.2)⟩, ⟨by (with_reducible repeat (first | apply Kd.R_alloc | apply Kd.R_drewN | apply Kd.R_drew)); exact Kd.R_mono HO946.out (fun _ hk => hk.2)⟩, ⟨by (with_reducible repeat (first | refine blk_drewN ?_ _ | refine blk_drew ?_ | refine blk_alloc ?_ _)); exact BK936.out⟩, ⟨by (with_reducible repeat (first | refine blk_drewN ?_ _ | refine blk_drew ?_ | refine blk_alloc ?_ _)); exact BK943.out⟩, ⟨by repeat (first | (with_reducible first | exact HB.out | apply below_alloc | apply pw_below_drewN | apply below_drew1 | refine below_set ?_ GE936.out | refine below_set ?_ GE943.out) | exact HB.out)⟩⟩
         case round =>
          clear H'
          try clear c1
          try clear c2
          try clear p2
          try clear c3
          try clear c5
          try clear c8
          try clear p9
          try clear q9
          try clear hx9
          try clear c15
          try clear c16
          try clear c16b0
          try clear c17
          try clear c17b0
          try clear c18
          try clear c18b0
          try clear c20
          try clear hcz10_0
          try clear hcz13_0
          try clear hcz21_0
          try clear hcz21_1
          try clear hcz24_0
          try clear hfz10_0
          try clear hfz13_0
          try clear hfz21_0
          try clear hfz21_1
          try clear hfz24_0
          try clear hx942_0
          try clear hx942_1
          try clear p2
          try clear p942
          try clear q942
          obtain ⟨x8_3, x32_3, rfl, HA, HK3, HO_5, HO_8, BK936, BK943, HB⟩ := hrel
          cases gk with
          | zero => exact absurd HA.out (by simp [impl_Select.l1])
          | succ k3 =>
           have H := HA.out
           clear HA
           simp only [impl_Select.l1] at H
           by_cases c25 : x32_3 < (l0.length : Int)
           ·rw [if_pos c25] at H
            have c25b0 : decide (x32_3 < (l0.length : Int)) = true := decide_eq_true c25
            clear c25
            by_cases c26 : 0 ≤ x32_3
            ·rw [if_pos c26] at H
             have c26b0 : decide (0 ≤ x32_3) = true := decide_eq_true c26
             clear c26
             by_cases c27 : x32_3 < (l0.length : Int)
             ·rw [if_pos c27] at H
              have c27b0 : decide (x32_3 < (l0.length : Int)) = true := decide_eq_true c27
              clear c27
              have HC28 := Aside0.mk H
              clear H
              have p947 : 0 ≤ (x32_3 : Int) := of_decide_eq_true (by first | (with_reducible assumption) | assumption)
              have q947 : x32_3 < (l0.length : Int) := of_decide_eq_true (by first | (with_reducible assumption) | assumption)
              obtain ⟨ad947, e947, hx947_0, hx947_1⟩ := at_T48 HR0.out x32_3 p947 q947
              cases e947
              replace hx947_0 := (HB.out.cell (World.block_lt_of_cell? w _ hx947_0)).trans hx947_0
              replace hx947_1 := (HB.out.cell (World.block_lt_of_cell? w _ hx947_1)).trans hx947_1
              replace p947 := eq_true p947
              replace q947 := eq_true q947
              go_upto_region 11 with (first | ((with_reducible refine gate_dst (N := 9) rfl ?_); refine box_event ?hg (N := 9) ?hd (cs := #[.int .i64 0]) (t := 3) ?hr ?_; (case hd => rfl); (case hg => rfl); (case hr => first | (go_simp; done) | (go_simp; rfl)); intro gb948 hg w29 hbox hb; have n0_ := Aside0.mk (Kd.R_below (Kd.R_elderB (by (with_reducible repeat (first | apply Kd.R_alloc | apply Kd.R_drewN | apply Kd.R_drew)); exact HO_5.out) gb948 (Nat.le_of_eq hg.symm)) hb); have n1_ := Aside0.mk (Kd.R_below (Kd.R_elderB (by (with_reducible repeat (first | apply Kd.R_alloc | apply Kd.R_drewN | apply Kd.R_drew)); exact HO_8.out) gb948 (Nat.le_of_eq hg.symm)) hb); have n2_ := Aside0.mk (blk_below (g := gb936) (o := .cells #[.slice (some ad947) l0.length c0] 24 (0, 0)) (by (with_reducible repeat (first | refine blk_drewN ?_ _ | refine blk_drew ?_ | refine blk_alloc ?_ _)); exact BK936.out) hb); have n3_ := Aside0.mk (blk_below (g := gb943) (o := .cells #[.bool ((rd_T56 l1 x24_2).f0), .int .i64 ((rd_T56 l1 x24_2).f1)] 56 (0, 0)) (by (with_reducible repeat (first | refine blk_drewN ?_ _ | refine blk_drew ?_ | refine blk_alloc ?_ _)); exact BK943.out) hb); have n4_ := Aside0.mk (below_step (by repeat (first | (with_reducible first | exact HB.out | apply below_alloc | apply pw_below_drewN | apply below_drew1 | refine below_set ?_ GE936.out | refine below_set ?_ GE943.out) | exact HB.out)) hb); have n5_ := Aside0.mk (hbox); have n6_ := Aside0.mk ((by rw [hg]; exact (below_size (by repeat (first | (with_reducible first | exact HB.out | apply below_alloc | apply pw_below_drewN | apply below_drew1 | refine below_set ?_ GE936.out | refine below_set ?_ GE943.out) | exact HB.out))) : w.heap.size ≤ gb948)); have n7_ := Aside0.mk ((by rw [hg]; exact (below_size (by repeat (first | (with_reducible first | exact HB.out | apply below_alloc | apply pw_below_drewN | apply below_drew1 | refine below_set ?_ GE936.out | refine below_set ?_ GE943.out) | exact HB.out))) : w.heap.size ≤ gb948)); have n8_ := Aside0.mk ((by rw [hg]; exact Nat.ne_of_lt (blk_lt (g := gb936) (o := .cells #[.slice (some ad947) l0.length c0] 24 (0, 0)) (by (with_reducible repeat (first | refine blk_drewN ?_ _ | refine blk_drew ?_ | refine blk_alloc ?_ _)); exact BK936.out)) : gb936 ≠ gb948)); have n9_ := Aside0.mk ((by rw [hg]; exact Nat.ne_of_gt (blk_lt (g := gb936) (o := .cells #[.slice (some ad947) l0.length c0] 24 (0, 0)) (by (with_reducible repeat (first | refine blk_drewN ?_ _ | refine blk_drew ?_ | refine blk_alloc ?_ _)); exact BK936.out)) : gb948 ≠ gb936)); have n10_ := Aside0.mk ((by rw [hg]; exact Nat.ne_of_lt (blk_lt (g := gb943) (o := .cells #[.bool ((rd_T56 l1 x24_2).f0), .int .i64 ((rd_T56 l1 x24_2).f1)] 56 (0, 0)) (by (with_reducible repeat (first | refine blk_drewN ?_ _ | refine blk_drew ?_ | refine blk_alloc ?_ _)); exact BK943.out)) : gb943 ≠ gb948)); have n11_ := Aside0.mk ((by rw [hg]; exact Nat.ne_of_gt (blk_lt (g := gb943) (o := .cells #[.bool ((rd_T56 l1 x24_2).f0), .int .i64 ((rd_T56 l1 x24_2).f1)] 56 (0, 0)) (by (with_reducible repeat (first | refine blk_drewN ?_ _ | refine blk_drew ?_ | refine blk_alloc ?_ _)); exact BK943.out)) : gb948 ≠ gb943)); clear HO_5; clear HO_8; clear BK936; clear BK943; clear HB; have HO_5 := n0_; have HO_8 := n1_; have BK936 := n2_; have BK943 := n3_; have HB := n4_; have BK948 := n5_; have GW948 := n6_; have GE948 := n7_; have NB936_948 := n8_; have NB948_936 := n9_; have NB943_948 := n10_; have NB948_943 := n11_; clear n0_ n1_ n2_ n3_ n4_ n5_ n6_ n7_ n8_ n9_ n10_ n11_; clear hb hbox hg) | ((with_reducible refine gate_dst (N := 10) rfl ?_); refine box_event ?hg (N := 10) ?hd (cs := #[.int .i64 0, .int .i64 0]) (t := 48) ?hr ?_; (case hd => rfl); (case hg => rfl); (case hr => first | (go_simp; done) | (go_simp; rfl)); intro gb949 hg w30 hbox hb; have n0_ := Aside0.mk (Kd.R_below (by (with_reducible repeat (first | apply Kd.R_alloc | apply Kd.R_drewN | apply Kd.R_drew)); exact HO_5.out) hb); have n1_ := Aside0.mk (Kd.R_below (by (with_reducible repeat (first | apply Kd.R_alloc | apply Kd.R_drewN | apply Kd.R_drew)); exact HO_8.out) hb); have n2_ := Aside0.mk (blk_below (g := gb936) (o := .cells #[.slice (some ad947) l0.length c0] 24 (0, 0)) (by (with_reducible repeat (first | refine blk_drewN ?_ _ | refine blk_drew ?_ | refine blk_alloc ?_ _)); exact BK936.out) hb); have n3_ := Aside0.mk (blk_below (g := gb943) (o := .cells #[.bool ((rd_T56 l1 x24_2).f0), .int .i64 ((rd_T56 l1 x24_2).f1)] 56 (0, 0)) (by (with_reducible repeat (first | refine blk_drewN ?_ _ | refine blk_drew ?_ | refine blk_alloc ?_ _)); exact BK943.out) hb); have n4_ := Aside0.mk (blk_below (g := gb948) (o := .cells #[.int .i64 0] 3 (0, 0)) (by (with_reducible repeat (first | refine blk_drewN ?_ _ | refine blk_drew ?_ | refine blk_alloc ?_ _)); exact BK948.out) hb); have n5_ := Aside0.mk (below_step (by repeat (first | (with_reducible first | exact HB.out | apply below_alloc | apply pw_below_drewN | apply below_drew1 | refine below_set ?_ GE936.out | refine below_set ?_ GE943.out | refine below_set ?_ GE948.out) | exact HB.out)) hb); have n6_ := Aside0.mk (hbox); have n7_ := Aside0.mk ((by rw [hg]; exact (below_size (by repeat (first | (with_reducible first | exact HB.out | apply below_alloc | apply pw_below_drewN | apply below_drew1 | refine below_set ?_ GE936.out | refine below_set ?_ GE943.out | refine below_set ?_ GE948.out) | exact HB.out))) : w.heap.size ≤ gb949)); have n8_ := Aside0.mk ((by rw [hg]; exact (below_size (by repeat (first | (with_reducible first | exact HB.out | apply below_alloc | apply pw_below_drewN | apply below_drew1 | refine below_set ?_ GE936.out | refine below_set ?_ GE943.out | refine below_set ?_ GE948.out) | exact HB.out))) : w.heap.size ≤ gb949)); have n9_ := Aside0.mk ((by rw [hg]; exact Nat.ne_of_lt (blk_lt (g := gb936) (o := .cells #[.slice (some ad947) l0.length c0] 24 (0, 0)) (by (with_reducible repeat (first | refine blk_drewN ?_ _ | refine blk_drew ?_ | refine blk_alloc ?_ _)); exact BK936.out)) : gb936 ≠ gb949)); have n10_ := Aside0.mk ((by rw [hg]; exact Nat.ne_of_gt (blk_lt (g := gb936) (o := .cells #[.slice (some ad947) l0.length c0] 24 (0, 0)) (by (with_reducible repeat (first | refine blk_drewN ?_ _ | refine blk_drew ?_ | refine blk_alloc ?_ _)); exact BK936.out)) : gb949 ≠ gb936)); have n11_ := Aside0.mk ((by rw [hg]; exact Nat.ne_of_lt (blk_lt (g := gb943) (o := .cells #[.bool ((rd_T56 l1 x24_2).f0), .int .i64 ((rd_T56 l1 x24_2).f1)] 56 (0, 0)) (by (with_reducible repeat (first | refine blk_drewN ?_ _ | refine blk_drew ?_ | refine blk_alloc ?_ _)); exact BK943.out)) : gb943 ≠ gb949)); have n12_ := Aside0.mk ((by rw [hg]; exact Nat.ne_of_gt (blk_lt (g := gb943) (o := .cells #[.bool ((rd_T56 l1 x24_2).f0), .int .i64 ((rd_T56 l1 x24_2).f1)] 56 (0, 0)) (by (with_reducible repeat (first | refine blk_drewN ?_ _ | refine blk_drew ?_ | refine blk_alloc ?_ _)); exact BK943.out)) : gb949 ≠ gb943)); have n13_ := Aside0.mk ((by rw [hg]; exact Nat.ne_of_lt (blk_lt (g := gb948) (o := .cells #[.int .i64 0] 3 (0, 0)) (by (with_reducible repeat (first | refine blk_drewN ?_ _ | refine blk_drew ?_ | refine blk_alloc ?_ _)); exact BK948.out)) : gb948 ≠ gb949)); have n14_ := Aside0.mk ((by rw [hg]; exact Nat.ne_of_gt (blk_lt (g := gb948) (o := .cells #[.int .i64 0] 3 (0, 0)) (by (with_reducible repeat (first | refine blk_drewN ?_ _ | refine blk_drew ?_ | refine blk_alloc ?_ _)); exact BK948.out)) : gb949 ≠ gb948)); clear HO_5; clear HO_8; clear BK936; clear BK943; clear BK948; clear HB; have HO_5 := n0_; have HO_8 := n1_; have BK936 := n2_; have BK943 := n3_; have BK948 := n4_; have HB := n5_; have BK949 := n6_; have GW949 := n7_; have GE949 := n8_; have NB936_949 := n9_; have NB949_936 := n10_; have NB943_949 := n11_; have NB949_943 := n12_; have NB948_949 := n13_; have NB949_948 := n14_; clear n0_ n1_ n2_ n3_ n4_ n5_ n6_ n7_ n8_ n9_ n10_ n11_ n12_ n13_ n14_; clear hb hbox hg; have hnb31 := NB948_936.out; have hnc31 := NB936_948.out; have hnb32 := NB948_943.out; have hnc32 := NB943_948.out; have hnb33 := NB948_949.out; have hnc33 := NB949_948.out; have hcz34_0 : w30.cell? ⟨gb948, 0, none⟩ = some (.int .i64 0) := (blk_cell BK948.out 0).trans rfl; have hfz34_0 := blk_frozen BK948.out 0; have hnb35 := NB949_936.out; have hnc35 := NB936_949.out; have hnb36 := NB949_943.out; have hnc36 := NB943_949.out; have hcz37_0 : w30.cell? ⟨gb949, 0, none⟩ = some (.int .i64 0) := (blk_cell BK949.out 0).trans rfl; have hcz37_1 : w30.cell? ⟨gb949, 1, none⟩ = some (.int .i64 0) := (blk_cell BK949.out 1).trans rfl; have hfz37_0 := blk_frozen BK949.out 0; have hfz37_1 := blk_frozen BK949.out 1))
              (try simp only [Act.put, List.setIfInBounds_toArray, List.set_cons_zero, List.set_cons_succ])
              go_cut [11] (fun v11 wc => ∃ (kq : Nat) (x11_27 : Bool), v11 = .bool x11_27 ∧ Aside0 (impl_Select.j3 kq x5_2 x24_2 x8_3 x11_27 l1 (l1.length : Int) x24_2 l0 (l0.length : Int) x32_3 l0 ((rd_T56 l1 x24_2).f0) ((rd_T56 l1 x24_2).f1) x32_3 ((rd_T48 l0 x32_3).f0) ((rd_T48 l0 x32_3).f1) = some r) ∧ Aside0 (kq ≤ k3) ∧ Aside0 (Kd.R (Kd.int .i64) 3 wc w.heap.size (fun k_ => some k_ ≠ (u8 : Value).ownBlock ∧ k_ ≠ gb948) u5 x5_2) ∧ Aside0 (Kd.R (Kd.int .i64) 3 wc w.heap.size (fun k_ => some k_ ≠ (u5 : Value).ownBlock ∧ k_ ≠ gb948) u8 x8_3) ∧ Aside0 (wc.heap[gb936]? = some (.cells #[(.slice (some ad947) l0.length c0)] 24 (0, 0))) ∧ Aside0 (wc.heap[gb943]? = some (.cells #[.bool ((rd_T56 l1 x24_2).f0), .int .i64 ((rd_T56 l1 x24_2).f1)] 56 (0, 0))) ∧ Aside0 (wc.heap[gb948]? = some (.cells #[.int .i64 x32_3] 3 (0, 0))) ∧ Aside0 (wc.heap[gb949]? = some (.cells #[.int .i64 ((rd_T48 l0 x32_3).f0), .int .i64 ((rd_T48 l0 x32_3).f1)] 48 (0, 0))) ∧ Aside0 (Below w.heap.size w wc))
              case first =>
               have H := HC28.out
               clear HC28
               by_cases c38 : x24_2 = 0
               ·rw [if_pos c38] at H
                have c38b0 : (x24_2 == 0) = true := beq_iff_eq.mpr c38
                have c38b1 : (x24_2 != 0) = false := bne_eq_false_iff_eq.mpr c38
                clear c38
                (first | rw [c38b0] | (simp only [i64_w, i32_w]; rw [c38b0]) | skip)
                by_cases c39 : ((rd_T56 l1 x24_2).f0) = true
                ·rw [if_pos c39] at H
                 have c39b0 : ((rd_T56 l1 x24_2).f0) = true := c39
                 clear c39
                 have H' := Aside0.mk H
                 clear H
                 have hnb40 := NB943_936.out
                 have hnc40 := NB936_943.out
                 have hnb41 := NB943_948.out
                 have hnc41 := NB948_943.out
                 have hnb42 := NB943_949.out
                 have hnc42 := NB949_943.out
                 have hcz43_0 : w30.cell? ⟨gb943, 0, none⟩ = some (.bool ((rd_T56 l1 x24_2).f0)) := (blk_cell BK943.out 0).trans rfl
                 have hcz43_1 : w30.cell? ⟨gb943, 1, none⟩ = some (.int .i64 ((rd_T56 l1 x24_2).f1)) := (blk_cell BK943.out 1).trans rfl
                 have hfz43_0 := blk_frozen BK943.out 0
                 have hfz43_1 := blk_frozen BK943.out 1
                 go_wp2
                 go_meet
                 case rel => exact ⟨_, (true), (by first | rfl | (simp; done) | (simp [*]; done)), H', ⟨by have := HJ2.out; have := HK2.out; have := HK3.out; first | omega | exact Nat.le_refl _⟩, ⟨by (with_reducible repeat (first | apply Kd.R_alloc | apply Kd.R_drewN | apply Kd.R_drew)); exact Kd.R_mono (Kd.R_far (p := ⟨gb949, 1, none⟩) (Kd.R_far (p := ⟨gb949, 0, none⟩) (Kd.R_far (p := ⟨gb948, 0, none⟩) (Kd.R_types (Kd.R_mono HO_5.out (fun k_ hk => (⟨hk, hk.2⟩ : _ ∧ k_ ≠ gb948))) BK949.out (by decide)) (fun _ hk => hk.1.2) (.int .i64 x32_3)) (fun _ hk => hk.2) (.int .i64 ((rd_T48 l0 x32_3).f0))) (fun _ hk => hk.2) (.int .i64 ((rd_T48 l0 x32_3).f1))) (fun _ hk => ⟨hk.1.1.1, hk.1.1.2⟩)⟩, ⟨by (with_reducible repeat (first | apply Kd.R_alloc | apply Kd.R_drewN | apply Kd.R_drew)); exact Kd.R_mono (Kd.R_far (p := ⟨gb949, 1, none⟩) (Kd.R_far (p := ⟨gb949, 0, none⟩) (Kd.R_far (p := ⟨gb948, 0, none⟩) (Kd.R_types (Kd.R_mono HO_8.out (fun k_ hk => (⟨hk, hk.2⟩ : _ ∧ k_ ≠ gb948))) BK949.out (by decide)) (fun _ hk => hk.1.2) (.int .i64 x32_3)) (fun _ hk => hk.2) (.int .i64 ((rd_T48 l0 x32_3).f0))) (fun _ hk => hk.2) (.int .i64 ((rd_T48 l0 x32_3).f1))) (fun _ hk => ⟨hk.1.1.1, hk.1.1.2⟩)⟩, ⟨by (with_reducible repeat (first | refine blk_drewN ?_ _ | refine blk_drew ?_ | refine blk_alloc ?_ _)); refine blk_far ?_ NB936_949.out _; (with_reducible repeat (first | refine blk_drewN ?_ _ | refine blk_drew ?_ | refine blk_alloc ?_ _)); refine blk_far ?_ NB936_949.out _; (with_reducible repeat (first | refine blk_drewN ?_ _ | refine blk_drew ?_ | refine blk_alloc ?_ _)); refine blk_far ?_ NB936_948.out _; (with_reducible repeat (first | refine blk_drewN ?_ _ | refine blk_drew ?_ | refine blk_alloc ?_ _)); exact BK936.out⟩, ⟨by (with_reducible repeat (first | refine blk_drewN ?_ _ | refine blk_drew ?_ | refine blk_alloc ?_ _)); refine blk_far ?_ NB943_949.out _; (with_reducible repeat (first | refine blk_drewN ?_ _ | refine blk_drew ?_ | refine blk_alloc ?_ _)); refine blk_far ?_ NB943_949.out _; (with_reducible repeat (first | refine blk_drewN ?_ _ | refine blk_drew ?_ | refine blk_alloc ?_ _)); refine blk_far ?_ NB943_948.out _; (with_reducible repeat (first | refine blk_drewN ?_ _ | refine blk_drew ?_ | refine blk_alloc ?_ _)); exact BK943.out⟩, ⟨by (with_reducible repeat (first | refine blk_drewN ?_ _ | refine blk_drew ?_ | refine blk_alloc ?_ _)); refine blk_far ?_ NB948_949.out _; (with_reducible repeat (first | refine blk_drewN ?_ _ | refine blk_drew ?_ | refine blk_alloc ?_ _)); refine blk_far ?_ NB948_949.out _; (with_reducible repeat (first | refine blk_drewN ?_ _ | refine blk_drew ?_ | refine blk_alloc ?_ _)); refine blk_put (cs := #[.int .i64 0]) ?_ 0 _ rfl; (with_reducible repeat (first | refine blk_drewN ?_ _ | refine blk_drew ?_ | refine blk_alloc ?_ _)); exact BK948.out⟩, ⟨by (with_reducible repeat (first | refine blk_drewN ?_ _ | refine blk_drew ?_ | refine blk_alloc ?_ _)); refine blk_put (cs := #[.int .i64 ((rd_T48 l0 x32_3).f0), .int .i64 0]) ?_ 1 _ rfl; (with_reducible repeat (first | refine blk_drewN ?_ _ | refine blk_drew ?_ | refine blk_alloc ?_ _)); refine blk_put (cs := #[.int .i64 0, .int .i64 0]) ?_ 0 _ rfl; (with_reducible repeat (first | refine blk_drewN ?_ _ | refine blk_drew ?_ | refine blk_alloc ?_ _)); refine blk_far ?_ NB949_948.out _; (with_reducible repeat (first | refine blk_drewN ?_ _ | refine blk_drew ?_ | refine blk_alloc ?_ _)); exact BK949.out⟩, ⟨by repeat (first | (with_reducible first | exact HB.out | apply below_alloc | apply pw_below_drewN | apply below_drew1 | refine below_set ?_ GE936.out | refine below_set ?_ GE943.out | refine below_set ?_ GE948.out | refine below_set ?_ GE949.out) | exact HB.out)⟩⟩
                ·rw [if_neg c39] at H
                 have c39b0 : ((rd_T56 l1 x24_2).f0) = false := by simpa using c39
                 clear c39
                 have H' := Aside0.mk H
                 clear H
                 have hnb44 := NB943_936.out
                 have hnc44 := NB936_943.out
                 have hnb45 := NB943_948.out
                 have hnc45 := NB948_943.out
                 have hnb46 := NB943_949.out
                 have hnc46 := NB949_943.out
                 have hcz47_0 : w30.cell? ⟨gb943, 0, none⟩ = some (.bool ((rd_T56 l1 x24_2).f0)) := (blk_cell BK943.out 0).trans rfl
                 have hcz47_1 : w30.cell? ⟨gb943, 1, none⟩ = some (.int .i64 ((rd_T56 l1 x24_2).f1)) := (blk_cell BK943.out 1).trans rfl
                 have hfz47_0 := blk_frozen BK943.out 0
                 have hfz47_1 := blk_frozen BK943.out 1
                 have hnb48 := NB948_936.out
                 have hnc48 := NB936_948.out
                 have hnb49 := NB948_949.out
                 have hnc49 := NB949_948.out
                 have hcz50_0 : w30.cell? ⟨gb948, 0, none⟩ = some (.int .i64 0) := (blk_cell BK948.out 0).trans rfl
                 have hfz50_0 := blk_frozen BK948.out 0
                 go_wp2
                 go_meet
                 case rel => exact ⟨_, ((x32_3 == 0)), (by first | rfl | (simp; done) | (simp [*]; done)), H', ⟨by have := HJ2.out; have := HK2.out; have := HK3.out; first | omega | exact Nat.le_refl _⟩, ⟨by (with_reducible repeat (first | apply Kd.R_alloc | apply Kd.R_drewN | apply Kd.R_drew)); exact Kd.R_mono (Kd.R_far (p := ⟨gb949, 1, none⟩) (Kd.R_far (p := ⟨gb949, 0, none⟩) (Kd.R_far (p := ⟨gb948, 0, none⟩) (Kd.R_types (Kd.R_mono HO_5.out (fun k_ hk => (⟨hk, hk.2⟩ : _ ∧ k_ ≠ gb948))) BK949.out (by decide)) (fun _ hk => hk.1.2) (.int .i64 x32_3)) (fun _ hk => hk.2) (.int .i64 ((rd_T48 l0 x32_3).f0))) (fun _ hk => hk.2) (.int .i64 ((rd_T48 l0 x32_3).f1))) (fun _ hk => ⟨hk.1.1.1, hk.1.1.2⟩)⟩, ⟨by (with_reducible repeat (first | apply Kd.R_alloc | apply Kd.R_drewN | apply Kd.R_drew)); exact Kd.R_mono (Kd.R_far (p := ⟨gb949, 1, none⟩) (Kd.R_far (p := ⟨gb949, 0, none⟩) (Kd.R_far (p := ⟨gb948, 0, none⟩) (Kd.R_types (Kd.R_mono HO_8.out (fun k_ hk => (⟨hk, hk.2⟩ : _ ∧ k_ ≠ gb948))) BK949.out (by decide)) (fun _ hk => hk.1.2) (.int .i64 x32_3)) (fun _ hk => hk.2) (.int .i64 ((rd_T48 l0 x32_3).f0))) (fun _ hk => hk.2) (.int .i64 ((rd_T48 l0 x32_3).f1))) (fun _ hk => ⟨hk.1.1.1, hk.1.1.2⟩)⟩, ⟨by (with_reducible repeat (first | refine blk_drewN ?_ _ | refine blk_drew ?_ | refine blk_alloc ?_ _)); refine blk_far ?_ NB936_949.out _; (with_reducible repeat (first | refine blk_drewN ?_ _ | refine blk_drew ?_ | refine blk_alloc ?_ _)); refine blk_far ?_ NB936_949.out _; (with_reducible repeat (first | refine blk_drewN ?_ _ | refine blk_drew ?_ | refine blk_alloc ?_ _)); refine blk_far ?_ NB936_948.out _; (with_reducible repeat (first | refine blk_drewN ?_ _ | refine blk_drew ?_ | refine blk_alloc ?_ _)); exact BK936.out⟩, ⟨by (with_reducible repeat (first | refine blk_drewN ?_ _ | refine blk_drew ?_ | refine blk_alloc ?_ _)); refine blk_far ?_ NB943_949.out _; (with_reducible repeat (first | refine blk_drewN ?_ _ | refine blk_drew ?_ | refine blk_alloc ?_ _)); refine blk_far ?_ NB943_949.out _; (with_reducible repeat (first | refine blk_drewN ?_ _ | refine blk_drew ?_ | refine blk_alloc ?_ _)); refine blk_far ?_ NB943_948.out _; (with_reducible repeat (first | refine blk_drewN ?_ _ | refine blk_drew ?_ | refine blk_alloc ?_ _)); exact BK943.out⟩, ⟨by (with_reducible repeat (first | refine blk_drewN ?_ _ | refine blk_drew ?_ | refine blk_alloc ?_ _)); refine blk_far ?_ NB948_949.out _; (with_reducible repeat (first | refine blk_drewN ?_ _ | refine blk_drew ?_ | refine blk_alloc ?_ _)); refine blk_far ?_ NB948_949.out _; (with_reducible repeat (first | refine blk_drewN ?_ _ | refine blk_drew ?_ | refine blk_alloc ?_ _)); refine blk_put (cs := #[.int .i64 0]) ?_ 0 _ rfl; (with_reducible repeat (first | refine blk_drewN ?_ _ | refine blk_drew ?_ | refine blk_alloc ?_ _)); exact BK948.out⟩, ⟨by (with_reducible repeat (first | refine blk_drewN ?_ _ | refine blk_drew ?_ | refine blk_alloc ?_ _)); refine blk_put (cs := #[.int .i64 ((rd_T48 l0 x32_3).f0), .int .i64 0]) ?_ 1 _ rfl; (with_reducible repeat (first | refine blk_drewN ?_ _ | refine blk_drew ?_ | refine blk_alloc ?_ _)); refine blk_put (cs := #[.int .i64 0, .int .i64 0]) ?_ 0 _ rfl; (with_reducible repeat (first | refine blk_drewN ?_ _ | refine blk_drew ?_ | refine blk_alloc ?_ _)); refine blk_far ?_ NB949_948.out _; (with_reducible repeat (first | refine blk_drewN ?_ _ | refine blk_drew ?_ | refine blk_alloc ?_ _)); exact BK949.out⟩, ⟨by repeat (first | (with_reducible first | exact HB.out | apply below_alloc | apply pw_below_drewN | apply below_drew1 | refine below_set ?_ GE936.out | refine below_set ?_ GE943.out | refine below_set ?_ GE948.out | refine below_set ?_ GE949.out) | exact HB.out)⟩⟩
               ·rw [if_neg c38] at H
                have c38b0 : (x24_2 == 0) = false := beq_eq_false_iff_ne.mpr c38
                have c38b1 : (x24_2 != 0) = true := bne_iff_ne.mpr c38
                (first | rw [c38b0] | (simp only [i64_w, i32_w]; rw [c38b0]) | skip)
                have H' := Aside0.mk H
                clear H
                go_wp2
                go_meet
                case rel => exact ⟨_, (false), (by first | rfl | (simp; done) | (simp [*]; done)), H', ⟨by have := HJ2.out; have := HK2.out; have := HK3.out; first | omega | exact Nat.le_refl _⟩, ⟨by (with_reducible repeat (first | apply Kd.R_alloc | apply Kd.R_drewN | apply Kd.R_drew)); exact Kd.R_mono (Kd.R_far (p := ⟨gb949, 1, none⟩) (Kd.R_far (p := ⟨gb949, 0, none⟩) (Kd.R_far (p := ⟨gb948, 0, none⟩) (Kd.R_types (Kd.R_mono HO_5.out (fun k_ hk => (⟨hk, hk.2⟩ : _ ∧ k_ ≠ gb948))) BK949.out (by decide)) (fun _ hk => hk.1.2) (.int .i64 x32_3)) (fun _ hk => hk.2) (.int .i64 ((rd_T48 l0 x32_3).f0))) (fun _ hk => hk.2) (.int .i64 ((rd_T48 l0 x32_3).f1))) (fun _ hk => ⟨hk.1.1.1, hk.1.1.2⟩)⟩, ⟨by (with_reducible repeat (first | apply Kd.R_alloc | apply Kd.R_drewN | apply Kd.R_drew)); exact Kd.R_mono (Kd.R_far (p := ⟨gb949, 1, none⟩) (Kd.R_far (p := ⟨gb949, 0, none⟩) (Kd.R_far (p := ⟨gb948, 0, none⟩) (Kd.R_types (Kd.R_mono HO_8.out (fun k_ hk => (⟨hk, hk.2⟩ : _ ∧ k_ ≠ gb948))) BK949.out (by decide)) (fun _ hk => hk.1.2) (.int .i64 x32_3)) (fun _ hk => hk.2) (.int .i64 ((rd_T48 l0 x32_3).f0))) (fun _ hk => hk.2) (.int .i64 ((rd_T48 l0 x32_3).f1))) (fun _ hk => ⟨hk.1.1.1, hk.1.1.2⟩)⟩, ⟨by (with_reducible repeat (first | refine blk_drewN ?_ _ | refine blk_drew ?_ | refine blk_alloc ?_ _)); refine blk_far ?_ NB936_949.out _; (with_reducible repeat (first | refine blk_drewN ?_ _ | refine blk_drew ?_ | refine blk_alloc ?_ _)); refine blk_far ?_ NB936_949.out _; (with_reducible repeat (first | refine blk_drewN ?_ _ | refine blk_drew ?_ | refine blk_alloc ?_ _)); refine blk_far ?_ NB936_948.out _; (with_reducible repeat (first | refine blk_drewN ?_ _ | refine blk_drew ?_ | refine blk_alloc ?_ _)); exact BK936.out⟩, ⟨by (with_reducible repeat (first | refine blk_drewN ?_ _ | refine blk_drew ?_ | refine blk_alloc ?_ _)); refine blk_far ?_ NB943_949.out _; (with_reducible repeat (first | refine blk_drewN ?_ _ | refine blk_drew ?_ | refine blk_alloc ?_ _)); refine blk_far ?_ NB943_949.out _; (with_reducible repeat (first | refine blk_drewN ?_ _ | refine blk_drew ?_ | refine blk_alloc ?_ _)); refine blk_far ?_ NB943_948.out _; (with_reducible repeat (first | refine blk_drewN ?_ _ | refine blk_drew ?_ | refine blk_alloc ?_ _)); exact BK943.out⟩, ⟨by (with_reducible repeat (first | refine blk_drewN ?_ _ | refine blk_drew ?_ | refine blk_alloc ?_ _)); refine blk_far ?_ NB948_949.out _; (with_reducible repeat (first | refine blk_drewN ?_ _ | refine blk_drew ?_ | refine blk_alloc ?_ _)); refine blk_far ?_ NB948_949.out _; (with_reducible repeat (first | refine blk_drewN ?_ _ | refine blk_drew ?_ | refine blk_alloc ?_ _)); refine blk_put (cs := #[.int .i64 0]) ?_ 0 _ rfl; (with_reducible repeat (first | refine blk_drewN ?_ _ | refine blk_drew ?_ | refine blk_alloc ?_ _)); exact BK948.out⟩, ⟨by (with_reducible repeat (first | refine blk_drewN ?_ _ | refine blk_drew ?_ | refine blk_alloc ?_ _)); refine blk_put (cs := #[.int .i64 ((rd_T48 l0 x32_3).f0), .int .i64 0]) ?_ 1 _ rfl; (with_reducible repeat (first | refine blk_drewN ?_ _ | refine blk_drew ?_ | refine blk_alloc ?_ _)); refine blk_put (cs := #[.int .i64 0, .int .i64 0]) ?_ 0 _ rfl; (with_reducible repeat (first | refine blk_drewN ?_ _ | refine blk_drew ?_ | refine blk_alloc ?_ _)); refine blk_far ?_ NB949_948.out _; (with_reducible repeat (first | refine blk_drewN ?_ _ | refine blk_drew ?_ | refine blk_alloc ?_ _)); exact BK949.out⟩, ⟨by repeat (first | (with_reducible first | exact HB.out | apply below_alloc | apply pw_below_drewN | apply below_drew1 | refine below_set ?_ GE936.out | refine below_set ?_ GE943.out | refine below_set ?_ GE948.out | refine below_set ?_ GE949.out) | exact HB.out)⟩⟩
              case rest =>
               clear HC28
               try clear c1
               try clear c2
               try clear p2
               try clear c3
               try clear c4
               try clear c5
               try clear c8
               try clear p9
               try clear q9
               try clear hx9
               try clear c15
               try clear c16
               try clear c16b0
               try clear c17
               try clear c17b0
               try clear c18
               try clear c18b0
               try clear c20
               try clear c25
               try clear c25b0
               try clear c26
               try clear c26b0
               try clear c27
               try clear c27b0
               try clear c30
               try clear c31
               try clear c32
               try clear c33
               try clear c35
               try clear c36
               try clear c38
               try clear c38b0
               try clear c38b1
               try clear c39
               try clear c39b0
               try clear c40
               try clear c41
               try clear c42
               try clear c44
               try clear c45
               try clear c46
               try clear c48
               try clear c49
               try clear hcz10_0
               try clear hcz13_0
               try clear hcz21_0
               try clear hcz21_1
               try clear hcz24_0
               try clear hcz34_0
               try clear hcz37_0
               try clear hcz37_1
               try clear hcz43_0
               try clear hcz43_1
               try clear hcz47_0
               try clear hcz47_1
               try clear hcz50_0
               try clear hfz10_0
               try clear hfz13_0
               try clear hfz21_0
               try clear hfz21_1
               try clear hfz24_0
               try clear hfz34_0
               try clear hfz37_0
               try clear hfz37_1
               try clear hfz43_0
               try clear hfz43_1
               try clear hfz47_0
               try clear hfz47_1
               try clear hfz50_0
               try clear hx942_0
               try clear hx942_1
               try clear hx947_0
               try clear hx947_1
               try clear p2
               try clear p9
               try clear p942
               try clear p947
               try clear q9
               try clear q942
               try clear q947
               obtain ⟨kq, x11_27, rfl, HA, HJ27, HO_5, HO_8, BK936, BK943, BK948, BK949, HB⟩ := hcut
               cases kq with
               | zero => exact absurd HA.out (by simp [impl_Select.j3])
               | succ kj27 =>
                have H := HA.out
                clear HA
                simp only [impl_Select.j3] at H
                have HC51 := Aside0.mk H
                clear H
                go_upto_region 12 with (fail)
                go_cut [52] (fun v52 wc => ∃ (kq : Nat) (x52_50 : Bool), v52 = .bool x52_50 ∧ Aside0 (impl_Select.j4 kq x5_2 x24_2 x8_3 x11_27 l1 (l1.length : Int) x24_2 l0 (l0.length : Int) x32_3 x52_50 l0 ((rd_T56 l1 x24_2).f0) ((rd_T56 l1 x24_2).f1) x32_3 ((rd_T48 l0 x32_3).f0) ((rd_T48 l0 x32_3).f1) = some r) ∧ Aside0 (kq ≤ kj27) ∧ Aside0 (Kd.R (Kd.int .i64) 3 wc w.heap.size (fun k_ => some k_ ≠ (u8 : Value).ownBlock ∧ k_ ≠ gb948) u5 x5_2) ∧ Aside0 (Kd.R (Kd.int .i64) 3 wc w.heap.size (fun k_ => some k_ ≠ (u5 : Value).ownBlock ∧ k_ ≠ gb948) u8 x8_3) ∧ Aside0 (wc.heap[gb936]? = some (.cells #[(.slice (some ad947) l0.length c0)] 24 (0, 0))) ∧ Aside0 (wc.heap[gb943]? = some (.cells #[.bool ((rd_T56 l1 x24_2).f0), .int .i64 ((rd_T56 l1 x24_2).f1)] 56 (0, 0))) ∧ Aside0 (wc.heap[gb948]? = some (.cells #[.int .i64 x32_3] 3 (0, 0))) ∧ Aside0 (wc.heap[gb949]? = some (.cells #[.int .i64 ((rd_T48 l0 x32_3).f0), .int .i64 ((rd_T48 l0 x32_3).f1)] 48 (0, 0))) ∧ Aside0 (Below w.heap.size w wc))
                case first =>
                 have H := HC51.out
                 clear HC51
                 by_cases c52 : x24_2 > 0
                 ·rw [if_pos c52] at H
                  have c52b0 : decide (0 < x24_2) = true := decide_eq_true c52
                  clear c52
                  (first | rw [c52b0] | (simp only [i64_w, i32_w]; rw [c52b0]) | skip)
                  have H' := Aside0.mk H
                  clear H
                  have hnb53 := NB943_936.out
                  have hnc53 := NB936_943.out
                  have hnb54 := NB943_948.out
                  have hnc54 := NB948_943.out
                  have hnb55 := NB943_949.out
                  have hnc55 := NB949_943.out
                  have hcz56_0 : wc.cell? ⟨gb943, 0, none⟩ = some (.bool ((rd_T56 l1 x24_2).f0)) := (blk_cell BK943.out 0).trans rfl
                  have hcz56_1 : wc.cell? ⟨gb943, 1, none⟩ = some (.int .i64 ((rd_T56 l1 x24_2).f1)) := (blk_cell BK943.out 1).trans rfl
                  have hfz56_0 := blk_frozen BK943.out 0
                  have hfz56_1 := blk_frozen BK943.out 1
                  go_wp2
                  go_meet
                  case rel => exact ⟨_, (((rd_T56 l1 x24_2).f0)), (by first | rfl | (simp; done) | (simp [*]; done)), H', ⟨by have := HJ2.out; have := HK2.out; have := HK3.out; have := HJ27.out; first | omega | exact Nat.le_refl _⟩, ⟨by (with_reducible repeat (first | apply Kd.R_alloc | apply Kd.R_drewN | apply Kd.R_drew)); exact HO_5.out⟩, ⟨by (with_reducible repeat (first | apply Kd.R_alloc | apply Kd.R_drewN | apply Kd.R_drew)); exact HO_8.out⟩, ⟨by (with_reducible repeat (first | refine blk_drewN ?_ _ | refine blk_drew ?_ | refine blk_alloc ?_ _)); exact BK936.out⟩, ⟨by (with_reducible repeat (first | refine blk_drewN ?_ _ | refine blk_drew ?_ | refine blk_alloc ?_ _)); exact BK943.out⟩, ⟨by (with_reducible repeat (first | refine blk_drewN ?_ _ | refine blk_drew ?_ | refine blk_alloc ?_ _)); exact BK948.out⟩, ⟨by (with_reducible repeat (first | refine blk_drewN ?_ _ | refine blk_drew ?_ | refine blk_alloc ?_ _)); exact BK949.out⟩, ⟨by repeat (first | (with_reducible first | exact HB.out | apply below_alloc | apply pw_below_drewN | apply below_drew1 | refine below_set ?_ GE936.out | refine below_set ?_ GE943.out | refine below_set ?_ GE948.out | refine below_set ?_ GE949.out) | exact HB.out)⟩⟩
                 ·rw [if_neg c52] at H
                  have c52b0 : decide (0 < x24_2) = false := decide_eq_false c52
                  clear c52
                  (first | rw [c52b0] | (simp only [i64_w, i32_w]; rw [c52b0]) | skip)
                  have H' := Aside0.mk H
                  clear H
                  go_wp2
                  go_meet
                  case rel => exact ⟨_, (false), (by first | rfl | (simp; done) | (simp [*]; done)), H', ⟨by have := HJ2.out; have := HK2.out; have := HK3.out; have := HJ27.out; first | omega | exact Nat.le_refl _⟩, ⟨by (with_reducible repeat (first | apply Kd.R_alloc | apply Kd.R_drewN | apply Kd.R_drew)); exact HO_5.out⟩, ⟨by (with_reducible repeat (first | apply Kd.R_alloc | apply Kd.R_drewN | apply Kd.R_drew)); exact HO_8.out⟩, ⟨by (with_reducible repeat (first | refine blk_drewN ?_ _ | refine blk_drew ?_ | refine blk_alloc ?_ _)); exact BK936.out⟩, ⟨by (with_reducible repeat (first | refine blk_drewN ?_ _ | refine blk_drew ?_ | refine blk_alloc ?_ _)); exact BK943.out⟩, ⟨by (with_reducible repeat (first | refine blk_drewN ?_ _ | refine blk_drew ?_ | refine blk_alloc ?_ _)); exact BK948.out⟩, ⟨by (with_reducible repeat (first | refine blk_drewN ?_ _ | refine blk_drew ?_ | refine blk_alloc ?_ _)); exact BK949.out⟩, ⟨by repeat (first | (with_reducible first | exact HB.out | apply below_alloc | apply pw_below_drewN | apply below_drew1 | refine below_set ?_ GE936.out | refine below_set ?_ GE943.out | refine below_set ?_ GE948.out | refine below_set ?_ GE949.out) | exact HB.out)⟩⟩
                case rest =>
                 clear HC51
                 try clear c1
                 try clear c2
                 try clear p2
                 try clear c3
                 try clear c4
                 try clear c5
                 try clear c8
                 try clear p9
                 try clear q9
                 try clear hx9
                 try clear c15
                 try clear c16
                 try clear c16b0
                 try clear c17
                 try clear c17b0
                 try clear c18
                 try clear c18b0
                 try clear c20
                 try clear c25
                 try clear c25b0
                 try clear c26
                 try clear c26b0
                 try clear c27
                 try clear c27b0
                 try clear c30
                 try clear c31
                 try clear c32
                 try clear c33
                 try clear c35
                 try clear c36
                 try clear c38
                 try clear c38b0
                 try clear c38b1
                 try clear c39
                 try clear c39b0
                 try clear c40
                 try clear c41
                 try clear c42
                 try clear c44
                 try clear c45
                 try clear c46
                 try clear c48
                 try clear c49
                 try clear c52
                 try clear c52b0
                 try clear c53
                 try clear c54
                 try clear c55
                 try clear hcz10_0
                 try clear hcz13_0
                 try clear hcz21_0
                 try clear hcz21_1
                 try clear hcz24_0
                 try clear hcz34_0
                 try clear hcz37_0
                 try clear hcz37_1
                 try clear hcz43_0
                 try clear hcz43_1
                 try clear hcz47_0
                 try clear hcz47_1
                 try clear hcz50_0
                 try clear hcz56_0
                 try clear hcz56_1
                 try clear hfz10_0
                 try clear hfz13_0
                 try clear hfz21_0
                 try clear hfz21_1
                 try clear hfz24_0
                 try clear hfz34_0
                 try clear hfz37_0
                 try clear hfz37_1
                 try clear hfz43_0
                 try clear hfz43_1
                 try clear hfz47_0
                 try clear hfz47_1
                 try clear hfz50_0
                 try clear hfz56_0
                 try clear hfz56_1
                 try clear hx942_0
                 try clear hx942_1
                 try clear hx947_0
                 try clear hx947_1
                 try clear p2
                 try clear p9
                 try clear p942
                 try clear p947
                 try clear q9
                 try clear q942
                 try clear q947
                 obtain ⟨kq, x52_50, rfl, HA, HJ50, HO_5, HO_8, BK936, BK943, BK948, BK949, HB⟩ := hcut
                 cases kq with
                 | zero => exact absurd HA.out (by simp [impl_Select.j4])
                 | succ kj50 =>
                  have H := HA.out
                  clear HA
                  simp only [impl_Select.j4] at H
                  by_cases c57 : x52_50 = true
                  ·subst c57
                   rw [if_pos rfl] at H
                   replace H := Option.bind_eq_some_iff.mp H
                   obtain ⟨t950, A580, H⟩ := H
                   have A58 := Aside0.mk A580
                   clear A580
                   by_cases c59 : t950 = true
                   ·subst c59
                    rw [if_pos rfl] at H
                    by_cases c60 : ((rd_T56 l1 x24_2).f1) = (-1)
                    ·rw [if_pos c60] at H
                     have c60b0 : (((rd_T56 l1 x24_2).f1) == (-1)) = true := beq_iff_eq.mpr c60
                     have c60b1 : (((rd_T56 l1 x24_2).f1) != (-1)) = false := bne_eq_false_iff_eq.mpr c60
                     clear c60
                     by_cases c61 : x8_3.length < 17592186044416
                     ·rw [if_pos c61] at H
                      have LMc61 := Aside0.mk c61
                      clear c61
                      obtain ⟨y951, hy951⟩ : ∃ y_ : List Int, y_ = (x8_3 ++ [x32_3]) := ⟨_, rfl⟩
                      replace H : (impl_Select.l1 kj50 x5_2 x24_2 y951 l1 (l1.length : Int) x24_2 l0 (l0.length : Int) (wrap64 (x32_3 + 1)) l0 ((rd_T56 l1 x24_2).f0) ((rd_T56 l1 x24_2).f1)) = some r := by first | (rw [hy951]; with_reducible exact H) | (have H2_ := (Option.bind_some _ _).symm.trans H; rw [hy951]; with_reducible exact H2_) | (have H2_ := (Option.bind_some _ _).symm.trans H; with_reducible exact H2_) | with_reducible exact H | (rw [hy951]; exact H) | exact H
                      have Ny951 := Aside0.mk hy951
                      clear hy951
                      have H' := Aside0.mk H
                      clear H
                      obtain ⟨Ao62, co62, eo62⟩ := Kd.R_slice HO_5.out
                      subst eo62
                      go_wp2_with (first | ((with_reducible refine gate_callee (f := 71) rfl ?_); refine goesL_ (some 55) rfl rfl Try.func71 (by kernel_rfl) rfl #[.slice Ao62 x5_2.length co62, .func (.func 72) #[] #[.pointer (some ⟨gb936, 0, none⟩), .pointer (some ⟨gb948, 0, none⟩)]] rfl (by (try simp only [List.map_toArray, List.map_cons, List.map_nil]); first | done | rfl | (simp only [List.length_drop, List.length_take]; rfl)) ?_; (with_reducible refine (slices_ContainsFunc_int_int__Select_lit1.calls kj50 _ _ x5_2 _ _ l0 x32_3 true _ ?side1 ?side2 ?side3 ?side4 A58.out gb936 gb948 (by (with_reducible repeat (first | refine blk_drewN ?_ _ | refine blk_drew ?_ | refine blk_alloc ?_ _)); exact BK936.out) (by (with_reducible repeat (first | refine blk_drewN ?_ _ | refine blk_drew ?_ | refine blk_alloc ?_ _)); exact BK948.out)).mono ?_); (case side1 => repeat (first | exact (Kd.R_reads' HO_5.out).2.2 | (with_reducible refine Kd.C_alloc ?_ _) | (with_reducible refine Kd.C_drewN ?_ _) | (with_reducible refine Kd.C_drew ?_))); (case side2 => exact (Kd.R_reads' HO_5.out).2.1); (case side3 => repeat (first | exact (Kd.C_below HR0.out HB.out) | (with_reducible refine Kd.C_alloc ?_ _) | (with_reducible refine Kd.C_drewN ?_ _) | (with_reducible refine Kd.C_drew ?_))); (case side4 => exact HC0.out); rintro e w63 ⟨rfl, hb⟩; refine ⟨_, rfl, ?_⟩; have n0_ := Aside0.mk (Kd.R_below (by (with_reducible repeat (first | apply Kd.R_alloc | apply Kd.R_drewN | apply Kd.R_drew)); exact HO_5.out) hb); have n1_ := Aside0.mk (Kd.R_below (by (with_reducible repeat (first | apply Kd.R_alloc | apply Kd.R_drewN | apply Kd.R_drew)); exact HO_8.out) hb); have n2_ := Aside0.mk (blk_below (g := gb936) (o := .cells #[.slice (some ad947) l0.length c0] 24 (0, 0)) (by (with_reducible repeat (first | refine blk_drewN ?_ _ | refine blk_drew ?_ | refine blk_alloc ?_ _)); exact BK936.out) hb); have n3_ := Aside0.mk (blk_below (g := gb943) (o := .cells #[.bool ((rd_T56 l1 x24_2).f0), .int .i64 ((rd_T56 l1 x24_2).f1)] 56 (0, 0)) (by (with_reducible repeat (first | refine blk_drewN ?_ _ | refine blk_drew ?_ | refine blk_alloc ?_ _)); exact BK943.out) hb); have n4_ := Aside0.mk (blk_below (g := gb948) (o := .cells #[.int .i64 x32_3] 3 (0, 0)) (by (with_reducible repeat (first | refine blk_drewN ?_ _ | refine blk_drew ?_ | refine blk_alloc ?_ _)); exact BK948.out) hb); have n5_ := Aside0.mk (blk_below (g := gb949) (o := .cells #[.int .i64 ((rd_T48 l0 x32_3).f0), .int .i64 ((rd_T48 l0 x32_3).f1)] 48 (0, 0)) (by (with_reducible repeat (first | refine blk_drewN ?_ _ | refine blk_drew ?_ | refine blk_alloc ?_ _)); exact BK949.out) hb); have n6_ := Aside0.mk (below_step (by repeat (first | (with_reducible first | exact HB.out | apply below_alloc | apply pw_below_drewN | apply below_drew1 | refine below_set ?_ GE936.out | refine below_set ?_ GE943.out | refine below_set ?_ GE948.out | refine below_set ?_ GE949.out) | exact HB.out)) hb); clear HO_5; clear HO_8; clear BK936; clear BK943; clear BK948; clear BK949; clear HB; have HO_5 := n0_; have HO_8 := n1_; have BK936 := n2_; have BK943 := n3_; have BK948 := n4_; have BK949 := n5_; have HB := n6_; clear n0_ n1_ n2_ n3_ n4_ n5_ n6_; (try clear hb); (try clear hb2); (try clear hk); (try clear hi); have hnb64 := NB943_936.out; have hnc64 := NB936_943.out; have hnb65 := NB943_948.out; have hnc65 := NB948_943.out; have hnb66 := NB943_949.out; have hnc66 := NB949_943.out; have hcz67_0 : w63.cell? ⟨gb943, 0, none⟩ = some (.bool ((rd_T56 l1 x24_2).f0)) := (blk_cell BK943.out 0).trans rfl; have hcz67_1 : w63.cell? ⟨gb943, 1, none⟩ = some (.int .i64 ((rd_T56 l1 x24_2).f1)) := (blk_cell BK943.out 1).trans rfl; have hfz67_0 := blk_frozen BK943.out 0; have hfz67_1 := blk_frozen BK943.out 1; have hnb68 := NB948_936.out; have hnc68 := NB936_948.out; have hnb69 := NB948_949.out; have hnc69 := NB949_948.out; have hcz70_0 : w63.cell? ⟨gb948, 0, none⟩ = some (.int .i64 x32_3) := (blk_cell BK948.out 0).trans rfl; have hfz70_0 := blk_frozen BK948.out 0) | ((with_reducible refine gate_builtin (b := .append) (xs := #[.tmp 76, .tmp 78]) rfl ?_); at_builtin; refine Kd.R_append (Kd.int .i64) (w0 := w) w.heap.size rfl (.tmp 76) (.tmp 78) 26 3 (.int .i64 0) 8 rfl Try.underlying26 info3 rfl (by decide) (by omega) u8 x8_3 x32_3 [.int .i64 x32_3] (fun k_ => some k_ ≠ (.slice Ao62 x5_2.length co62 : Value).ownBlock ∧ k_ ≠ gb948) (fun _ => False) rfl rfl ?aP (fun _ hk => hk.elim) ?aF ?aO ?aB ?aS ?aL ?_; (case aP => exact rfl); (case aB => exact (by repeat (first | (with_reducible first | exact HB.out | apply below_alloc | apply pw_below_drewN | apply below_drew1 | refine below_set ?_ GE936.out | refine below_set ?_ GE943.out | refine below_set ?_ GE948.out | refine below_set ?_ GE949.out) | exact HB.out))); (case aF => exact (fun k_ hk => ⟨Kd.fresh' (Kd.R_lt (by (with_reducible repeat (first | apply Kd.R_alloc | apply Kd.R_drewN | apply Kd.R_drew)); exact HO_5.out)) k_ hk, Kd.freshB (g := gb948) (o := .cells #[.int .i64 x32_3] 3 (0, 0)) (by (with_reducible repeat (first | refine blk_drewN ?_ _ | refine blk_drew ?_ | refine blk_alloc ?_ _)); exact BK948.out) k_ hk⟩)); (case aO => exact (by (with_reducible repeat (first | apply Kd.R_alloc | apply Kd.R_drewN | apply Kd.R_drew)); exact HO_8.out)); (case aS => exact (below_size (by repeat (first | (with_reducible first | exact HB.out | apply below_alloc | apply pw_below_drewN | apply below_drew1 | refine below_set ?_ GE936.out | refine below_set ?_ GE943.out | refine below_set ?_ GE948.out | refine below_set ?_ GE949.out) | exact HB.out)))); (case aL => have := LMc61.out; omega); intro v952 w71 ho hb hg hat; rw [← Ny951.out] at ho; have n0_ := Aside0.mk (Kd.R_after (ok := (fun k_ => k_ ≠ gb948)) (by (with_reducible repeat (first | apply Kd.R_alloc | apply Kd.R_drewN | apply Kd.R_drew)); exact Kd.R_mono HO_5.out (fun _ hk => ⟨hk.2, hk.1⟩)) hg hat); have n1_ := Aside0.mk (blk_grown (g := gb936) (o := .cells #[.slice (some ad947) l0.length c0] 24 (0, 0)) (by (with_reducible repeat (first | refine blk_drewN ?_ _ | refine blk_drew ?_ | refine blk_alloc ?_ _)); exact BK936.out) hg (Kd.R_ne HO_8.out BK936.out (by decide))); have n2_ := Aside0.mk (blk_grown (g := gb943) (o := .cells #[.bool ((rd_T56 l1 x24_2).f0), .int .i64 ((rd_T56 l1 x24_2).f1)] 56 (0, 0)) (by (with_reducible repeat (first | refine blk_drewN ?_ _ | refine blk_drew ?_ | refine blk_alloc ?_ _)); exact BK943.out) hg (Kd.R_ne HO_8.out BK943.out (by decide))); have n3_ := Aside0.mk (blk_grown (g := gb948) (o := .cells #[.int .i64 x32_3] 3 (0, 0)) (by (with_reducible repeat (first | refine blk_drewN ?_ _ | refine blk_drew ?_ | refine blk_alloc ?_ _)); exact BK948.out) hg (Kd.R_away HO_8.out (fun _ hk => hk.2))); have n4_ := Aside0.mk (blk_grown (g := gb949) (o := .cells #[.int .i64 ((rd_T48 l0 x32_3).f0), .int .i64 ((rd_T48 l0 x32_3).f1)] 48 (0, 0)) (by (with_reducible repeat (first | refine blk_drewN ?_ _ | refine blk_drew ?_ | refine blk_alloc ?_ _)); exact BK949.out) hg (Kd.R_ne HO_8.out BK949.out (by decide))); have n5_ := Aside0.mk (hb); have n6_ := Aside0.mk (ho); clear HO_5; clear BK936; clear BK943; clear BK948; clear BK949; clear HB; clear HO_8; have HO_5 := n0_; have BK936 := n1_; have BK943 := n2_; have BK948 := n3_; have BK949 := n4_; have HB := n5_; have HO953 := n6_; clear n0_ n1_ n2_ n3_ n4_ n5_ n6_; clear ho hb hg hat))
                      go_roundg kj50
                      case measure => have := HJ2.out; have := HK2.out; have := HK3.out; have := HJ27.out; have := HJ50.out; omega
                      case rel => exact ⟨(y951), (wrap64 (x32_3 + 1)), (by first | rfl | (simp; done) | (simp [*]; done)), H', ⟨by have := HJ2.out; have := HK2.out; have := HK3.out; have := HJ27.out; have := HJ50.out; omega⟩, ⟨by (with_reducible repeat (first | apply Kd.R_alloc | apply Kd.R_drewN | apply Kd.R_drew)); exact Kd.R_mono HO_5.out (fun _ hk => hk.2)⟩, ⟨by (with_reducible repeat (first | apply Kd.R_alloc | apply Kd.R_drewN | apply Kd.R_drew)); exact Kd.R_mono HO953.out (fun _ hk => hk.1)⟩, ⟨by (with_reducible repeat (first | refine blk_drewN ?_ _ | refine blk_drew ?_ | refine blk_alloc ?_ _)); exact BK936.out⟩, ⟨by (with_reducible repeat (first | refine blk_drewN ?_ _ | refine blk_drew ?_ | refine blk_alloc ?_ _)); exact BK943.out⟩, ⟨by repeat (first | (with_reducible first | exact HB.out | apply below_alloc | apply pw_below_drewN | apply below_drew1 | refine below_set ?_ GE936.out | refine below_set ?_ GE943.out | refine below_set ?_ GE948.out | refine below_set ?_ GE949.out) | exact HB.out)⟩⟩
                     ·rw [if_neg c61] at H
                      exact absurd H (by simp)
                    ·rw [if_neg c60] at H
                     have c60b0 : (((rd_T56 l1 x24_2).f1) == (-1)) = false := beq_eq_false_iff_ne.mpr c60
                     have c60b1 : (((rd_T56 l1 x24_2).f1) != (-1)) = true := bne_iff_ne.mpr c60
                     by_cases c72 : ((rd_T56 l1 x24_2).f1) = ((rd_T48 l0 x32_3).f0)
                     ·rw [if_pos c72] at H
                      have c72b0 : (((rd_T56 l1 x24_2).f1) == ((rd_T48 l0 x32_3).f0)) = true := beq_iff_eq.mpr c72
                      have c72b1 : (((rd_T56 l1 x24_2).f1) != ((rd_T48 l0 x32_3).f0)) = false := bne_eq_false_iff_eq.mpr c72
                      clear c72
                      by_cases c73 : x8_3.length < 17592186044416
                      ·rw [if_pos c73] at H
                       have LMc73 := Aside0.mk c73
                       clear c73
                       obtain ⟨y954, hy954⟩ : ∃ y_ : List Int, y_ = (x8_3 ++ [x32_3]) := ⟨_, rfl⟩
                       replace H : (impl_Select.l1 kj50 x5_2 x24_2 y954 l1 (l1.length : Int) x24_2 l0 (l0.length : Int) (wrap64 (x32_3 + 1)) l0 ((rd_T56 l1 x24_2).f0) ((rd_T56 l1 x24_2).f1)) = some r := by first | (rw [hy954]; with_reducible exact H) | (have H2_ := (Option.bind_some _ _).symm.trans H; rw [hy954]; with_reducible exact H2_) | (have H2_ := (Option.bind_some _ _).symm.trans H; with_reducible exact H2_) | with_reducible exact H | (rw [hy954]; exact H) | exact H
                       have Ny954 := Aside0.mk hy954
                       clear hy954
                       have H' := Aside0.mk H
                       clear H
                       obtain ⟨Ao74, co74, eo74⟩ := Kd.R_slice HO_5.out
                       subst eo74
                       go_wp2_with (first | ((with_reducible refine gate_callee (f := 71) rfl ?_); refine goesL_ (some 55) rfl rfl Try.func71 (by kernel_rfl) rfl #[.slice Ao74 x5_2.length co74, .func (.func 72) #[] #[.pointer (some ⟨gb936, 0, none⟩), .pointer (some ⟨gb948, 0, none⟩)]] rfl (by (try simp only [List.map_toArray, List.map_cons, List.map_nil]); first | done | rfl | (simp only [List.length_drop, List.length_take]; rfl)) ?_; (with_reducible refine (slices_ContainsFunc_int_int__Select_lit1.calls kj50 _ _ x5_2 _ _ l0 x32_3 true _ ?side1 ?side2 ?side3 ?side4 A58.out gb936 gb948 (by (with_reducible repeat (first | refine blk_drewN ?_ _ | refine blk_drew ?_ | refine blk_alloc ?_ _)); exact BK936.out) (by (with_reducible repeat (first | refine blk_drewN ?_ _ | refine blk_drew ?_ | refine blk_alloc ?_ _)); exact BK948.out)).mono ?_); (case side1 => repeat (first | exact (Kd.R_reads' HO_5.out).2.2 | (with_reducible refine Kd.C_alloc ?_ _) | (with_reducible refine Kd.C_drewN ?_ _) | (with_reducible refine Kd.C_drew ?_))); (case side2 => exact (Kd.R_reads' HO_5.out).2.1); (case side3 => repeat (first | exact (Kd.C_below HR0.out HB.out) | (with_reducible refine Kd.C_alloc ?_ _) | (with_reducible refine Kd.C_drewN ?_ _) | (with_reducible refine Kd.C_drew ?_))); (case side4 => exact HC0.out); rintro e w75 ⟨rfl, hb⟩; refine ⟨_, rfl, ?_⟩; have n0_ := Aside0.mk (Kd.R_below (by (with_reducible repeat (first | apply Kd.R_alloc | apply Kd.R_drewN | apply Kd.R_drew)); exact HO_5.out) hb); have n1_ := Aside0.mk (Kd.R_below (by (with_reducible repeat (first | apply Kd.R_alloc | apply Kd.R_drewN | apply Kd.R_drew)); exact HO_8.out) hb); have n2_ := Aside0.mk (blk_below (g := gb936) (o := .cells #[.slice (some ad947) l0.length c0] 24 (0, 0)) (by (with_reducible repeat (first | refine blk_drewN ?_ _ | refine blk_drew ?_ | refine blk_alloc ?_ _)); exact BK936.out) hb); have n3_ := Aside0.mk (blk_below (g := gb943) (o := .cells #[.bool ((rd_T56 l1 x24_2).f0), .int .i64 ((rd_T56 l1 x24_2).f1)] 56 (0, 0)) (by (with_reducible repeat (first | refine blk_drewN ?_ _ | refine blk_drew ?_ | refine blk_alloc ?_ _)); exact BK943.out) hb); have n4_ := Aside0.mk (blk_below (g := gb948) (o := .cells #[.int .i64 x32_3] 3 (0, 0)) (by (with_reducible repeat (first | refine blk_drewN ?_ _ | refine blk_drew ?_ | refine blk_alloc ?_ _)); exact BK948.out) hb); have n5_ := Aside0.mk (blk_below (g := gb949) (o := .cells #[.int .i64 ((rd_T48 l0 x32_3).f0), .int .i64 ((rd_T48 l0 x32_3).f1)] 48 (0, 0)) (by (with_reducible repeat (first | refine blk_drewN ?_ _ | refine blk_drew ?_ | refine blk_alloc ?_ _)); exact BK949.out) hb); have n6_ := Aside0.mk (below_step (by repeat (first | (with_reducible first | exact HB.out | apply below_alloc | apply pw_below_drewN | apply below_drew1 | refine below_set ?_ GE936.out | refine below_set ?_ GE943.out | refine below_set ?_ GE948.out | refine below_set ?_ GE949.out) | exact HB.out)) hb); clear HO_5; clear HO_8; clear BK936; clear BK943; clear BK948; clear BK949; clear HB; have HO_5 := n0_; have HO_8 := n1_; have BK936 := n2_; have BK943 := n3_; have BK948 := n4_; have BK949 := n5_; have HB := n6_; clear n0_ n1_ n2_ n3_ n4_ n5_ n6_; (try clear hb); (try clear hb2); (try clear hk); (try clear hi); have hnb76 := NB943_936.out; have hnc76 := NB936_943.out; have hnb77 := NB943_948.out; have hnc77 := NB948_943.out; have hnb78 := NB943_949.out; have hnc78 := NB949_943.out; have hcz79_0 : w75.cell? ⟨gb943, 0, none⟩ = some (.bool ((rd_T56 l1 x24_2).f0)) := (blk_cell BK943.out 0).trans rfl; have hcz79_1 : w75.cell? ⟨gb943, 1, none⟩ = some (.int .i64 ((rd_T56 l1 x24_2).f1)) := (blk_cell BK943.out 1).trans rfl; have hfz79_0 := blk_frozen BK943.out 0; have hfz79_1 := blk_frozen BK943.out 1; have hnb80 := NB949_936.out; have hnc80 := NB936_949.out; have hnb81 := NB949_948.out; have hnc81 := NB948_949.out; have hcz82_0 : w75.cell? ⟨gb949, 0, none⟩ = some (.int .i64 ((rd_T48 l0 x32_3).f0)) := (blk_cell BK949.out 0).trans rfl; have hcz82_1 : w75.cell? ⟨gb949, 1, none⟩ = some (.int .i64 ((rd_T48 l0 x32_3).f1)) := (blk_cell BK949.out 1).trans rfl; have hfz82_0 := blk_frozen BK949.out 0; have hfz82_1 := blk_frozen BK949.out 1; have hnb83 := NB948_936.out; have hnc83 := NB936_948.out; have hcz84_0 : w75.cell? ⟨gb948, 0, none⟩ = some (.int .i64 x32_3) := (blk_cell BK948.out 0).trans rfl; have hfz84_0 := blk_frozen BK948.out 0) | ((with_reducible refine gate_builtin (b := .append) (xs := #[.tmp 76, .tmp 78]) rfl ?_); at_builtin; refine Kd.R_append (Kd.int .i64) (w0 := w) w.heap.size rfl (.tmp 76) (.tmp 78) 26 3 (.int .i64 0) 8 rfl Try.underlying26 info3 rfl (by decide) (by omega) u8 x8_3 x32_3 [.int .i64 x32_3] (fun k_ => some k_ ≠ (.slice Ao74 x5_2.length co74 : Value).ownBlock ∧ k_ ≠ gb948) (fun _ => False) rfl rfl ?aP (fun _ hk => hk.elim) ?aF ?aO ?aB ?aS ?aL ?_; (case aP => exact rfl); (case aB => exact (by repeat (first | (with_reducible first | exact HB.out | apply below_alloc | apply pw_below_drewN | apply below_drew1 | refine below_set ?_ GE936.out | refine below_set ?_ GE943.out | refine below_set ?_ GE948.out | refine below_set ?_ GE949.out) | exact HB.out))); (case aF => exact (fun k_ hk => ⟨Kd.fresh' (Kd.R_lt (by (with_reducible repeat (first | apply Kd.R_alloc | apply Kd.R_drewN | apply Kd.R_drew)); exact HO_5.out)) k_ hk, Kd.freshB (g := gb948) (o := .cells #[.int .i64 x32_3] 3 (0, 0)) (by (with_reducible repeat (first | refine blk_drewN ?_ _ | refine blk_drew ?_ | refine blk_alloc ?_ _)); exact BK948.out) k_ hk⟩)); (case aO => exact (by (with_reducible repeat (first | apply Kd.R_alloc | apply Kd.R_drewN | apply Kd.R_drew)); exact HO_8.out)); (case aS => exact (below_size (by repeat (first | (with_reducible first | exact HB.out | apply below_alloc | apply pw_below_drewN | apply below_drew1 | refine below_set ?_ GE936.out | refine below_set ?_ GE943.out | refine below_set ?_ GE948.out | refine below_set ?_ GE949.out) | exact HB.out)))); (case aL => have := LMc73.out; omega); intro v955 w85 ho hb hg hat; rw [← Ny954.out] at ho; have n0_ := Aside0.mk (Kd.R_after (ok := (fun k_ => k_ ≠ gb948)) (by (with_reducible repeat (first | apply Kd.R_alloc | apply Kd.R_drewN | apply Kd.R_drew)); exact Kd.R_mono HO_5.out (fun _ hk => ⟨hk.2, hk.1⟩)) hg hat); have n1_ := Aside0.mk (blk_grown (g := gb936) (o := .cells #[.slice (some ad947) l0.length c0] 24 (0, 0)) (by (with_reducible repeat (first | refine blk_drewN ?_ _ | refine blk_drew ?_ | refine blk_alloc ?_ _)); exact BK936.out) hg (Kd.R_ne HO_8.out BK936.out (by decide))); have n2_ := Aside0.mk (blk_grown (g := gb943) (o := .cells #[.bool ((rd_T56 l1 x24_2).f0), .int .i64 ((rd_T56 l1 x24_2).f1)] 56 (0, 0)) (by (with_reducible repeat (first | refine blk_drewN ?_ _ | refine blk_drew ?_ | refine blk_alloc ?_ _)); exact BK943.out) hg (Kd.R_ne HO_8.out BK943.out (by decide))); have n3_ := Aside0.mk (blk_grown (g := gb948) (o := .cells #[.int .i64 x32_3] 3 (0, 0)) (by (with_reducible repeat (first | refine blk_drewN ?_ _ | refine blk_drew ?_ | refine blk_alloc ?_ _)); exact BK948.out) hg (Kd.R_away HO_8.out (fun _ hk => hk.2))); have n4_ := Aside0.mk (blk_grown (g := gb949) (o := .cells #[.int .i64 ((rd_T48 l0 x32_3).f0), .int .i64 ((rd_T48 l0 x32_3).f1)] 48 (0, 0)) (by (with_reducible repeat (first | refine blk_drewN ?_ _ | refine blk_drew ?_ | refine blk_alloc ?_ _)); exact BK949.out) hg (Kd.R_ne HO_8.out BK949.out (by decide))); have n5_ := Aside0.mk (hb); have n6_ := Aside0.mk (ho); clear HO_5; clear BK936; clear BK943; clear BK948; clear BK949; clear HB; clear HO_8; have HO_5 := n0_; have BK936 := n1_; have BK943 := n2_; have BK948 := n3_; have BK949 := n4_; have HB := n5_; have HO956 := n6_; clear n0_ n1_ n2_ n3_ n4_ n5_ n6_; clear ho hb hg hat))
                       go_roundg kj50
                       case measure => have := HJ2.out; have := HK2.out; have := HK3.out; have := HJ27.out; have := HJ50.out; omega
                       case rel => exact ⟨(y954), (wrap64 (x32_3 + 1)), (by first | rfl | (simp; done) | (simp [*]; done)), H', ⟨by have := HJ2.out; have := HK2.out; have := HK3.out; have := HJ27.out; have := HJ50.out; omega⟩, ⟨by (with_reducible repeat (first | apply Kd.R_alloc | apply Kd.R_drewN | apply Kd.R_drew)); exact Kd.R_mono HO_5.out (fun _ hk => hk.2)⟩, ⟨by (with_reducible repeat (first | apply Kd.R_alloc | apply Kd.R_drewN | apply Kd.R_drew)); exact Kd.R_mono HO956.out (fun _ hk => hk.1)⟩, ⟨by (with_reducible repeat (first | refine blk_drewN ?_ _ | refine blk_drew ?_ | refine blk_alloc ?_ _)); exact BK936.out⟩, ⟨by (with_reducible repeat (first | refine blk_drewN ?_ _ | refine blk_drew ?_ | refine blk_alloc ?_ _)); exact BK943.out⟩, ⟨by repeat (first | (with_reducible first | exact HB.out | apply below_alloc | apply pw_below_drewN | apply below_drew1 | refine below_set ?_ GE936.out | refine below_set ?_ GE943.out | refine below_set ?_ GE948.out | refine below_set ?_ GE949.out) | exact HB.out)⟩⟩
                      ·rw [if_neg c73] at H
                       exact absurd H (by simp)
                     ·rw [if_neg c72] at H
                      have c72b0 : (((rd_T56 l1 x24_2).f1) == ((rd_T48 l0 x32_3).f0)) = false := beq_eq_false_iff_ne.mpr c72
                      have c72b1 : (((rd_T56 l1 x24_2).f1) != ((rd_T48 l0 x32_3).f0)) = true := bne_iff_ne.mpr c72
                      have H' := Aside0.mk H
                      clear H
                      obtain ⟨Ao86, co86, eo86⟩ := Kd.R_slice HO_5.out
                      subst eo86
                      go_wp2_with (first | ((with_reducible refine gate_callee (f := 71) rfl ?_); refine goesL_ (some 55) rfl rfl Try.func71 (by kernel_rfl) rfl #[.slice Ao86 x5_2.length co86, .func (.func 72) #[] #[.pointer (some ⟨gb936, 0, none⟩), .pointer (some ⟨gb948, 0, none⟩)]] rfl (by (try simp only [List.map_toArray, List.map_cons, List.map_nil]); first | done | rfl | (simp only [List.length_drop, List.length_take]; rfl)) ?_; (with_reducible refine (slices_ContainsFunc_int_int__Select_lit1.calls kj50 _ _ x5_2 _ _ l0 x32_3 true _ ?side1 ?side2 ?side3 ?side4 A58.out gb936 gb948 (by (with_reducible repeat (first | refine blk_drewN ?_ _ | refine blk_drew ?_ | refine blk_alloc ?_ _)); exact BK936.out) (by (with_reducible repeat (first | refine blk_drewN ?_ _ | refine blk_drew ?_ | refine blk_alloc ?_ _)); exact BK948.out)).mono ?_); (case side1 => repeat (first | exact (Kd.R_reads' HO_5.out).2.2 | (with_reducible refine Kd.C_alloc ?_ _) | (with_reducible refine Kd.C_drewN ?_ _) | (with_reducible refine Kd.C_drew ?_))); (case side2 => exact (Kd.R_reads' HO_5.out).2.1); (case side3 => repeat (first | exact (Kd.C_below HR0.out HB.out) | (with_reducible refine Kd.C_alloc ?_ _) | (with_reducible refine Kd.C_drewN ?_ _) | (with_reducible refine Kd.C_drew ?_))); (case side4 => exact HC0.out); rintro e w87 ⟨rfl, hb⟩; refine ⟨_, rfl, ?_⟩; have n0_ := Aside0.mk (Kd.R_below (by (with_reducible repeat (first | apply Kd.R_alloc | apply Kd.R_drewN | apply Kd.R_drew)); exact HO_5.out) hb); have n1_ := Aside0.mk (Kd.R_below (by (with_reducible repeat (first | apply Kd.R_alloc | apply Kd.R_drewN | apply Kd.R_drew)); exact HO_8.out) hb); have n2_ := Aside0.mk (blk_below (g := gb936) (o := .cells #[.slice (some ad947) l0.length c0] 24 (0, 0)) (by (with_reducible repeat (first | refine blk_drewN ?_ _ | refine blk_drew ?_ | refine blk_alloc ?_ _)); exact BK936.out) hb); have n3_ := Aside0.mk (blk_below (g := gb943) (o := .cells #[.bool ((rd_T56 l1 x24_2).f0), .int .i64 ((rd_T56 l1 x24_2).f1)] 56 (0, 0)) (by (with_reducible repeat (first | refine blk_drewN ?_ _ | refine blk_drew ?_ | refine blk_alloc ?_ _)); exact BK943.out) hb); have n4_ := Aside0.mk (blk_below (g := gb948) (o := .cells #[.int .i64 x32_3] 3 (0, 0)) (by (with_reducible repeat (first | refine blk_drewN ?_ _ | refine blk_drew ?_ | refine blk_alloc ?_ _)); exact BK948.out) hb); have n5_ := Aside0.mk (blk_below (g := gb949) (o := .cells #[.int .i64 ((rd_T48 l0 x32_3).f0), .int .i64 ((rd_T48 l0 x32_3).f1)] 48 (0, 0)) (by (with_reducible repeat (first | refine blk_drewN ?_ _ | refine blk_drew ?_ | refine blk_alloc ?_ _)); exact BK949.out) hb); have n6_ := Aside0.mk (below_step (by repeat (first | (with_reducible first | exact HB.out | apply below_alloc | apply pw_below_drewN | apply below_drew1 | refine below_set ?_ GE936.out | refine below_set ?_ GE943.out | refine below_set ?_ GE948.out | refine below_set ?_ GE949.out) | exact HB.out)) hb); clear HO_5; clear HO_8; clear BK936; clear BK943; clear BK948; clear BK949; clear HB; have HO_5 := n0_; have HO_8 := n1_; have BK936 := n2_; have BK943 := n3_; have BK948 := n4_; have BK949 := n5_; have HB := n6_; clear n0_ n1_ n2_ n3_ n4_ n5_ n6_; (try clear hb); (try clear hb2); (try clear hk); (try clear hi); have hnb88 := NB943_936.out; have hnc88 := NB936_943.out; have hnb89 := NB943_948.out; have hnc89 := NB948_943.out; have hnb90 := NB943_949.out; have hnc90 := NB949_943.out; have hcz91_0 : w87.cell? ⟨gb943, 0, none⟩ = some (.bool ((rd_T56 l1 x24_2).f0)) := (blk_cell BK943.out 0).trans rfl; have hcz91_1 : w87.cell? ⟨gb943, 1, none⟩ = some (.int .i64 ((rd_T56 l1 x24_2).f1)) := (blk_cell BK943.out 1).trans rfl; have hfz91_0 := blk_frozen BK943.out 0; have hfz91_1 := blk_frozen BK943.out 1; have hnb92 := NB949_936.out; have hnc92 := NB936_949.out; have hnb93 := NB949_948.out; have hnc93 := NB948_949.out; have hcz94_0 : w87.cell? ⟨gb949, 0, none⟩ = some (.int .i64 ((rd_T48 l0 x32_3).f0)) := (blk_cell BK949.out 0).trans rfl; have hcz94_1 : w87.cell? ⟨gb949, 1, none⟩ = some (.int .i64 ((rd_T48 l0 x32_3).f1)) := (blk_cell BK949.out 1).trans rfl; have hfz94_0 := blk_frozen BK949.out 0; have hfz94_1 := blk_frozen BK949.out 1))
                      go_roundg kj50
                      case measure => have := HJ2.out; have := HK2.out; have := HK3.out; have := HJ27.out; have := HJ50.out; omega
                      case rel => exact ⟨(x8_3), (wrap64 (x32_3 + 1)), (by first | rfl | (simp; done) | (simp [*]; done)), H', ⟨by have := HJ2.out; have := HK2.out; have := HK3.out; have := HJ27.out; have := HJ50.out; omega⟩, ⟨by (with_reducible repeat (first | apply Kd.R_alloc | apply Kd.R_drewN | apply Kd.R_drew)); exact Kd.R_mono HO_5.out (fun _ hk => hk.1)⟩, ⟨by (with_reducible repeat (first | apply Kd.R_alloc | apply Kd.R_drewN | apply Kd.R_drew)); exact Kd.R_mono HO_8.out (fun _ hk => hk.1)⟩, ⟨by (with_reducible repeat (first | refine blk_drewN ?_ _ | refine blk_drew ?_ | refine blk_alloc ?_ _)); exact BK936.out⟩, ⟨by (with_reducible repeat (first | refine blk_drewN ?_ _ | refine blk_drew ?_ | refine blk_alloc ?_ _)); exact BK943.out⟩, ⟨by repeat (first | (with_reducible first | exact HB.out | apply below_alloc | apply pw_below_drewN | apply below_drew1 | refine below_set ?_ GE936.out | refine below_set ?_ GE943.out | refine below_set ?_ GE948.out | refine below_set ?_ GE949.out) | exact HB.out)⟩⟩
                   ·replace c59 := Bool.eq_false_iff.mpr c59
                    subst c59
                    rw [if_neg (show ¬ (false = true) by decide)] at H
                    have H' := Aside0.mk H
                    clear H
                    obtain ⟨Ao95, co95, eo95⟩ := Kd.R_slice HO_5.out
                    subst eo95
                    go_wp2_with (first | ((with_reducible refine gate_callee (f := 71) rfl ?_); refine goesL_ (some 55) rfl rfl Try.func71 (by kernel_rfl) rfl #[.slice Ao95 x5_2.length co95, .func (.func 72) #[] #[.pointer (some ⟨gb936, 0, none⟩), .pointer (some ⟨gb948, 0, none⟩)]] rfl (by (try simp only [List.map_toArray, List.map_cons, List.map_nil]); first | done | rfl | (simp only [List.length_drop, List.length_take]; rfl)) ?_; (with_reducible refine (slices_ContainsFunc_int_int__Select_lit1.calls kj50 _ _ x5_2 _ _ l0 x32_3 false _ ?side1 ?side2 ?side3 ?side4 A58.out gb936 gb948 (by (with_reducible repeat (first | refine blk_drewN ?_ _ | refine blk_drew ?_ | refine blk_alloc ?_ _)); exact BK936.out) (by (with_reducible repeat (first | refine blk_drewN ?_ _ | refine blk_drew ?_ | refine blk_alloc ?_ _)); exact BK948.out)).mono ?_); (case side1 => repeat (first | exact (Kd.R_reads' HO_5.out).2.2 | (with_reducible refine Kd.C_alloc ?_ _) | (with_reducible refine Kd.C_drewN ?_ _) | (with_reducible refine Kd.C_drew ?_))); (case side2 => exact (Kd.R_reads' HO_5.out).2.1); (case side3 => repeat (first | exact (Kd.C_below HR0.out HB.out) | (with_reducible refine Kd.C_alloc ?_ _) | (with_reducible refine Kd.C_drewN ?_ _) | (with_reducible refine Kd.C_drew ?_))); (case side4 => exact HC0.out); rintro e w96 ⟨rfl, hb⟩; refine ⟨_, rfl, ?_⟩; have n0_ := Aside0.mk (Kd.R_below (by (with_reducible repeat (first | apply Kd.R_alloc | apply Kd.R_drewN | apply Kd.R_drew)); exact HO_5.out) hb); have n1_ := Aside0.mk (Kd.R_below (by (with_reducible repeat (first | apply Kd.R_alloc | apply Kd.R_drewN | apply Kd.R_drew)); exact HO_8.out) hb); have n2_ := Aside0.mk (blk_below (g := gb936) (o := .cells #[.slice (some ad947) l0.length c0] 24 (0, 0)) (by (with_reducible repeat (first | refine blk_drewN ?_ _ | refine blk_drew ?_ | refine blk_alloc ?_ _)); exact BK936.out) hb); have n3_ := Aside0.mk (blk_below (g := gb943) (o := .cells #[.bool ((rd_T56 l1 x24_2).f0), .int .i64 ((rd_T56 l1 x24_2).f1)] 56 (0, 0)) (by (with_reducible repeat (first | refine blk_drewN ?_ _ | refine blk_drew ?_ | refine blk_alloc ?_ _)); exact BK943.out) hb); have n4_ := Aside0.mk (blk_below (g := gb948) (o := .cells #[.int .i64 x32_3] 3 (0, 0)) (by (with_reducible repeat (first | refine blk_drewN ?_ _ | refine blk_drew ?_ | refine blk_alloc ?_ _)); exact BK948.out) hb); have n5_ := Aside0.mk (blk_below (g := gb949) (o := .cells #[.int .i64 ((rd_T48 l0 x32_3).f0), .int .i64 ((rd_T48 l0 x32_3).f1)] 48 (0, 0)) (by (with_reducible repeat (first | refine blk_drewN ?_ _ | refine blk_drew ?_ | refine blk_alloc ?_ _)); exact BK949.out) hb); have n6_ := Aside0.mk (below_step (by repeat (first | (with_reducible first | exact HB.out | apply below_alloc | apply pw_below_drewN | apply below_drew1 | refine below_set ?_ GE936.out | refine below_set ?_ GE943.out | refine below_set ?_ GE948.out | refine below_set ?_ GE949.out) | exact HB.out)) hb); clear HO_5; clear HO_8; clear BK936; clear BK943; clear BK948; clear BK949; clear HB; have HO_5 := n0_; have HO_8 := n1_; have BK936 := n2_; have BK943 := n3_; have BK948 := n4_; have BK949 := n5_; have HB := n6_; clear n0_ n1_ n2_ n3_ n4_ n5_ n6_; (try clear hb); (try clear hb2); (try clear hk); (try clear hi)))
                    go_roundg kj50
                    case measure => have := HJ2.out; have := HK2.out; have := HK3.out; have := HJ27.out; have := HJ50.out; omega
                    case rel => exact ⟨(x8_3), (wrap64 (x32_3 + 1)), (by first | rfl | (simp; done) | (simp [*]; done)), H', ⟨by have := HJ2.out; have := HK2.out; have := HK3.out; have := HJ27.out; have := HJ50.out; omega⟩, ⟨by (with_reducible repeat (first | apply Kd.R_alloc | apply Kd.R_drewN | apply Kd.R_drew)); exact Kd.R_mono HO_5.out (fun _ hk => hk.1)⟩, ⟨by (with_reducible repeat (first | apply Kd.R_alloc | apply Kd.R_drewN | apply Kd.R_drew)); exact Kd.R_mono HO_8.out (fun _ hk => hk.1)⟩, ⟨by (with_reducible repeat (first | refine blk_drewN ?_ _ | refine blk_drew ?_ | refine blk_alloc ?_ _)); exact BK936.out⟩, ⟨by (with_reducible repeat (first | refine blk_drewN ?_ _ | refine blk_drew ?_ | refine blk_alloc ?_ _)); exact BK943.out⟩, ⟨by repeat (first | (with_reducible first | exact HB.out | apply below_alloc | apply pw_below_drewN | apply below_drew1 | refine below_set ?_ GE936.out | refine below_set ?_ GE943.out | refine below_set ?_ GE948.out | refine below_set ?_ GE949.out) | exact HB.out)⟩⟩
                  ·replace c57 := Bool.eq_false_iff.mpr c57
                   subst c57
                   rw [if_neg (show ¬ (false = true) by decide)] at H
                   by_cases c97 : x24_2 > 0
                   ·rw [if_pos c97] at H
                    have c97b0 : decide (0 < x24_2) = true := decide_eq_true c97
                    clear c97
                    replace H := Option.bind_eq_some_iff.mp H
                    obtain ⟨t957, A980, H⟩ := H
                    have A98 := Aside0.mk A980
                    clear A980
                    replace H := Option.bind_eq_some_iff.mp H
                    obtain ⟨t958, A990, H⟩ := H
                    have A99 := Aside0.mk A990
                    clear A990
                    by_cases c100 : t958 = true
                    ·subst c100
                     rw [if_pos rfl] at H
                     by_cases c101 : ((rd_T56 l1 x24_2).f1) = (-1)
                     ·rw [if_pos c101] at H
                      have c101b0 : (((rd_T56 l1 x24_2).f1) == (-1)) = true := beq_iff_eq.mpr c101
                      have c101b1 : (((rd_T56 l1 x24_2).f1) != (-1)) = false := bne_eq_false_iff_eq.mpr c101
                      clear c101
                      by_cases c102 : x8_3.length < 17592186044416
                      ·rw [if_pos c102] at H
                       have LMc102 := Aside0.mk c102
                       clear c102
                       obtain ⟨y959, hy959⟩ : ∃ y_ : List Int, y_ = (x8_3 ++ [x32_3]) := ⟨_, rfl⟩
                       replace H : (impl_Select.l1 kj50 x5_2 x24_2 y959 l1 (l1.length : Int) x24_2 l0 (l0.length : Int) (wrap64 (x32_3 + 1)) l0 ((rd_T56 l1 x24_2).f0) ((rd_T56 l1 x24_2).f1)) = some r := by first | (rw [hy959]; with_reducible exact H) | (have H2_ := (Option.bind_some _ _).symm.trans H; rw [hy959]; with_reducible exact H2_) | (have H2_ := (Option.bind_some _ _).symm.trans H; with_reducible exact H2_) | with_reducible exact H | (rw [hy959]; exact H) | exact H
                       have Ny959 := Aside0.mk hy959
                       clear hy959
                       have H' := Aside0.mk H
                       clear H
                       have hnb103 := NB936_943.out
                       have hnc103 := NB943_936.out
                       have hnb104 := NB936_948.out
                       have hnc104 := NB948_936.out
                       have hnb105 := NB936_949.out
                       have hnc105 := NB949_936.out
                       have hcz106_0 : wc.cell? ⟨gb936, 0, none⟩ = some (.slice (some ad947) l0.length c0) := (blk_cell BK936.out 0).trans rfl
                       have hfz106_0 := blk_frozen BK936.out 0
                       have hnb107 := NB948_943.out
                       have hnc107 := NB943_948.out
                       have hnb108 := NB948_949.out
                       have hnc108 := NB949_948.out
                       have hcz109_0 : wc.cell? ⟨gb948, 0, none⟩ = some (.int .i64 x32_3) := (blk_cell BK948.out 0).trans rfl
                       have hfz109_0 := blk_frozen BK948.out 0
                       go_wp2_with (first | ((with_reducible refine gate_callee (f := 75) rfl ?_); refine goesL_ (some 61) rfl rfl Try.func75 (by kernel_rfl) rfl #[.slice (some ad947) l0.length c0, .int .i64 x32_3] rfl (by (try simp only [List.map_toArray, List.map_cons, List.map_nil]); first | done | rfl | (simp only [List.length_drop, List.length_take]; rfl)) ?_; (with_reducible refine (impl_ParentOf.calls kj50 _ _ l0 x32_3 t957 _ ?side1 ?side2 A98.out).mono ?_); (case side1 => repeat (first | exact (Kd.C_below HR0.out HB.out) | (with_reducible refine Kd.C_alloc ?_ _) | (with_reducible refine Kd.C_drewN ?_ _) | (with_reducible refine Kd.C_drew ?_))); (case side2 => exact HC0.out); rintro e w110 ⟨rfl, hb⟩; refine ⟨_, rfl, ?_⟩; have n0_ := Aside0.mk (Kd.R_below (by (with_reducible repeat (first | apply Kd.R_alloc | apply Kd.R_drewN | apply Kd.R_drew)); exact HO_5.out) hb); have n1_ := Aside0.mk (Kd.R_below (by (with_reducible repeat (first | apply Kd.R_alloc | apply Kd.R_drewN | apply Kd.R_drew)); exact HO_8.out) hb); have n2_ := Aside0.mk (blk_below (g := gb936) (o := .cells #[.slice (some ad947) l0.length c0] 24 (0, 0)) (by (with_reducible repeat (first | refine blk_drewN ?_ _ | refine blk_drew ?_ | refine blk_alloc ?_ _)); exact BK936.out) hb); have n3_ := Aside0.mk (blk_below (g := gb943) (o := .cells #[.bool ((rd_T56 l1 x24_2).f0), .int .i64 ((rd_T56 l1 x24_2).f1)] 56 (0, 0)) (by (with_reducible repeat (first | refine blk_drewN ?_ _ | refine blk_drew ?_ | refine blk_alloc ?_ _)); exact BK943.out) hb); have n4_ := Aside0.mk (blk_below (g := gb948) (o := .cells #[.int .i64 x32_3] 3 (0, 0)) (by (with_reducible repeat (first | refine blk_drewN ?_ _ | refine blk_drew ?_ | refine blk_alloc ?_ _)); exact BK948.out) hb); have n5_ := Aside0.mk (blk_below (g := gb949) (o := .cells #[.int .i64 ((rd_T48 l0 x32_3).f0), .int .i64 ((rd_T48 l0 x32_3).f1)] 48 (0, 0)) (by (with_reducible repeat (first | refine blk_drewN ?_ _ | refine blk_drew ?_ | refine blk_alloc ?_ _)); exact BK949.out) hb); have n6_ := Aside0.mk (below_step (by repeat (first | (with_reducible first | exact HB.out | apply below_alloc | apply pw_below_drewN | apply below_drew1 | refine below_set ?_ GE936.out | refine below_set ?_ GE943.out | refine below_set ?_ GE948.out | refine below_set ?_ GE949.out) | exact HB.out)) hb); clear HO_5; clear HO_8; clear BK936; clear BK943; clear BK948; clear BK949; clear HB; have HO_5 := n0_; have HO_8 := n1_; have BK936 := n2_; have BK943 := n3_; have BK948 := n4_; have BK949 := n5_; have HB := n6_; clear n0_ n1_ n2_ n3_ n4_ n5_ n6_; (try clear hb); (try clear hb2); (try clear hk); (try clear hi); obtain ⟨Ao111, co111, eo111⟩ := Kd.R_slice HO_5.out; subst eo111) | ((with_reducible refine gate_callee (f := 74) rfl ?_); refine goesL_ (some 62) rfl rfl Try.func74 (by kernel_rfl) rfl #[.slice Ao111 x5_2.length co111, .int .i64 t957] rfl (by (try simp only [List.map_toArray, List.map_cons, List.map_nil]); first | done | rfl | (simp only [List.length_drop, List.length_take]; rfl)) ?_; (with_reducible refine (slices_Contains_int_int.calls kj50 _ _ x5_2 t957 true _ ?side1 ?side2 A99.out).mono ?_); (case side1 => repeat (first | exact (Kd.R_reads' HO_5.out).2.2 | (with_reducible refine Kd.C_alloc ?_ _) | (with_reducible refine Kd.C_drewN ?_ _) | (with_reducible refine Kd.C_drew ?_))); (case side2 => exact (Kd.R_reads' HO_5.out).2.1); rintro e w' ⟨rfl, ⟨nd, rfl⟩⟩; refine ⟨_, rfl, ?_⟩; have hnb112 := NB943_949.out; have hnc112 := NB949_943.out; have hcz113_0 : w110.cell? ⟨gb943, 0, none⟩ = some (.bool ((rd_T56 l1 x24_2).f0)) := (blk_cell BK943.out 0).trans rfl; have hcz113_1 : w110.cell? ⟨gb943, 1, none⟩ = some (.int .i64 ((rd_T56 l1 x24_2).f1)) := (blk_cell BK943.out 1).trans rfl; have hfz113_0 := blk_frozen BK943.out 0; have hfz113_1 := blk_frozen BK943.out 1; have hcz114_0 : w110.cell? ⟨gb948, 0, none⟩ = some (.int .i64 x32_3) := (blk_cell BK948.out 0).trans rfl; have hfz114_0 := blk_frozen BK948.out 0) | ((with_reducible refine gate_builtin (b := .append) (xs := #[.tmp 76, .tmp 78]) rfl ?_); at_builtin; refine Kd.R_append (Kd.int .i64) (w0 := w) w.heap.size rfl (.tmp 76) (.tmp 78) 26 3 (.int .i64 0) 8 rfl Try.underlying26 info3 rfl (by decide) (by omega) u8 x8_3 x32_3 [.int .i64 x32_3] (fun k_ => some k_ ≠ (.slice Ao111 x5_2.length co111 : Value).ownBlock ∧ k_ ≠ gb948) (fun _ => False) rfl rfl ?aP (fun _ hk => hk.elim) ?aF ?aO ?aB ?aS ?aL ?_; (case aP => exact rfl); (case aB => exact (by repeat (first | (with_reducible first | exact HB.out | apply below_alloc | apply pw_below_drewN | apply below_drew1 | refine below_set ?_ GE936.out | refine below_set ?_ GE943.out | refine below_set ?_ GE948.out | refine below_set ?_ GE949.out) | exact HB.out))); (case aF => exact (fun k_ hk => ⟨Kd.fresh' (Kd.R_lt (by (with_reducible repeat (first | apply Kd.R_alloc | apply Kd.R_drewN | apply Kd.R_drew)); exact HO_5.out)) k_ hk, Kd.freshB (g := gb948) (o := .cells #[.int .i64 x32_3] 3 (0, 0)) (by (with_reducible repeat (first | refine blk_drewN ?_ _ | refine blk_drew ?_ | refine blk_alloc ?_ _)); exact BK948.out) k_ hk⟩)); (case aO => exact (by (with_reducible repeat (first | apply Kd.R_alloc | apply Kd.R_drewN | apply Kd.R_drew)); exact HO_8.out)); (case aS => exact (below_size (by repeat (first | (with_reducible first | exact HB.out | apply below_alloc | apply pw_below_drewN | apply below_drew1 | refine below_set ?_ GE936.out | refine below_set ?_ GE943.out | refine below_set ?_ GE948.out | refine below_set ?_ GE949.out) | exact HB.out)))); (case aL => have := LMc102.out; omega); intro v960 w115 ho hb hg hat; rw [← Ny959.out] at ho; have n0_ := Aside0.mk (Kd.R_after (ok := (fun k_ => k_ ≠ gb948)) (by (with_reducible repeat (first | apply Kd.R_alloc | apply Kd.R_drewN | apply Kd.R_drew)); exact Kd.R_mono HO_5.out (fun _ hk => ⟨hk.2, hk.1⟩)) hg hat); have n1_ := Aside0.mk (blk_grown (g := gb936) (o := .cells #[.slice (some ad947) l0.length c0] 24 (0, 0)) (by (with_reducible repeat (first | refine blk_drewN ?_ _ | refine blk_drew ?_ | refine blk_alloc ?_ _)); exact BK936.out) hg (Kd.R_ne HO_8.out BK936.out (by decide))); have n2_ := Aside0.mk (blk_grown (g := gb943) (o := .cells #[.bool ((rd_T56 l1 x24_2).f0), .int .i64 ((rd_T56 l1 x24_2).f1)] 56 (0, 0)) (by (with_reducible repeat (first | refine blk_drewN ?_ _ | refine blk_drew ?_ | refine blk_alloc ?_ _)); exact BK943.out) hg (Kd.R_ne HO_8.out BK943.out (by decide))); have n3_ := Aside0.mk (blk_grown (g := gb948) (o := .cells #[.int .i64 x32_3] 3 (0, 0)) (by (with_reducible repeat (first | refine blk_drewN ?_ _ | refine blk_drew ?_ | refine blk_alloc ?_ _)); exact BK948.out) hg (Kd.R_away HO_8.out (fun _ hk => hk.2))); have n4_ := Aside0.mk (blk_grown (g := gb949) (o := .cells #[.int .i64 ((rd_T48 l0 x32_3).f0), .int .i64 ((rd_T48 l0 x32_3).f1)] 48 (0, 0)) (by (with_reducible repeat (first | refine blk_drewN ?_ _ | refine blk_drew ?_ | refine blk_alloc ?_ _)); exact BK949.out) hg (Kd.R_ne HO_8.out BK949.out (by decide))); have n5_ := Aside0.mk (hb); have n6_ := Aside0.mk (ho); clear HO_5; clear BK936; clear BK943; clear BK948; clear BK949; clear HB; clear HO_8; have HO_5 := n0_; have BK936 := n1_; have BK943 := n2_; have BK948 := n3_; have BK949 := n4_; have HB := n5_; have HO961 := n6_; clear n0_ n1_ n2_ n3_ n4_ n5_ n6_; clear ho hb hg hat))
                       go_roundg kj50
                       case measure => have := HJ2.out; have := HK2.out; have := HK3.out; have := HJ27.out; have := HJ50.out; omega
                       case rel => exact ⟨(y959), (wrap64 (x32_3 + 1)), (by first | rfl | (simp; done) | (simp [*]; done)), H', ⟨by have := HJ2.out; have := HK2.out; have := HK3.out; have := HJ27.out; have := HJ50.out; omega⟩, ⟨by (with_reducible repeat (first | apply Kd.R_alloc | apply Kd.R_drewN | apply Kd.R_drew)); exact Kd.R_mono HO_5.out (fun _ hk => hk.2)⟩, ⟨by (with_reducible repeat (first | apply Kd.R_alloc | apply Kd.R_drewN | apply Kd.R_drew)); exact Kd.R_mono HO961.out (fun _ hk => hk.1)⟩, ⟨by (with_reducible repeat (first | refine blk_drewN ?_ _ | refine blk_drew ?_ | refine blk_alloc ?_ _)); exact BK936.out⟩, ⟨by (with_reducible repeat (first | refine blk_drewN ?_ _ | refine blk_drew ?_ | refine blk_alloc ?_ _)); exact BK943.out⟩, ⟨by repeat (first | (with_reducible first | exact HB.out | apply below_alloc | apply pw_below_drewN | apply below_drew1 | refine below_set ?_ GE936.out | refine below_set ?_ GE943.out | refine below_set ?_ GE948.out | refine below_set ?_ GE949.out) | exact HB.out)⟩⟩
                      ·rw [if_neg c102] at H
                       exact absurd H (by simp)
                     ·rw [if_neg c101] at H
                      have c101b0 : (((rd_T56 l1 x24_2).f1) == (-1)) = false := beq_eq_false_iff_ne.mpr c101
                      have c101b1 : (((rd_T56 l1 x24_2).f1) != (-1)) = true := bne_iff_ne.mpr c101
                      by_cases c116 : ((rd_T56 l1 x24_2).f1) = ((rd_T48 l0 x32_3).f0)
                      ·rw [if_pos c116] at H
                       have c116b0 : (((rd_T56 l1 x24_2).f1) == ((rd_T48 l0 x32_3).f0)) = true := beq_iff_eq.mpr c116
                       have c116b1 : (((rd_T56 l1 x24_2).f1) != ((rd_T48 l0 x32_3).f0)) = false := bne_eq_false_iff_eq.mpr c116
                       clear c116
                       by_cases c117 : x8_3.length < 17592186044416
                       ·rw [if_pos c117] at H
                        have LMc117 := Aside0.mk c117
                        clear c117
                        obtain ⟨y962, hy962⟩ : ∃ y_ : List Int, y_ = (x8_3 ++ [x32_3]) := ⟨_, rfl⟩
                        replace H : (impl_Select.l1 kj50 x5_2 x24_2 y962 l1 (l1.length : Int) x24_2 l0 (l0.length : Int) (wrap64 (x32_3 + 1)) l0 ((rd_T56 l1 x24_2).f0) ((rd_T56 l1 x24_2).f1)) = some r := by first | (rw [hy962]; with_reducible exact H) | (have H2_ := (Option.bind_some _ _).symm.trans H; rw [hy962]; with_reducible exact H2_) | (have H2_ := (Option.bind_some _ _).symm.trans H; with_reducible exact H2_) | with_reducible exact H | (rw [hy962]; exact H) | exact H
                        have Ny962 := Aside0.mk hy962
                        clear hy962
                        have H' := Aside0.mk H
                        clear H
                        have hnb118 := NB936_943.out
                        have hnc118 := NB943_936.out
                        have hnb119 := NB936_948.out
                        have hnc119 := NB948_936.out
                        have hnb120 := NB936_949.out
                        have hnc120 := NB949_936.out
                        have hcz121_0 : wc.cell? ⟨gb936, 0, none⟩ = some (.slice (some ad947) l0.length c0) := (blk_cell BK936.out 0).trans rfl
                        have hfz121_0 := blk_frozen BK936.out 0
                        have hnb122 := NB948_943.out
                        have hnc122 := NB943_948.out
                        have hnb123 := NB948_949.out
                        have hnc123 := NB949_948.out
                        have hcz124_0 : wc.cell? ⟨gb948, 0, none⟩ = some (.int .i64 x32_3) := (blk_cell BK948.out 0).trans rfl
                        have hfz124_0 := blk_frozen BK948.out 0
                        go_wp2_with (first | ((with_reducible refine gate_callee (f := 75) rfl ?_); refine goesL_ (some 61) rfl rfl Try.func75 (by kernel_rfl) rfl #[.slice (some ad947) l0.length c0, .int .i64 x32_3] rfl (by (try simp only [List.map_toArray, List.map_cons, List.map_nil]); first | done | rfl | (simp only [List.length_drop, List.length_take]; rfl)) ?_; (with_reducible refine (impl_ParentOf.calls kj50 _ _ l0 x32_3 t957 _ ?side1 ?side2 A98.out).mono ?_); (case side1 => repeat (first | exact (Kd.C_below HR0.out HB.out) | (with_reducible refine Kd.C_alloc ?_ _) | (with_reducible refine Kd.C_drewN ?_ _) | (with_reducible refine Kd.C_drew ?_))); (case side2 => exact HC0.out); rintro e w125 ⟨rfl, hb⟩; refine ⟨_, rfl, ?_⟩; have n0_ := Aside0.mk (Kd.R_below (by (with_reducible repeat (first | apply Kd.R_alloc | apply Kd.R_drewN | apply Kd.R_drew)); exact HO_5.out) hb); have n1_ := Aside0.mk (Kd.R_below (by (with_reducible repeat (first | apply Kd.R_alloc | apply Kd.R_drewN | apply Kd.R_drew)); exact HO_8.out) hb); have n2_ := Aside0.mk (blk_below (g := gb936) (o := .cells #[.slice (some ad947) l0.length c0] 24 (0, 0)) (by (with_reducible repeat (first | refine blk_drewN ?_ _ | refine blk_drew ?_ | refine blk_alloc ?_ _)); exact BK936.out) hb); have n3_ := Aside0.mk (blk_below (g := gb943) (o := .cells #[.bool ((rd_T56 l1 x24_2).f0), .int .i64 ((rd_T56 l1 x24_2).f1)] 56 (0, 0)) (by (with_reducible repeat (first | refine blk_drewN ?_ _ | refine blk_drew ?_ | refine blk_alloc ?_ _)); exact BK943.out) hb); have n4_ := Aside0.mk (blk_below (g := gb948) (o := .cells #[.int .i64 x32_3] 3 (0, 0)) (by (with_reducible repeat (first | refine blk_drewN ?_ _ | refine blk_drew ?_ | refine blk_alloc ?_ _)); exact BK948.out) hb); have n5_ := Aside0.mk (blk_below (g := gb949) (o := .cells #[.int .i64 ((rd_T48 l0 x32_3).f0), .int .i64 ((rd_T48 l0 x32_3).f1)] 48 (0, 0)) (by (with_reducible repeat (first | refine blk_drewN ?_ _ | refine blk_drew ?_ | refine blk_alloc ?_ _)); exact BK949.out) hb); have n6_ := Aside0.mk (below_step (by repeat (first | (with_reducible first | exact HB.out | apply below_alloc | apply pw_below_drewN | apply below_drew1 | refine below_set ?_ GE936.out | refine below_set ?_ GE943.out | refine below_set ?_ GE948.out | refine below_set ?_ GE949.out) | exact HB.out)) hb); clear HO_5; clear HO_8; clear BK936; clear BK943; clear BK948; clear BK949; clear HB; have HO_5 := n0_; have HO_8 := n1_; have BK936 := n2_; have BK943 := n3_; have BK948 := n4_; have BK949 := n5_; have HB := n6_; clear n0_ n1_ n2_ n3_ n4_ n5_ n6_; (try clear hb); (try clear hb2); (try clear hk); (try clear hi); obtain ⟨Ao126, co126, eo126⟩ := Kd.R_slice HO_5.out; subst eo126) | ((with_reducible refine gate_callee (f := 74) rfl ?_); refine goesL_ (some 62) rfl rfl Try.func74 (by kernel_rfl) rfl #[.slice Ao126 x5_2.length co126, .int .i64 t957] rfl (by (try simp only [List.map_toArray, List.map_cons, List.map_nil]); first | done | rfl | (simp only [List.length_drop, List.length_take]; rfl)) ?_; (with_reducible refine (slices_Contains_int_int.calls kj50 _ _ x5_2 t957 true _ ?side1 ?side2 A99.out).mono ?_); (case side1 => repeat (first | exact (Kd.R_reads' HO_5.out).2.2 | (with_reducible refine Kd.C_alloc ?_ _) | (with_reducible refine Kd.C_drewN ?_ _) | (with_reducible refine Kd.C_drew ?_))); (case side2 => exact (Kd.R_reads' HO_5.out).2.1); rintro e w' ⟨rfl, ⟨nd, rfl⟩⟩; refine ⟨_, rfl, ?_⟩; have hnb127 := NB943_949.out; have hnc127 := NB949_943.out; have hcz128_0 : w125.cell? ⟨gb943, 0, none⟩ = some (.bool ((rd_T56 l1 x24_2).f0)) := (blk_cell BK943.out 0).trans rfl; have hcz128_1 : w125.cell? ⟨gb943, 1, none⟩ = some (.int .i64 ((rd_T56 l1 x24_2).f1)) := (blk_cell BK943.out 1).trans rfl; have hfz128_0 := blk_frozen BK943.out 0; have hfz128_1 := blk_frozen BK943.out 1; have hcz129_0 : w125.cell? ⟨gb949, 0, none⟩ = some (.int .i64 ((rd_T48 l0 x32_3).f0)) := (blk_cell BK949.out 0).trans rfl; have hcz129_1 : w125.cell? ⟨gb949, 1, none⟩ = some (.int .i64 ((rd_T48 l0 x32_3).f1)) := (blk_cell BK949.out 1).trans rfl; have hfz129_0 := blk_frozen BK949.out 0; have hfz129_1 := blk_frozen BK949.out 1; have hcz130_0 : w125.cell? ⟨gb948, 0, none⟩ = some (.int .i64 x32_3) := (blk_cell BK948.out 0).trans rfl; have hfz130_0 := blk_frozen BK948.out 0) | ((with_reducible refine gate_builtin (b := .append) (xs := #[.tmp 76, .tmp 78]) rfl ?_); at_builtin; refine Kd.R_append (Kd.int .i64) (w0 := w) w.heap.size rfl (.tmp 76) (.tmp 78) 26 3 (.int .i64 0) 8 rfl Try.underlying26 info3 rfl (by decide) (by omega) u8 x8_3 x32_3 [.int .i64 x32_3] (fun k_ => some k_ ≠ (.slice Ao126 x5_2.length co126 : Value).ownBlock ∧ k_ ≠ gb948) (fun _ => False) rfl rfl ?aP (fun _ hk => hk.elim) ?aF ?aO ?aB ?aS ?aL ?_; (case aP => exact rfl); (case aB => exact (by repeat (first | (with_reducible first | exact HB.out | apply below_alloc | apply pw_below_drewN | apply below_drew1 | refine below_set ?_ GE936.out | refine below_set ?_ GE943.out | refine below_set ?_ GE948.out | refine below_set ?_ GE949.out) | exact HB.out))); (case aF => exact (fun k_ hk => ⟨Kd.fresh' (Kd.R_lt (by (with_reducible repeat (first | apply Kd.R_alloc | apply Kd.R_drewN | apply Kd.R_drew)); exact HO_5.out)) k_ hk, Kd.freshB (g := gb948) (o := .cells #[.int .i64 x32_3] 3 (0, 0)) (by (with_reducible repeat (first | refine blk_drewN ?_ _ | refine blk_drew ?_ | refine blk_alloc ?_ _)); exact BK948.out) k_ hk⟩)); (case aO => exact (by (with_reducible repeat (first | apply Kd.R_alloc | apply Kd.R_drewN | apply Kd.R_drew)); exact HO_8.out)); (case aS => exact (below_size (by repeat (first | (with_reducible first | exact HB.out | apply below_alloc | apply pw_below_drewN | apply below_drew1 | refine below_set ?_ GE936.out | refine below_set ?_ GE943.out | refine below_set ?_ GE948.out | refine below_set ?_ GE949.out) | exact HB.out)))); (case aL => have := LMc117.out; omega); intro v963 w131 ho hb hg hat; rw [← Ny962.out] at ho; have n0_ := Aside0.mk (Kd.R_after (ok := (fun k_ => k_ ≠ gb948)) (by (with_reducible repeat (first | apply Kd.R_alloc | apply Kd.R_drewN | apply Kd.R_drew)); exact Kd.R_mono HO_5.out (fun _ hk => ⟨hk.2, hk.1⟩)) hg hat); have n1_ := Aside0.mk (blk_grown (g := gb936) (o := .cells #[.slice (some ad947) l0.length c0] 24 (0, 0)) (by (with_reducible repeat (first | refine blk_drewN ?_ _ | refine blk_drew ?_ | refine blk_alloc ?_ _)); exact BK936.out) hg (Kd.R_ne HO_8.out BK936.out (by decide))); have n2_ := Aside0.mk (blk_grown (g := gb943) (o := .cells #[.bool ((rd_T56 l1 x24_2).f0), .int .i64 ((rd_T56 l1 x24_2).f1)] 56 (0, 0)) (by (with_reducible repeat (first | refine blk_drewN ?_ _ | refine blk_drew ?_ | refine blk_alloc ?_ _)); exact BK943.out) hg (Kd.R_ne HO_8.out BK943.out (by decide))); have n3_ := Aside0.mk (blk_grown (g := gb948) (o := .cells #[.int .i64 x32_3] 3 (0, 0)) (by (with_reducible repeat (first | refine blk_drewN ?_ _ | refine blk_drew ?_ | refine blk_alloc ?_ _)); exact BK948.out) hg (Kd.R_away HO_8.out (fun _ hk => hk.2))); have n4_ := Aside0.mk (blk_grown (g := gb949) (o := .cells #[.int .i64 ((rd_T48 l0 x32_3).f0), .int .i64 ((rd_T48 l0 x32_3).f1)] 48 (0, 0)) (by (with_reducible repeat (first | refine blk_drewN ?_ _ | refine blk_drew ?_ | refine blk_alloc ?_ _)); exact BK949.out) hg (Kd.R_ne HO_8.out BK949.out (by decide))); have n5_ := Aside0.mk (hb); have n6_ := Aside0.mk (ho); clear HO_5; clear BK936; clear BK943; clear BK948; clear BK949; clear HB; clear HO_8; have HO_5 := n0_; have BK936 := n1_; have BK943 := n2_; have BK948 := n3_; have BK949 := n4_; have HB := n5_; have HO964 := n6_; clear n0_ n1_ n2_ n3_ n4_ n5_ n6_; clear ho hb hg hat))
                        go_roundg kj50
                        case measure => have := HJ2.out; have := HK2.out; have := HK3.out; have := HJ27.out; have := HJ50.out; omega
                        case rel => exact ⟨(y962), (wrap64 (x32_3 + 1)), (by first | rfl | (simp; done) | (simp [*]; done)), H', ⟨by have := HJ2.out; have := HK2.out; have := HK3.out; have := HJ27.out; have := HJ50.out; omega⟩, ⟨by (with_reducible repeat (first | apply Kd.R_alloc | apply Kd.R_drewN | apply Kd.R_drew)); exact Kd.R_mono HO_5.out (fun _ hk => hk.2)⟩, ⟨by (with_reducible repeat (first | apply Kd.R_alloc | apply Kd.R_drewN | apply Kd.R_drew)); exact Kd.R_mono HO964.out (fun _ hk => hk.1)⟩, ⟨by (with_reducible repeat (first | refine blk_drewN ?_ _ | refine blk_drew ?_ | refine blk_alloc ?_ _)); exact BK936.out⟩, ⟨by (with_reducible repeat (first | refine blk_drewN ?_ _ | refine blk_drew ?_ | refine blk_alloc ?_ _)); exact BK943.out⟩, ⟨by repeat (first | (with_reducible first | exact HB.out | apply below_alloc | apply pw_below_drewN | apply below_drew1 | refine below_set ?_ GE936.out | refine below_set ?_ GE943.out | refine below_set ?_ GE948.out | refine below_set ?_ GE949.out) | exact HB.out)⟩⟩
                       ·rw [if_neg c117] at H
                        exact absurd H (by simp)
                      ·rw [if_neg c116] at H
                       have c116b0 : (((rd_T56 l1 x24_2).f1) == ((rd_T48 l0 x32_3).f0)) = false := beq_eq_false_iff_ne.mpr c116
                       have c116b1 : (((rd_T56 l1 x24_2).f1) != ((rd_T48 l0 x32_3).f0)) = true := bne_iff_ne.mpr c116
                       have H' := Aside0.mk H
                       clear H
                       have hnb132 := NB936_943.out
                       have hnc132 := NB943_936.out
                       have hnb133 := NB936_948.out
                       have hnc133 := NB948_936.out
                       have hnb134 := NB936_949.out
                       have hnc134 := NB949_936.out
                       have hcz135_0 : wc.cell? ⟨gb936, 0, none⟩ = some (.slice (some ad947) l0.length c0) := (blk_cell BK936.out 0).trans rfl
                       have hfz135_0 := blk_frozen BK936.out 0
                       have hnb136 := NB948_943.out
                       have hnc136 := NB943_948.out
                       have hnb137 := NB948_949.out
                       have hnc137 := NB949_948.out
                       have hcz138_0 : wc.cell? ⟨gb948, 0, none⟩ = some (.int .i64 x32_3) := (blk_cell BK948.out 0).trans rfl
                       have hfz138_0 := blk_frozen BK948.out 0
                       go_wp2_with (first | ((with_reducible refine gate_callee (f := 75) rfl ?_); refine goesL_ (some 61) rfl rfl Try.func75 (by kernel_rfl) rfl #[.slice (some ad947) l0.length c0, .int .i64 x32_3] rfl (by (try simp only [List.map_toArray, List.map_cons, List.map_nil]); first | done | rfl | (simp only [List.length_drop, List.length_take]; rfl)) ?_; (with_reducible refine (impl_ParentOf.calls kj50 _ _ l0 x32_3 t957 _ ?side1 ?side2 A98.out).mono ?_); (case side1 => repeat (first | exact (Kd.C_below HR0.out HB.out) | (with_reducible refine Kd.C_alloc ?_ _) | (with_reducible refine Kd.C_drewN ?_ _) | (with_reducible refine Kd.C_drew ?_))); (case side2 => exact HC0.out); rintro e w139 ⟨rfl, hb⟩; refine ⟨_, rfl, ?_⟩; have n0_ := Aside0.mk (Kd.R_below (by (with_reducible repeat (first | apply Kd.R_alloc | apply Kd.R_drewN | apply Kd.R_drew)); exact HO_5.out) hb); have n1_ := Aside0.mk (Kd.R_below (by (with_reducible repeat (first | apply Kd.R_alloc | apply Kd.R_drewN | apply Kd.R_drew)); exact HO_8.out) hb); have n2_ := Aside0.mk (blk_below (g := gb936) (o := .cells #[.slice (some ad947) l0.length c0] 24 (0, 0)) (by (with_reducible repeat (first | refine blk_drewN ?_ _ | refine blk_drew ?_ | refine blk_alloc ?_ _)); exact BK936.out) hb); have n3_ := Aside0.mk (blk_below (g := gb943) (o := .cells #[.bool ((rd_T56 l1 x24_2).f0), .int .i64 ((rd_T56 l1 x24_2).f1)] 56 (0, 0)) (by (with_reducible repeat (first | refine blk_drewN ?_ _ | refine blk_drew ?_ | refine blk_alloc ?_ _)); exact BK943.out) hb); have n4_ := Aside0.mk (blk_below (g := gb948) (o := .cells #[.int .i64 x32_3] 3 (0, 0)) (by (with_reducible repeat (first | refine blk_drewN ?_ _ | refine blk_drew ?_ | refine blk_alloc ?_ _)); exact BK948.out) hb); have n5_ := Aside0.mk (blk_below (g := gb949) (o := .cells #[.int .i64 ((rd_T48 l0 x32_3).f0), .int .i64 ((rd_T48 l0 x32_3).f1)] 48 (0, 0)) (by (with_reducible repeat (first | refine blk_drewN ?_ _ | refine blk_drew ?_ | refine blk_alloc ?_ _)); exact BK949.out) hb); have n6_ := Aside0.mk (below_step (by repeat (first | (with_reducible first | exact HB.out | apply below_alloc | apply pw_below_drewN | apply below_drew1 | refine below_set ?_ GE936.out | refine below_set ?_ GE943.out | refine below_set ?_ GE948.out | refine below_set ?_ GE949.out) | exact HB.out)) hb); clear HO_5; clear HO_8; clear BK936; clear BK943; clear BK948; clear BK949; clear HB; have HO_5 := n0_; have HO_8 := n1_; have BK936 := n2_; have BK943 := n3_; have BK948 := n4_; have BK949 := n5_; have HB := n6_; clear n0_ n1_ n2_ n3_ n4_ n5_ n6_; (try clear hb); (try clear hb2); (try clear hk); (try clear hi); obtain ⟨Ao140, co140, eo140⟩ := Kd.R_slice HO_5.out; subst eo140) | ((with_reducible refine gate_callee (f := 74) rfl ?_); refine goesL_ (some 62) rfl rfl Try.func74 (by kernel_rfl) rfl #[.slice Ao140 x5_2.length co140, .int .i64 t957] rfl (by (try simp only [List.map_toArray, List.map_cons, List.map_nil]); first | done | rfl | (simp only [List.length_drop, List.length_take]; rfl)) ?_; (with_reducible refine (slices_Contains_int_int.calls kj50 _ _ x5_2 t957 true _ ?side1 ?side2 A99.out).mono ?_); (case side1 => repeat (first | exact (Kd.R_reads' HO_5.out).2.2 | (with_reducible refine Kd.C_alloc ?_ _) | (with_reducible refine Kd.C_drewN ?_ _) | (with_reducible refine Kd.C_drew ?_))); (case side2 => exact (Kd.R_reads' HO_5.out).2.1); rintro e w' ⟨rfl, ⟨nd, rfl⟩⟩; refine ⟨_, rfl, ?_⟩; have hnb141 := NB943_949.out; have hnc141 := NB949_943.out; have hcz142_0 : w139.cell? ⟨gb943, 0, none⟩ = some (.bool ((rd_T56 l1 x24_2).f0)) := (blk_cell BK943.out 0).trans rfl; have hcz142_1 : w139.cell? ⟨gb943, 1, none⟩ = some (.int .i64 ((rd_T56 l1 x24_2).f1)) := (blk_cell BK943.out 1).trans rfl; have hfz142_0 := blk_frozen BK943.out 0; have hfz142_1 := blk_frozen BK943.out 1; have hcz143_0 : w139.cell? ⟨gb949, 0, none⟩ = some (.int .i64 ((rd_T48 l0 x32_3).f0)) := (blk_cell BK949.out 0).trans rfl; have hcz143_1 : w139.cell? ⟨gb949, 1, none⟩ = some (.int .i64 ((rd_T48 l0 x32_3).f1)) := (blk_cell BK949.out 1).trans rfl; have hfz143_0 := blk_frozen BK949.out 0; have hfz143_1 := blk_frozen BK949.out 1))
                       go_roundg kj50
                       case measure => have := HJ2.out; have := HK2.out; have := HK3.out; have := HJ27.out; have := HJ50.out; omega
                       case rel => exact ⟨(x8_3), (wrap64 (x32_3 + 1)), (by first | rfl | (simp; done) | (simp [*]; done)), H', ⟨by have := HJ2.out; have := HK2.out; have := HK3.out; have := HJ27.out; have := HJ50.out; omega⟩, ⟨by (with_reducible repeat (first | apply Kd.R_alloc | apply Kd.R_drewN | apply Kd.R_drew)); exact Kd.R_mono HO_5.out (fun _ hk => hk.1)⟩, ⟨by (with_reducible repeat (first | apply Kd.R_alloc | apply Kd.R_drewN | apply Kd.R_drew)); exact Kd.R_mono HO_8.out (fun _ hk => hk.1)⟩, ⟨by (with_reducible repeat (first | refine blk_drewN ?_ _ | refine blk_drew ?_ | refine blk_alloc ?_ _)); exact BK936.out⟩, ⟨by (with_reducible repeat (first | refine blk_drewN ?_ _ | refine blk_drew ?_ | refine blk_alloc ?_ _)); exact BK943.out⟩, ⟨by repeat (first | (with_reducible first | exact HB.out | apply below_alloc | apply pw_below_drewN | apply below_drew1 | refine below_set ?_ GE936.out | refine below_set ?_ GE943.out | refine below_set ?_ GE948.out | refine below_set ?_ GE949.out) | exact HB.out)⟩⟩
                    ·replace c100 := Bool.eq_false_iff.mpr c100
                     subst c100
                     rw [if_neg (show ¬ (false = true) by decide)] at H
                     have H' := Aside0.mk H
                     clear H
                     have hnb144 := NB936_943.out
                     have hnc144 := NB943_936.out
                     have hnb145 := NB936_948.out
                     have hnc145 := NB948_936.out
                     have hnb146 := NB936_949.out
                     have hnc146 := NB949_936.out
                     have hcz147_0 : wc.cell? ⟨gb936, 0, none⟩ = some (.slice (some ad947) l0.length c0) := (blk_cell BK936.out 0).trans rfl
                     have hfz147_0 := blk_frozen BK936.out 0
                     have hnb148 := NB948_943.out
                     have hnc148 := NB943_948.out
                     have hnb149 := NB948_949.out
                     have hnc149 := NB949_948.out
                     have hcz150_0 : wc.cell? ⟨gb948, 0, none⟩ = some (.int .i64 x32_3) := (blk_cell BK948.out 0).trans rfl
                     have hfz150_0 := blk_frozen BK948.out 0
                     go_wp2_with (first | ((with_reducible refine gate_callee (f := 75) rfl ?_); refine goesL_ (some 61) rfl rfl Try.func75 (by kernel_rfl) rfl #[.slice (some ad947) l0.length c0, .int .i64 x32_3] rfl (by (try simp only [List.map_toArray, List.map_cons, List.map_nil]); first | done | rfl | (simp only [List.length_drop, List.length_take]; rfl)) ?_; (with_reducible refine (impl_ParentOf.calls kj50 _ _ l0 x32_3 t957 _ ?side1 ?side2 A98.out).mono ?_); (case side1 => repeat (first | exact (Kd.C_below HR0.out HB.out) | (with_reducible refine Kd.C_alloc ?_ _) | (with_reducible refine Kd.C_drewN ?_ _) | (with_reducible refine Kd.C_drew ?_))); (case side2 => exact HC0.out); rintro e w151 ⟨rfl, hb⟩; refine ⟨_, rfl, ?_⟩; have n0_ := Aside0.mk (Kd.R_below (by (with_reducible repeat (first | apply Kd.R_alloc | apply Kd.R_drewN | apply Kd.R_drew)); exact HO_5.out) hb); have n1_ := Aside0.mk (Kd.R_below (by (with_reducible repeat (first | apply Kd.R_alloc | apply Kd.R_drewN | apply Kd.R_drew)); exact HO_8.out) hb); have n2_ := Aside0.mk (blk_below (g := gb936) (o := .cells #[.slice (some ad947) l0.length c0] 24 (0, 0)) (by (with_reducible repeat (first | refine blk_drewN ?_ _ | refine blk_drew ?_ | refine blk_alloc ?_ _)); exact BK936.out) hb); have n3_ := Aside0.mk (blk_below (g := gb943) (o := .cells #[.bool ((rd_T56 l1 x24_2).f0), .int .i64 ((rd_T56 l1 x24_2).f1)] 56 (0, 0)) (by (with_reducible repeat (first | refine blk_drewN ?_ _ | refine blk_drew ?_ | refine blk_alloc ?_ _)); exact BK943.out) hb); have n4_ := Aside0.mk (blk_below (g := gb948) (o := .cells #[.int .i64 x32_3] 3 (0, 0)) (by (with_reducible repeat (first | refine blk_drewN ?_ _ | refine blk_drew ?_ | refine blk_alloc ?_ _)); exact BK948.out) hb); have n5_ := Aside0.mk (blk_below (g := gb949) (o := .cells #[.int .i64 ((rd_T48 l0 x32_3).f0), .int .i64 ((rd_T48 l0 x32_3).f1)] 48 (0, 0)) (by (with_reducible repeat (first | refine blk_drewN ?_ _ | refine blk_drew ?_ | refine blk_alloc ?_ _)); exact BK949.out) hb); have n6_ := Aside0.mk (below_step (by repeat (first | (with_reducible first | exact HB.out | apply below_alloc | apply pw_below_drewN | apply below_drew1 | refine below_set ?_ GE936.out | refine below_set ?_ GE943.out | refine below_set ?_ GE948.out | refine below_set ?_ GE949.out) | exact HB.out)) hb); clear HO_5; clear HO_8; clear BK936; clear BK943; clear BK948; clear BK949; clear HB; have HO_5 := n0_; have HO_8 := n1_; have BK936 := n2_; have BK943 := n3_; have BK948 := n4_; have BK949 := n5_; have HB := n6_; clear n0_ n1_ n2_ n3_ n4_ n5_ n6_; (try clear hb); (try clear hb2); (try clear hk); (try clear hi); obtain ⟨Ao152, co152, eo152⟩ := Kd.R_slice HO_5.out; subst eo152) | ((with_reducible refine gate_callee (f := 74) rfl ?_); refine goesL_ (some 62) rfl rfl Try.func74 (by kernel_rfl) rfl #[.slice Ao152 x5_2.length co152, .int .i64 t957] rfl (by (try simp only [List.map_toArray, List.map_cons, List.map_nil]); first | done | rfl | (simp only [List.length_drop, List.length_take]; rfl)) ?_; (with_reducible refine (slices_Contains_int_int.calls kj50 _ _ x5_2 t957 false _ ?side1 ?side2 A99.out).mono ?_); (case side1 => repeat (first | exact (Kd.R_reads' HO_5.out).2.2 | (with_reducible refine Kd.C_alloc ?_ _) | (with_reducible refine Kd.C_drewN ?_ _) | (with_reducible refine Kd.C_drew ?_))); (case side2 => exact (Kd.R_reads' HO_5.out).2.1); rintro e w' ⟨rfl, ⟨nd, rfl⟩⟩; refine ⟨_, rfl, ?_⟩))
                     go_roundg kj50
                     case measure => have := HJ2.out; have := HK2.out; have := HK3.out; have := HJ27.out; have := HJ50.out; omega
                     case rel => exact ⟨(x8_3), (wrap64 (x32_3 + 1)), (by first | rfl | (simp; done) | (simp [*]; done)), H', ⟨by have := HJ2.out; have := HK2.out; have := HK3.out; have := HJ27.out; have := HJ50.out; omega⟩, ⟨by (with_reducible repeat (first | apply Kd.R_alloc | apply Kd.R_drewN | apply Kd.R_drew)); exact Kd.R_mono HO_5.out (fun _ hk => hk.1)⟩, ⟨by (with_reducible repeat (first | apply Kd.R_alloc | apply Kd.R_drewN | apply Kd.R_drew)); exact Kd.R_mono HO_8.out (fun _ hk => hk.1)⟩, ⟨by (with_reducible repeat (first | refine blk_drewN ?_ _ | refine blk_drew ?_ | refine blk_alloc ?_ _)); exact BK936.out⟩, ⟨by (with_reducible repeat (first | refine blk_drewN ?_ _ | refine blk_drew ?_ | refine blk_alloc ?_ _)); exact BK943.out⟩, ⟨by repeat (first | (with_reducible first | exact HB.out | apply below_alloc | apply pw_below_drewN | apply below_drew1 | refine below_set ?_ GE936.out | refine below_set ?_ GE943.out | refine below_set ?_ GE948.out | refine below_set ?_ GE949.out) | exact HB.out)⟩⟩
                   ·rw [if_neg c97] at H
                    have c97b0 : decide (0 < x24_2) = false := decide_eq_false c97
                    clear c97
                    by_cases c153 : x11_27 = true
                    ·subst c153
                     rw [if_pos rfl] at H
                     by_cases c154 : ((rd_T56 l1 x24_2).f1) = (-1)
                     ·rw [if_pos c154] at H
                      have c154b0 : (((rd_T56 l1 x24_2).f1) == (-1)) = true := beq_iff_eq.mpr c154
                      have c154b1 : (((rd_T56 l1 x24_2).f1) != (-1)) = false := bne_eq_false_iff_eq.mpr c154
                      clear c154
                      by_cases c155 : x8_3.length < 17592186044416
                      ·rw [if_pos c155] at H
                       have LMc155 := Aside0.mk c155
                       clear c155
                       obtain ⟨y965, hy965⟩ : ∃ y_ : List Int, y_ = (x8_3 ++ [x32_3]) := ⟨_, rfl⟩
                       replace H : (impl_Select.l1 kj50 x5_2 x24_2 y965 l1 (l1.length : Int) x24_2 l0 (l0.length : Int) (wrap64 (x32_3 + 1)) l0 ((rd_T56 l1 x24_2).f0) ((rd_T56 l1 x24_2).f1)) = some r := by first | (rw [hy965]; with_reducible exact H) | (have H2_ := (Option.bind_some _ _).symm.trans H; rw [hy965]; with_reducible exact H2_) | (have H2_ := (Option.bind_some _ _).symm.trans H; with_reducible exact H2_) | with_reducible exact H | (rw [hy965]; exact H) | exact H
                       have Ny965 := Aside0.mk hy965
                       clear hy965
                       have H' := Aside0.mk H
                       clear H
                       have hnb156 := NB943_936.out
                       have hnc156 := NB936_943.out
                       have hnb157 := NB943_948.out
                       have hnc157 := NB948_943.out
                       have hnb158 := NB943_949.out
                       have hnc158 := NB949_943.out
                       have hcz159_0 : wc.cell? ⟨gb943, 0, none⟩ = some (.bool ((rd_T56 l1 x24_2).f0)) := (blk_cell BK943.out 0).trans rfl
                       have hcz159_1 : wc.cell? ⟨gb943, 1, none⟩ = some (.int .i64 ((rd_T56 l1 x24_2).f1)) := (blk_cell BK943.out 1).trans rfl
                       have hfz159_0 := blk_frozen BK943.out 0
                       have hfz159_1 := blk_frozen BK943.out 1
                       have hnb160 := NB948_936.out
                       have hnc160 := NB936_948.out
                       have hnb161 := NB948_949.out
                       have hnc161 := NB949_948.out
                       have hcz162_0 : wc.cell? ⟨gb948, 0, none⟩ = some (.int .i64 x32_3) := (blk_cell BK948.out 0).trans rfl
                       have hfz162_0 := blk_frozen BK948.out 0
                       go_wp2_with (first | ((with_reducible refine gate_builtin (b := .append) (xs := #[.tmp 76, .tmp 78]) rfl ?_); at_builtin; refine Kd.R_append (Kd.int .i64) (w0 := w) w.heap.size rfl (.tmp 76) (.tmp 78) 26 3 (.int .i64 0) 8 rfl Try.underlying26 info3 rfl (by decide) (by omega) u8 x8_3 x32_3 [.int .i64 x32_3] (fun k_ => some k_ ≠ (u5 : Value).ownBlock ∧ k_ ≠ gb948) (fun _ => False) rfl rfl ?aP (fun _ hk => hk.elim) ?aF ?aO ?aB ?aS ?aL ?_; (case aP => exact rfl); (case aB => exact (by repeat (first | (with_reducible first | exact HB.out | apply below_alloc | apply pw_below_drewN | apply below_drew1 | refine below_set ?_ GE936.out | refine below_set ?_ GE943.out | refine below_set ?_ GE948.out | refine below_set ?_ GE949.out) | exact HB.out))); (case aF => exact (fun k_ hk => ⟨Kd.fresh' (Kd.R_lt (by (with_reducible repeat (first | apply Kd.R_alloc | apply Kd.R_drewN | apply Kd.R_drew)); exact HO_5.out)) k_ hk, Kd.freshB (g := gb948) (o := .cells #[.int .i64 x32_3] 3 (0, 0)) (by (with_reducible repeat (first | refine blk_drewN ?_ _ | refine blk_drew ?_ | refine blk_alloc ?_ _)); exact BK948.out) k_ hk⟩)); (case aO => exact (by (with_reducible repeat (first | apply Kd.R_alloc | apply Kd.R_drewN | apply Kd.R_drew)); exact HO_8.out)); (case aS => exact (below_size (by repeat (first | (with_reducible first | exact HB.out | apply below_alloc | apply pw_below_drewN | apply below_drew1 | refine below_set ?_ GE936.out | refine below_set ?_ GE943.out | refine below_set ?_ GE948.out | refine below_set ?_ GE949.out) | exact HB.out)))); (case aL => have := LMc155.out; omega); intro v966 w163 ho hb hg hat; rw [← Ny965.out] at ho; have n0_ := Aside0.mk (Kd.R_after (ok := (fun k_ => k_ ≠ gb948)) (by (with_reducible repeat (first | apply Kd.R_alloc | apply Kd.R_drewN | apply Kd.R_drew)); exact Kd.R_mono HO_5.out (fun _ hk => ⟨hk.2, hk.1⟩)) hg hat); have n1_ := Aside0.mk (blk_grown (g := gb936) (o := .cells #[.slice (some ad947) l0.length c0] 24 (0, 0)) (by (with_reducible repeat (first | refine blk_drewN ?_ _ | refine blk_drew ?_ | refine blk_alloc ?_ _)); exact BK936.out) hg (Kd.R_ne HO_8.out BK936.out (by decide))); have n2_ := Aside0.mk (blk_grown (g := gb943) (o := .cells #[.bool ((rd_T56 l1 x24_2).f0), .int .i64 ((rd_T56 l1 x24_2).f1)] 56 (0, 0)) (by (with_reducible repeat (first | refine blk_drewN ?_ _ | refine blk_drew ?_ | refine blk_alloc ?_ _)); exact BK943.out) hg (Kd.R_ne HO_8.out BK943.out (by decide))); have n3_ := Aside0.mk (blk_grown (g := gb948) (o := .cells #[.int .i64 x32_3] 3 (0, 0)) (by (with_reducible repeat (first | refine blk_drewN ?_ _ | refine blk_drew ?_ | refine blk_alloc ?_ _)); exact BK948.out) hg (Kd.R_away HO_8.out (fun _ hk => hk.2))); have n4_ := Aside0.mk (blk_grown (g := gb949) (o := .cells #[.int .i64 ((rd_T48 l0 x32_3).f0), .int .i64 ((rd_T48 l0 x32_3).f1)] 48 (0, 0)) (by (with_reducible repeat (first | refine blk_drewN ?_ _ | refine blk_drew ?_ | refine blk_alloc ?_ _)); exact BK949.out) hg (Kd.R_ne HO_8.out BK949.out (by decide))); have n5_ := Aside0.mk (hb); have n6_ := Aside0.mk (ho); clear HO_5; clear BK936; clear BK943; clear BK948; clear BK949; clear HB; clear HO_8; have HO_5 := n0_; have BK936 := n1_; have BK943 := n2_; have BK948 := n3_; have BK949 := n4_; have HB := n5_; have HO967 := n6_; clear n0_ n1_ n2_ n3_ n4_ n5_ n6_; clear ho hb hg hat))
                       go_roundg kj50
                       case measure => have := HJ2.out; have := HK2.out; have := HK3.out; have := HJ27.out; have := HJ50.out; omega
                       case rel => exact ⟨(y965), (wrap64 (x32_3 + 1)), (by first | rfl | (simp; done) | (simp [*]; done)), H', ⟨by have := HJ2.out; have := HK2.out; have := HK3.out; have := HJ27.out; have := HJ50.out; omega⟩, ⟨by (with_reducible repeat (first | apply Kd.R_alloc | apply Kd.R_drewN | apply Kd.R_drew)); exact Kd.R_mono HO_5.out (fun _ hk => hk.2)⟩, ⟨by (with_reducible repeat (first | apply Kd.R_alloc | apply Kd.R_drewN | apply Kd.R_drew)); exact Kd.R_mono HO967.out (fun _ hk => hk.1)⟩, ⟨by (with_reducible repeat (first | refine blk_drewN ?_ _ | refine blk_drew ?_ | refine blk_alloc ?_ _)); exact BK936.out⟩, ⟨by (with_reducible repeat (first | refine blk_drewN ?_ _ | refine blk_drew ?_ | refine blk_alloc ?_ _)); exact BK943.out⟩, ⟨by repeat (first | (with_reducible first | exact HB.out | apply below_alloc | apply pw_below_drewN | apply below_drew1 | refine below_set ?_ GE936.out | refine below_set ?_ GE943.out | refine below_set ?_ GE948.out | refine below_set ?_ GE949.out) | exact HB.out)⟩⟩
                      ·rw [if_neg c155] at H
                       exact absurd H (by simp)
                     ·rw [if_neg c154] at H
                      have c154b0 : (((rd_T56 l1 x24_2).f1) == (-1)) = false := beq_eq_false_iff_ne.mpr c154
                      have c154b1 : (((rd_T56 l1 x24_2).f1) != (-1)) = true := bne_iff_ne.mpr c154
                      by_cases c164 : ((rd_T56 l1 x24_2).f1) = ((rd_T48 l0 x32_3).f0)
                      ·rw [if_pos c164] at H
                       have c164b0 : (((rd_T56 l1 x24_2).f1) == ((rd_T48 l0 x32_3).f0)) = true := beq_iff_eq.mpr c164
                       have c164b1 : (((rd_T56 l1 x24_2).f1) != ((rd_T48 l0 x32_3).f0)) = false := bne_eq_false_iff_eq.mpr c164
                       clear c164
                       by_cases c165 : x8_3.length < 17592186044416
                       ·rw [if_pos c165] at H
                        have LMc165 := Aside0.mk c165
                        clear c165
                        obtain ⟨y968, hy968⟩ : ∃ y_ : List Int, y_ = (x8_3 ++ [x32_3]) := ⟨_, rfl⟩
                        replace H : (impl_Select.l1 kj50 x5_2 x24_2 y968 l1 (l1.length : Int) x24_2 l0 (l0.length : Int) (wrap64 (x32_3 + 1)) l0 ((rd_T56 l1 x24_2).f0) ((rd_T56 l1 x24_2).f1)) = some r := by first | (rw [hy968]; with_reducible exact H) | (have H2_ := (Option.bind_some _ _).symm.trans H; rw [hy968]; with_reducible exact H2_) | (have H2_ := (Option.bind_some _ _).symm.trans H; with_reducible exact H2_) | with_reducible exact H | (rw [hy968]; exact H) | exact H
                        have Ny968 := Aside0.mk hy968
                        clear hy968
                        have H' := Aside0.mk H
                        clear H
                        have hnb166 := NB943_936.out
                        have hnc166 := NB936_943.out
                        have hnb167 := NB943_948.out
                        have hnc167 := NB948_943.out
                        have hnb168 := NB943_949.out
                        have hnc168 := NB949_943.out
                        have hcz169_0 : wc.cell? ⟨gb943, 0, none⟩ = some (.bool ((rd_T56 l1 x24_2).f0)) := (blk_cell BK943.out 0).trans rfl
                        have hcz169_1 : wc.cell? ⟨gb943, 1, none⟩ = some (.int .i64 ((rd_T56 l1 x24_2).f1)) := (blk_cell BK943.out 1).trans rfl
                        have hfz169_0 := blk_frozen BK943.out 0
                        have hfz169_1 := blk_frozen BK943.out 1
                        have hnb170 := NB949_936.out
                        have hnc170 := NB936_949.out
                        have hnb171 := NB949_948.out
                        have hnc171 := NB948_949.out
                        have hcz172_0 : wc.cell? ⟨gb949, 0, none⟩ = some (.int .i64 ((rd_T48 l0 x32_3).f0)) := (blk_cell BK949.out 0).trans rfl
                        have hcz172_1 : wc.cell? ⟨gb949, 1, none⟩ = some (.int .i64 ((rd_T48 l0 x32_3).f1)) := (blk_cell BK949.out 1).trans rfl
                        have hfz172_0 := blk_frozen BK949.out 0
                        have hfz172_1 := blk_frozen BK949.out 1
                        have hnb173 := NB948_936.out
                        have hnc173 := NB936_948.out
                        have hcz174_0 : wc.cell? ⟨gb948, 0, none⟩ = some (.int .i64 x32_3) := (blk_cell BK948.out 0).trans rfl
                        have hfz174_0 := blk_frozen BK948.out 0
                        go_wp2_with (first | ((with_reducible refine gate_builtin (b := .append) (xs := #[.tmp 76, .tmp 78]) rfl ?_); at_builtin; refine Kd.R_append (Kd.int .i64) (w0 := w) w.heap.size rfl (.tmp 76) (.tmp 78) 26 3 (.int .i64 0) 8 rfl Try.underlying26 info3 rfl (by decide) (by omega) u8 x8_3 x32_3 [.int .i64 x32_3] (fun k_ => some k_ ≠ (u5 : Value).ownBlock ∧ k_ ≠ gb948) (fun _ => False) rfl rfl ?aP (fun _ hk => hk.elim) ?aF ?aO ?aB ?aS ?aL ?_; (case aP => exact rfl); (case aB => exact (by repeat (first | (with_reducible first | exact HB.out | apply below_alloc | apply pw_below_drewN | apply below_drew1 | refine below_set ?_ GE936.out | refine below_set ?_ GE943.out | refine below_set ?_ GE948.out | refine below_set ?_ GE949.out) | exact HB.out))); (case aF => exact (fun k_ hk => ⟨Kd.fresh' (Kd.R_lt (by (with_reducible repeat (first | apply Kd.R_alloc | apply Kd.R_drewN | apply Kd.R_drew)); exact HO_5.out)) k_ hk, Kd.freshB (g := gb948) (o := .cells #[.int .i64 x32_3] 3 (0, 0)) (by (with_reducible repeat (first | refine blk_drewN ?_ _ | refine blk_drew ?_ | refine blk_alloc ?_ _)); exact BK948.out) k_ hk⟩)); (case aO => exact (by (with_reducible repeat (first | apply Kd.R_alloc | apply Kd.R_drewN | apply Kd.R_drew)); exact HO_8.out)); (case aS => exact (below_size (by repeat (first | (with_reducible first | exact HB.out | apply below_alloc | apply pw_below_drewN | apply below_drew1 | refine below_set ?_ GE936.out | refine below_set ?_ GE943.out | refine below_set ?_ GE948.out | refine below_set ?_ GE949.out) | exact HB.out)))); (case aL => have := LMc165.out; omega); intro v969 w175 ho hb hg hat; rw [← Ny968.out] at ho; have n0_ := Aside0.mk (Kd.R_after (ok := (fun k_ => k_ ≠ gb948)) (by (with_reducible repeat (first | apply Kd.R_alloc | apply Kd.R_drewN | apply Kd.R_drew)); exact Kd.R_mono HO_5.out (fun _ hk => ⟨hk.2, hk.1⟩)) hg hat); have n1_ := Aside0.mk (blk_grown (g := gb936) (o := .cells #[.slice (some ad947) l0.length c0] 24 (0, 0)) (by (with_reducible repeat (first | refine blk_drewN ?_ _ | refine blk_drew ?_ | refine blk_alloc ?_ _)); exact BK936.out) hg (Kd.R_ne HO_8.out BK936.out (by decide))); have n2_ := Aside0.mk (blk_grown (g := gb943) (o := .cells #[.bool ((rd_T56 l1 x24_2).f0), .int .i64 ((rd_T56 l1 x24_2).f1)] 56 (0, 0)) (by (with_reducible repeat (first | refine blk_drewN ?_ _ | refine blk_drew ?_ | refine blk_alloc ?_ _)); exact BK943.out) hg (Kd.R_ne HO_8.out BK943.out (by decide))); have n3_ := Aside0.mk (blk_grown (g := gb948) (o := .cells #[.int .i64 x32_3] 3 (0, 0)) (by (with_reducible repeat (first | refine blk_drewN ?_ _ | refine blk_drew ?_ | refine blk_alloc ?_ _)); exact BK948.out) hg (Kd.R_away HO_8.out (fun _ hk => hk.2))); have n4_ := Aside0.mk (blk_grown (g := gb949) (o := .cells #[.int .i64 ((rd_T48 l0 x32_3).f0), .int .i64 ((rd_T48 l0 x32_3).f1)] 48 (0, 0)) (by (with_reducible repeat (first | refine blk_drewN ?_ _ | refine blk_drew ?_ | refine blk_alloc ?_ _)); exact BK949.out) hg (Kd.R_ne HO_8.out BK949.out (by decide))); have n5_ := Aside0.mk (hb); have n6_ := Aside0.mk (ho); clear HO_5; clear BK936; clear BK943; clear BK948; clear BK949; clear HB; clear HO_8; have HO_5 := n0_; have BK936 := n1_; have BK943 := n2_; have BK948 := n3_; have BK949 := n4_; have HB := n5_; have HO970 := n6_; clear n0_ n1_ n2_ n3_ n4_ n5_ n6_; clear ho hb hg hat))
                        go_roundg kj50
                        case measure => have := HJ2.out; have := HK2.out; have := HK3.out; have := HJ27.out; have := HJ50.out; omega
                        case rel => exact ⟨(y968), (wrap64 (x32_3 + 1)), (by first | rfl | (simp; done) | (simp [*]; done)), H', ⟨by have := HJ2.out; have := HK2.out; have := HK3.out; have := HJ27.out; have := HJ50.out; omega⟩, ⟨by (with_reducible repeat (first | apply Kd.R_alloc | apply Kd.R_drewN | apply Kd.R_drew)); exact Kd.R_mono HO_5.out (fun _ hk => hk.2)⟩, ⟨by (with_reducible repeat (first | apply Kd.R_alloc | apply Kd.R_drewN | apply Kd.R_drew)); exact Kd.R_mono HO970.out (fun _ hk => hk.1)⟩, ⟨by (with_reducible repeat (first | refine blk_drewN ?_ _ | refine blk_drew ?_ | refine blk_alloc ?_ _)); exact BK936.out⟩, ⟨by (with_reducible repeat (first | refine blk_drewN ?_ _ | refine blk_drew ?_ | refine blk_alloc ?_ _)); exact BK943.out⟩, ⟨by repeat (first | (with_reducible first | exact HB.out | apply below_alloc | apply pw_below_drewN | apply below_drew1 | refine below_set ?_ GE936.out | refine below_set ?_ GE943.out | refine below_set ?_ GE948.out | refine below_set ?_ GE949.out) | exact HB.out)⟩⟩
                       ·rw [if_neg c165] at H
                        exact absurd H (by simp)
                      ·rw [if_neg c164] at H
                       have c164b0 : (((rd_T56 l1 x24_2).f1) == ((rd_T48 l0 x32_3).f0)) = false := beq_eq_false_iff_ne.mpr c164
                       have c164b1 : (((rd_T56 l1 x24_2).f1) != ((rd_T48 l0 x32_3).f0)) = true := bne_iff_ne.mpr c164
                       have H' := Aside0.mk H
                       clear H
                       have hnb176 := NB943_936.out
                       have hnc176 := NB936_943.out
                       have hnb177 := NB943_948.out
                       have hnc177 := NB948_943.out
                       have hnb178 := NB943_949.out
                       have hnc178 := NB949_943.out
                       have hcz179_0 : wc.cell? ⟨gb943, 0, none⟩ = some (.bool ((rd_T56 l1 x24_2).f0)) := (blk_cell BK943.out 0).trans rfl
                       have hcz179_1 : wc.cell? ⟨gb943, 1, none⟩ = some (.int .i64 ((rd_T56 l1 x24_2).f1)) := (blk_cell BK943.out 1).trans rfl
                       have hfz179_0 := blk_frozen BK943.out 0
                       have hfz179_1 := blk_frozen BK943.out 1
                       have hnb180 := NB949_936.out
                       have hnc180 := NB936_949.out
                       have hnb181 := NB949_948.out
                       have hnc181 := NB948_949.out
                       have hcz182_0 : wc.cell? ⟨gb949, 0, none⟩ = some (.int .i64 ((rd_T48 l0 x32_3).f0)) := (blk_cell BK949.out 0).trans rfl
                       have hcz182_1 : wc.cell? ⟨gb949, 1, none⟩ = some (.int .i64 ((rd_T48 l0 x32_3).f1)) := (blk_cell BK949.out 1).trans rfl
                       have hfz182_0 := blk_frozen BK949.out 0
                       have hfz182_1 := blk_frozen BK949.out 1
                       go_wp2
                       go_roundg kj50
                       case measure => have := HJ2.out; have := HK2.out; have := HK3.out; have := HJ27.out; have := HJ50.out; omega
                       case rel => exact ⟨(x8_3), (wrap64 (x32_3 + 1)), (by first | rfl | (simp; done) | (simp [*]; done)), H', ⟨by have := HJ2.out; have := HK2.out; have := HK3.out; have := HJ27.out; have := HJ50.out; omega⟩, ⟨by (with_reducible repeat (first | apply Kd.R_alloc | apply Kd.R_drewN | apply Kd.R_drew)); exact Kd.R_mono HO_5.out (fun _ hk => hk.1)⟩, ⟨by (with_reducible repeat (first | apply Kd.R_alloc | apply Kd.R_drewN | apply Kd.R_drew)); exact Kd.R_mono HO_8.out (fun _ hk => hk.1)⟩, ⟨by (with_reducible repeat (first | refine blk_drewN ?_ _ | refine blk_drew ?_ | refine blk_alloc ?_ _)); exact BK936.out⟩, ⟨by (with_reducible repeat (first | refine blk_drewN ?_ _ | refine blk_drew ?_ | refine blk_alloc ?_ _)); exact BK943.out⟩, ⟨by repeat (first | (with_reducible first | exact HB.out | apply below_alloc | apply pw_below_drewN | apply below_drew1 | refine below_set ?_ GE936.out | refine below_set ?_ GE943.out | refine below_set ?_ GE948.out | refine below_set ?_ GE949.out) | exact HB.out)⟩⟩
                    ·replace c153 := Bool.eq_false_iff.mpr c153
                     subst c153
                     rw [if_neg (show ¬ (false = true) by decide)] at H
                     have H' := Aside0.mk H
                     clear H
                     go_wp2
                     go_roundg kj50
                     case measure => have := HJ2.out; have := HK2.out; have := HK3.out; have := HJ27.out; have := HJ50.out; omega
                     case rel => exact ⟨(x8_3), (wrap64 (x32_3 + 1)), (by first | rfl | (simp; done) | (simp [*]; done)), H', ⟨by have := HJ2.out; have := HK2.out; have := HK3.out; have := HJ27.out; have := HJ50.out; omega⟩, ⟨by (with_reducible repeat (first | apply Kd.R_alloc | apply Kd.R_drewN | apply Kd.R_drew)); exact Kd.R_mono HO_5.out (fun _ hk => hk.1)⟩, ⟨by (with_reducible repeat (first | apply Kd.R_alloc | apply Kd.R_drewN | apply Kd.R_drew)); exact Kd.R_mono HO_8.out (fun _ hk => hk.1)⟩, ⟨by (with_reducible repeat (first | refine blk_drewN ?_ _ | refine blk_drew ?_ | refine blk_alloc ?_ _)); exact BK936.out⟩, ⟨by (with_reducible repeat (first | refine blk_drewN ?_ _ | refine blk_drew ?_ | refine blk_alloc ?_ _)); exact BK943.out⟩, ⟨by repeat (first | (with_reducible first | exact HB.out | apply below_alloc | apply pw_below_drewN | apply below_drew1 | refine below_set ?_ GE936.out | refine below_set ?_ GE943.out | refine below_set ?_ GE948.out | refine below_set ?_ GE949.out) | exact HB.out)⟩⟩
             ·rw [if_neg c27] at H
              exact absurd H (by simp)
            ·rw [if_neg c26] at H
             exact absurd H (by simp)
           ·rw [if_neg c25] at H
            have c25b0 : decide (x32_3 < (l0.length : Int)) = false := decide_eq_false c25
            clear c25
            have H' := Aside0.mk H
            clear H
            go_wp2
            go_roundg k3
            case measure => have := HJ2.out; have := HK2.out; have := HK3.out; omega
            case rel => exact ⟨(x8_3), (wrap64 (x24_2 + 1)), (by first | rfl | (simp; done) | (simp [*]; done)), H', ⟨by have := HJ2.out; have := HK2.out; have := HK3.out; omega⟩, ⟨by (with_reducible repeat (first | apply Kd.R_alloc | apply Kd.R_drewN | apply Kd.R_drew)); exact Kd.R_mono HO_8.out (fun _ hk => trivial)⟩, ⟨by (with_reducible repeat (first | refine blk_drewN ?_ _ | refine blk_drew ?_ | refine blk_alloc ?_ _)); exact BK936.out⟩, ⟨by repeat (first | (with_reducible first | exact HB.out | apply below_alloc | apply pw_below_drewN | apply below_drew1 | refine below_set ?_ GE936.out | refine below_set ?_ GE943.out) | exact HB.out)⟩⟩
        ·rw [if_neg c18] at H
         exact absurd H (by simp)
       ·rw [if_neg c17] at H
        exact absurd H (by simp)
      ·rw [if_neg c16] at H
       have c16b0 : decide (x24_2 < (l1.length : Int)) = false := decide_eq_false c16
       clear c16
       obtain rfl := Option.some.inj H
       go_wp2
       go_ret
       exact ⟨_, by first | rfl | (simp [errW_none, errW_some] <;> rfl) | (simp [*, errW_none, errW_some] <;> rfl), by (with_reducible repeat (first | apply Kd.R_alloc | apply Kd.R_drewN | apply Kd.R_drew)); exact HO_5.out, by repeat (first | (with_reducible first | exact HB.out | apply below_alloc | apply pw_below_drewN | apply below_drew1 | refine below_set ?_ GE936.out) | exact HB.out)⟩



/-! ### spec_QueryOk: function 31 -/
def spec_QueryOk.l0 : Nat → List (S56) → Int → Option (Bool)
 | 0, _, _ => none
 | k + 1, x0, x3 => if x3 < (x0.length : Int) then (if 0 ≤ x3 then (if ((rd_T56 x0 x3).f1) = (-1) then (spec_QueryOk.l0 k x0 (wrap64 (x3 + 1))) else ((spec_LabelOk.f ((rd_T56 x0 x3).f1)).bind fun t973 => (if t973 = true then (spec_QueryOk.l0 k x0 (wrap64 (x3 + 1))) else (some false)))) else (none)) else ((spec_l1In.f (x0.length : Int) 1 6).bind fun t974 => (some t974))
def spec_QueryOk.f (k : Nat) (l0 : List (S56)) : Option (Bool) := spec_QueryOk.l0 k l0 0
theorem spec_QueryOk.mono_l : ∀ k, (∀ y0 y1, LeO (spec_QueryOk.l0 k y0 y1) (spec_QueryOk.l0 (k + 1) y0 y1))
 | 0 => fun _ _ r h => by simp [spec_QueryOk.l0] at h
 | k + 1 => by
  have ih0 := spec_QueryOk.mono_l k
  ·intro y0 y1
   unfold spec_QueryOk.l0
   repeat' first
   | (with_reducible exact ih0 _ _)
   | (with_reducible exact LeO.refl _)
   | (with_reducible exact LeO.none _)
   | (with_reducible refine LeO.ite ?_ ?_)
   | (with_reducible refine LeO.bind ?_ (fun _ => ?_))
   | exact ih0 _ _
   | exact LeO.none _
   | refine LeO.ite ?_ ?_
   | refine LeO.bind ?_ (fun _ => ?_)
theorem spec_QueryOk.mono : ∀ a0 k, LeO (spec_QueryOk.f k a0) (spec_QueryOk.f (k + 1) a0) := by
 intro a0 k
 have ih0 := spec_QueryOk.mono_l k
 unfold spec_QueryOk.f
 repeat' first
   | (with_reducible exact ih0 _ _)
   | (with_reducible exact LeO.refl _)
   | (with_reducible exact LeO.none _)
   | (with_reducible refine LeO.ite ?_ ?_)
   | (with_reducible refine LeO.bind ?_ (fun _ => ?_))
   | exact ih0 _ _
   | exact LeO.none _
   | refine LeO.ite ?_ ?_
   | refine LeO.bind ?_ (fun _ => ?_)
set_option maxHeartbeats 8000000 in
set_option maxRecDepth 100000 in
theorem spec_QueryOk.calls (k : Nat) (A0 : Option Addr) (c0 : Nat) (l0 : List (S56)) (r : Bool) (w : World) (hr0 : Kd.C k56 w A0 l0.length l0) (hc0 : l0.length ≤ c0) (h : spec_QueryOk.f k l0 = some r) :
  Calls Try.prog 31 #[.slice A0 l0.length c0] w fun e w' => e = .returned (.bool r) ∧ Drawn0 w w' := by
 have HR0 := Aside0.mk hr0
 have HC0 := Aside0.mk hc0
 clear hr0 hc0
 have H : (spec_QueryOk.l0 k l0 0) = some r := h
 clear h
 have H' := Aside0.mk H
 clear H
 go_enter Try.func31, Try.ntmps31
 go_wp2
 go_loopg [3] k (fun kq v3 w' => ∃ (x3_1 : Int), v3 = .int .i64 x3_1 ∧ Aside0 (spec_QueryOk.l0 kq l0 x3_1 = some r) ∧ Aside0 (kq ≤ k) ∧ Drawn0 w w')
 case atStart => exact ⟨(0), (by first | rfl | (simp; done) | (simp [*]; done)), H', ⟨Nat.le_refl _⟩, by repeat (first | exact Drawn0.refl _ | apply Drawn0.step)⟩
 case round =>
  clear H'
  obtain ⟨x3_1, rfl, HA, HK1, ⟨m1, rfl⟩⟩ := hrel
  cases gk with
  | zero => exact absurd HA.out (by simp [spec_QueryOk.l0])
  | succ k1 =>
   have H := HA.out
   clear HA
   simp only [spec_QueryOk.l0] at H
   by_cases c2 : x3_1 < (l0.length : Int)
   ·rw [if_pos c2] at H
    have c2b0 : decide (x3_1 < (l0.length : Int)) = true := decide_eq_true c2
    clear c2
    by_cases c3 : 0 ≤ x3_1
    ·rw [if_pos c3] at H
     have c3b0 : decide (0 ≤ x3_1) = true := decide_eq_true c3
     clear c3
     by_cases c4 : ((rd_T56 l0 x3_1).f1) = (-1)
     ·rw [if_pos c4] at H
      have c4b0 : (((rd_T56 l0 x3_1).f1) == (-1)) = true := beq_iff_eq.mpr c4
      have c4b1 : (((rd_T56 l0 x3_1).f1) != (-1)) = false := bne_eq_false_iff_eq.mpr c4
      clear c4
      have H' := Aside0.mk H
      clear H
      have p971 : 0 ≤ (x3_1 : Int) := of_decide_eq_true (by first | (with_reducible assumption) | assumption)
      have q971 : x3_1 < (l0.length : Int) := of_decide_eq_true (by first | (with_reducible assumption) | assumption)
      obtain ⟨ad971, e971, hx971_0, hx971_1⟩ := at_T56 HR0.out x3_1 p971 q971
      cases e971
      replace p971 := eq_true p971
      replace q971 := eq_true q971
      go_wp2
      go_roundg k1
      case measure => have := HK1.out; omega
      case rel => exact ⟨(wrap64 (x3_1 + 1)), (by first | rfl | (simp; done) | (simp [*]; done)), H', ⟨by have := HK1.out; omega⟩, by repeat (first | exact Drawn0.refl _ | apply Drawn0.step)⟩
     ·rw [if_neg c4] at H
      have c4b0 : (((rd_T56 l0 x3_1).f1) == (-1)) = false := beq_eq_false_iff_ne.mpr c4
      have c4b1 : (((rd_T56 l0 x3_1).f1) != (-1)) = true := bne_iff_ne.mpr c4
      replace H := Option.bind_eq_some_iff.mp H
      obtain ⟨t973, A50, H⟩ := H
      have A5 := Aside0.mk A50
      clear A50
      by_cases c6 : t973 = true
      ·subst c6
       rw [if_pos rfl] at H
       have H' := Aside0.mk H
       clear H
       have p971 : 0 ≤ (x3_1 : Int) := of_decide_eq_true (by first | (with_reducible assumption) | assumption)
       have q971 : x3_1 < (l0.length : Int) := of_decide_eq_true (by first | (with_reducible assumption) | assumption)
       obtain ⟨ad971, e971, hx971_0, hx971_1⟩ := at_T56 HR0.out x3_1 p971 q971
       cases e971
       replace p971 := eq_true p971
       replace q971 := eq_true q971
       have p972 : 0 ≤ (x3_1 : Int) := of_decide_eq_true (by first | (with_reducible assumption) | assumption)
       have q972 : x3_1 < (l0.length : Int) := of_decide_eq_true (by first | (with_reducible assumption) | assumption)
       obtain ⟨ad972, e972, hx972_0, hx972_1⟩ := at_T56 HR0.out x3_1 p972 q972
       obtain rfl : ad971 = ad972 := (by injection e972)
       replace p972 := eq_true p972
       replace q972 := eq_true q972
       go_wp2_with (first | (go_at_call 55; (with_reducible refine (spec_LabelOk.calls ((rd_T56 l0 x3_1).f1) true _ A5.out).mono ?_); rintro e w' ⟨rfl, ⟨nd, rfl⟩⟩))
       go_roundg k1
       case measure => have := HK1.out; omega
       case rel => exact ⟨(wrap64 (x3_1 + 1)), (by first | rfl | (simp; done) | (simp [*]; done)), H', ⟨by have := HK1.out; omega⟩, by repeat (first | exact Drawn0.refl _ | apply Drawn0.step)⟩
      ·replace c6 := Bool.eq_false_iff.mpr c6
       subst c6
       rw [if_neg (show ¬ (false = true) by decide)] at H
       obtain rfl := Option.some.inj H
       have p971 : 0 ≤ (x3_1 : Int) := of_decide_eq_true (by first | (with_reducible assumption) | assumption)
       have q971 : x3_1 < (l0.length : Int) := of_decide_eq_true (by first | (with_reducible assumption) | assumption)
       obtain ⟨ad971, e971, hx971_0, hx971_1⟩ := at_T56 HR0.out x3_1 p971 q971
       cases e971
       replace p971 := eq_true p971
       replace q971 := eq_true q971
       have p972 : 0 ≤ (x3_1 : Int) := of_decide_eq_true (by first | (with_reducible assumption) | assumption)
       have q972 : x3_1 < (l0.length : Int) := of_decide_eq_true (by first | (with_reducible assumption) | assumption)
       obtain ⟨ad972, e972, hx972_0, hx972_1⟩ := at_T56 HR0.out x3_1 p972 q972
       obtain rfl : ad971 = ad972 := (by injection e972)
       replace p972 := eq_true p972
       replace q972 := eq_true q972
       go_wp2_with (first | (go_at_call 55; (with_reducible refine (spec_LabelOk.calls ((rd_T56 l0 x3_1).f1) false _ A5.out).mono ?_); rintro e w' ⟨rfl, ⟨nd, rfl⟩⟩))
       go_ret
       exact ⟨by first | rfl | (simp; done) | (simp [*]; done), by repeat (first | exact Drawn0.refl _ | apply Drawn0.step)⟩
    ·rw [if_neg c3] at H
     exact absurd H (by simp)
   ·rw [if_neg c2] at H
    have c2b0 : decide (x3_1 < (l0.length : Int)) = false := decide_eq_false c2
    clear c2
    replace H := Option.bind_eq_some_iff.mp H
    obtain ⟨t974, A70, H⟩ := H
    have A7 := Aside0.mk A70
    clear A70
    obtain rfl := Option.some.inj H
    go_wp2_with (first | ((with_reducible refine gate_callee (f := 56) rfl ?_); refine goesL_ (some 27) rfl rfl Try.func56 (by kernel_rfl) rfl #[.int .i64 (l0.length : Int), .int .i64 1, .int .i64 6] rfl (by (try simp only [List.map_toArray, List.map_cons, List.map_nil]); first | done | rfl | (simp only [List.length_drop, List.length_take]; rfl)) ?_; (with_reducible refine (spec_l1In.calls (l0.length : Int) 1 6 t974 _ A7.out).mono ?_); rintro e w' ⟨rfl, ⟨nd, rfl⟩⟩; refine ⟨_, rfl, ?_⟩))
    go_ret
    exact ⟨by first | rfl | (simp; done) | (simp [*]; done), by repeat (first | exact Drawn0.refl _ | apply Drawn0.step)⟩



/-! ### spec_l3At: function 77 -/
def spec_l3At.f (k : Nat) (l0 : List (S48)) (a1 : Int) : Option (Bool) := (spec_TreeOk.f k l0).bind fun t975 => (if t975 = true then ((spec_l1In.f a1 0 (wrap64 ((l0.length : Int) - 1))).bind fun t976 => (some t976)) else (some false))
theorem spec_l3At.mono : ∀ a0 a1 k, LeO (spec_l3At.f k a0 a1) (spec_l3At.f (k + 1) a0 a1) := by
 intro a0 a1 k
 unfold spec_l3At.f
 repeat' first
   | (with_reducible exact spec_TreeOk.mono _ _)
   | (with_reducible exact LeO.refl _)
   | (with_reducible exact LeO.none _)
   | (with_reducible refine LeO.ite ?_ ?_)
   | (with_reducible refine LeO.bind ?_ (fun _ => ?_))
   | exact spec_TreeOk.mono _ _
   | exact LeO.none _
   | refine LeO.ite ?_ ?_
   | refine LeO.bind ?_ (fun _ => ?_)
set_option maxHeartbeats 8000000 in
set_option maxRecDepth 100000 in
theorem spec_l3At.calls (k : Nat) (A0 : Option Addr) (c0 : Nat) (l0 : List (S48)) (a1 : Int) (r : Bool) (w : World) (hr0 : Kd.C k48 w A0 l0.length l0) (hc0 : l0.length ≤ c0) (h : spec_l3At.f k l0 a1 = some r) :
  Calls Try.prog 77 #[.slice A0 l0.length c0, .int .i64 a1] w fun e w' => e = .returned (.bool r) ∧ Below w.heap.size w w' := by
 have HR0 := Aside0.mk hr0
 have HC0 := Aside0.mk hc0
 clear hr0 hc0
 have HB := Aside0.mk (Below.refl w.heap.size w)
 have H : ((spec_TreeOk.f k l0).bind fun t975 => (if t975 = true then ((spec_l1In.f a1 0 (wrap64 ((l0.length : Int) - 1))).bind fun t976 => (some t976)) else (some false))) = some r := h
 clear h
 replace H := Option.bind_eq_some_iff.mp H
 obtain ⟨t975, A30, H⟩ := H
 have A3 := Aside0.mk A30
 clear A30
 by_cases c4 : t975 = true
 ·subst c4
  rw [if_pos rfl] at H
  replace H := Option.bind_eq_some_iff.mp H
  obtain ⟨t976, A50, H⟩ := H
  have A5 := Aside0.mk A50
  clear A50
  obtain rfl := Option.some.inj H
  go_enter Try.func77, Try.ntmps77
  go_wp2_with (first | ((with_reducible refine gate_callee (f := 13) rfl ?_); refine goesL_ (some 6) rfl rfl Try.func13 (by kernel_rfl) rfl #[.slice A0 l0.length c0] rfl (by (try simp only [List.map_toArray, List.map_cons, List.map_nil]); first | done | rfl | (simp only [List.length_drop, List.length_take]; rfl)) ?_; (with_reducible refine (spec_TreeOk.calls k _ _ l0 true _ ?side1 ?side2 A3.out).mono ?_); (case side1 => repeat (first | exact HR0.out | (with_reducible refine Kd.C_alloc ?_ _) | (with_reducible refine Kd.C_drewN ?_ _) | (with_reducible refine Kd.C_drew ?_))); (case side2 => exact HC0.out); rintro e w6 ⟨rfl, hb⟩; refine ⟨_, rfl, ?_⟩; have n0_ := Aside0.mk (below_step (by repeat (first | (with_reducible first | exact HB.out | apply below_alloc | apply pw_below_drewN | apply below_drew1) | exact HB.out)) hb); clear HB; have HB := n0_; clear n0_; (try clear hb); (try clear hb2); (try clear hk); (try clear hi)) | (go_at_call 56; (with_reducible refine (spec_l1In.calls a1 0 (wrap64 ((l0.length : Int) - 1)) t976 _ A5.out).mono ?_); rintro e w' ⟨rfl, ⟨nd, rfl⟩⟩))
  go_ret
  exact ⟨by first | rfl | (simp [errW_none, errW_some] <;> rfl) | (simp [*, errW_none, errW_some] <;> rfl), by repeat (first | (with_reducible first | exact HB.out | apply below_alloc | apply pw_below_drewN | apply below_drew1) | exact HB.out)⟩
 ·replace c4 := Bool.eq_false_iff.mpr c4
  subst c4
  rw [if_neg (show ¬ (false = true) by decide)] at H
  obtain rfl := Option.some.inj H
  go_enter Try.func77, Try.ntmps77
  go_wp2_with (first | ((with_reducible refine gate_callee (f := 13) rfl ?_); refine goesL_ (some 6) rfl rfl Try.func13 (by kernel_rfl) rfl #[.slice A0 l0.length c0] rfl (by (try simp only [List.map_toArray, List.map_cons, List.map_nil]); first | done | rfl | (simp only [List.length_drop, List.length_take]; rfl)) ?_; (with_reducible refine (spec_TreeOk.calls k _ _ l0 false _ ?side1 ?side2 A3.out).mono ?_); (case side1 => repeat (first | exact HR0.out | (with_reducible refine Kd.C_alloc ?_ _) | (with_reducible refine Kd.C_drewN ?_ _) | (with_reducible refine Kd.C_drew ?_))); (case side2 => exact HC0.out); rintro e w7 ⟨rfl, hb⟩; refine ⟨_, rfl, ?_⟩; have n0_ := Aside0.mk (below_step (by repeat (first | (with_reducible first | exact HB.out | apply below_alloc | apply pw_below_drewN | apply below_drew1) | exact HB.out)) hb); clear HB; have HB := n0_; clear n0_; (try clear hb); (try clear hb2); (try clear hk); (try clear hi)))
  go_ret
  exact ⟨by first | rfl | (simp [errW_none, errW_some] <;> rfl) | (simp [*, errW_none, errW_some] <;> rfl), by repeat (first | (with_reducible first | exact HB.out | apply below_alloc | apply pw_below_drewN | apply below_drew1) | exact HB.out)⟩



/-! ### spec_ParentOf: function 34 -/
def spec_ParentOf.l0 : Nat → List (S48) → Int → Int → Option (Int)
 | 0, _, _, _ => none
 | k + 1, x0, x1, x5 => if x5 ≥ 0 then (if 0 ≤ x5 then (if x5 < (x0.length : Int) then (if 0 ≤ x1 then (if x1 < (x0.length : Int) then (if ((rd_T48 x0 x5).f1) ≥ ((rd_T48 x0 x1).f1) then (spec_ParentOf.l0 k x0 x1 (wrap64 (x5 - 1))) else (some x5)) else (none)) else (none)) else (none)) else (none)) else (some x5)
def spec_ParentOf.f (k : Nat) (l0 : List (S48)) (a1 : Int) : Option (Int) := (spec_l3At.f k l0 a1).bind fun t977 => (if t977 = true then (spec_ParentOf.l0 k l0 a1 (wrap64 (a1 - 1))) else (some (-1)))
theorem spec_ParentOf.mono_l : ∀ k, (∀ y0 y1 y2, LeO (spec_ParentOf.l0 k y0 y1 y2) (spec_ParentOf.l0 (k + 1) y0 y1 y2))
 | 0 => fun _ _ _ r h => by simp [spec_ParentOf.l0] at h
 | k + 1 => by
  have ih0 := spec_ParentOf.mono_l k
  ·intro y0 y1 y2
   unfold spec_ParentOf.l0
   repeat' first
   | (with_reducible exact ih0 _ _ _)
   | (with_reducible exact spec_l3At.mono _ _ _)
   | (with_reducible exact LeO.refl _)
   | (with_reducible exact LeO.none _)
   | (with_reducible refine LeO.ite ?_ ?_)
   | (with_reducible refine LeO.bind ?_ (fun _ => ?_))
   | exact ih0 _ _ _
   | exact spec_l3At.mono _ _ _
   | exact LeO.none _
   | refine LeO.ite ?_ ?_
   | refine LeO.bind ?_ (fun _ => ?_)
theorem spec_ParentOf.mono : ∀ a0 a1 k, LeO (spec_ParentOf.f k a0 a1) (spec_ParentOf.f (k + 1) a0 a1) := by
 intro a0 a1 k
 have ih0 := spec_ParentOf.mono_l k
 unfold spec_ParentOf.f
 repeat' first
   | (with_reducible exact ih0 _ _ _)
   | (with_reducible exact spec_l3At.mono _ _ _)
   | (with_reducible exact LeO.refl _)
   | (with_reducible exact LeO.none _)
   | (with_reducible refine LeO.ite ?_ ?_)
   | (with_reducible refine LeO.bind ?_ (fun _ => ?_))
   | exact ih0 _ _ _
   | exact spec_l3At.mono _ _ _
   | exact LeO.none _
   | refine LeO.ite ?_ ?_
   | refine LeO.bind ?_ (fun _ => ?_)
set_option maxHeartbeats 8000000 in
set_option maxRecDepth 100000 in
theorem spec_ParentOf.calls (k : Nat) (A0 : Option Addr) (c0 : Nat) (l0 : List (S48)) (a1 : Int) (r : Int) (w : World) (hr0 : Kd.C k48 w A0 l0.length l0) (hc0 : l0.length ≤ c0) (h : spec_ParentOf.f k l0 a1 = some r) :
  Calls Try.prog 34 #[.slice A0 l0.length c0, .int .i64 a1] w fun e w' => e = .returned (.int .i64 r) ∧ Below w.heap.size w w' := by
 have HR0 := Aside0.mk hr0
 have HC0 := Aside0.mk hc0
 clear hr0 hc0
 have HB := Aside0.mk (Below.refl w.heap.size w)
 have H : ((spec_l3At.f k l0 a1).bind fun t977 => (if t977 = true then (spec_ParentOf.l0 k l0 a1 (wrap64 (a1 - 1))) else (some (-1)))) = some r := h
 clear h
 replace H := Option.bind_eq_some_iff.mp H
 obtain ⟨t977, A30, H⟩ := H
 have A3 := Aside0.mk A30
 clear A30
 by_cases c4 : t977 = true
 ·subst c4
  rw [if_pos rfl] at H
  have H' := Aside0.mk H
  clear H
  go_enter Try.func34, Try.ntmps34
  go_wp2_with (first | (go_at_call 77; (with_reducible refine (spec_l3At.calls k _ _ l0 a1 true _ ?side1 ?side2 A3.out).mono ?_); (case side1 => repeat (first | exact HR0.out | (with_reducible refine Kd.C_alloc ?_ _) | (with_reducible refine Kd.C_drewN ?_ _) | (with_reducible refine Kd.C_drew ?_))); (case side2 => exact HC0.out); rintro e w5 ⟨rfl, hb⟩; have n0_ := Aside0.mk (below_step (by repeat (first | (with_reducible first | exact HB.out | apply below_alloc | apply pw_below_drewN | apply below_drew1) | exact HB.out)) hb); clear HB; have HB := n0_; clear n0_; (try clear hb); (try clear hb2); (try clear hk); (try clear hi)))
  repeat (go_quiet (first | (go_at_call 77; (with_reducible refine (spec_l3At.calls k _ _ l0 a1 true _ ?side1 ?side2 A3.out).mono ?_); (case side1 => repeat (first | exact HR0.out | (with_reducible refine Kd.C_alloc ?_ _) | (with_reducible refine Kd.C_drewN ?_ _) | (with_reducible refine Kd.C_drew ?_))); (case side2 => exact HC0.out); rintro e w5 ⟨rfl, hb⟩; have n0_ := Aside0.mk (below_step (by repeat (first | (with_reducible first | exact HB.out | apply below_alloc | apply pw_below_drewN | apply below_drew1) | exact HB.out)) hb); clear HB; have HB := n0_; clear n0_; (try clear hb); (try clear hb2); (try clear hk); (try clear hi))); try go_wp2_with (first | (go_at_call 77; (with_reducible refine (spec_l3At.calls k _ _ l0 a1 true _ ?side1 ?side2 A3.out).mono ?_); (case side1 => repeat (first | exact HR0.out | (with_reducible refine Kd.C_alloc ?_ _) | (with_reducible refine Kd.C_drewN ?_ _) | (with_reducible refine Kd.C_drew ?_))); (case side2 => exact HC0.out); rintro e w5 ⟨rfl, hb⟩; have n0_ := Aside0.mk (below_step (by repeat (first | (with_reducible first | exact HB.out | apply below_alloc | apply pw_below_drewN | apply below_drew1) | exact HB.out)) hb); clear HB; have HB := n0_; clear n0_; (try clear hb); (try clear hb2); (try clear hk); (try clear hi))))
  go_loopg [5] k (fun kq v5 w' => ∃ (x5_1 : Int), v5 = .int .i64 x5_1 ∧ Aside0 (spec_ParentOf.l0 kq l0 a1 x5_1 = some r) ∧ Aside0 (kq ≤ k) ∧ Aside0 (Below w.heap.size w w'))
  case atStart => exact ⟨(wrap64 (a1 - 1)), (by first | rfl | (simp; done) | (simp [*]; done)), H', ⟨Nat.le_refl _⟩, ⟨by repeat (first | (with_reducible first | exact HB.out | apply below_alloc | apply pw_below_drewN | apply below_drew1) | exact HB.out)⟩⟩
  case round =>
   clear H'
   try clear p2
   try clear c3
   try clear c4
   obtain ⟨x5_1, rfl, HA, HK1, HB⟩ := hrel
   cases gk with
   | zero => exact absurd HA.out (by simp [spec_ParentOf.l0])
   | succ k1 =>
    have H := HA.out
    clear HA
    simp only [spec_ParentOf.l0] at H
    by_cases c6 : x5_1 ≥ 0
    ·rw [if_pos c6] at H
     have c6b0 : decide (0 ≤ x5_1) = true := decide_eq_true c6
     clear c6
     by_cases c7 : 0 ≤ x5_1
     ·rw [if_pos c7] at H
      have c7b0 : decide (0 ≤ x5_1) = true := decide_eq_true c7
      clear c7
      by_cases c8 : x5_1 < (l0.length : Int)
      ·rw [if_pos c8] at H
       have c8b0 : decide (x5_1 < (l0.length : Int)) = true := decide_eq_true c8
       clear c8
       by_cases c9 : 0 ≤ a1
       ·rw [if_pos c9] at H
        have c9b0 : decide (0 ≤ a1) = true := decide_eq_true c9
        clear c9
        by_cases c10 : a1 < (l0.length : Int)
        ·rw [if_pos c10] at H
         have c10b0 : decide (a1 < (l0.length : Int)) = true := decide_eq_true c10
         clear c10
         by_cases c11 : ((rd_T48 l0 x5_1).f1) ≥ ((rd_T48 l0 a1).f1)
         ·rw [if_pos c11] at H
          have c11b0 : decide (((rd_T48 l0 a1).f1) ≤ ((rd_T48 l0 x5_1).f1)) = true := decide_eq_true c11
          clear c11
          have H' := Aside0.mk H
          clear H
          have p978 : 0 ≤ (x5_1 : Int) := of_decide_eq_true (by first | (with_reducible assumption) | assumption)
          have q978 : x5_1 < (l0.length : Int) := of_decide_eq_true (by first | (with_reducible assumption) | assumption)
          obtain ⟨ad978, e978, hx978_0, hx978_1⟩ := at_T48 HR0.out x5_1 p978 q978
          cases e978
          replace hx978_0 := (HB.out.cell (World.block_lt_of_cell? w _ hx978_0)).trans hx978_0
          replace hx978_1 := (HB.out.cell (World.block_lt_of_cell? w _ hx978_1)).trans hx978_1
          replace p978 := eq_true p978
          replace q978 := eq_true q978
          have p979 : 0 ≤ (a1 : Int) := of_decide_eq_true (by first | (with_reducible assumption) | assumption)
          have q979 : a1 < (l0.length : Int) := of_decide_eq_true (by first | (with_reducible assumption) | assumption)
          obtain ⟨ad979, e979, hx979_0, hx979_1⟩ := at_T48 HR0.out a1 p979 q979
          obtain rfl : ad978 = ad979 := (by injection e979)
          replace hx979_0 := (HB.out.cell (World.block_lt_of_cell? w _ hx979_0)).trans hx979_0
          replace hx979_1 := (HB.out.cell (World.block_lt_of_cell? w _ hx979_1)).trans hx979_1
          replace p979 := eq_true p979
          replace q979 := eq_true q979
          go_wp2
          repeat (go_quiet (fail); try go_wp2)
          go_roundg k1
          case measure => have := HK1.out; omega
          case rel => exact ⟨(wrap64 (x5_1 - 1)), (by first | rfl | (simp; done) | (simp [*]; done)), H', ⟨by have := HK1.out; omega⟩, ⟨by repeat (first | (with_reducible first | exact HB.out | apply below_alloc | apply pw_below_drewN | apply below_drew1) | exact HB.out)⟩⟩
         ·rw [if_neg c11] at H
          have c11b0 : decide (((rd_T48 l0 a1).f1) ≤ ((rd_T48 l0 x5_1).f1)) = false := decide_eq_false c11
          clear c11
          obtain rfl := Option.some.inj H
          have p978 : 0 ≤ (x5_1 : Int) := of_decide_eq_true (by first | (with_reducible assumption) | assumption)
          have q978 : x5_1 < (l0.length : Int) := of_decide_eq_true (by first | (with_reducible assumption) | assumption)
          obtain ⟨ad978, e978, hx978_0, hx978_1⟩ := at_T48 HR0.out x5_1 p978 q978
          cases e978
          replace hx978_0 := (HB.out.cell (World.block_lt_of_cell? w _ hx978_0)).trans hx978_0
          replace hx978_1 := (HB.out.cell (World.block_lt_of_cell? w _ hx978_1)).trans hx978_1
          replace p978 := eq_true p978
          replace q978 := eq_true q978
          have p979 : 0 ≤ (a1 : Int) := of_decide_eq_true (by first | (with_reducible assumption) | assumption)
          have q979 : a1 < (l0.length : Int) := of_decide_eq_true (by first | (with_reducible assumption) | assumption)
          obtain ⟨ad979, e979, hx979_0, hx979_1⟩ := at_T48 HR0.out a1 p979 q979
          obtain rfl : ad978 = ad979 := (by injection e979)
          replace hx979_0 := (HB.out.cell (World.block_lt_of_cell? w _ hx979_0)).trans hx979_0
          replace hx979_1 := (HB.out.cell (World.block_lt_of_cell? w _ hx979_1)).trans hx979_1
          replace p979 := eq_true p979
          replace q979 := eq_true q979
          go_wp2
          repeat (go_quiet (fail); try go_wp2)
          go_ret
          exact ⟨by first | rfl | (simp [errW_none, errW_some] <;> rfl) | (simp [*, errW_none, errW_some] <;> rfl), by repeat (first | (with_reducible first | exact HB.out | apply below_alloc | apply pw_below_drewN | apply below_drew1) | exact HB.out)⟩
        ·rw [if_neg c10] at H
         exact absurd H (by simp)
       ·rw [if_neg c9] at H
        exact absurd H (by simp)
      ·rw [if_neg c8] at H
       exact absurd H (by simp)
     ·rw [if_neg c7] at H
      exact absurd H (by simp)
    ·rw [if_neg c6] at H
     have c6b0 : decide (0 ≤ x5_1) = false := decide_eq_false c6
     clear c6
     obtain rfl := Option.some.inj H
     go_wp2
     repeat (go_quiet (fail); try go_wp2)
     go_ret
     exact ⟨by first | rfl | (simp [errW_none, errW_some] <;> rfl) | (simp [*, errW_none, errW_some] <;> rfl), by repeat (first | (with_reducible first | exact HB.out | apply below_alloc | apply pw_below_drewN | apply below_drew1) | exact HB.out)⟩
 ·replace c4 := Bool.eq_false_iff.mpr c4
  subst c4
  rw [if_neg (show ¬ (false = true) by decide)] at H
  obtain rfl := Option.some.inj H
  go_enter Try.func34, Try.ntmps34
  go_wp2_with (first | (go_at_call 77; (with_reducible refine (spec_l3At.calls k _ _ l0 a1 false _ ?side1 ?side2 A3.out).mono ?_); (case side1 => repeat (first | exact HR0.out | (with_reducible refine Kd.C_alloc ?_ _) | (with_reducible refine Kd.C_drewN ?_ _) | (with_reducible refine Kd.C_drew ?_))); (case side2 => exact HC0.out); rintro e w12 ⟨rfl, hb⟩; have n0_ := Aside0.mk (below_step (by repeat (first | (with_reducible first | exact HB.out | apply below_alloc | apply pw_below_drewN | apply below_drew1) | exact HB.out)) hb); clear HB; have HB := n0_; clear n0_; (try clear hb); (try clear hb2); (try clear hk); (try clear hi)))
  repeat (go_quiet (first | (go_at_call 77; (with_reducible refine (spec_l3At.calls k _ _ l0 a1 false _ ?side1 ?side2 A3.out).mono ?_); (case side1 => repeat (first | exact HR0.out | (with_reducible refine Kd.C_alloc ?_ _) | (with_reducible refine Kd.C_drewN ?_ _) | (with_reducible refine Kd.C_drew ?_))); (case side2 => exact HC0.out); rintro e w12 ⟨rfl, hb⟩; have n0_ := Aside0.mk (below_step (by repeat (first | (with_reducible first | exact HB.out | apply below_alloc | apply pw_below_drewN | apply below_drew1) | exact HB.out)) hb); clear HB; have HB := n0_; clear n0_; (try clear hb); (try clear hb2); (try clear hk); (try clear hi))); try go_wp2_with (first | (go_at_call 77; (with_reducible refine (spec_l3At.calls k _ _ l0 a1 false _ ?side1 ?side2 A3.out).mono ?_); (case side1 => repeat (first | exact HR0.out | (with_reducible refine Kd.C_alloc ?_ _) | (with_reducible refine Kd.C_drewN ?_ _) | (with_reducible refine Kd.C_drew ?_))); (case side2 => exact HC0.out); rintro e w12 ⟨rfl, hb⟩; have n0_ := Aside0.mk (below_step (by repeat (first | (with_reducible first | exact HB.out | apply below_alloc | apply pw_below_drewN | apply below_drew1) | exact HB.out)) hb); clear HB; have HB := n0_; clear n0_; (try clear hb); (try clear hb2); (try clear hk); (try clear hi))))
  go_ret
  exact ⟨by first | rfl | (simp [errW_none, errW_some] <;> rfl) | (simp [*, errW_none, errW_some] <;> rfl), by repeat (first | (with_reducible first | exact HB.out | apply below_alloc | apply pw_below_drewN | apply below_drew1) | exact HB.out)⟩


end Go.Proofs.Ytekpggmnnfjphaa.P
