-- Written by this session's program mk.py with the kit's print program, out of the translation; not by hand. Lean checks it.
import Derived.Test.YtekpggmnnfjphaaP0
import Derived.Test.YtekpggmnnfjphaaHand
import Derived.Test.YtekpggmnnfjphaaG18
namespace Go.Proofs.Ytekpggmnnfjphaa.P
open Go.RowKit Go.Proofs.YtekpggmnnfjphaaW.PrintWords Go.Proofs.YtekpggmnnfjphaaW.PrintLast Go.Proofs.YtekpggmnnfjphaaW.PrintMore
attribute [local go_sem] max2_int min2_int max_two min_two max_three min_three max_four min_four   -- for this text's walks alone
set_option linter.unusedVariables false
set_option linter.unusedSimpArgs false


/-! ### spec_StrDist: function 19 -/
mutual
def spec_StrDist.j0 : Nat → List Int → List Int → Bool → List Int → List Int → List Int → Option (Int)
 | 0, _, _, _, _, _, _ => none
 | k + 1, x0, x1, x24, x575000, x575001, x575002 => if x24 = true then (some (-1)) else (if 0 ≤ (wrap64 ((wrap64 ((x0.length : Int) + 1)) * (wrap64 ((x1.length : Int) + 1)))) then (if (wrap64 ((wrap64 ((x0.length : Int) + 1)) * (wrap64 ((x1.length : Int) + 1))) : Int).toNat ≤ 35184372088832 then (spec_StrDist.l0 k x0 x1 (wrap64 ((x1.length : Int) + 1)) (List.replicate (wrap64 ((wrap64 ((x0.length : Int) + 1)) * (wrap64 ((x1.length : Int) + 1))) : Int).toNat 0) 0 x575000 x575001 x575002) else (none)) else (none))
def spec_StrDist.l0 : Nat → List Int → List Int → Int → List Int → Int → List Int → List Int → List Int → Option (Int)
 | 0, _, _, _, _, _, _, _, _ => none
 | k + 1, x0, x1, x7, x8, x9, x575000, x575001, x575002 => if x9 ≤ (x0.length : Int) then (spec_StrDist.l1 k x0 x1 x7 x8 x9 0 x575000 x575001 x575002) else (if 0 ≤ (wrap64 ((x8.length : Int) - 1)) then (if (wrap64 ((x8.length : Int) - 1)) < (x8.length : Int) then (some (rd x8 (wrap64 ((x8.length : Int) - 1)))) else (none)) else (none))
def spec_StrDist.l1 : Nat → List Int → List Int → Int → List Int → Int → Int → List Int → List Int → List Int → Option (Int)
 | 0, _, _, _, _, _, _, _, _, _ => none
 | k + 1, x0, x1, x7, x8, x9, x10, x575000, x575001, x575002 => if x10 ≤ (x1.length : Int) then (if x9 = 0 then (spec_StrDist.j3 k x0 x1 x7 x8 x9 x10 (x10 == 0) x575000 x575001 x575002) else (spec_StrDist.j3 k x0 x1 x7 x8 x9 x10 false x575000 x575001 x575002)) else (spec_StrDist.l0 k x0 x1 x7 x8 (wrap64 (x9 + 1)) x575000 x575001 x575002)
def spec_StrDist.j3 : Nat → List Int → List Int → Int → List Int → Int → Int → Bool → List Int → List Int → List Int → Option (Int)
 | 0, _, _, _, _, _, _, _, _, _, _ => none
 | k + 1, x0, x1, x7, x8, x9, x10, x51, x575000, x575001, x575002 => if x51 = true then (spec_StrDist.l1 k x0 x1 x7 x8 x9 (wrap64 (x10 + 1)) x575000 x575001 x575002) else (if x9 > 0 then (if 0 ≤ (wrap64 ((wrap64 ((wrap64 (x9 - 1)) * x7)) + x10)) then (if (wrap64 ((wrap64 ((wrap64 (x9 - 1)) * x7)) + x10)) < (x8.length : Int) then (if 0 ≤ (wrap64 (x9 - 1)) then (if (wrap64 (x9 - 1)) < (x0.length : Int) then (if 0 ≤ (rd x0 (wrap64 (x9 - 1))) then (if (rd x0 (wrap64 (x9 - 1))) < (x575000.length : Int) then (spec_StrDist.j4 k x0 x1 x7 x8 x9 x10 (mn 1000000000 (wrap64 ((rd x8 (wrap64 ((wrap64 ((wrap64 (x9 - 1)) * x7)) + x10))) + (rd x575000 (rd x0 (wrap64 (x9 - 1))))))) x575000 x575001 x575002) else (none)) else (none)) else (none)) else (none)) else (none)) else (none)) else (spec_StrDist.j4 k x0 x1 x7 x8 x9 x10 1000000000 x575000 x575001 x575002))
def spec_StrDist.j4 : Nat → List Int → List Int → Int → List Int → Int → Int → Int → List Int → List Int → List Int → Option (Int)
 | 0, _, _, _, _, _, _, _, _, _, _ => none
 | k + 1, x0, x1, x7, x8, x9, x10, x11, x575000, x575001, x575002 => if x10 > 0 then (if 0 ≤ (wrap64 ((wrap64 ((wrap64 (x9 * x7)) + x10)) - 1)) then (if (wrap64 ((wrap64 ((wrap64 (x9 * x7)) + x10)) - 1)) < (x8.length : Int) then (if 0 ≤ (wrap64 (x10 - 1)) then (if (wrap64 (x10 - 1)) < (x1.length : Int) then (if 0 ≤ (rd x1 (wrap64 (x10 - 1))) then (if (rd x1 (wrap64 (x10 - 1))) < (x575001.length : Int) then (if x9 > 0 then (if 0 ≤ (wrap64 ((wrap64 ((wrap64 ((wrap64 (x9 - 1)) * x7)) + x10)) - 1)) then (if (wrap64 ((wrap64 ((wrap64 ((wrap64 (x9 - 1)) * x7)) + x10)) - 1)) < (x8.length : Int) then (if 0 ≤ (wrap64 (x9 - 1)) then (if (wrap64 (x9 - 1)) < (x0.length : Int) then (if 0 ≤ (wrap64 ((wrap64 ((rd x0 (wrap64 (x9 - 1))) * 6)) + (rd x1 (wrap64 (x10 - 1))))) then (if (wrap64 ((wrap64 ((rd x0 (wrap64 (x9 - 1))) * 6)) + (rd x1 (wrap64 (x10 - 1))))) < (x575002.length : Int) then (if 0 ≤ (wrap64 ((wrap64 (x9 * x7)) + x10)) then (if (wrap64 ((wrap64 (x9 * x7)) + x10)) < (x8.length : Int) then (spec_StrDist.l1 k x0 x1 x7 (x8.set ((wrap64 ((wrap64 (x9 * x7)) + x10)) : Int).toNat (mn (mn x11 (wrap64 ((rd x8 (wrap64 ((wrap64 ((wrap64 (x9 * x7)) + x10)) - 1))) + (rd x575001 (rd x1 (wrap64 (x10 - 1))))))) (wrap64 ((rd x8 (wrap64 ((wrap64 ((wrap64 ((wrap64 (x9 - 1)) * x7)) + x10)) - 1))) + (rd x575002 (wrap64 ((wrap64 ((rd x0 (wrap64 (x9 - 1))) * 6)) + (rd x1 (wrap64 (x10 - 1)))))))))) x9 (wrap64 (x10 + 1)) x575000 x575001 x575002) else (none)) else (none)) else (none)) else (none)) else (none)) else (none)) else (none)) else (none)) else (if 0 ≤ (wrap64 ((wrap64 (x9 * x7)) + x10)) then (if (wrap64 ((wrap64 (x9 * x7)) + x10)) < (x8.length : Int) then (spec_StrDist.l1 k x0 x1 x7 (x8.set ((wrap64 ((wrap64 (x9 * x7)) + x10)) : Int).toNat (mn x11 (wrap64 ((rd x8 (wrap64 ((wrap64 ((wrap64 (x9 * x7)) + x10)) - 1))) + (rd x575001 (rd x1 (wrap64 (x10 - 1)))))))) x9 (wrap64 (x10 + 1)) x575000 x575001 x575002) else (none)) else (none))) else (none)) else (none)) else (none)) else (none)) else (none)) else (none)) else (if x9 > 0 then (if 0 ≤ (wrap64 ((wrap64 (x9 * x7)) + x10)) then (if (wrap64 ((wrap64 (x9 * x7)) + x10)) < (x8.length : Int) then (spec_StrDist.l1 k x0 x1 x7 (x8.set ((wrap64 ((wrap64 (x9 * x7)) + x10)) : Int).toNat x11) x9 (wrap64 (x10 + 1)) x575000 x575001 x575002) else (none)) else (none)) else (if 0 ≤ (wrap64 ((wrap64 (x9 * x7)) + x10)) then (if (wrap64 ((wrap64 (x9 * x7)) + x10)) < (x8.length : Int) then (spec_StrDist.l1 k x0 x1 x7 (x8.set ((wrap64 ((wrap64 (x9 * x7)) + x10)) : Int).toNat x11) x9 (wrap64 (x10 + 1)) x575000 x575001 x575002) else (none)) else (none)))
end
def spec_StrDist.f (k : Nat) (l0 : List Int) (l1 : List Int) (l2_0 : List Int) (l2_1 : List Int) (l2_2 : List Int) : Option (Int) := (spec_l25Labels.f k l0).bind fun t575 => (if t575 = true then ((spec_l25Labels.f k l1).bind fun t576 => (if t576 = true then ((spec_CostOk.f k l2_0 l2_1 l2_2).bind fun t577 => (spec_StrDist.j0 k l0 l1 (!t577) l2_0 l2_1 l2_2)) else (spec_StrDist.j0 k l0 l1 true l2_0 l2_1 l2_2))) else (spec_StrDist.j0 k l0 l1 true l2_0 l2_1 l2_2))
theorem spec_StrDist.mono_l : ∀ k, (∀ y0 y1 y2 y3 y4 y5, LeO (spec_StrDist.j0 k y0 y1 y2 y3 y4 y5) (spec_StrDist.j0 (k + 1) y0 y1 y2 y3 y4 y5)) ∧ (∀ y0 y1 y2 y3 y4 y5 y6 y7, LeO (spec_StrDist.l0 k y0 y1 y2 y3 y4 y5 y6 y7) (spec_StrDist.l0 (k + 1) y0 y1 y2 y3 y4 y5 y6 y7)) ∧ (∀ y0 y1 y2 y3 y4 y5 y6 y7 y8, LeO (spec_StrDist.l1 k y0 y1 y2 y3 y4 y5 y6 y7 y8) (spec_StrDist.l1 (k + 1) y0 y1 y2 y3 y4 y5 y6 y7 y8)) ∧ (∀ y0 y1 y2 y3 y4 y5 y6 y7 y8 y9, LeO (spec_StrDist.j3 k y0 y1 y2 y3 y4 y5 y6 y7 y8 y9) (spec_StrDist.j3 (k + 1) y0 y1 y2 y3 y4 y5 y6 y7 y8 y9)) ∧ (∀ y0 y1 y2 y3 y4 y5 y6 y7 y8 y9, LeO (spec_StrDist.j4 k y0 y1 y2 y3 y4 y5 y6 y7 y8 y9) (spec_StrDist.j4 (k + 1) y0 y1 y2 y3 y4 y5 y6 y7 y8 y9))
 | 0 => ⟨fun _ _ _ _ _ _ r h => by simp [spec_StrDist.j0] at h, fun _ _ _ _ _ _ _ _ r h => by simp [spec_StrDist.l0] at h, fun _ _ _ _ _ _ _ _ _ r h => by simp [spec_StrDist.l1] at h, fun _ _ _ _ _ _ _ _ _ _ r h => by simp [spec_StrDist.j3] at h, fun _ _ _ _ _ _ _ _ _ _ r h => by simp [spec_StrDist.j4] at h⟩
 | k + 1 => by
  obtain ⟨ih0, ih1, ih2, ih3, ih4⟩ := spec_StrDist.mono_l k
  refine ⟨?_, ?_, ?_, ?_, ?_⟩
  ·intro y0 y1 y2 y3 y4 y5
   unfold spec_StrDist.j0
   repeat' first
   | (with_reducible exact ih0 _ _ _ _ _ _)
   | (with_reducible exact ih1 _ _ _ _ _ _ _ _)
   | (with_reducible exact ih2 _ _ _ _ _ _ _ _ _)
   | (with_reducible exact ih3 _ _ _ _ _ _ _ _ _ _)
   | (with_reducible exact ih4 _ _ _ _ _ _ _ _ _ _)
   | (with_reducible exact spec_CostOk.mono _ _ _ _)
   | (with_reducible exact spec_l25Labels.mono _ _)
   | (with_reducible exact LeO.refl _)
   | (with_reducible exact LeO.none _)
   | (with_reducible refine LeO.ite ?_ ?_)
   | (with_reducible refine LeO.bind ?_ (fun _ => ?_))
   | exact ih0 _ _ _ _ _ _
   | exact ih1 _ _ _ _ _ _ _ _
   | exact ih2 _ _ _ _ _ _ _ _ _
   | exact ih3 _ _ _ _ _ _ _ _ _ _
   | exact ih4 _ _ _ _ _ _ _ _ _ _
   | exact spec_CostOk.mono _ _ _ _
   | exact spec_l25Labels.mono _ _
   | exact LeO.none _
   | refine LeO.ite ?_ ?_
   | refine LeO.bind ?_ (fun _ => ?_)
  ·intro y0 y1 y2 y3 y4 y5 y6 y7
   unfold spec_StrDist.l0
   repeat' first
   | (with_reducible exact ih0 _ _ _ _ _ _)
   | (with_reducible exact ih1 _ _ _ _ _ _ _ _)
   | (with_reducible exact ih2 _ _ _ _ _ _ _ _ _)
   | (with_reducible exact ih3 _ _ _ _ _ _ _ _ _ _)
   | (with_reducible exact ih4 _ _ _ _ _ _ _ _ _ _)
   | (with_reducible exact spec_CostOk.mono _ _ _ _)
   | (with_reducible exact spec_l25Labels.mono _ _)
   | (with_reducible exact LeO.refl _)
   | (with_reducible exact LeO.none _)
   | (with_reducible refine LeO.ite ?_ ?_)
   | (with_reducible refine LeO.bind ?_ (fun _ => ?_))
   | exact ih0 _ _ _ _ _ _
   | exact ih1 _ _ _ _ _ _ _ _
   | exact ih2 _ _ _ _ _ _ _ _ _
   | exact ih3 _ _ _ _ _ _ _ _ _ _
   | exact ih4 _ _ _ _ _ _ _ _ _ _
   | exact spec_CostOk.mono _ _ _ _
   | exact spec_l25Labels.mono _ _
   | exact LeO.none _
   | refine LeO.ite ?_ ?_
   | refine LeO.bind ?_ (fun _ => ?_)
  ·intro y0 y1 y2 y3 y4 y5 y6 y7 y8
   unfold spec_StrDist.l1
   repeat' first
   | (with_reducible exact ih0 _ _ _ _ _ _)
   | (with_reducible exact ih1 _ _ _ _ _ _ _ _)
   | (with_reducible exact ih2 _ _ _ _ _ _ _ _ _)
   | (with_reducible exact ih3 _ _ _ _ _ _ _ _ _ _)
   | (with_reducible exact ih4 _ _ _ _ _ _ _ _ _ _)
   | (with_reducible exact spec_CostOk.mono _ _ _ _)
   | (with_reducible exact spec_l25Labels.mono _ _)
   | (with_reducible exact LeO.refl _)
   | (with_reducible exact LeO.none _)
   | (with_reducible refine LeO.ite ?_ ?_)
   | (with_reducible refine LeO.bind ?_ (fun _ => ?_))
   | exact ih0 _ _ _ _ _ _
   | exact ih1 _ _ _ _ _ _ _ _
   | exact ih2 _ _ _ _ _ _ _ _ _
   | exact ih3 _ _ _ _ _ _ _ _ _ _
   | exact ih4 _ _ _ _ _ _ _ _ _ _
   | exact spec_CostOk.mono _ _ _ _
   | exact spec_l25Labels.mono _ _
   | exact LeO.none _
   | refine LeO.ite ?_ ?_
   | refine LeO.bind ?_ (fun _ => ?_)
  ·intro y0 y1 y2 y3 y4 y5 y6 y7 y8 y9
   unfold spec_StrDist.j3
   repeat' first
   | (with_reducible exact ih0 _ _ _ _ _ _)
   | (with_reducible exact ih1 _ _ _ _ _ _ _ _)
   | (with_reducible exact ih2 _ _ _ _ _ _ _ _ _)
   | (with_reducible exact ih3 _ _ _ _ _ _ _ _ _ _)
   | (with_reducible exact ih4 _ _ _ _ _ _ _ _ _ _)
   | (with_reducible exact spec_CostOk.mono _ _ _ _)
   | (with_reducible exact spec_l25Labels.mono _ _)
   | (with_reducible exact LeO.refl _)
   | (with_reducible exact LeO.none _)
   | (with_reducible refine LeO.ite ?_ ?_)
   | (with_reducible refine LeO.bind ?_ (fun _ => ?_))
   | exact ih0 _ _ _ _ _ _
   | exact ih1 _ _ _ _ _ _ _ _
   | exact ih2 _ _ _ _ _ _ _ _ _
   | exact ih3 _ _ _ _ _ _ _ _ _ _
   | exact ih4 _ _ _ _ _ _ _ _ _ _
   | exact spec_CostOk.mono _ _ _ _
   | exact spec_l25Labels.mono _ _
   | exact LeO.none _
   | refine LeO.ite ?_ ?_
   | refine LeO.bind ?_ (fun _ => ?_)
  ·intro y0 y1 y2 y3 y4 y5 y6 y7 y8 y9
   unfold spec_StrDist.j4
   repeat' first
   | (with_reducible exact ih0 _ _ _ _ _ _)
   | (with_reducible exact ih1 _ _ _ _ _ _ _ _)
   | (with_reducible exact ih2 _ _ _ _ _ _ _ _ _)
   | (with_reducible exact ih3 _ _ _ _ _ _ _ _ _ _)
   | (with_reducible exact ih4 _ _ _ _ _ _ _ _ _ _)
   | (with_reducible exact spec_CostOk.mono _ _ _ _)
   | (with_reducible exact spec_l25Labels.mono _ _)
   | (with_reducible exact LeO.refl _)
   | (with_reducible exact LeO.none _)
   | (with_reducible refine LeO.ite ?_ ?_)
   | (with_reducible refine LeO.bind ?_ (fun _ => ?_))
   | exact ih0 _ _ _ _ _ _
   | exact ih1 _ _ _ _ _ _ _ _
   | exact ih2 _ _ _ _ _ _ _ _ _
   | exact ih3 _ _ _ _ _ _ _ _ _ _
   | exact ih4 _ _ _ _ _ _ _ _ _ _
   | exact spec_CostOk.mono _ _ _ _
   | exact spec_l25Labels.mono _ _
   | exact LeO.none _
   | refine LeO.ite ?_ ?_
   | refine LeO.bind ?_ (fun _ => ?_)
theorem spec_StrDist.mono : ∀ a0 a1 a2 a3 a4 k, LeO (spec_StrDist.f k a0 a1 a2 a3 a4) (spec_StrDist.f (k + 1) a0 a1 a2 a3 a4) := by
 intro a0 a1 a2 a3 a4 k
 obtain ⟨ih0, ih1, ih2, ih3, ih4⟩ := spec_StrDist.mono_l k
 unfold spec_StrDist.f
 repeat' first
   | (with_reducible exact ih0 _ _ _ _ _ _)
   | (with_reducible exact ih1 _ _ _ _ _ _ _ _)
   | (with_reducible exact ih2 _ _ _ _ _ _ _ _ _)
   | (with_reducible exact ih3 _ _ _ _ _ _ _ _ _ _)
   | (with_reducible exact ih4 _ _ _ _ _ _ _ _ _ _)
   | (with_reducible exact spec_CostOk.mono _ _ _ _)
   | (with_reducible exact spec_l25Labels.mono _ _)
   | (with_reducible exact LeO.refl _)
   | (with_reducible exact LeO.none _)
   | (with_reducible refine LeO.ite ?_ ?_)
   | (with_reducible refine LeO.bind ?_ (fun _ => ?_))
   | exact ih0 _ _ _ _ _ _
   | exact ih1 _ _ _ _ _ _ _ _
   | exact ih2 _ _ _ _ _ _ _ _ _
   | exact ih3 _ _ _ _ _ _ _ _ _ _
   | exact ih4 _ _ _ _ _ _ _ _ _ _
   | exact spec_CostOk.mono _ _ _ _
   | exact spec_l25Labels.mono _ _
   | exact LeO.none _
   | refine LeO.ite ?_ ?_
   | refine LeO.bind ?_ (fun _ => ?_)
set_option maxHeartbeats 8000000 in
set_option maxRecDepth 100000 in
theorem spec_StrDist.calls (k : Nat) (A0 : Option Addr) (c0 : Nat) (l0 : List Int) (A1 : Option Addr) (c1 : Nat) (l1 : List Int) (A2_0 : Option Addr) (c2_0 : Nat) (l2_0 : List Int) (A2_1 : Option Addr) (c2_1 : Nat) (l2_1 : List Int) (A2_2 : Option Addr) (c2_2 : Nat) (l2_2 : List Int) (r : Int) (w : World) (hr0 : Kd.C (Kd.int .i64) w A0 l0.length l0) (hc0 : l0.length ≤ c0) (hr1 : Kd.C (Kd.int .i64) w A1 l1.length l1) (hc1 : l1.length ≤ c1) (hr2_0 : Kd.C (Kd.int .i64) w A2_0 l2_0.length l2_0) (hc2_0 : l2_0.length ≤ c2_0) (hr2_1 : Kd.C (Kd.int .i64) w A2_1 l2_1.length l2_1) (hc2_1 : l2_1.length ≤ c2_1) (hr2_2 : Kd.C (Kd.int .i64) w A2_2 l2_2.length l2_2) (hc2_2 : l2_2.length ≤ c2_2) (h : spec_StrDist.f k l0 l1 l2_0 l2_1 l2_2 = some r) :
  Calls Try.prog 19 #[.slice A0 l0.length c0, .slice A1 l1.length c1, .agg #[.slice A2_0 l2_0.length c2_0, .slice A2_1 l2_1.length c2_1, .slice A2_2 l2_2.length c2_2]] w fun e w' => e = .returned (.int .i64 r) ∧ Below w.heap.size w w' := by
 have hu34 := Try.underlying34
 have HR0 := Aside0.mk hr0
 have HC0 := Aside0.mk hc0
 clear hr0 hc0
 have HR1 := Aside0.mk hr1
 have HC1 := Aside0.mk hc1
 clear hr1 hc1
 have HR2_0 := Aside0.mk hr2_0
 have HC2_0 := Aside0.mk hc2_0
 clear hr2_0 hc2_0
 have HR2_1 := Aside0.mk hr2_1
 have HC2_1 := Aside0.mk hc2_1
 clear hr2_1 hc2_1
 have HR2_2 := Aside0.mk hr2_2
 have HC2_2 := Aside0.mk hc2_2
 clear hr2_2 hc2_2
 have HB := Aside0.mk (Below.refl w.heap.size w)
 have H : ((spec_l25Labels.f k l0).bind fun t575 => (if t575 = true then ((spec_l25Labels.f k l1).bind fun t576 => (if t576 = true then ((spec_CostOk.f k l2_0 l2_1 l2_2).bind fun t577 => (spec_StrDist.j0 k l0 l1 (!t577) l2_0 l2_1 l2_2)) else (spec_StrDist.j0 k l0 l1 true l2_0 l2_1 l2_2))) else (spec_StrDist.j0 k l0 l1 true l2_0 l2_1 l2_2))) = some r := h
 clear h
 have HC4 := Aside0.mk H
 clear H
 go_enter Try.func19, Try.ntmps19
 go_upto_region 1 with (first | ((with_reducible refine gate_dst (N := 5) rfl ?_); refine box_event ?hg (N := 5) ?hd (cs := #[.slice A2_0 l2_0.length c2_0, .slice A2_1 l2_1.length c2_1, .slice A2_2 l2_2.length c2_2]) (t := 34) ?hr ?_; (case hd => rfl); (case hg => rfl); (case hr => first | (go_simp; done) | (go_simp; rfl)); intro gb574 hg w5 hbox hb; have BK574 := Aside0.mk (hbox); have GW574 := Aside0.mk ((by rw [hg]; exact (below_size (laB HB.out)) : w.heap.size ≤ gb574)); have GE574 := Aside0.mk ((by rw [hg]; exact (below_size (laB HB.out)) : w.heap.size ≤ gb574)); have ge574_ := Nonempty.intro GE574.out; replace HB := Aside0.mk (below_step (laB HB.out) hb); clear hb hbox hg))
 repeat (go_quiet (first | ((with_reducible refine gate_dst (N := 5) rfl ?_); refine box_event ?hg (N := 5) ?hd (cs := #[.slice A2_0 l2_0.length c2_0, .slice A2_1 l2_1.length c2_1, .slice A2_2 l2_2.length c2_2]) (t := 34) ?hr ?_; (case hd => rfl); (case hg => rfl); (case hr => first | (go_simp; done) | (go_simp; rfl)); intro gb574 hg w5 hbox hb; have BK574 := Aside0.mk (hbox); have GW574 := Aside0.mk ((by rw [hg]; exact (below_size (laB HB.out)) : w.heap.size ≤ gb574)); have GE574 := Aside0.mk ((by rw [hg]; exact (below_size (laB HB.out)) : w.heap.size ≤ gb574)); have ge574_ := Nonempty.intro GE574.out; replace HB := Aside0.mk (below_step (laB HB.out) hb); clear hb hbox hg)); go_upto_region 1 with (first | ((with_reducible refine gate_dst (N := 5) rfl ?_); refine box_event ?hg (N := 5) ?hd (cs := #[.slice A2_0 l2_0.length c2_0, .slice A2_1 l2_1.length c2_1, .slice A2_2 l2_2.length c2_2]) (t := 34) ?hr ?_; (case hd => rfl); (case hg => rfl); (case hr => first | (go_simp; done) | (go_simp; rfl)); intro gb574 hg w5 hbox hb; have BK574 := Aside0.mk (hbox); have GW574 := Aside0.mk ((by rw [hg]; exact (below_size (laB HB.out)) : w.heap.size ≤ gb574)); have GE574 := Aside0.mk ((by rw [hg]; exact (below_size (laB HB.out)) : w.heap.size ≤ gb574)); have ge574_ := Nonempty.intro GE574.out; replace HB := Aside0.mk (below_step (laB HB.out) hb); clear hb hbox hg)))
 (try simp only [Act.put, List.setIfInBounds_toArray, List.set_cons_zero, List.set_cons_succ])
 go_cut [24] (fun v24 wc => ∃ (kq : Nat) (x24_3 : Bool), v24 = .bool x24_3 ∧ Aside0 (spec_StrDist.j0 kq l0 l1 x24_3 l2_0 l2_1 l2_2 = some r) ∧ Aside0 (kq ≤ k) ∧ Aside0 (wc.heap[gb574]? = some (.cells #[(.slice A2_0 l2_0.length c2_0), (.slice A2_1 l2_1.length c2_1), (.slice A2_2 l2_2.length c2_2)] 34 (0, 0))) ∧ Aside0 (Below w.heap.size w wc))
 case first =>
  have H := HC4.out
  clear HC4
  replace H := Option.bind_eq_some_iff.mp H
  obtain ⟨t575, A60, H⟩ := H
  have A6 := Aside0.mk A60
  clear A60
  by_cases c7 : t575 = true
  ·subst c7
   rw [if_pos rfl] at H
   replace H := Option.bind_eq_some_iff.mp H
   obtain ⟨t576, A80, H⟩ := H
   have A8 := Aside0.mk A80
   clear A80
   by_cases c9 : t576 = true
   ·subst c9
    rw [if_pos rfl] at H
    replace H := Option.bind_eq_some_iff.mp H
    obtain ⟨t577, A100, H⟩ := H
    have A10 := Aside0.mk A100
    clear A100
    have H' := Aside0.mk H
    clear H
    go_wp2_with (first | (go_at_call 62; (with_reducible refine (spec_l25Labels.calls k _ _ l0 true _ ?side1 ?side2 A6.out).mono ?_); (case side1 => exact laC (Kd.C_below HR0.out HB.out)); (case side2 => exact HC0.out); rintro e w' ⟨rfl, ⟨nd, rfl⟩⟩; (try first | exact ⟨rfl, _, World.drewN_drewN _ _ _⟩ | exact ⟨rfl, _, Eq.trans (World.drewN_drewN _ _ _) (congrArg (World.drewN _) (Nat.add_assoc _ _ _))⟩)) | (go_at_call 62; (with_reducible refine (spec_l25Labels.calls k _ _ l1 true _ ?side1 ?side2 A8.out).mono ?_); (case side1 => repeat (first | exact (Kd.C_below HR1.out (laB HB.out)) | (with_reducible refine Kd.C_alloc ?_ _) | (with_reducible refine Kd.C_drewN ?_ _) | (with_reducible refine Kd.C_drew ?_))); (case side2 => exact HC1.out); rintro e w' ⟨rfl, ⟨nd, rfl⟩⟩; (try first | exact ⟨rfl, _, World.drewN_drewN _ _ _⟩ | exact ⟨rfl, _, Eq.trans (World.drewN_drewN _ _ _) (congrArg (World.drewN _) (Nat.add_assoc _ _ _))⟩); have hcz11_0 : w5.cell? ⟨gb574, 0, none⟩ = some (.slice A2_0 l2_0.length c2_0) := (blk_cell BK574.out 0).trans rfl; have hcz11_1 : w5.cell? ⟨gb574, 1, none⟩ = some (.slice A2_1 l2_1.length c2_1) := (blk_cell BK574.out 1).trans rfl; have hcz11_2 : w5.cell? ⟨gb574, 2, none⟩ = some (.slice A2_2 l2_2.length c2_2) := (blk_cell BK574.out 2).trans rfl; have hfz11_0 := blk_frozen BK574.out 0; have hfz11_1 := blk_frozen BK574.out 1; have hfz11_2 := blk_frozen BK574.out 2) | (go_at_call 63; (with_reducible refine (spec_CostOk.calls k _ _ l2_0 _ _ l2_1 _ _ l2_2 t577 _ ?side1 ?side2 ?side3 ?side4 ?side5 ?side6 A10.out).mono ?_); (case side1 => repeat (first | exact (Kd.C_below HR2_0.out (laB HB.out)) | (with_reducible refine Kd.C_alloc ?_ _) | (with_reducible refine Kd.C_drewN ?_ _) | (with_reducible refine Kd.C_drew ?_))); (case side2 => exact HC2_0.out); (case side3 => repeat (first | exact (Kd.C_below HR2_1.out (laB HB.out)) | (with_reducible refine Kd.C_alloc ?_ _) | (with_reducible refine Kd.C_drewN ?_ _) | (with_reducible refine Kd.C_drew ?_))); (case side4 => exact HC2_1.out); (case side5 => repeat (first | exact (Kd.C_below HR2_2.out (laB HB.out)) | (with_reducible refine Kd.C_alloc ?_ _) | (with_reducible refine Kd.C_drewN ?_ _) | (with_reducible refine Kd.C_drew ?_))); (case side6 => exact HC2_2.out); rintro e w12 ⟨rfl, hb⟩; replace BK574 := Aside0.mk (laKb BK574.out hb); replace HB := Aside0.mk (below_step (laB HB.out) hb); (try clear hb); (try clear hb2); (try clear hk); (try clear hi)))
    repeat (go_quiet (first | (go_at_call 62; (with_reducible refine (spec_l25Labels.calls k _ _ l0 true _ ?side1 ?side2 A6.out).mono ?_); (case side1 => exact laC (Kd.C_below HR0.out HB.out)); (case side2 => exact HC0.out); rintro e w' ⟨rfl, ⟨nd, rfl⟩⟩; (try first | exact ⟨rfl, _, World.drewN_drewN _ _ _⟩ | exact ⟨rfl, _, Eq.trans (World.drewN_drewN _ _ _) (congrArg (World.drewN _) (Nat.add_assoc _ _ _))⟩)) | (go_at_call 62; (with_reducible refine (spec_l25Labels.calls k _ _ l1 true _ ?side1 ?side2 A8.out).mono ?_); (case side1 => repeat (first | exact (Kd.C_below HR1.out (laB HB.out)) | (with_reducible refine Kd.C_alloc ?_ _) | (with_reducible refine Kd.C_drewN ?_ _) | (with_reducible refine Kd.C_drew ?_))); (case side2 => exact HC1.out); rintro e w' ⟨rfl, ⟨nd, rfl⟩⟩; (try first | exact ⟨rfl, _, World.drewN_drewN _ _ _⟩ | exact ⟨rfl, _, Eq.trans (World.drewN_drewN _ _ _) (congrArg (World.drewN _) (Nat.add_assoc _ _ _))⟩); have hcz11_0 : w5.cell? ⟨gb574, 0, none⟩ = some (.slice A2_0 l2_0.length c2_0) := (blk_cell BK574.out 0).trans rfl; have hcz11_1 : w5.cell? ⟨gb574, 1, none⟩ = some (.slice A2_1 l2_1.length c2_1) := (blk_cell BK574.out 1).trans rfl; have hcz11_2 : w5.cell? ⟨gb574, 2, none⟩ = some (.slice A2_2 l2_2.length c2_2) := (blk_cell BK574.out 2).trans rfl; have hfz11_0 := blk_frozen BK574.out 0; have hfz11_1 := blk_frozen BK574.out 1; have hfz11_2 := blk_frozen BK574.out 2) | (go_at_call 63; (with_reducible refine (spec_CostOk.calls k _ _ l2_0 _ _ l2_1 _ _ l2_2 t577 _ ?side1 ?side2 ?side3 ?side4 ?side5 ?side6 A10.out).mono ?_); (case side1 => repeat (first | exact (Kd.C_below HR2_0.out (laB HB.out)) | (with_reducible refine Kd.C_alloc ?_ _) | (with_reducible refine Kd.C_drewN ?_ _) | (with_reducible refine Kd.C_drew ?_))); (case side2 => exact HC2_0.out); (case side3 => repeat (first | exact (Kd.C_below HR2_1.out (laB HB.out)) | (with_reducible refine Kd.C_alloc ?_ _) | (with_reducible refine Kd.C_drewN ?_ _) | (with_reducible refine Kd.C_drew ?_))); (case side4 => exact HC2_1.out); (case side5 => repeat (first | exact (Kd.C_below HR2_2.out (laB HB.out)) | (with_reducible refine Kd.C_alloc ?_ _) | (with_reducible refine Kd.C_drewN ?_ _) | (with_reducible refine Kd.C_drew ?_))); (case side6 => exact HC2_2.out); rintro e w12 ⟨rfl, hb⟩; replace BK574 := Aside0.mk (laKb BK574.out hb); replace HB := Aside0.mk (below_step (laB HB.out) hb); (try clear hb); (try clear hb2); (try clear hk); (try clear hi))); try go_wp2_with (first | (go_at_call 62; (with_reducible refine (spec_l25Labels.calls k _ _ l0 true _ ?side1 ?side2 A6.out).mono ?_); (case side1 => exact laC (Kd.C_below HR0.out HB.out)); (case side2 => exact HC0.out); rintro e w' ⟨rfl, ⟨nd, rfl⟩⟩; (try first | exact ⟨rfl, _, World.drewN_drewN _ _ _⟩ | exact ⟨rfl, _, Eq.trans (World.drewN_drewN _ _ _) (congrArg (World.drewN _) (Nat.add_assoc _ _ _))⟩)) | (go_at_call 62; (with_reducible refine (spec_l25Labels.calls k _ _ l1 true _ ?side1 ?side2 A8.out).mono ?_); (case side1 => repeat (first | exact (Kd.C_below HR1.out (laB HB.out)) | (with_reducible refine Kd.C_alloc ?_ _) | (with_reducible refine Kd.C_drewN ?_ _) | (with_reducible refine Kd.C_drew ?_))); (case side2 => exact HC1.out); rintro e w' ⟨rfl, ⟨nd, rfl⟩⟩; (try first | exact ⟨rfl, _, World.drewN_drewN _ _ _⟩ | exact ⟨rfl, _, Eq.trans (World.drewN_drewN _ _ _) (congrArg (World.drewN _) (Nat.add_assoc _ _ _))⟩); have hcz11_0 : w5.cell? ⟨gb574, 0, none⟩ = some (.slice A2_0 l2_0.length c2_0) := (blk_cell BK574.out 0).trans rfl; have hcz11_1 : w5.cell? ⟨gb574, 1, none⟩ = some (.slice A2_1 l2_1.length c2_1) := (blk_cell BK574.out 1).trans rfl; have hcz11_2 : w5.cell? ⟨gb574, 2, none⟩ = some (.slice A2_2 l2_2.length c2_2) := (blk_cell BK574.out 2).trans rfl; have hfz11_0 := blk_frozen BK574.out 0; have hfz11_1 := blk_frozen BK574.out 1; have hfz11_2 := blk_frozen BK574.out 2) | (go_at_call 63; (with_reducible refine (spec_CostOk.calls k _ _ l2_0 _ _ l2_1 _ _ l2_2 t577 _ ?side1 ?side2 ?side3 ?side4 ?side5 ?side6 A10.out).mono ?_); (case side1 => repeat (first | exact (Kd.C_below HR2_0.out (laB HB.out)) | (with_reducible refine Kd.C_alloc ?_ _) | (with_reducible refine Kd.C_drewN ?_ _) | (with_reducible refine Kd.C_drew ?_))); (case side2 => exact HC2_0.out); (case side3 => repeat (first | exact (Kd.C_below HR2_1.out (laB HB.out)) | (with_reducible refine Kd.C_alloc ?_ _) | (with_reducible refine Kd.C_drewN ?_ _) | (with_reducible refine Kd.C_drew ?_))); (case side4 => exact HC2_1.out); (case side5 => repeat (first | exact (Kd.C_below HR2_2.out (laB HB.out)) | (with_reducible refine Kd.C_alloc ?_ _) | (with_reducible refine Kd.C_drewN ?_ _) | (with_reducible refine Kd.C_drew ?_))); (case side6 => exact HC2_2.out); rintro e w12 ⟨rfl, hb⟩; replace BK574 := Aside0.mk (laKb BK574.out hb); replace HB := Aside0.mk (below_step (laB HB.out) hb); (try clear hb); (try clear hb2); (try clear hk); (try clear hi))))
    go_meet
    case rel => exact ⟨_, (!t577), (by first | rfl | (simp; done) | (simp [*]; done)), H', ⟨by first | omega | exact Nat.le_refl _⟩, ⟨laK BK574.out⟩, ⟨laB HB.out⟩⟩
   ·replace c9 := Bool.eq_false_iff.mpr c9
    subst c9
    rw [if_neg (show ¬ (false = true) by decide)] at H
    have H' := Aside0.mk H
    clear H
    go_wp2_with (first | (go_at_call 62; (with_reducible refine (spec_l25Labels.calls k _ _ l0 true _ ?side1 ?side2 A6.out).mono ?_); (case side1 => exact laC (Kd.C_below HR0.out HB.out)); (case side2 => exact HC0.out); rintro e w' ⟨rfl, ⟨nd, rfl⟩⟩; (try first | exact ⟨rfl, _, World.drewN_drewN _ _ _⟩ | exact ⟨rfl, _, Eq.trans (World.drewN_drewN _ _ _) (congrArg (World.drewN _) (Nat.add_assoc _ _ _))⟩)) | (go_at_call 62; (with_reducible refine (spec_l25Labels.calls k _ _ l1 false _ ?side1 ?side2 A8.out).mono ?_); (case side1 => repeat (first | exact (Kd.C_below HR1.out (laB HB.out)) | (with_reducible refine Kd.C_alloc ?_ _) | (with_reducible refine Kd.C_drewN ?_ _) | (with_reducible refine Kd.C_drew ?_))); (case side2 => exact HC1.out); rintro e w' ⟨rfl, ⟨nd, rfl⟩⟩; (try first | exact ⟨rfl, _, World.drewN_drewN _ _ _⟩ | exact ⟨rfl, _, Eq.trans (World.drewN_drewN _ _ _) (congrArg (World.drewN _) (Nat.add_assoc _ _ _))⟩)))
    repeat (go_quiet (first | (go_at_call 62; (with_reducible refine (spec_l25Labels.calls k _ _ l0 true _ ?side1 ?side2 A6.out).mono ?_); (case side1 => exact laC (Kd.C_below HR0.out HB.out)); (case side2 => exact HC0.out); rintro e w' ⟨rfl, ⟨nd, rfl⟩⟩; (try first | exact ⟨rfl, _, World.drewN_drewN _ _ _⟩ | exact ⟨rfl, _, Eq.trans (World.drewN_drewN _ _ _) (congrArg (World.drewN _) (Nat.add_assoc _ _ _))⟩)) | (go_at_call 62; (with_reducible refine (spec_l25Labels.calls k _ _ l1 false _ ?side1 ?side2 A8.out).mono ?_); (case side1 => repeat (first | exact (Kd.C_below HR1.out (laB HB.out)) | (with_reducible refine Kd.C_alloc ?_ _) | (with_reducible refine Kd.C_drewN ?_ _) | (with_reducible refine Kd.C_drew ?_))); (case side2 => exact HC1.out); rintro e w' ⟨rfl, ⟨nd, rfl⟩⟩; (try first | exact ⟨rfl, _, World.drewN_drewN _ _ _⟩ | exact ⟨rfl, _, Eq.trans (World.drewN_drewN _ _ _) (congrArg (World.drewN _) (Nat.add_assoc _ _ _))⟩))); try go_wp2_with (first | (go_at_call 62; (with_reducible refine (spec_l25Labels.calls k _ _ l0 true _ ?side1 ?side2 A6.out).mono ?_); (case side1 => exact laC (Kd.C_below HR0.out HB.out)); (case side2 => exact HC0.out); rintro e w' ⟨rfl, ⟨nd, rfl⟩⟩; (try first | exact ⟨rfl, _, World.drewN_drewN _ _ _⟩ | exact ⟨rfl, _, Eq.trans (World.drewN_drewN _ _ _) (congrArg (World.drewN _) (Nat.add_assoc _ _ _))⟩)) | (go_at_call 62; (with_reducible refine (spec_l25Labels.calls k _ _ l1 false _ ?side1 ?side2 A8.out).mono ?_); (case side1 => repeat (first | exact (Kd.C_below HR1.out (laB HB.out)) | (with_reducible refine Kd.C_alloc ?_ _) | (with_reducible refine Kd.C_drewN ?_ _) | (with_reducible refine Kd.C_drew ?_))); (case side2 => exact HC1.out); rintro e w' ⟨rfl, ⟨nd, rfl⟩⟩; (try first | exact ⟨rfl, _, World.drewN_drewN _ _ _⟩ | exact ⟨rfl, _, Eq.trans (World.drewN_drewN _ _ _) (congrArg (World.drewN _) (Nat.add_assoc _ _ _))⟩))))
    go_meet
    case rel => exact ⟨_, (true), (by first | rfl | (simp; done) | (simp [*]; done)), H', ⟨by first | omega | exact Nat.le_refl _⟩, ⟨laK BK574.out⟩, ⟨laB HB.out⟩⟩
  ·replace c7 := Bool.eq_false_iff.mpr c7
   subst c7
   rw [if_neg (show ¬ (false = true) by decide)] at H
   have H' := Aside0.mk H
   clear H
   go_wp2_with (first | (go_at_call 62; (with_reducible refine (spec_l25Labels.calls k _ _ l0 false _ ?side1 ?side2 A6.out).mono ?_); (case side1 => exact laC (Kd.C_below HR0.out HB.out)); (case side2 => exact HC0.out); rintro e w' ⟨rfl, ⟨nd, rfl⟩⟩; (try first | exact ⟨rfl, _, World.drewN_drewN _ _ _⟩ | exact ⟨rfl, _, Eq.trans (World.drewN_drewN _ _ _) (congrArg (World.drewN _) (Nat.add_assoc _ _ _))⟩)))
   repeat (go_quiet (first | (go_at_call 62; (with_reducible refine (spec_l25Labels.calls k _ _ l0 false _ ?side1 ?side2 A6.out).mono ?_); (case side1 => exact laC (Kd.C_below HR0.out HB.out)); (case side2 => exact HC0.out); rintro e w' ⟨rfl, ⟨nd, rfl⟩⟩; (try first | exact ⟨rfl, _, World.drewN_drewN _ _ _⟩ | exact ⟨rfl, _, Eq.trans (World.drewN_drewN _ _ _) (congrArg (World.drewN _) (Nat.add_assoc _ _ _))⟩))); try go_wp2_with (first | (go_at_call 62; (with_reducible refine (spec_l25Labels.calls k _ _ l0 false _ ?side1 ?side2 A6.out).mono ?_); (case side1 => exact laC (Kd.C_below HR0.out HB.out)); (case side2 => exact HC0.out); rintro e w' ⟨rfl, ⟨nd, rfl⟩⟩; (try first | exact ⟨rfl, _, World.drewN_drewN _ _ _⟩ | exact ⟨rfl, _, Eq.trans (World.drewN_drewN _ _ _) (congrArg (World.drewN _) (Nat.add_assoc _ _ _))⟩))))
   go_meet
   case rel => exact ⟨_, (true), (by first | rfl | (simp; done) | (simp [*]; done)), H', ⟨by first | omega | exact Nat.le_refl _⟩, ⟨laK BK574.out⟩, ⟨laB HB.out⟩⟩
 case rest =>
  clear HC4
  try clear c1
  try clear c2
  try clear p2
  try clear c7
  try clear c9
  try clear hcz11_0
  try clear hcz11_1
  try clear hcz11_2
  try clear hfz11_0
  try clear hfz11_1
  try clear hfz11_2
  obtain ⟨kq, x24_3, rfl, HA, HJ3, BK574, HB⟩ := hcut
  cases kq with
  | zero => exact absurd HA.out (by simp [spec_StrDist.j0])
  | succ kj3 =>
   have H := HA.out
   clear HA
   simp only [spec_StrDist.j0] at H
   by_cases c13 : x24_3 = true
   ·subst c13
    rw [if_pos rfl] at H
    obtain rfl := Option.some.inj H
    go_wp2
    repeat (go_quiet (fail); try go_wp2)
    go_ret
    exact ⟨by first | rfl | (simp [errW_none, errW_some] <;> rfl) | (simp [*, errW_none, errW_some] <;> rfl), laB HB.out⟩
   ·replace c13 := Bool.eq_false_iff.mpr c13
    subst c13
    rw [if_neg (show ¬ (false = true) by decide)] at H
    obtain ⟨ji14, hji14⟩ : ∃ j_ : Int, (wrap64 ((wrap64 ((l0.length : Int) + 1)) * (wrap64 ((l1.length : Int) + 1)))) = j_ := ⟨_, rfl⟩
    replace H : (if 0 ≤ (ji14) then (if (ji14 : Int).toNat ≤ 35184372088832 then (spec_StrDist.l0 kj3 l0 l1 (wrap64 ((l1.length : Int) + 1)) (List.replicate (ji14 : Int).toNat 0) 0 l2_0 l2_1 l2_2) else (none)) else (none)) = some r := by first | (rw [hji14] at H; exact H) | (simp only [hji14] at H ⊢; exact H)
    have hji14w : (IntKind.i64.wrap ((wrap64 ((l0.length : Int) + 1)) * (wrap64 ((l1.length : Int) + 1)))) = ji14 := (i64_w _).trans hji14
    by_cases c15 : 0 ≤ (ji14)
    ·rw [if_pos c15] at H
     have c15b0 := eq_true c15
     have c15b1 : decide (0 ≤ (ji14)) = true := decide_eq_true c15
     clear c15
     by_cases c16 : (ji14 : Int).toNat ≤ 35184372088832
     ·rw [if_pos c16] at H
      have c16b0 := eq_true c16
      have c16b1 : decide ((ji14 : Int).toNat ≤ 35184372088832) = true := decide_eq_true c16
      clear c16
      obtain ⟨y578, hy578⟩ : ∃ y_ : List Int, y_ = (List.replicate (ji14 : Int).toNat 0) := ⟨_, rfl⟩
      replace H : (spec_StrDist.l0 kj3 l0 l1 (wrap64 ((l1.length : Int) + 1)) y578 0 l2_0 l2_1 l2_2) = some r := by first | (rw [hy578]; with_reducible exact H) | (have H2_ := (Option.bind_some _ _).symm.trans H; rw [hy578]; with_reducible exact H2_) | (have H2_ := (Option.bind_some _ _).symm.trans H; with_reducible exact H2_) | with_reducible exact H | (rw [hy578]; exact H) | exact H
      have Ny578 := Aside0.mk hy578
      clear hy578
      have H' := Aside0.mk H
      clear H
      go_wp2_with (first | ((with_reducible refine gate_dst (N := 33) rfl ?_); refine Kd.R_make (Kd.int .i64) _ 3 rfl (N := 33) rfl 26 _ _ rfl ji14 rfl rfl Try.underlying26 (.int .i64 0) 8 info3 rfl (by decide) (by omega) 0 (ok := fun _ => True) (okp := fun _ => True) rfl (fun _ hk => hk) trivial (of_decide_eq_true (by first | (with_reducible assumption) | assumption)) (Nat.le_trans (Nat.mul_le_mul_right _ (of_decide_eq_true (by first | (with_reducible assumption) | assumption) : ji14.toNat ≤ 35184372088832)) (by omega)) (Below.refl _ _) (Nat.le_refl _) ?_; intro v579 w17 ho18 hb hg_ hnew_; clear hg_ hnew_; (first | rw [← Ny578.out] at ho18 | (simp only [Int.reduceToNat] at ho18; rw [← Ny578.out] at ho18)); have HO580 := Aside0.mk (Kd.R_lower ho18 (below_size (laB HB.out))); replace BK574 := Aside0.mk (laKb BK574.out hb); replace HB := Aside0.mk (below_step (laB HB.out) hb); clear hb ho18))
      repeat (go_quiet (first | ((with_reducible refine gate_dst (N := 33) rfl ?_); refine Kd.R_make (Kd.int .i64) _ 3 rfl (N := 33) rfl 26 _ _ rfl ji14 rfl rfl Try.underlying26 (.int .i64 0) 8 info3 rfl (by decide) (by omega) 0 (ok := fun _ => True) (okp := fun _ => True) rfl (fun _ hk => hk) trivial (of_decide_eq_true (by first | (with_reducible assumption) | assumption)) (Nat.le_trans (Nat.mul_le_mul_right _ (of_decide_eq_true (by first | (with_reducible assumption) | assumption) : ji14.toNat ≤ 35184372088832)) (by omega)) (Below.refl _ _) (Nat.le_refl _) ?_; intro v579 w17 ho18 hb hg_ hnew_; clear hg_ hnew_; (first | rw [← Ny578.out] at ho18 | (simp only [Int.reduceToNat] at ho18; rw [← Ny578.out] at ho18)); have HO580 := Aside0.mk (Kd.R_lower ho18 (below_size (laB HB.out))); replace BK574 := Aside0.mk (laKb BK574.out hb); replace HB := Aside0.mk (below_step (laB HB.out) hb); clear hb ho18)); try go_wp2_with (first | ((with_reducible refine gate_dst (N := 33) rfl ?_); refine Kd.R_make (Kd.int .i64) _ 3 rfl (N := 33) rfl 26 _ _ rfl ji14 rfl rfl Try.underlying26 (.int .i64 0) 8 info3 rfl (by decide) (by omega) 0 (ok := fun _ => True) (okp := fun _ => True) rfl (fun _ hk => hk) trivial (of_decide_eq_true (by first | (with_reducible assumption) | assumption)) (Nat.le_trans (Nat.mul_le_mul_right _ (of_decide_eq_true (by first | (with_reducible assumption) | assumption) : ji14.toNat ≤ 35184372088832)) (by omega)) (Below.refl _ _) (Nat.le_refl _) ?_; intro v579 w17 ho18 hb hg_ hnew_; clear hg_ hnew_; (first | rw [← Ny578.out] at ho18 | (simp only [Int.reduceToNat] at ho18; rw [← Ny578.out] at ho18)); have HO580 := Aside0.mk (Kd.R_lower ho18 (below_size (laB HB.out))); replace BK574 := Aside0.mk (laKb BK574.out hb); replace HB := Aside0.mk (below_step (laB HB.out) hb); clear hb ho18)))
      go_loopg [9] kj3 (fun kq v9 w' => ∃ (x8_2 : List Int) (x9_2 : Int), v9 = .int .i64 x9_2 ∧ Aside0 (spec_StrDist.l0 kq l0 l1 (wrap64 ((l1.length : Int) + 1)) x8_2 x9_2 l2_0 l2_1 l2_2 = some r) ∧ Aside0 (kq ≤ kj3) ∧ Aside0 (Kd.R (Kd.int .i64) 3 w' w.heap.size (fun _ => True) v579 x8_2) ∧ Aside0 (w'.heap[gb574]? = some (.cells #[(.slice A2_0 l2_0.length c2_0), (.slice A2_1 l2_1.length c2_1), (.slice A2_2 l2_2.length c2_2)] 34 (0, 0))) ∧ Aside0 (Below w.heap.size w w'))
      case atStart => exact ⟨(y578), (0), (by first | rfl | (simp; done) | (simp [*]; done)), H', ⟨Nat.le_refl _⟩, ⟨laR HO580.out⟩, ⟨laK BK574.out⟩, ⟨laB HB.out⟩⟩
      case round =>
       clear H'
       try clear c1
       try clear c2
       try clear p2
       try clear p6
       try clear c7
       try clear c9
       try clear c13
       try clear c15
       try clear c15b0
       try clear c15b1
       try clear c16
       try clear c16b0
       try clear c16b1
       try clear hcz11_0
       try clear hcz11_1
       try clear hcz11_2
       try clear hfz11_0
       try clear hfz11_1
       try clear hfz11_2
       try clear p2
       obtain ⟨x8_2, x9_2, rfl, HA, HK2, HO_8, BK574, HB⟩ := hrel
       cases gk with
       | zero => exact absurd HA.out (by simp [spec_StrDist.l0])
       | succ k2 =>
        have H := HA.out
        clear HA
        simp only [spec_StrDist.l0] at H
        by_cases c19 : x9_2 ≤ (l0.length : Int)
        ·rw [if_pos c19] at H
         have c19b0 : decide (x9_2 ≤ (l0.length : Int)) = true := decide_eq_true c19
         clear c19
         have H' := Aside0.mk H
         clear H
         go_wp2
         repeat (go_quiet (fail); try go_wp2)
         go_loopg [10] k2 (fun kq v10 w' => ∃ (x8_3 : List Int) (x10_3 : Int), v10 = .int .i64 x10_3 ∧ Aside0 (spec_StrDist.l1 kq l0 l1 (wrap64 ((l1.length : Int) + 1)) x8_3 x9_2 x10_3 l2_0 l2_1 l2_2 = some r) ∧ Aside0 (kq ≤ k2) ∧ Aside0 (Kd.R (Kd.int .i64) 3 w' w.heap.size (fun _ => True) v579 x8_3) ∧ Aside0 (w'.heap[gb574]? = some (.cells #[(.slice A2_0 l2_0.length c2_0), (.slice A2_1 l2_1.length c2_1), (.slice A2_2 l2_2.length c2_2)] 34 (0, 0))) ∧ Aside0 (Below w.heap.size w w'))
         case atStart => exact ⟨(x8_2), (0), (by first | rfl | (simp; done) | (simp [*]; done)), H', ⟨Nat.le_refl _⟩, ⟨laR HO_8.out⟩, ⟨laK BK574.out⟩, ⟨laB HB.out⟩⟩
         case round =>
          clear H'
          try clear c1
          try clear c2
          try clear p2
          try clear p6
          try clear c7
          try clear c9
          try clear c13
          try clear c15
          try clear c15b0
          try clear c15b1
          try clear c16
          try clear c16b0
          try clear c16b1
          try clear c19
          try clear c19b0
          try clear hcz11_0
          try clear hcz11_1
          try clear hcz11_2
          try clear hfz11_0
          try clear hfz11_1
          try clear hfz11_2
          try clear p2
          try clear p6
          obtain ⟨x8_3, x10_3, rfl, HA, HK3, HO_8, BK574, HB⟩ := hrel
          cases gk with
          | zero => exact absurd HA.out (by simp [spec_StrDist.l1])
          | succ k3 =>
           have H := HA.out
           clear HA
           simp only [spec_StrDist.l1] at H
           by_cases c20 : x10_3 ≤ (l1.length : Int)
           ·rw [if_pos c20] at H
            have c20b0 : decide (x10_3 ≤ (l1.length : Int)) = true := decide_eq_true c20
            clear c20
            have HC21 := Aside0.mk H
            clear H
            go_upto_region 11 with (fail)
            repeat (go_quiet (fail); go_upto_region 11 with (fail))
            go_cut [51] (fun v51 wc => ∃ (kq : Nat) (x51_20 : Bool), v51 = .bool x51_20 ∧ Aside0 (spec_StrDist.j3 kq l0 l1 (wrap64 ((l1.length : Int) + 1)) x8_3 x9_2 x10_3 x51_20 l2_0 l2_1 l2_2 = some r) ∧ Aside0 (kq ≤ k3) ∧ Aside0 (Kd.R (Kd.int .i64) 3 wc w.heap.size (fun _ => True) v579 x8_3) ∧ Aside0 (wc.heap[gb574]? = some (.cells #[(.slice A2_0 l2_0.length c2_0), (.slice A2_1 l2_1.length c2_1), (.slice A2_2 l2_2.length c2_2)] 34 (0, 0))) ∧ Aside0 (Below w.heap.size w wc))
            case first =>
             have H := HC21.out
             clear HC21
             by_cases c22 : x9_2 = 0
             ·rw [if_pos c22] at H
              have c22b0 : (x9_2 == 0) = true := beq_iff_eq.mpr c22
              have c22b1 : (x9_2 != 0) = false := bne_eq_false_iff_eq.mpr c22
              clear c22
              (first | rw [c22b0] | (simp only [i64_w, i32_w]; rw [c22b0]) | skip)
              have H' := Aside0.mk H
              clear H
              go_wp2
              repeat (go_quiet (fail); try go_wp2)
              go_meet
              case rel => exact ⟨_, ((x10_3 == 0)), (by first | rfl | (simp; done) | (simp [*]; done)), H', ⟨by have := HJ3.out; have := HK2.out; have := HK3.out; first | omega | exact Nat.le_refl _⟩, ⟨laR HO_8.out⟩, ⟨laK BK574.out⟩, ⟨laB HB.out⟩⟩
             ·rw [if_neg c22] at H
              have c22b0 : (x9_2 == 0) = false := beq_eq_false_iff_ne.mpr c22
              have c22b1 : (x9_2 != 0) = true := bne_iff_ne.mpr c22
              (first | rw [c22b0] | (simp only [i64_w, i32_w]; rw [c22b0]) | skip)
              have H' := Aside0.mk H
              clear H
              go_wp2
              repeat (go_quiet (fail); try go_wp2)
              go_meet
              case rel => exact ⟨_, (false), (by first | rfl | (simp; done) | (simp [*]; done)), H', ⟨by have := HJ3.out; have := HK2.out; have := HK3.out; first | omega | exact Nat.le_refl _⟩, ⟨laR HO_8.out⟩, ⟨laK BK574.out⟩, ⟨laB HB.out⟩⟩
            case rest =>
             clear HC21
             try clear c1
             try clear c2
             try clear p2
             try clear p6
             try clear c7
             try clear c9
             try clear c13
             try clear c15
             try clear c15b0
             try clear c15b1
             try clear c16
             try clear c16b0
             try clear c16b1
             try clear c19
             try clear c19b0
             try clear c20
             try clear c20b0
             try clear c22
             try clear c22b0
             try clear c22b1
             try clear hcz11_0
             try clear hcz11_1
             try clear hcz11_2
             try clear hfz11_0
             try clear hfz11_1
             try clear hfz11_2
             try clear p2
             try clear p6
             obtain ⟨kq, x51_20, rfl, HA, HJ20, HO_8, BK574, HB⟩ := hcut
             cases kq with
             | zero => exact absurd HA.out (by simp [spec_StrDist.j3])
             | succ kj20 =>
              have H := HA.out
              clear HA
              simp only [spec_StrDist.j3] at H
              by_cases c23 : x51_20 = true
              ·subst c23
               rw [if_pos rfl] at H
               have H' := Aside0.mk H
               clear H
               go_wp2
               repeat (go_quiet (fail); try go_wp2)
               go_roundg kj20
               case measure => have := HJ3.out; have := HK2.out; have := HK3.out; have := HJ20.out; omega
               case rel => exact ⟨(x8_3), (wrap64 (x10_3 + 1)), (by first | rfl | (simp; done) | (simp [*]; done)), H', ⟨by have := HJ3.out; have := HK2.out; have := HK3.out; have := HJ20.out; omega⟩, ⟨laR HO_8.out⟩, ⟨laK BK574.out⟩, ⟨laB HB.out⟩⟩
              ·replace c23 := Bool.eq_false_iff.mpr c23
               subst c23
               rw [if_neg (show ¬ (false = true) by decide)] at H
               have HC24 := Aside0.mk H
               clear H
               go_upto_if 53 with (fail)
               repeat (go_quiet (fail); go_upto_if 53 with (fail))
               go_cut [11] (fun v11 wc => ∃ (kq : Nat) (x11_23 : Int), v11 = .int .i64 x11_23 ∧ Aside0 (spec_StrDist.j4 kq l0 l1 (wrap64 ((l1.length : Int) + 1)) x8_3 x9_2 x10_3 x11_23 l2_0 l2_1 l2_2 = some r) ∧ Aside0 (kq ≤ kj20) ∧ Aside0 (Kd.R (Kd.int .i64) 3 wc w.heap.size (fun _ => True) v579 x8_3) ∧ Aside0 (wc.heap[gb574]? = some (.cells #[(.slice A2_0 l2_0.length c2_0), (.slice A2_1 l2_1.length c2_1), (.slice A2_2 l2_2.length c2_2)] 34 (0, 0))) ∧ Aside0 (Below w.heap.size w wc))
               case first =>
                have H := HC24.out
                clear HC24
                by_cases c25 : x9_2 > 0
                ·rw [if_pos c25] at H
                 have c25b0 : decide (0 < x9_2) = true := decide_eq_true c25
                 clear c25
                 (first | rw [c25b0] | (simp only [i64_w, i32_w]; rw [c25b0]) | skip)
                 obtain ⟨ji26, hji26⟩ : ∃ j_ : Int, (wrap64 ((wrap64 ((wrap64 (x9_2 - 1)) * (wrap64 ((l1.length : Int) + 1)))) + x10_3)) = j_ := ⟨_, rfl⟩
                 replace H : (if 0 ≤ (ji26) then (if (ji26) < (x8_3.length : Int) then (if 0 ≤ (wrap64 (x9_2 - 1)) then (if (wrap64 (x9_2 - 1)) < (l0.length : Int) then (if 0 ≤ (rd l0 (wrap64 (x9_2 - 1))) then (if (rd l0 (wrap64 (x9_2 - 1))) < (l2_0.length : Int) then (spec_StrDist.j4 kj20 l0 l1 (wrap64 ((l1.length : Int) + 1)) x8_3 x9_2 x10_3 (mn 1000000000 (wrap64 ((rd x8_3 (ji26)) + (rd l2_0 (rd l0 (wrap64 (x9_2 - 1))))))) l2_0 l2_1 l2_2) else (none)) else (none)) else (none)) else (none)) else (none)) else (none)) = some r := by first | (rw [hji26] at H; exact H) | (simp only [hji26] at H ⊢; exact H)
                 have hji26w : (IntKind.i64.wrap ((wrap64 ((wrap64 (x9_2 - 1)) * (wrap64 ((l1.length : Int) + 1)))) + x10_3)) = ji26 := (i64_w _).trans hji26
                 by_cases c27 : 0 ≤ (ji26)
                 ·rw [if_pos c27] at H
                  have c27b0 : decide (0 ≤ (ji26)) = true := decide_eq_true c27
                  clear c27
                  by_cases c28 : (ji26) < (x8_3.length : Int)
                  ·rw [if_pos c28] at H
                   have c28b0 : decide ((ji26) < (x8_3.length : Int)) = true := decide_eq_true c28
                   clear c28
                   obtain ⟨ji29, hji29⟩ : ∃ j_ : Int, (wrap64 (x9_2 - 1)) = j_ := ⟨_, rfl⟩
                   replace H : (if 0 ≤ (ji29) then (if (ji29) < (l0.length : Int) then (if 0 ≤ (rd l0 (ji29)) then (if (rd l0 (ji29)) < (l2_0.length : Int) then (spec_StrDist.j4 kj20 l0 l1 (wrap64 ((l1.length : Int) + 1)) x8_3 x9_2 x10_3 (mn 1000000000 (wrap64 ((rd x8_3 (ji26)) + (rd l2_0 (rd l0 (ji29)))))) l2_0 l2_1 l2_2) else (none)) else (none)) else (none)) else (none)) = some r := by first | (rw [hji29] at H; exact H) | (simp only [hji29] at H ⊢; exact H)
                   have hji29w : (IntKind.i64.wrap (x9_2 - 1)) = ji29 := (i64_w _).trans hji29
                   by_cases c30 : 0 ≤ (ji29)
                   ·rw [if_pos c30] at H
                    have c30b0 : decide (0 ≤ (ji29)) = true := decide_eq_true c30
                    clear c30
                    by_cases c31 : (ji29) < (l0.length : Int)
                    ·rw [if_pos c31] at H
                     have c31b0 : decide ((ji29) < (l0.length : Int)) = true := decide_eq_true c31
                     clear c31
                     by_cases c32 : 0 ≤ (rd l0 (ji29))
                     ·rw [if_pos c32] at H
                      have c32b0 : decide (0 ≤ (rd l0 (ji29))) = true := decide_eq_true c32
                      clear c32
                      by_cases c33 : (rd l0 (ji29)) < (l2_0.length : Int)
                      ·rw [if_pos c33] at H
                       have c33b0 : decide ((rd l0 (ji29)) < (l2_0.length : Int)) = true := decide_eq_true c33
                       clear c33
                       obtain ⟨ji34, hji34⟩ : ∃ j_ : Int, (mn 1000000000 (wrap64 ((rd x8_3 (ji26)) + (rd l2_0 (rd l0 (ji29)))))) = j_ := ⟨_, rfl⟩
                       replace H : (spec_StrDist.j4 kj20 l0 l1 (wrap64 ((l1.length : Int) + 1)) x8_3 x9_2 x10_3 ji34 l2_0 l2_1 l2_2) = some r := by first | (rw [hji34] at H; exact H) | (simp only [hji34] at H ⊢; exact H)
                       have hji34_ : (if (wrap64 ((rd x8_3 (ji26)) + (rd l2_0 (rd l0 (ji29))))) < 1000000000 then (wrap64 ((rd x8_3 (ji26)) + (rd l2_0 (rd l0 (ji29))))) else 1000000000) = ji34 := hji34
                       have H' := Aside0.mk H
                       clear H
                       obtain ⟨Ao35, co35, eo35⟩ := Kd.R_slice HO_8.out
                       subst eo35
                       have p582 : 0 ≤ ((ji26) : Int) := of_decide_eq_true (by first | (with_reducible assumption) | assumption)
                       have q582 : (ji26) < (x8_3.length : Int) := of_decide_eq_true (by first | (with_reducible assumption) | assumption)
                       obtain ⟨ad582, e582, hx582_0⟩ := Kd.at_int (Kd.R_reads' HO_8.out).2.2 (ji26) p582 q582
                       cases e582
                       replace p582 := eq_true p582
                       replace q582 := eq_true q582
                       have hcz36_0 : wc.cell? ⟨gb574, 0, none⟩ = some (.slice A2_0 l2_0.length c2_0) := (blk_cell BK574.out 0).trans rfl
                       have hcz36_1 : wc.cell? ⟨gb574, 1, none⟩ = some (.slice A2_1 l2_1.length c2_1) := (blk_cell BK574.out 1).trans rfl
                       have hcz36_2 : wc.cell? ⟨gb574, 2, none⟩ = some (.slice A2_2 l2_2.length c2_2) := (blk_cell BK574.out 2).trans rfl
                       have hfz36_0 := blk_frozen BK574.out 0
                       have hfz36_1 := blk_frozen BK574.out 1
                       have hfz36_2 := blk_frozen BK574.out 2
                       have p583 : 0 ≤ ((ji29) : Int) := of_decide_eq_true (by first | (with_reducible assumption) | assumption)
                       have q583 : (ji29) < (l0.length : Int) := of_decide_eq_true (by first | (with_reducible assumption) | assumption)
                       obtain ⟨ad583, e583, hx583_0⟩ := Kd.at_int HR0.out (ji29) p583 q583
                       cases e583
                       replace hx583_0 := (HB.out.cell (World.block_lt_of_cell? w _ hx583_0)).trans hx583_0
                       replace p583 := eq_true p583
                       replace q583 := eq_true q583
                       have p584 : 0 ≤ ((rd l0 (ji29)) : Int) := of_decide_eq_true (by first | (with_reducible assumption) | assumption)
                       have q584 : (rd l0 (ji29)) < (l2_0.length : Int) := of_decide_eq_true (by first | (with_reducible assumption) | assumption)
                       obtain ⟨ad584, e584, hx584_0⟩ := Kd.at_int HR2_0.out (rd l0 (ji29)) p584 q584
                       cases e584
                       replace hx584_0 := (HB.out.cell (World.block_lt_of_cell? w _ hx584_0)).trans hx584_0
                       replace p584 := eq_true p584
                       replace q584 := eq_true q584
                       try rw [hji29] at hji26w
                       try rw [hji29] at hji26
                       obtain ⟨q1_, hq1_⟩ : ∃ j_ : Int, (wrap64 ((ji29) * (wrap64 ((l1.length : Int) + 1)))) = j_ := ⟨_, rfl⟩
                       have hq1_w : (IntKind.i64.wrap ((ji29) * (wrap64 ((l1.length : Int) + 1)))) = q1_ := (i64_w _).trans hq1_
                       try rw [hq1_] at hji26w
                       try rw [hq1_] at hji26
                       go_wp2
                       repeat (go_quiet (fail); try go_wp2)
                       go_meet
                       case rel => exact ⟨_, (ji34), (by first | rfl | (simp; done) | (simp only [← hji34] <;> (first | rfl | simp)) | (simp [*]; done)), H', ⟨by have := HJ3.out; have := HK2.out; have := HK3.out; have := HJ20.out; first | omega | exact Nat.le_refl _⟩, ⟨laR HO_8.out⟩, ⟨laK BK574.out⟩, ⟨laB HB.out⟩⟩
                      ·rw [if_neg c33] at H
                       exact absurd H (by simp)
                     ·rw [if_neg c32] at H
                      exact absurd H (by simp)
                    ·rw [if_neg c31] at H
                     exact absurd H (by simp)
                   ·rw [if_neg c30] at H
                    exact absurd H (by simp)
                  ·rw [if_neg c28] at H
                   exact absurd H (by simp)
                 ·rw [if_neg c27] at H
                  exact absurd H (by simp)
                ·rw [if_neg c25] at H
                 have c25b0 : decide (0 < x9_2) = false := decide_eq_false c25
                 clear c25
                 (first | rw [c25b0] | (simp only [i64_w, i32_w]; rw [c25b0]) | skip)
                 have H' := Aside0.mk H
                 clear H
                 go_wp2
                 repeat (go_quiet (fail); try go_wp2)
                 go_meet
                 case rel => exact ⟨_, (1000000000), (by first | rfl | (simp; done) | (simp [*]; done)), H', ⟨by have := HJ3.out; have := HK2.out; have := HK3.out; have := HJ20.out; first | omega | exact Nat.le_refl _⟩, ⟨laR HO_8.out⟩, ⟨laK BK574.out⟩, ⟨laB HB.out⟩⟩
               case rest =>
                clear HC24
                try clear c1
                try clear c2
                try clear p2
                try clear c3
                try clear p5
                try clear q5
                try clear hx5
                try clear p6
                try clear c7
                try clear c9
                try clear c13
                try clear c15
                try clear c15b0
                try clear c15b1
                try clear c16
                try clear c16b0
                try clear c16b1
                try clear c19
                try clear c19b0
                try clear c20
                try clear c20b0
                try clear c22
                try clear c22b0
                try clear c22b1
                try clear c23
                try clear c25
                try clear c25b0
                try clear c27
                try clear c27b0
                try clear c28
                try clear c28b0
                try clear c30
                try clear c30b0
                try clear c31
                try clear c31b0
                try clear c32
                try clear c32b0
                try clear c33
                try clear c33b0
                try clear hcz11_0
                try clear hcz11_1
                try clear hcz11_2
                try clear hcz36_0
                try clear hcz36_1
                try clear hcz36_2
                try clear hfz11_0
                try clear hfz11_1
                try clear hfz11_2
                try clear hfz36_0
                try clear hfz36_1
                try clear hfz36_2
                try clear hx582_0
                try clear hx583_0
                try clear hx584_0
                try clear p2
                try clear p582
                try clear p583
                try clear p584
                try clear p6
                try clear q582
                try clear q583
                try clear q584
                obtain ⟨kq, x11_23, rfl, HA, HJ23, HO_8, BK574, HB⟩ := hcut
                cases kq with
                | zero => exact absurd HA.out (by simp [spec_StrDist.j4])
                | succ kj23 =>
                 have H := HA.out
                 clear HA
                 simp only [spec_StrDist.j4] at H
                 by_cases c37 : x10_3 > 0
                 ·rw [if_pos c37] at H
                  have c37b0 : decide (0 < x10_3) = true := decide_eq_true c37
                  clear c37
                  obtain ⟨ji38, hji38⟩ : ∃ j_ : Int, (wrap64 ((wrap64 ((wrap64 (x9_2 * (wrap64 ((l1.length : Int) + 1)))) + x10_3)) - 1)) = j_ := ⟨_, rfl⟩
                  replace H : (if 0 ≤ (ji38) then (if (ji38) < (x8_3.length : Int) then (if 0 ≤ (wrap64 (x10_3 - 1)) then (if (wrap64 (x10_3 - 1)) < (l1.length : Int) then (if 0 ≤ (rd l1 (wrap64 (x10_3 - 1))) then (if (rd l1 (wrap64 (x10_3 - 1))) < (l2_1.length : Int) then (if x9_2 > 0 then (if 0 ≤ (wrap64 ((wrap64 ((wrap64 ((wrap64 (x9_2 - 1)) * (wrap64 ((l1.length : Int) + 1)))) + x10_3)) - 1)) then (if (wrap64 ((wrap64 ((wrap64 ((wrap64 (x9_2 - 1)) * (wrap64 ((l1.length : Int) + 1)))) + x10_3)) - 1)) < (x8_3.length : Int) then (if 0 ≤ (wrap64 (x9_2 - 1)) then (if (wrap64 (x9_2 - 1)) < (l0.length : Int) then (if 0 ≤ (wrap64 ((wrap64 ((rd l0 (wrap64 (x9_2 - 1))) * 6)) + (rd l1 (wrap64 (x10_3 - 1))))) then (if (wrap64 ((wrap64 ((rd l0 (wrap64 (x9_2 - 1))) * 6)) + (rd l1 (wrap64 (x10_3 - 1))))) < (l2_2.length : Int) then (if 0 ≤ (wrap64 ((wrap64 (x9_2 * (wrap64 ((l1.length : Int) + 1)))) + x10_3)) then (if (wrap64 ((wrap64 (x9_2 * (wrap64 ((l1.length : Int) + 1)))) + x10_3)) < (x8_3.length : Int) then (spec_StrDist.l1 kj23 l0 l1 (wrap64 ((l1.length : Int) + 1)) (x8_3.set ((wrap64 ((wrap64 (x9_2 * (wrap64 ((l1.length : Int) + 1)))) + x10_3)) : Int).toNat (mn (mn x11_23 (wrap64 ((rd x8_3 (ji38)) + (rd l2_1 (rd l1 (wrap64 (x10_3 - 1))))))) (wrap64 ((rd x8_3 (wrap64 ((wrap64 ((wrap64 ((wrap64 (x9_2 - 1)) * (wrap64 ((l1.length : Int) + 1)))) + x10_3)) - 1))) + (rd l2_2 (wrap64 ((wrap64 ((rd l0 (wrap64 (x9_2 - 1))) * 6)) + (rd l1 (wrap64 (x10_3 - 1)))))))))) x9_2 (wrap64 (x10_3 + 1)) l2_0 l2_1 l2_2) else (none)) else (none)) else (none)) else (none)) else (none)) else (none)) else (none)) else (none)) else (if 0 ≤ (wrap64 ((wrap64 (x9_2 * (wrap64 ((l1.length : Int) + 1)))) + x10_3)) then (if (wrap64 ((wrap64 (x9_2 * (wrap64 ((l1.length : Int) + 1)))) + x10_3)) < (x8_3.length : Int) then (spec_StrDist.l1 kj23 l0 l1 (wrap64 ((l1.length : Int) + 1)) (x8_3.set ((wrap64 ((wrap64 (x9_2 * (wrap64 ((l1.length : Int) + 1)))) + x10_3)) : Int).toNat (mn x11_23 (wrap64 ((rd x8_3 (ji38)) + (rd l2_1 (rd l1 (wrap64 (x10_3 - 1)))))))) x9_2 (wrap64 (x10_3 + 1)) l2_0 l2_1 l2_2) else (none)) else (none))) else (none)) else (none)) else (none)) else (none)) else (none)) else (none)) = some r := by first | (rw [hji38] at H; exact H) | (simp only [hji38] at H ⊢; exact H)
                  have hji38w : (IntKind.i64.wrap ((wrap64 ((wrap64 (x9_2 * (wrap64 ((l1.length : Int) + 1)))) + x10_3)) - 1)) = ji38 := (i64_w _).trans hji38
                  by_cases c39 : 0 ≤ (ji38)
                  ·rw [if_pos c39] at H
                   have c39b0 : decide (0 ≤ (ji38)) = true := decide_eq_true c39
                   clear c39
                   by_cases c40 : (ji38) < (x8_3.length : Int)
                   ·rw [if_pos c40] at H
                    have c40b0 : decide ((ji38) < (x8_3.length : Int)) = true := decide_eq_true c40
                    clear c40
                    obtain ⟨ji41, hji41⟩ : ∃ j_ : Int, (wrap64 (x10_3 - 1)) = j_ := ⟨_, rfl⟩
                    replace H : (if 0 ≤ (ji41) then (if (ji41) < (l1.length : Int) then (if 0 ≤ (rd l1 (ji41)) then (if (rd l1 (ji41)) < (l2_1.length : Int) then (if x9_2 > 0 then (if 0 ≤ (wrap64 ((wrap64 ((wrap64 ((wrap64 (x9_2 - 1)) * (wrap64 ((l1.length : Int) + 1)))) + x10_3)) - 1)) then (if (wrap64 ((wrap64 ((wrap64 ((wrap64 (x9_2 - 1)) * (wrap64 ((l1.length : Int) + 1)))) + x10_3)) - 1)) < (x8_3.length : Int) then (if 0 ≤ (wrap64 (x9_2 - 1)) then (if (wrap64 (x9_2 - 1)) < (l0.length : Int) then (if 0 ≤ (wrap64 ((wrap64 ((rd l0 (wrap64 (x9_2 - 1))) * 6)) + (rd l1 (ji41)))) then (if (wrap64 ((wrap64 ((rd l0 (wrap64 (x9_2 - 1))) * 6)) + (rd l1 (ji41)))) < (l2_2.length : Int) then (if 0 ≤ (wrap64 ((wrap64 (x9_2 * (wrap64 ((l1.length : Int) + 1)))) + x10_3)) then (if (wrap64 ((wrap64 (x9_2 * (wrap64 ((l1.length : Int) + 1)))) + x10_3)) < (x8_3.length : Int) then (spec_StrDist.l1 kj23 l0 l1 (wrap64 ((l1.length : Int) + 1)) (x8_3.set ((wrap64 ((wrap64 (x9_2 * (wrap64 ((l1.length : Int) + 1)))) + x10_3)) : Int).toNat (mn (mn x11_23 (wrap64 ((rd x8_3 (ji38)) + (rd l2_1 (rd l1 (ji41)))))) (wrap64 ((rd x8_3 (wrap64 ((wrap64 ((wrap64 ((wrap64 (x9_2 - 1)) * (wrap64 ((l1.length : Int) + 1)))) + x10_3)) - 1))) + (rd l2_2 (wrap64 ((wrap64 ((rd l0 (wrap64 (x9_2 - 1))) * 6)) + (rd l1 (ji41))))))))) x9_2 (wrap64 (x10_3 + 1)) l2_0 l2_1 l2_2) else (none)) else (none)) else (none)) else (none)) else (none)) else (none)) else (none)) else (none)) else (if 0 ≤ (wrap64 ((wrap64 (x9_2 * (wrap64 ((l1.length : Int) + 1)))) + x10_3)) then (if (wrap64 ((wrap64 (x9_2 * (wrap64 ((l1.length : Int) + 1)))) + x10_3)) < (x8_3.length : Int) then (spec_StrDist.l1 kj23 l0 l1 (wrap64 ((l1.length : Int) + 1)) (x8_3.set ((wrap64 ((wrap64 (x9_2 * (wrap64 ((l1.length : Int) + 1)))) + x10_3)) : Int).toNat (mn x11_23 (wrap64 ((rd x8_3 (ji38)) + (rd l2_1 (rd l1 (ji41))))))) x9_2 (wrap64 (x10_3 + 1)) l2_0 l2_1 l2_2) else (none)) else (none))) else (none)) else (none)) else (none)) else (none)) = some r := by first | (rw [hji41] at H; exact H) | (simp only [hji41] at H ⊢; exact H)
                    have hji41w : (IntKind.i64.wrap (x10_3 - 1)) = ji41 := (i64_w _).trans hji41
                    by_cases c42 : 0 ≤ (ji41)
                    ·rw [if_pos c42] at H
                     have c42b0 : decide (0 ≤ (ji41)) = true := decide_eq_true c42
                     clear c42
                     by_cases c43 : (ji41) < (l1.length : Int)
                     ·rw [if_pos c43] at H
                      have c43b0 : decide ((ji41) < (l1.length : Int)) = true := decide_eq_true c43
                      clear c43
                      by_cases c44 : 0 ≤ (rd l1 (ji41))
                      ·rw [if_pos c44] at H
                       have c44b0 : decide (0 ≤ (rd l1 (ji41))) = true := decide_eq_true c44
                       clear c44
                       by_cases c45 : (rd l1 (ji41)) < (l2_1.length : Int)
                       ·rw [if_pos c45] at H
                        have c45b0 : decide ((rd l1 (ji41)) < (l2_1.length : Int)) = true := decide_eq_true c45
                        clear c45
                        obtain ⟨ji46, hji46⟩ : ∃ j_ : Int, (mn x11_23 (wrap64 ((rd x8_3 (ji38)) + (rd l2_1 (rd l1 (ji41)))))) = j_ := ⟨_, rfl⟩
                        replace H : (if x9_2 > 0 then (if 0 ≤ (wrap64 ((wrap64 ((wrap64 ((wrap64 (x9_2 - 1)) * (wrap64 ((l1.length : Int) + 1)))) + x10_3)) - 1)) then (if (wrap64 ((wrap64 ((wrap64 ((wrap64 (x9_2 - 1)) * (wrap64 ((l1.length : Int) + 1)))) + x10_3)) - 1)) < (x8_3.length : Int) then (if 0 ≤ (wrap64 (x9_2 - 1)) then (if (wrap64 (x9_2 - 1)) < (l0.length : Int) then (if 0 ≤ (wrap64 ((wrap64 ((rd l0 (wrap64 (x9_2 - 1))) * 6)) + (rd l1 (ji41)))) then (if (wrap64 ((wrap64 ((rd l0 (wrap64 (x9_2 - 1))) * 6)) + (rd l1 (ji41)))) < (l2_2.length : Int) then (if 0 ≤ (wrap64 ((wrap64 (x9_2 * (wrap64 ((l1.length : Int) + 1)))) + x10_3)) then (if (wrap64 ((wrap64 (x9_2 * (wrap64 ((l1.length : Int) + 1)))) + x10_3)) < (x8_3.length : Int) then (spec_StrDist.l1 kj23 l0 l1 (wrap64 ((l1.length : Int) + 1)) (x8_3.set ((wrap64 ((wrap64 (x9_2 * (wrap64 ((l1.length : Int) + 1)))) + x10_3)) : Int).toNat (mn (ji46) (wrap64 ((rd x8_3 (wrap64 ((wrap64 ((wrap64 ((wrap64 (x9_2 - 1)) * (wrap64 ((l1.length : Int) + 1)))) + x10_3)) - 1))) + (rd l2_2 (wrap64 ((wrap64 ((rd l0 (wrap64 (x9_2 - 1))) * 6)) + (rd l1 (ji41))))))))) x9_2 (wrap64 (x10_3 + 1)) l2_0 l2_1 l2_2) else (none)) else (none)) else (none)) else (none)) else (none)) else (none)) else (none)) else (none)) else (if 0 ≤ (wrap64 ((wrap64 (x9_2 * (wrap64 ((l1.length : Int) + 1)))) + x10_3)) then (if (wrap64 ((wrap64 (x9_2 * (wrap64 ((l1.length : Int) + 1)))) + x10_3)) < (x8_3.length : Int) then (spec_StrDist.l1 kj23 l0 l1 (wrap64 ((l1.length : Int) + 1)) (x8_3.set ((wrap64 ((wrap64 (x9_2 * (wrap64 ((l1.length : Int) + 1)))) + x10_3)) : Int).toNat (ji46)) x9_2 (wrap64 (x10_3 + 1)) l2_0 l2_1 l2_2) else (none)) else (none))) = some r := by first | (rw [hji46] at H; exact H) | (simp only [hji46] at H ⊢; exact H)
                        have hji46_ : (if (wrap64 ((rd x8_3 (ji38)) + (rd l2_1 (rd l1 (ji41))))) < x11_23 then (wrap64 ((rd x8_3 (ji38)) + (rd l2_1 (rd l1 (ji41))))) else x11_23) = ji46 := hji46
                        by_cases c47 : x9_2 > 0
                        ·rw [if_pos c47] at H
                         have c47b0 : decide (0 < x9_2) = true := decide_eq_true c47
                         clear c47
                         obtain ⟨ji48, hji48⟩ : ∃ j_ : Int, (wrap64 ((wrap64 ((wrap64 ((wrap64 (x9_2 - 1)) * (wrap64 ((l1.length : Int) + 1)))) + x10_3)) - 1)) = j_ := ⟨_, rfl⟩
                         replace H : (if 0 ≤ (ji48) then (if (ji48) < (x8_3.length : Int) then (if 0 ≤ (wrap64 (x9_2 - 1)) then (if (wrap64 (x9_2 - 1)) < (l0.length : Int) then (if 0 ≤ (wrap64 ((wrap64 ((rd l0 (wrap64 (x9_2 - 1))) * 6)) + (rd l1 (ji41)))) then (if (wrap64 ((wrap64 ((rd l0 (wrap64 (x9_2 - 1))) * 6)) + (rd l1 (ji41)))) < (l2_2.length : Int) then (if 0 ≤ (wrap64 ((wrap64 (x9_2 * (wrap64 ((l1.length : Int) + 1)))) + x10_3)) then (if (wrap64 ((wrap64 (x9_2 * (wrap64 ((l1.length : Int) + 1)))) + x10_3)) < (x8_3.length : Int) then (spec_StrDist.l1 kj23 l0 l1 (wrap64 ((l1.length : Int) + 1)) (x8_3.set ((wrap64 ((wrap64 (x9_2 * (wrap64 ((l1.length : Int) + 1)))) + x10_3)) : Int).toNat (mn (ji46) (wrap64 ((rd x8_3 (ji48)) + (rd l2_2 (wrap64 ((wrap64 ((rd l0 (wrap64 (x9_2 - 1))) * 6)) + (rd l1 (ji41))))))))) x9_2 (wrap64 (x10_3 + 1)) l2_0 l2_1 l2_2) else (none)) else (none)) else (none)) else (none)) else (none)) else (none)) else (none)) else (none)) = some r := by first | (rw [hji48] at H; exact H) | (simp only [hji48] at H ⊢; exact H)
                         have hji48w : (IntKind.i64.wrap ((wrap64 ((wrap64 ((wrap64 (x9_2 - 1)) * (wrap64 ((l1.length : Int) + 1)))) + x10_3)) - 1)) = ji48 := (i64_w _).trans hji48
                         by_cases c49 : 0 ≤ (ji48)
                         ·rw [if_pos c49] at H
                          have c49b0 : decide (0 ≤ (ji48)) = true := decide_eq_true c49
                          clear c49
                          by_cases c50 : (ji48) < (x8_3.length : Int)
                          ·rw [if_pos c50] at H
                           have c50b0 : decide ((ji48) < (x8_3.length : Int)) = true := decide_eq_true c50
                           clear c50
                           obtain ⟨ji51, hji51⟩ : ∃ j_ : Int, (wrap64 (x9_2 - 1)) = j_ := ⟨_, rfl⟩
                           replace H : (if 0 ≤ (ji51) then (if (ji51) < (l0.length : Int) then (if 0 ≤ (wrap64 ((wrap64 ((rd l0 (ji51)) * 6)) + (rd l1 (ji41)))) then (if (wrap64 ((wrap64 ((rd l0 (ji51)) * 6)) + (rd l1 (ji41)))) < (l2_2.length : Int) then (if 0 ≤ (wrap64 ((wrap64 (x9_2 * (wrap64 ((l1.length : Int) + 1)))) + x10_3)) then (if (wrap64 ((wrap64 (x9_2 * (wrap64 ((l1.length : Int) + 1)))) + x10_3)) < (x8_3.length : Int) then (spec_StrDist.l1 kj23 l0 l1 (wrap64 ((l1.length : Int) + 1)) (x8_3.set ((wrap64 ((wrap64 (x9_2 * (wrap64 ((l1.length : Int) + 1)))) + x10_3)) : Int).toNat (mn (ji46) (wrap64 ((rd x8_3 (ji48)) + (rd l2_2 (wrap64 ((wrap64 ((rd l0 (ji51)) * 6)) + (rd l1 (ji41))))))))) x9_2 (wrap64 (x10_3 + 1)) l2_0 l2_1 l2_2) else (none)) else (none)) else (none)) else (none)) else (none)) else (none)) = some r := by first | (rw [hji51] at H; exact H) | (simp only [hji51] at H ⊢; exact H)
                           have hji51w : (IntKind.i64.wrap (x9_2 - 1)) = ji51 := (i64_w _).trans hji51
                           by_cases c52 : 0 ≤ (ji51)
                           ·rw [if_pos c52] at H
                            have c52b0 : decide (0 ≤ (ji51)) = true := decide_eq_true c52
                            clear c52
                            by_cases c53 : (ji51) < (l0.length : Int)
                            ·rw [if_pos c53] at H
                             have c53b0 : decide ((ji51) < (l0.length : Int)) = true := decide_eq_true c53
                             clear c53
                             obtain ⟨ji54, hji54⟩ : ∃ j_ : Int, (wrap64 ((wrap64 ((rd l0 (ji51)) * 6)) + (rd l1 (ji41)))) = j_ := ⟨_, rfl⟩
                             replace H : (if 0 ≤ (ji54) then (if (ji54) < (l2_2.length : Int) then (if 0 ≤ (wrap64 ((wrap64 (x9_2 * (wrap64 ((l1.length : Int) + 1)))) + x10_3)) then (if (wrap64 ((wrap64 (x9_2 * (wrap64 ((l1.length : Int) + 1)))) + x10_3)) < (x8_3.length : Int) then (spec_StrDist.l1 kj23 l0 l1 (wrap64 ((l1.length : Int) + 1)) (x8_3.set ((wrap64 ((wrap64 (x9_2 * (wrap64 ((l1.length : Int) + 1)))) + x10_3)) : Int).toNat (mn (ji46) (wrap64 ((rd x8_3 (ji48)) + (rd l2_2 (ji54)))))) x9_2 (wrap64 (x10_3 + 1)) l2_0 l2_1 l2_2) else (none)) else (none)) else (none)) else (none)) = some r := by first | (rw [hji54] at H; exact H) | (simp only [hji54] at H ⊢; exact H)
                             have hji54w : (IntKind.i64.wrap ((wrap64 ((rd l0 (ji51)) * 6)) + (rd l1 (ji41)))) = ji54 := (i64_w _).trans hji54
                             by_cases c55 : 0 ≤ (ji54)
                             ·rw [if_pos c55] at H
                              have c55b0 : decide (0 ≤ (ji54)) = true := decide_eq_true c55
                              clear c55
                              by_cases c56 : (ji54) < (l2_2.length : Int)
                              ·rw [if_pos c56] at H
                               have c56b0 : decide ((ji54) < (l2_2.length : Int)) = true := decide_eq_true c56
                               clear c56
                               obtain ⟨ji57, hji57⟩ : ∃ j_ : Int, (mn (ji46) (wrap64 ((rd x8_3 (ji48)) + (rd l2_2 (ji54))))) = j_ := ⟨_, rfl⟩
                               replace H : (if 0 ≤ (wrap64 ((wrap64 (x9_2 * (wrap64 ((l1.length : Int) + 1)))) + x10_3)) then (if (wrap64 ((wrap64 (x9_2 * (wrap64 ((l1.length : Int) + 1)))) + x10_3)) < (x8_3.length : Int) then (spec_StrDist.l1 kj23 l0 l1 (wrap64 ((l1.length : Int) + 1)) (x8_3.set ((wrap64 ((wrap64 (x9_2 * (wrap64 ((l1.length : Int) + 1)))) + x10_3)) : Int).toNat (ji57)) x9_2 (wrap64 (x10_3 + 1)) l2_0 l2_1 l2_2) else (none)) else (none)) = some r := by first | (rw [hji57] at H; exact H) | (simp only [hji57] at H ⊢; exact H)
                               have hji57_ : (if (wrap64 ((rd x8_3 (ji48)) + (rd l2_2 (ji54)))) < (ji46) then (wrap64 ((rd x8_3 (ji48)) + (rd l2_2 (ji54)))) else (ji46)) = ji57 := hji57
                               obtain ⟨ji58, hji58⟩ : ∃ j_ : Int, (wrap64 ((wrap64 (x9_2 * (wrap64 ((l1.length : Int) + 1)))) + x10_3)) = j_ := ⟨_, rfl⟩
                               replace H : (if 0 ≤ (ji58) then (if (ji58) < (x8_3.length : Int) then (spec_StrDist.l1 kj23 l0 l1 (wrap64 ((l1.length : Int) + 1)) (x8_3.set ((ji58) : Int).toNat (ji57)) x9_2 (wrap64 (x10_3 + 1)) l2_0 l2_1 l2_2) else (none)) else (none)) = some r := by first | (rw [hji58] at H; exact H) | (simp only [hji58] at H ⊢; exact H)
                               have hji58w : (IntKind.i64.wrap ((wrap64 (x9_2 * (wrap64 ((l1.length : Int) + 1)))) + x10_3)) = ji58 := (i64_w _).trans hji58
                               by_cases c59 : 0 ≤ (ji58)
                               ·rw [if_pos c59] at H
                                have c59b0 : decide (0 ≤ (ji58)) = true := decide_eq_true c59
                                clear c59
                                by_cases c60 : (ji58) < (x8_3.length : Int)
                                ·rw [if_pos c60] at H
                                 have c60b0 : decide ((ji58) < (x8_3.length : Int)) = true := decide_eq_true c60
                                 clear c60
                                 obtain ⟨y592, hy592⟩ : ∃ y_ : List Int, y_ = (x8_3.set ((ji58) : Int).toNat (ji57)) := ⟨_, rfl⟩
                                 replace H : (spec_StrDist.l1 kj23 l0 l1 (wrap64 ((l1.length : Int) + 1)) y592 x9_2 (wrap64 (x10_3 + 1)) l2_0 l2_1 l2_2) = some r := by first | (rw [hy592]; with_reducible exact H) | (have H2_ := (Option.bind_some _ _).symm.trans H; rw [hy592]; with_reducible exact H2_) | (have H2_ := (Option.bind_some _ _).symm.trans H; with_reducible exact H2_) | with_reducible exact H | (rw [hy592]; exact H) | exact H
                                 have Ny592 := Aside0.mk hy592
                                 clear hy592
                                 have H' := Aside0.mk H
                                 clear H
                                 obtain ⟨Ao62, co62, eo62⟩ := Kd.R_slice HO_8.out
                                 subst eo62
                                 have p585 : 0 ≤ ((ji38) : Int) := of_decide_eq_true (by first | (with_reducible assumption) | assumption)
                                 have q585 : (ji38) < (x8_3.length : Int) := of_decide_eq_true (by first | (with_reducible assumption) | assumption)
                                 obtain ⟨ad585, e585, hx585_0⟩ := Kd.at_int (Kd.R_reads' HO_8.out).2.2 (ji38) p585 q585
                                 cases e585
                                 replace p585 := eq_true p585
                                 replace q585 := eq_true q585
                                 have hcz63_0 : wc.cell? ⟨gb574, 0, none⟩ = some (.slice A2_0 l2_0.length c2_0) := (blk_cell BK574.out 0).trans rfl
                                 have hcz63_1 : wc.cell? ⟨gb574, 1, none⟩ = some (.slice A2_1 l2_1.length c2_1) := (blk_cell BK574.out 1).trans rfl
                                 have hcz63_2 : wc.cell? ⟨gb574, 2, none⟩ = some (.slice A2_2 l2_2.length c2_2) := (blk_cell BK574.out 2).trans rfl
                                 have hfz63_0 := blk_frozen BK574.out 0
                                 have hfz63_1 := blk_frozen BK574.out 1
                                 have hfz63_2 := blk_frozen BK574.out 2
                                 have p586 : 0 ≤ ((ji41) : Int) := of_decide_eq_true (by first | (with_reducible assumption) | assumption)
                                 have q586 : (ji41) < (l1.length : Int) := of_decide_eq_true (by first | (with_reducible assumption) | assumption)
                                 obtain ⟨ad586, e586, hx586_0⟩ := Kd.at_int HR1.out (ji41) p586 q586
                                 cases e586
                                 replace hx586_0 := (HB.out.cell (World.block_lt_of_cell? w _ hx586_0)).trans hx586_0
                                 replace p586 := eq_true p586
                                 replace q586 := eq_true q586
                                 have p587 : 0 ≤ ((rd l1 (ji41)) : Int) := of_decide_eq_true (by first | (with_reducible assumption) | assumption)
                                 have q587 : (rd l1 (ji41)) < (l2_1.length : Int) := of_decide_eq_true (by first | (with_reducible assumption) | assumption)
                                 obtain ⟨ad587, e587, hx587_0⟩ := Kd.at_int HR2_1.out (rd l1 (ji41)) p587 q587
                                 cases e587
                                 replace hx587_0 := (HB.out.cell (World.block_lt_of_cell? w _ hx587_0)).trans hx587_0
                                 replace p587 := eq_true p587
                                 replace q587 := eq_true q587
                                 have p588 : 0 ≤ ((ji48) : Int) := of_decide_eq_true (by first | (with_reducible assumption) | assumption)
                                 have q588 : (ji48) < (x8_3.length : Int) := of_decide_eq_true (by first | (with_reducible assumption) | assumption)
                                 obtain ⟨ad588, e588, hx588_0⟩ := Kd.at_int (Kd.R_reads' HO_8.out).2.2 (ji48) p588 q588
                                 obtain rfl : ad585 = ad588 := (by injection e588)
                                 replace p588 := eq_true p588
                                 replace q588 := eq_true q588
                                 have p589 : 0 ≤ ((ji51) : Int) := of_decide_eq_true (by first | (with_reducible assumption) | assumption)
                                 have q589 : (ji51) < (l0.length : Int) := of_decide_eq_true (by first | (with_reducible assumption) | assumption)
                                 obtain ⟨ad589, e589, hx589_0⟩ := Kd.at_int HR0.out (ji51) p589 q589
                                 cases e589
                                 replace hx589_0 := (HB.out.cell (World.block_lt_of_cell? w _ hx589_0)).trans hx589_0
                                 replace p589 := eq_true p589
                                 replace q589 := eq_true q589
                                 have p590 : 0 ≤ ((ji41) : Int) := of_decide_eq_true (by first | (with_reducible assumption) | assumption)
                                 have q590 : (ji41) < (l1.length : Int) := of_decide_eq_true (by first | (with_reducible assumption) | assumption)
                                 obtain ⟨ad590, e590, hx590_0⟩ := Kd.at_int HR1.out (ji41) p590 q590
                                 obtain rfl : ad586 = ad590 := (by injection e590)
                                 replace hx590_0 := (HB.out.cell (World.block_lt_of_cell? w _ hx590_0)).trans hx590_0
                                 replace p590 := eq_true p590
                                 replace q590 := eq_true q590
                                 have p591 : 0 ≤ ((ji54) : Int) := of_decide_eq_true (by first | (with_reducible assumption) | assumption)
                                 have q591 : (ji54) < (l2_2.length : Int) := of_decide_eq_true (by first | (with_reducible assumption) | assumption)
                                 obtain ⟨ad591, e591, hx591_0⟩ := Kd.at_int HR2_2.out (ji54) p591 q591
                                 cases e591
                                 replace hx591_0 := (HB.out.cell (World.block_lt_of_cell? w _ hx591_0)).trans hx591_0
                                 replace p591 := eq_true p591
                                 replace q591 := eq_true q591
                                 have p61 : 0 ≤ ((ji58) : Int) := of_decide_eq_true (by first | (with_reducible assumption) | assumption)
                                 have q61 : ((ji58) : Int) < ((x8_3.length : Int) : Int) := of_decide_eq_true (by first | (with_reducible assumption) | assumption)
                                 obtain ⟨go61, co61, eo61, gb61, gl61, cl61, HG61⟩ := Kd.R_form HO_8.out (by omega)
                                 (first | cases eo61 | (injection eo61 with ea_ en_ ec_; (first | subst ea_ | (injection ea_ with ea_; subst ea_)); subst ec_; clear en_))
                                 have GB61 := Aside0.mk gb61
                                 have GG61 := Aside0.mk HG61
                                 clear gb61 gl61 HG61
                                 (first | simp only [add_plain] at hx585_0 | skip)
                                 (first | simp only [add_plain] at hx588_0 | skip)
                                 obtain ⟨hx61_0, hf61_0⟩ := Kd.R_celln 0 HO_8.out ((ji58) : Int) p61 q61
                                 replace p61 := eq_true p61
                                 replace q61 := eq_true q61
                                 have HP64 := Kd.R_putg HO_8.out ((ji58) : Int) ji57
                                 try rw [hji51] at hji48w
                                 try rw [hji51] at hji48
                                 obtain ⟨q2_, hq2_⟩ : ∃ j_ : Int, (wrap64 ((rd l0 (ji51)) * 6)) = j_ := ⟨_, rfl⟩
                                 have hq2_w : (IntKind.i64.wrap ((rd l0 (ji51)) * 6)) = q2_ := (i64_w _).trans hq2_
                                 try rw [hq2_] at hji54w
                                 try rw [hq2_] at hji54
                                 obtain ⟨q3_, hq3_⟩ : ∃ j_ : Int, (wrap64 (x9_2 * (wrap64 ((l1.length : Int) + 1)))) = j_ := ⟨_, rfl⟩
                                 have hq3_w : (IntKind.i64.wrap (x9_2 * (wrap64 ((l1.length : Int) + 1)))) = q3_ := (i64_w _).trans hq3_
                                 try rw [hq3_] at hji38w
                                 try rw [hq3_] at hji38
                                 try rw [hq3_] at hji58w
                                 try rw [hq3_] at hji58
                                 try rw [hji58] at hji38w
                                 try rw [hji58] at hji38
                                 obtain ⟨q4_, hq4_⟩ : ∃ j_ : Int, (wrap64 ((ji51) * (wrap64 ((l1.length : Int) + 1)))) = j_ := ⟨_, rfl⟩
                                 have hq4_w : (IntKind.i64.wrap ((ji51) * (wrap64 ((l1.length : Int) + 1)))) = q4_ := (i64_w _).trans hq4_
                                 try rw [hq4_] at hji48w
                                 try rw [hq4_] at hji48
                                 obtain ⟨q5_, hq5_⟩ : ∃ j_ : Int, (wrap64 ((q4_) + x10_3)) = j_ := ⟨_, rfl⟩
                                 have hq5_w : (IntKind.i64.wrap ((q4_) + x10_3)) = q5_ := (i64_w _).trans hq5_
                                 try rw [hq5_] at hji48w
                                 try rw [hq5_] at hji48
                                 go_wp2_with (first | ((with_reducible refine gate_store (t := 3) (p := 140) rfl ?_); (try (rw [drewN_self wc]; generalize hq_ : World.drewN wc _ = wc; have n0_ := Aside0.mk (Kd.R_at hq_ HO_8.out); have n1_ := Aside0.mk (blk_at hq_ BK574.out); have n2_ := Aside0.mk (below_at hq_ HB.out); clear hq_ HO_8 BK574 HB; have HO_8 := n0_; have BK574 := n1_; have HB := n2_; clear n0_ n1_ n2_; (try (have HP64 := Kd.R_putg HO_8.out ((ji58) : Int) ji57)); (try (have hz_ := Kd.R_celln 0 HO_8.out ((ji58) : Int) (of_eq_true p61) (of_eq_true q61); have hxn_ := hz_.1; have hfn_ := hz_.2; clear hz_)))); refine store_event (t := 3) (p := 140) (v := ?vo_w65) (w1 := (wc.setCell ⟨go61, ((ji58) : Int).toNat, none⟩ (.int .i64 ji57))) ?hg ?ho ?hn ?hr ?_; (case ho => rfl); (case hg => rfl); (case hn => rfl); (case hr => first | (go_simp; done) | (go_simp; rfl)); intro w65 hw; have hg : wc.grownBy w65 (some go61) := (by rw [hw]; exact HP64.2); have hp_ : Kd.R (Kd.int .i64) 3 w65 w.heap.size (fun _ => True) (.slice (some ⟨go61, 0, none⟩) x8_3.length co62) y592 := (by rw [hw, Ny592.out]; exact HP64.1); clear HP64; replace BK574 := Aside0.mk (blk_grown (g := gb574) (o := .cells #[.slice A2_0 l2_0.length c2_0, .slice (some ad587) l2_1.length c2_1, .slice (some ad591) l2_2.length c2_2] 34 (0, 0)) (laK BK574.out) hg (Kd.R_ne HO_8.out BK574.out (by decide))); replace HO_8 := Aside0.mk (hp_); replace HB := Aside0.mk ((by rw [hw]; exact below_set (HB.out) GB61.out : Below w.heap.size w w65)); clear hg hw hp_))
                                 repeat (go_quiet (first | ((with_reducible refine gate_store (t := 3) (p := 140) rfl ?_); (try (rw [drewN_self wc]; generalize hq_ : World.drewN wc _ = wc; have n0_ := Aside0.mk (Kd.R_at hq_ HO_8.out); have n1_ := Aside0.mk (blk_at hq_ BK574.out); have n2_ := Aside0.mk (below_at hq_ HB.out); clear hq_ HO_8 BK574 HB; have HO_8 := n0_; have BK574 := n1_; have HB := n2_; clear n0_ n1_ n2_; (try (have HP64 := Kd.R_putg HO_8.out ((ji58) : Int) ji57)); (try (have hz_ := Kd.R_celln 0 HO_8.out ((ji58) : Int) (of_eq_true p61) (of_eq_true q61); have hxn_ := hz_.1; have hfn_ := hz_.2; clear hz_)))); refine store_event (t := 3) (p := 140) (v := ?vo_w65) (w1 := (wc.setCell ⟨go61, ((ji58) : Int).toNat, none⟩ (.int .i64 ji57))) ?hg ?ho ?hn ?hr ?_; (case ho => rfl); (case hg => rfl); (case hn => rfl); (case hr => first | (go_simp; done) | (go_simp; rfl)); intro w65 hw; have hg : wc.grownBy w65 (some go61) := (by rw [hw]; exact HP64.2); have hp_ : Kd.R (Kd.int .i64) 3 w65 w.heap.size (fun _ => True) (.slice (some ⟨go61, 0, none⟩) x8_3.length co62) y592 := (by rw [hw, Ny592.out]; exact HP64.1); clear HP64; replace BK574 := Aside0.mk (blk_grown (g := gb574) (o := .cells #[.slice A2_0 l2_0.length c2_0, .slice (some ad587) l2_1.length c2_1, .slice (some ad591) l2_2.length c2_2] 34 (0, 0)) (laK BK574.out) hg (Kd.R_ne HO_8.out BK574.out (by decide))); replace HO_8 := Aside0.mk (hp_); replace HB := Aside0.mk ((by rw [hw]; exact below_set (HB.out) GB61.out : Below w.heap.size w w65)); clear hg hw hp_)); try go_wp2_with (first | ((with_reducible refine gate_store (t := 3) (p := 140) rfl ?_); (try (rw [drewN_self wc]; generalize hq_ : World.drewN wc _ = wc; have n0_ := Aside0.mk (Kd.R_at hq_ HO_8.out); have n1_ := Aside0.mk (blk_at hq_ BK574.out); have n2_ := Aside0.mk (below_at hq_ HB.out); clear hq_ HO_8 BK574 HB; have HO_8 := n0_; have BK574 := n1_; have HB := n2_; clear n0_ n1_ n2_; (try (have HP64 := Kd.R_putg HO_8.out ((ji58) : Int) ji57)); (try (have hz_ := Kd.R_celln 0 HO_8.out ((ji58) : Int) (of_eq_true p61) (of_eq_true q61); have hxn_ := hz_.1; have hfn_ := hz_.2; clear hz_)))); refine store_event (t := 3) (p := 140) (v := ?vo_w65) (w1 := (wc.setCell ⟨go61, ((ji58) : Int).toNat, none⟩ (.int .i64 ji57))) ?hg ?ho ?hn ?hr ?_; (case ho => rfl); (case hg => rfl); (case hn => rfl); (case hr => first | (go_simp; done) | (go_simp; rfl)); intro w65 hw; have hg : wc.grownBy w65 (some go61) := (by rw [hw]; exact HP64.2); have hp_ : Kd.R (Kd.int .i64) 3 w65 w.heap.size (fun _ => True) (.slice (some ⟨go61, 0, none⟩) x8_3.length co62) y592 := (by rw [hw, Ny592.out]; exact HP64.1); clear HP64; replace BK574 := Aside0.mk (blk_grown (g := gb574) (o := .cells #[.slice A2_0 l2_0.length c2_0, .slice (some ad587) l2_1.length c2_1, .slice (some ad591) l2_2.length c2_2] 34 (0, 0)) (laK BK574.out) hg (Kd.R_ne HO_8.out BK574.out (by decide))); replace HO_8 := Aside0.mk (hp_); replace HB := Aside0.mk ((by rw [hw]; exact below_set (HB.out) GB61.out : Below w.heap.size w w65)); clear hg hw hp_)))
                                 go_roundg kj23
                                 case measure => have := HJ3.out; have := HK2.out; have := HK3.out; have := HJ20.out; have := HJ23.out; omega
                                 case rel => exact ⟨(y592), (wrap64 (x10_3 + 1)), (by first | rfl | (simp; done) | (simp [*]; done)), H', ⟨by have := HJ3.out; have := HK2.out; have := HK3.out; have := HJ20.out; have := HJ23.out; omega⟩, ⟨laR HO_8.out⟩, ⟨laK BK574.out⟩, ⟨laB HB.out⟩⟩
                                ·rw [if_neg c60] at H
                                 exact absurd H (by simp)
                               ·rw [if_neg c59] at H
                                exact absurd H (by simp)
                              ·rw [if_neg c56] at H
                               exact absurd H (by simp)
                             ·rw [if_neg c55] at H
                              exact absurd H (by simp)
                            ·rw [if_neg c53] at H
                             exact absurd H (by simp)
                           ·rw [if_neg c52] at H
                            exact absurd H (by simp)
                          ·rw [if_neg c50] at H
                           exact absurd H (by simp)
                         ·rw [if_neg c49] at H
                          exact absurd H (by simp)
                        ·rw [if_neg c47] at H
                         have c47b0 : decide (0 < x9_2) = false := decide_eq_false c47
                         clear c47
                         obtain ⟨ji66, hji66⟩ : ∃ j_ : Int, (wrap64 ((wrap64 (x9_2 * (wrap64 ((l1.length : Int) + 1)))) + x10_3)) = j_ := ⟨_, rfl⟩
                         replace H : (if 0 ≤ (ji66) then (if (ji66) < (x8_3.length : Int) then (spec_StrDist.l1 kj23 l0 l1 (wrap64 ((l1.length : Int) + 1)) (x8_3.set ((ji66) : Int).toNat (ji46)) x9_2 (wrap64 (x10_3 + 1)) l2_0 l2_1 l2_2) else (none)) else (none)) = some r := by first | (rw [hji66] at H; exact H) | (simp only [hji66] at H ⊢; exact H)
                         have hji66w : (IntKind.i64.wrap ((wrap64 (x9_2 * (wrap64 ((l1.length : Int) + 1)))) + x10_3)) = ji66 := (i64_w _).trans hji66
                         by_cases c67 : 0 ≤ (ji66)
                         ·rw [if_pos c67] at H
                          have c67b0 : decide (0 ≤ (ji66)) = true := decide_eq_true c67
                          clear c67
                          by_cases c68 : (ji66) < (x8_3.length : Int)
                          ·rw [if_pos c68] at H
                           have c68b0 : decide ((ji66) < (x8_3.length : Int)) = true := decide_eq_true c68
                           clear c68
                           obtain ⟨y593, hy593⟩ : ∃ y_ : List Int, y_ = (x8_3.set ((ji66) : Int).toNat (ji46)) := ⟨_, rfl⟩
                           replace H : (spec_StrDist.l1 kj23 l0 l1 (wrap64 ((l1.length : Int) + 1)) y593 x9_2 (wrap64 (x10_3 + 1)) l2_0 l2_1 l2_2) = some r := by first | (rw [hy593]; with_reducible exact H) | (have H2_ := (Option.bind_some _ _).symm.trans H; rw [hy593]; with_reducible exact H2_) | (have H2_ := (Option.bind_some _ _).symm.trans H; with_reducible exact H2_) | with_reducible exact H | (rw [hy593]; exact H) | exact H
                           have Ny593 := Aside0.mk hy593
                           clear hy593
                           have H' := Aside0.mk H
                           clear H
                           obtain ⟨Ao70, co70, eo70⟩ := Kd.R_slice HO_8.out
                           subst eo70
                           have p585 : 0 ≤ ((ji38) : Int) := of_decide_eq_true (by first | (with_reducible assumption) | assumption)
                           have q585 : (ji38) < (x8_3.length : Int) := of_decide_eq_true (by first | (with_reducible assumption) | assumption)
                           obtain ⟨ad585, e585, hx585_0⟩ := Kd.at_int (Kd.R_reads' HO_8.out).2.2 (ji38) p585 q585
                           cases e585
                           replace p585 := eq_true p585
                           replace q585 := eq_true q585
                           have hcz71_0 : wc.cell? ⟨gb574, 0, none⟩ = some (.slice A2_0 l2_0.length c2_0) := (blk_cell BK574.out 0).trans rfl
                           have hcz71_1 : wc.cell? ⟨gb574, 1, none⟩ = some (.slice A2_1 l2_1.length c2_1) := (blk_cell BK574.out 1).trans rfl
                           have hcz71_2 : wc.cell? ⟨gb574, 2, none⟩ = some (.slice A2_2 l2_2.length c2_2) := (blk_cell BK574.out 2).trans rfl
                           have hfz71_0 := blk_frozen BK574.out 0
                           have hfz71_1 := blk_frozen BK574.out 1
                           have hfz71_2 := blk_frozen BK574.out 2
                           have p586 : 0 ≤ ((ji41) : Int) := of_decide_eq_true (by first | (with_reducible assumption) | assumption)
                           have q586 : (ji41) < (l1.length : Int) := of_decide_eq_true (by first | (with_reducible assumption) | assumption)
                           obtain ⟨ad586, e586, hx586_0⟩ := Kd.at_int HR1.out (ji41) p586 q586
                           cases e586
                           replace hx586_0 := (HB.out.cell (World.block_lt_of_cell? w _ hx586_0)).trans hx586_0
                           replace p586 := eq_true p586
                           replace q586 := eq_true q586
                           have p587 : 0 ≤ ((rd l1 (ji41)) : Int) := of_decide_eq_true (by first | (with_reducible assumption) | assumption)
                           have q587 : (rd l1 (ji41)) < (l2_1.length : Int) := of_decide_eq_true (by first | (with_reducible assumption) | assumption)
                           obtain ⟨ad587, e587, hx587_0⟩ := Kd.at_int HR2_1.out (rd l1 (ji41)) p587 q587
                           cases e587
                           replace hx587_0 := (HB.out.cell (World.block_lt_of_cell? w _ hx587_0)).trans hx587_0
                           replace p587 := eq_true p587
                           replace q587 := eq_true q587
                           have p69 : 0 ≤ ((ji66) : Int) := of_decide_eq_true (by first | (with_reducible assumption) | assumption)
                           have q69 : ((ji66) : Int) < ((x8_3.length : Int) : Int) := of_decide_eq_true (by first | (with_reducible assumption) | assumption)
                           obtain ⟨go69, co69, eo69, gb69, gl69, cl69, HG69⟩ := Kd.R_form HO_8.out (by omega)
                           (first | cases eo69 | (injection eo69 with ea_ en_ ec_; (first | subst ea_ | (injection ea_ with ea_; subst ea_)); subst ec_; clear en_))
                           have GB69 := Aside0.mk gb69
                           have GG69 := Aside0.mk HG69
                           clear gb69 gl69 HG69
                           (first | simp only [add_plain] at hx585_0 | skip)
                           obtain ⟨hx69_0, hf69_0⟩ := Kd.R_celln 0 HO_8.out ((ji66) : Int) p69 q69
                           replace p69 := eq_true p69
                           replace q69 := eq_true q69
                           have HP72 := Kd.R_putg HO_8.out ((ji66) : Int) ji46
                           obtain ⟨q6_, hq6_⟩ : ∃ j_ : Int, (wrap64 (x9_2 * (wrap64 ((l1.length : Int) + 1)))) = j_ := ⟨_, rfl⟩
                           have hq6_w : (IntKind.i64.wrap (x9_2 * (wrap64 ((l1.length : Int) + 1)))) = q6_ := (i64_w _).trans hq6_
                           try rw [hq6_] at hji38w
                           try rw [hq6_] at hji38
                           try rw [hq6_] at hji66w
                           try rw [hq6_] at hji66
                           try rw [hji66] at hji38w
                           try rw [hji66] at hji38
                           go_wp2_with (first | ((with_reducible refine gate_store (t := 3) (p := 140) rfl ?_); (try (rw [drewN_self wc]; generalize hq_ : World.drewN wc _ = wc; have n0_ := Aside0.mk (Kd.R_at hq_ HO_8.out); have n1_ := Aside0.mk (blk_at hq_ BK574.out); have n2_ := Aside0.mk (below_at hq_ HB.out); clear hq_ HO_8 BK574 HB; have HO_8 := n0_; have BK574 := n1_; have HB := n2_; clear n0_ n1_ n2_; (try (have HP72 := Kd.R_putg HO_8.out ((ji66) : Int) ji46)); (try (have hz_ := Kd.R_celln 0 HO_8.out ((ji66) : Int) (of_eq_true p69) (of_eq_true q69); have hxn_ := hz_.1; have hfn_ := hz_.2; clear hz_)))); refine store_event (t := 3) (p := 140) (v := ?vo_w73) (w1 := (wc.setCell ⟨go69, ((ji66) : Int).toNat, none⟩ (.int .i64 ji46))) ?hg ?ho ?hn ?hr ?_; (case ho => rfl); (case hg => rfl); (case hn => rfl); (case hr => first | (go_simp; done) | (go_simp; rfl)); intro w73 hw; have hg : wc.grownBy w73 (some go69) := (by rw [hw]; exact HP72.2); have hp_ : Kd.R (Kd.int .i64) 3 w73 w.heap.size (fun _ => True) (.slice (some ⟨go69, 0, none⟩) x8_3.length co70) y593 := (by rw [hw, Ny593.out]; exact HP72.1); clear HP72; replace BK574 := Aside0.mk (blk_grown (g := gb574) (o := .cells #[.slice A2_0 l2_0.length c2_0, .slice (some ad587) l2_1.length c2_1, .slice A2_2 l2_2.length c2_2] 34 (0, 0)) (laK BK574.out) hg (Kd.R_ne HO_8.out BK574.out (by decide))); replace HO_8 := Aside0.mk (hp_); replace HB := Aside0.mk ((by rw [hw]; exact below_set (HB.out) GB69.out : Below w.heap.size w w73)); clear hg hw hp_))
                           repeat (go_quiet (first | ((with_reducible refine gate_store (t := 3) (p := 140) rfl ?_); (try (rw [drewN_self wc]; generalize hq_ : World.drewN wc _ = wc; have n0_ := Aside0.mk (Kd.R_at hq_ HO_8.out); have n1_ := Aside0.mk (blk_at hq_ BK574.out); have n2_ := Aside0.mk (below_at hq_ HB.out); clear hq_ HO_8 BK574 HB; have HO_8 := n0_; have BK574 := n1_; have HB := n2_; clear n0_ n1_ n2_; (try (have HP72 := Kd.R_putg HO_8.out ((ji66) : Int) ji46)); (try (have hz_ := Kd.R_celln 0 HO_8.out ((ji66) : Int) (of_eq_true p69) (of_eq_true q69); have hxn_ := hz_.1; have hfn_ := hz_.2; clear hz_)))); refine store_event (t := 3) (p := 140) (v := ?vo_w73) (w1 := (wc.setCell ⟨go69, ((ji66) : Int).toNat, none⟩ (.int .i64 ji46))) ?hg ?ho ?hn ?hr ?_; (case ho => rfl); (case hg => rfl); (case hn => rfl); (case hr => first | (go_simp; done) | (go_simp; rfl)); intro w73 hw; have hg : wc.grownBy w73 (some go69) := (by rw [hw]; exact HP72.2); have hp_ : Kd.R (Kd.int .i64) 3 w73 w.heap.size (fun _ => True) (.slice (some ⟨go69, 0, none⟩) x8_3.length co70) y593 := (by rw [hw, Ny593.out]; exact HP72.1); clear HP72; replace BK574 := Aside0.mk (blk_grown (g := gb574) (o := .cells #[.slice A2_0 l2_0.length c2_0, .slice (some ad587) l2_1.length c2_1, .slice A2_2 l2_2.length c2_2] 34 (0, 0)) (laK BK574.out) hg (Kd.R_ne HO_8.out BK574.out (by decide))); replace HO_8 := Aside0.mk (hp_); replace HB := Aside0.mk ((by rw [hw]; exact below_set (HB.out) GB69.out : Below w.heap.size w w73)); clear hg hw hp_)); try go_wp2_with (first | ((with_reducible refine gate_store (t := 3) (p := 140) rfl ?_); (try (rw [drewN_self wc]; generalize hq_ : World.drewN wc _ = wc; have n0_ := Aside0.mk (Kd.R_at hq_ HO_8.out); have n1_ := Aside0.mk (blk_at hq_ BK574.out); have n2_ := Aside0.mk (below_at hq_ HB.out); clear hq_ HO_8 BK574 HB; have HO_8 := n0_; have BK574 := n1_; have HB := n2_; clear n0_ n1_ n2_; (try (have HP72 := Kd.R_putg HO_8.out ((ji66) : Int) ji46)); (try (have hz_ := Kd.R_celln 0 HO_8.out ((ji66) : Int) (of_eq_true p69) (of_eq_true q69); have hxn_ := hz_.1; have hfn_ := hz_.2; clear hz_)))); refine store_event (t := 3) (p := 140) (v := ?vo_w73) (w1 := (wc.setCell ⟨go69, ((ji66) : Int).toNat, none⟩ (.int .i64 ji46))) ?hg ?ho ?hn ?hr ?_; (case ho => rfl); (case hg => rfl); (case hn => rfl); (case hr => first | (go_simp; done) | (go_simp; rfl)); intro w73 hw; have hg : wc.grownBy w73 (some go69) := (by rw [hw]; exact HP72.2); have hp_ : Kd.R (Kd.int .i64) 3 w73 w.heap.size (fun _ => True) (.slice (some ⟨go69, 0, none⟩) x8_3.length co70) y593 := (by rw [hw, Ny593.out]; exact HP72.1); clear HP72; replace BK574 := Aside0.mk (blk_grown (g := gb574) (o := .cells #[.slice A2_0 l2_0.length c2_0, .slice (some ad587) l2_1.length c2_1, .slice A2_2 l2_2.length c2_2] 34 (0, 0)) (laK BK574.out) hg (Kd.R_ne HO_8.out BK574.out (by decide))); replace HO_8 := Aside0.mk (hp_); replace HB := Aside0.mk ((by rw [hw]; exact below_set (HB.out) GB69.out : Below w.heap.size w w73)); clear hg hw hp_)))
                           go_roundg kj23
                           case measure => have := HJ3.out; have := HK2.out; have := HK3.out; have := HJ20.out; have := HJ23.out; omega
                           case rel => exact ⟨(y593), (wrap64 (x10_3 + 1)), (by first | rfl | (simp; done) | (simp [*]; done)), H', ⟨by have := HJ3.out; have := HK2.out; have := HK3.out; have := HJ20.out; have := HJ23.out; omega⟩, ⟨laR HO_8.out⟩, ⟨laK BK574.out⟩, ⟨laB HB.out⟩⟩
                          ·rw [if_neg c68] at H
                           exact absurd H (by simp)
                         ·rw [if_neg c67] at H
                          exact absurd H (by simp)
                       ·rw [if_neg c45] at H
                        exact absurd H (by simp)
                      ·rw [if_neg c44] at H
                       exact absurd H (by simp)
                     ·rw [if_neg c43] at H
                      exact absurd H (by simp)
                    ·rw [if_neg c42] at H
                     exact absurd H (by simp)
                   ·rw [if_neg c40] at H
                    exact absurd H (by simp)
                  ·rw [if_neg c39] at H
                   exact absurd H (by simp)
                 ·rw [if_neg c37] at H
                  have c37b0 : decide (0 < x10_3) = false := decide_eq_false c37
                  clear c37
                  by_cases c74 : x9_2 > 0
                  ·rw [if_pos c74] at H
                   have c74b0 : decide (0 < x9_2) = true := decide_eq_true c74
                   clear c74
                   obtain ⟨ji75, hji75⟩ : ∃ j_ : Int, (wrap64 ((wrap64 (x9_2 * (wrap64 ((l1.length : Int) + 1)))) + x10_3)) = j_ := ⟨_, rfl⟩
                   replace H : (if 0 ≤ (ji75) then (if (ji75) < (x8_3.length : Int) then (spec_StrDist.l1 kj23 l0 l1 (wrap64 ((l1.length : Int) + 1)) (x8_3.set ((ji75) : Int).toNat x11_23) x9_2 (wrap64 (x10_3 + 1)) l2_0 l2_1 l2_2) else (none)) else (none)) = some r := by first | (rw [hji75] at H; exact H) | (simp only [hji75] at H ⊢; exact H)
                   have hji75w : (IntKind.i64.wrap ((wrap64 (x9_2 * (wrap64 ((l1.length : Int) + 1)))) + x10_3)) = ji75 := (i64_w _).trans hji75
                   by_cases c76 : 0 ≤ (ji75)
                   ·rw [if_pos c76] at H
                    have c76b0 : decide (0 ≤ (ji75)) = true := decide_eq_true c76
                    clear c76
                    by_cases c77 : (ji75) < (x8_3.length : Int)
                    ·rw [if_pos c77] at H
                     have c77b0 : decide ((ji75) < (x8_3.length : Int)) = true := decide_eq_true c77
                     clear c77
                     obtain ⟨y594, hy594⟩ : ∃ y_ : List Int, y_ = (x8_3.set ((ji75) : Int).toNat x11_23) := ⟨_, rfl⟩
                     replace H : (spec_StrDist.l1 kj23 l0 l1 (wrap64 ((l1.length : Int) + 1)) y594 x9_2 (wrap64 (x10_3 + 1)) l2_0 l2_1 l2_2) = some r := by first | (rw [hy594]; with_reducible exact H) | (have H2_ := (Option.bind_some _ _).symm.trans H; rw [hy594]; with_reducible exact H2_) | (have H2_ := (Option.bind_some _ _).symm.trans H; with_reducible exact H2_) | with_reducible exact H | (rw [hy594]; exact H) | exact H
                     have Ny594 := Aside0.mk hy594
                     clear hy594
                     have H' := Aside0.mk H
                     clear H
                     have p78 : 0 ≤ ((ji75) : Int) := of_decide_eq_true (by first | (with_reducible assumption) | assumption)
                     have q78 : ((ji75) : Int) < ((x8_3.length : Int) : Int) := of_decide_eq_true (by first | (with_reducible assumption) | assumption)
                     obtain ⟨go78, co78, eo78, gb78, gl78, cl78, HG78⟩ := Kd.R_form HO_8.out (by omega)
                     (first | cases eo78 | (injection eo78 with ea_ en_ ec_; (first | subst ea_ | (injection ea_ with ea_; subst ea_)); subst ec_; clear en_))
                     have GB78 := Aside0.mk gb78
                     have GG78 := Aside0.mk HG78
                     clear gb78 gl78 HG78
                     obtain ⟨hx78_0, hf78_0⟩ := Kd.R_celln 0 HO_8.out ((ji75) : Int) p78 q78
                     replace p78 := eq_true p78
                     replace q78 := eq_true q78
                     have HP79 := Kd.R_putg HO_8.out ((ji75) : Int) x11_23
                     obtain ⟨q7_, hq7_⟩ : ∃ j_ : Int, (wrap64 (x9_2 * (wrap64 ((l1.length : Int) + 1)))) = j_ := ⟨_, rfl⟩
                     have hq7_w : (IntKind.i64.wrap (x9_2 * (wrap64 ((l1.length : Int) + 1)))) = q7_ := (i64_w _).trans hq7_
                     try rw [hq7_] at hji75w
                     try rw [hq7_] at hji75
                     go_wp2_with (first | ((with_reducible refine gate_store (t := 3) (p := 140) rfl ?_); (try (rw [drewN_self wc]; generalize hq_ : World.drewN wc _ = wc; have n0_ := Aside0.mk (Kd.R_at hq_ HO_8.out); have n1_ := Aside0.mk (blk_at hq_ BK574.out); have n2_ := Aside0.mk (below_at hq_ HB.out); clear hq_ HO_8 BK574 HB; have HO_8 := n0_; have BK574 := n1_; have HB := n2_; clear n0_ n1_ n2_; (try (have HP79 := Kd.R_putg HO_8.out ((ji75) : Int) x11_23)); (try (have hz_ := Kd.R_celln 0 HO_8.out ((ji75) : Int) (of_eq_true p78) (of_eq_true q78); have hxn_ := hz_.1; have hfn_ := hz_.2; clear hz_)))); refine store_event (t := 3) (p := 140) (v := ?vo_w80) (w1 := (wc.setCell ⟨go78, ((ji75) : Int).toNat, none⟩ (.int .i64 x11_23))) ?hg ?ho ?hn ?hr ?_; (case ho => rfl); (case hg => rfl); (case hn => rfl); (case hr => first | (go_simp; done) | (go_simp; rfl)); intro w80 hw; have hg : wc.grownBy w80 (some go78) := (by rw [hw]; exact HP79.2); have hp_ : Kd.R (Kd.int .i64) 3 w80 w.heap.size (fun _ => True) (.slice (some ⟨go78, 0, none⟩) x8_3.length co78) y594 := (by rw [hw, Ny594.out]; exact HP79.1); clear HP79; replace BK574 := Aside0.mk (blk_grown (g := gb574) (o := .cells #[.slice A2_0 l2_0.length c2_0, .slice A2_1 l2_1.length c2_1, .slice A2_2 l2_2.length c2_2] 34 (0, 0)) (laK BK574.out) hg (Kd.R_ne HO_8.out BK574.out (by decide))); replace HO_8 := Aside0.mk (hp_); replace HB := Aside0.mk ((by rw [hw]; exact below_set (HB.out) GB78.out : Below w.heap.size w w80)); clear hg hw hp_))
                     repeat (go_quiet (first | ((with_reducible refine gate_store (t := 3) (p := 140) rfl ?_); (try (rw [drewN_self wc]; generalize hq_ : World.drewN wc _ = wc; have n0_ := Aside0.mk (Kd.R_at hq_ HO_8.out); have n1_ := Aside0.mk (blk_at hq_ BK574.out); have n2_ := Aside0.mk (below_at hq_ HB.out); clear hq_ HO_8 BK574 HB; have HO_8 := n0_; have BK574 := n1_; have HB := n2_; clear n0_ n1_ n2_; (try (have HP79 := Kd.R_putg HO_8.out ((ji75) : Int) x11_23)); (try (have hz_ := Kd.R_celln 0 HO_8.out ((ji75) : Int) (of_eq_true p78) (of_eq_true q78); have hxn_ := hz_.1; have hfn_ := hz_.2; clear hz_)))); refine store_event (t := 3) (p := 140) (v := ?vo_w80) (w1 := (wc.setCell ⟨go78, ((ji75) : Int).toNat, none⟩ (.int .i64 x11_23))) ?hg ?ho ?hn ?hr ?_; (case ho => rfl); (case hg => rfl); (case hn => rfl); (case hr => first | (go_simp; done) | (go_simp; rfl)); intro w80 hw; have hg : wc.grownBy w80 (some go78) := (by rw [hw]; exact HP79.2); have hp_ : Kd.R (Kd.int .i64) 3 w80 w.heap.size (fun _ => True) (.slice (some ⟨go78, 0, none⟩) x8_3.length co78) y594 := (by rw [hw, Ny594.out]; exact HP79.1); clear HP79; replace BK574 := Aside0.mk (blk_grown (g := gb574) (o := .cells #[.slice A2_0 l2_0.length c2_0, .slice A2_1 l2_1.length c2_1, .slice A2_2 l2_2.length c2_2] 34 (0, 0)) (laK BK574.out) hg (Kd.R_ne HO_8.out BK574.out (by decide))); replace HO_8 := Aside0.mk (hp_); replace HB := Aside0.mk ((by rw [hw]; exact below_set (HB.out) GB78.out : Below w.heap.size w w80)); clear hg hw hp_)); try go_wp2_with (first | ((with_reducible refine gate_store (t := 3) (p := 140) rfl ?_); (try (rw [drewN_self wc]; generalize hq_ : World.drewN wc _ = wc; have n0_ := Aside0.mk (Kd.R_at hq_ HO_8.out); have n1_ := Aside0.mk (blk_at hq_ BK574.out); have n2_ := Aside0.mk (below_at hq_ HB.out); clear hq_ HO_8 BK574 HB; have HO_8 := n0_; have BK574 := n1_; have HB := n2_; clear n0_ n1_ n2_; (try (have HP79 := Kd.R_putg HO_8.out ((ji75) : Int) x11_23)); (try (have hz_ := Kd.R_celln 0 HO_8.out ((ji75) : Int) (of_eq_true p78) (of_eq_true q78); have hxn_ := hz_.1; have hfn_ := hz_.2; clear hz_)))); refine store_event (t := 3) (p := 140) (v := ?vo_w80) (w1 := (wc.setCell ⟨go78, ((ji75) : Int).toNat, none⟩ (.int .i64 x11_23))) ?hg ?ho ?hn ?hr ?_; (case ho => rfl); (case hg => rfl); (case hn => rfl); (case hr => first | (go_simp; done) | (go_simp; rfl)); intro w80 hw; have hg : wc.grownBy w80 (some go78) := (by rw [hw]; exact HP79.2); have hp_ : Kd.R (Kd.int .i64) 3 w80 w.heap.size (fun _ => True) (.slice (some ⟨go78, 0, none⟩) x8_3.length co78) y594 := (by rw [hw, Ny594.out]; exact HP79.1); clear HP79; replace BK574 := Aside0.mk (blk_grown (g := gb574) (o := .cells #[.slice A2_0 l2_0.length c2_0, .slice A2_1 l2_1.length c2_1, .slice A2_2 l2_2.length c2_2] 34 (0, 0)) (laK BK574.out) hg (Kd.R_ne HO_8.out BK574.out (by decide))); replace HO_8 := Aside0.mk (hp_); replace HB := Aside0.mk ((by rw [hw]; exact below_set (HB.out) GB78.out : Below w.heap.size w w80)); clear hg hw hp_)))
                     go_roundg kj23
                     case measure => have := HJ3.out; have := HK2.out; have := HK3.out; have := HJ20.out; have := HJ23.out; omega
                     case rel => exact ⟨(y594), (wrap64 (x10_3 + 1)), (by first | rfl | (simp; done) | (simp [*]; done)), H', ⟨by have := HJ3.out; have := HK2.out; have := HK3.out; have := HJ20.out; have := HJ23.out; omega⟩, ⟨laR HO_8.out⟩, ⟨laK BK574.out⟩, ⟨laB HB.out⟩⟩
                    ·rw [if_neg c77] at H
                     exact absurd H (by simp)
                   ·rw [if_neg c76] at H
                    exact absurd H (by simp)
                  ·rw [if_neg c74] at H
                   have c74b0 : decide (0 < x9_2) = false := decide_eq_false c74
                   clear c74
                   obtain ⟨ji81, hji81⟩ : ∃ j_ : Int, (wrap64 ((wrap64 (x9_2 * (wrap64 ((l1.length : Int) + 1)))) + x10_3)) = j_ := ⟨_, rfl⟩
                   replace H : (if 0 ≤ (ji81) then (if (ji81) < (x8_3.length : Int) then (spec_StrDist.l1 kj23 l0 l1 (wrap64 ((l1.length : Int) + 1)) (x8_3.set ((ji81) : Int).toNat x11_23) x9_2 (wrap64 (x10_3 + 1)) l2_0 l2_1 l2_2) else (none)) else (none)) = some r := by first | (rw [hji81] at H; exact H) | (simp only [hji81] at H ⊢; exact H)
                   have hji81w : (IntKind.i64.wrap ((wrap64 (x9_2 * (wrap64 ((l1.length : Int) + 1)))) + x10_3)) = ji81 := (i64_w _).trans hji81
                   by_cases c82 : 0 ≤ (ji81)
                   ·rw [if_pos c82] at H
                    have c82b0 : decide (0 ≤ (ji81)) = true := decide_eq_true c82
                    clear c82
                    by_cases c83 : (ji81) < (x8_3.length : Int)
                    ·rw [if_pos c83] at H
                     have c83b0 : decide ((ji81) < (x8_3.length : Int)) = true := decide_eq_true c83
                     clear c83
                     obtain ⟨y595, hy595⟩ : ∃ y_ : List Int, y_ = (x8_3.set ((ji81) : Int).toNat x11_23) := ⟨_, rfl⟩
                     replace H : (spec_StrDist.l1 kj23 l0 l1 (wrap64 ((l1.length : Int) + 1)) y595 x9_2 (wrap64 (x10_3 + 1)) l2_0 l2_1 l2_2) = some r := by first | (rw [hy595]; with_reducible exact H) | (have H2_ := (Option.bind_some _ _).symm.trans H; rw [hy595]; with_reducible exact H2_) | (have H2_ := (Option.bind_some _ _).symm.trans H; with_reducible exact H2_) | with_reducible exact H | (rw [hy595]; exact H) | exact H
                     have Ny595 := Aside0.mk hy595
                     clear hy595
                     have H' := Aside0.mk H
                     clear H
                     have p84 : 0 ≤ ((ji81) : Int) := of_decide_eq_true (by first | (with_reducible assumption) | assumption)
                     have q84 : ((ji81) : Int) < ((x8_3.length : Int) : Int) := of_decide_eq_true (by first | (with_reducible assumption) | assumption)
                     obtain ⟨go84, co84, eo84, gb84, gl84, cl84, HG84⟩ := Kd.R_form HO_8.out (by omega)
                     (first | cases eo84 | (injection eo84 with ea_ en_ ec_; (first | subst ea_ | (injection ea_ with ea_; subst ea_)); subst ec_; clear en_))
                     have GB84 := Aside0.mk gb84
                     have GG84 := Aside0.mk HG84
                     clear gb84 gl84 HG84
                     obtain ⟨hx84_0, hf84_0⟩ := Kd.R_celln 0 HO_8.out ((ji81) : Int) p84 q84
                     replace p84 := eq_true p84
                     replace q84 := eq_true q84
                     have HP85 := Kd.R_putg HO_8.out ((ji81) : Int) x11_23
                     obtain ⟨q8_, hq8_⟩ : ∃ j_ : Int, (wrap64 (x9_2 * (wrap64 ((l1.length : Int) + 1)))) = j_ := ⟨_, rfl⟩
                     have hq8_w : (IntKind.i64.wrap (x9_2 * (wrap64 ((l1.length : Int) + 1)))) = q8_ := (i64_w _).trans hq8_
                     try rw [hq8_] at hji81w
                     try rw [hq8_] at hji81
                     go_wp2_with (first | ((with_reducible refine gate_store (t := 3) (p := 140) rfl ?_); (try (rw [drewN_self wc]; generalize hq_ : World.drewN wc _ = wc; have n0_ := Aside0.mk (Kd.R_at hq_ HO_8.out); have n1_ := Aside0.mk (blk_at hq_ BK574.out); have n2_ := Aside0.mk (below_at hq_ HB.out); clear hq_ HO_8 BK574 HB; have HO_8 := n0_; have BK574 := n1_; have HB := n2_; clear n0_ n1_ n2_; (try (have HP85 := Kd.R_putg HO_8.out ((ji81) : Int) x11_23)); (try (have hz_ := Kd.R_celln 0 HO_8.out ((ji81) : Int) (of_eq_true p84) (of_eq_true q84); have hxn_ := hz_.1; have hfn_ := hz_.2; clear hz_)))); refine store_event (t := 3) (p := 140) (v := ?vo_w86) (w1 := (wc.setCell ⟨go84, ((ji81) : Int).toNat, none⟩ (.int .i64 x11_23))) ?hg ?ho ?hn ?hr ?_; (case ho => rfl); (case hg => rfl); (case hn => rfl); (case hr => first | (go_simp; done) | (go_simp; rfl)); intro w86 hw; have hg : wc.grownBy w86 (some go84) := (by rw [hw]; exact HP85.2); have hp_ : Kd.R (Kd.int .i64) 3 w86 w.heap.size (fun _ => True) (.slice (some ⟨go84, 0, none⟩) x8_3.length co84) y595 := (by rw [hw, Ny595.out]; exact HP85.1); clear HP85; replace BK574 := Aside0.mk (blk_grown (g := gb574) (o := .cells #[.slice A2_0 l2_0.length c2_0, .slice A2_1 l2_1.length c2_1, .slice A2_2 l2_2.length c2_2] 34 (0, 0)) (laK BK574.out) hg (Kd.R_ne HO_8.out BK574.out (by decide))); replace HO_8 := Aside0.mk (hp_); replace HB := Aside0.mk ((by rw [hw]; exact below_set (HB.out) GB84.out : Below w.heap.size w w86)); clear hg hw hp_))
                     repeat (go_quiet (first | ((with_reducible refine gate_store (t := 3) (p := 140) rfl ?_); (try (rw [drewN_self wc]; generalize hq_ : World.drewN wc _ = wc; have n0_ := Aside0.mk (Kd.R_at hq_ HO_8.out); have n1_ := Aside0.mk (blk_at hq_ BK574.out); have n2_ := Aside0.mk (below_at hq_ HB.out); clear hq_ HO_8 BK574 HB; have HO_8 := n0_; have BK574 := n1_; have HB := n2_; clear n0_ n1_ n2_; (try (have HP85 := Kd.R_putg HO_8.out ((ji81) : Int) x11_23)); (try (have hz_ := Kd.R_celln 0 HO_8.out ((ji81) : Int) (of_eq_true p84) (of_eq_true q84); have hxn_ := hz_.1; have hfn_ := hz_.2; clear hz_)))); refine store_event (t := 3) (p := 140) (v := ?vo_w86) (w1 := (wc.setCell ⟨go84, ((ji81) : Int).toNat, none⟩ (.int .i64 x11_23))) ?hg ?ho ?hn ?hr ?_; (case ho => rfl); (case hg => rfl); (case hn => rfl); (case hr => first | (go_simp; done) | (go_simp; rfl)); intro w86 hw; have hg : wc.grownBy w86 (some go84) := (by rw [hw]; exact HP85.2); have hp_ : Kd.R (Kd.int .i64) 3 w86 w.heap.size (fun _ => True) (.slice (some ⟨go84, 0, none⟩) x8_3.length co84) y595 := (by rw [hw, Ny595.out]; exact HP85.1); clear HP85; replace BK574 := Aside0.mk (blk_grown (g := gb574) (o := .cells #[.slice A2_0 l2_0.length c2_0, .slice A2_1 l2_1.length c2_1, .slice A2_2 l2_2.length c2_2] 34 (0, 0)) (laK BK574.out) hg (Kd.R_ne HO_8.out BK574.out (by decide))); replace HO_8 := Aside0.mk (hp_); replace HB := Aside0.mk ((by rw [hw]; exact below_set (HB.out) GB84.out : Below w.heap.size w w86)); clear hg hw hp_)); try go_wp2_with (first | ((with_reducible refine gate_store (t := 3) (p := 140) rfl ?_); (try (rw [drewN_self wc]; generalize hq_ : World.drewN wc _ = wc; have n0_ := Aside0.mk (Kd.R_at hq_ HO_8.out); have n1_ := Aside0.mk (blk_at hq_ BK574.out); have n2_ := Aside0.mk (below_at hq_ HB.out); clear hq_ HO_8 BK574 HB; have HO_8 := n0_; have BK574 := n1_; have HB := n2_; clear n0_ n1_ n2_; (try (have HP85 := Kd.R_putg HO_8.out ((ji81) : Int) x11_23)); (try (have hz_ := Kd.R_celln 0 HO_8.out ((ji81) : Int) (of_eq_true p84) (of_eq_true q84); have hxn_ := hz_.1; have hfn_ := hz_.2; clear hz_)))); refine store_event (t := 3) (p := 140) (v := ?vo_w86) (w1 := (wc.setCell ⟨go84, ((ji81) : Int).toNat, none⟩ (.int .i64 x11_23))) ?hg ?ho ?hn ?hr ?_; (case ho => rfl); (case hg => rfl); (case hn => rfl); (case hr => first | (go_simp; done) | (go_simp; rfl)); intro w86 hw; have hg : wc.grownBy w86 (some go84) := (by rw [hw]; exact HP85.2); have hp_ : Kd.R (Kd.int .i64) 3 w86 w.heap.size (fun _ => True) (.slice (some ⟨go84, 0, none⟩) x8_3.length co84) y595 := (by rw [hw, Ny595.out]; exact HP85.1); clear HP85; replace BK574 := Aside0.mk (blk_grown (g := gb574) (o := .cells #[.slice A2_0 l2_0.length c2_0, .slice A2_1 l2_1.length c2_1, .slice A2_2 l2_2.length c2_2] 34 (0, 0)) (laK BK574.out) hg (Kd.R_ne HO_8.out BK574.out (by decide))); replace HO_8 := Aside0.mk (hp_); replace HB := Aside0.mk ((by rw [hw]; exact below_set (HB.out) GB84.out : Below w.heap.size w w86)); clear hg hw hp_)))
                     go_roundg kj23
                     case measure => have := HJ3.out; have := HK2.out; have := HK3.out; have := HJ20.out; have := HJ23.out; omega
                     case rel => exact ⟨(y595), (wrap64 (x10_3 + 1)), (by first | rfl | (simp; done) | (simp [*]; done)), H', ⟨by have := HJ3.out; have := HK2.out; have := HK3.out; have := HJ20.out; have := HJ23.out; omega⟩, ⟨laR HO_8.out⟩, ⟨laK BK574.out⟩, ⟨laB HB.out⟩⟩
                    ·rw [if_neg c83] at H
                     exact absurd H (by simp)
                   ·rw [if_neg c82] at H
                    exact absurd H (by simp)
           ·rw [if_neg c20] at H
            have c20b0 : decide (x10_3 ≤ (l1.length : Int)) = false := decide_eq_false c20
            clear c20
            have H' := Aside0.mk H
            clear H
            go_wp2
            repeat (go_quiet (fail); try go_wp2)
            go_roundg k3
            case measure => have := HJ3.out; have := HK2.out; have := HK3.out; omega
            case rel => exact ⟨(x8_3), (wrap64 (x9_2 + 1)), (by first | rfl | (simp; done) | (simp [*]; done)), H', ⟨by have := HJ3.out; have := HK2.out; have := HK3.out; omega⟩, ⟨laR HO_8.out⟩, ⟨laK BK574.out⟩, ⟨laB HB.out⟩⟩
        ·rw [if_neg c19] at H
         have c19b0 : decide (x9_2 ≤ (l0.length : Int)) = false := decide_eq_false c19
         clear c19
         obtain ⟨ji87, hji87⟩ : ∃ j_ : Int, (wrap64 ((x8_2.length : Int) - 1)) = j_ := ⟨_, rfl⟩
         replace H : (if 0 ≤ (ji87) then (if (ji87) < (x8_2.length : Int) then (some (rd x8_2 (ji87))) else (none)) else (none)) = some r := by first | (rw [hji87] at H; exact H) | (simp only [hji87] at H ⊢; exact H)
         have hji87w : (IntKind.i64.wrap ((x8_2.length : Int) - 1)) = ji87 := (i64_w _).trans hji87
         by_cases c88 : 0 ≤ (ji87)
         ·rw [if_pos c88] at H
          have c88b0 : decide (0 ≤ (ji87)) = true := decide_eq_true c88
          clear c88
          by_cases c89 : (ji87) < (x8_2.length : Int)
          ·rw [if_pos c89] at H
           have c89b0 : decide ((ji87) < (x8_2.length : Int)) = true := decide_eq_true c89
           clear c89
           obtain rfl := Option.some.inj H
           obtain ⟨Ao90, co90, eo90⟩ := Kd.R_slice HO_8.out
           subst eo90
           have p581 : 0 ≤ ((ji87) : Int) := of_decide_eq_true (by first | (with_reducible assumption) | assumption)
           have q581 : (ji87) < (x8_2.length : Int) := of_decide_eq_true (by first | (with_reducible assumption) | assumption)
           obtain ⟨ad581, e581, hx581_0⟩ := Kd.at_int (Kd.R_reads' HO_8.out).2.2 (ji87) p581 q581
           cases e581
           replace p581 := eq_true p581
           replace q581 := eq_true q581
           go_wp2
           repeat (go_quiet (fail); try go_wp2)
           go_ret
           exact ⟨by first | rfl | (simp [errW_none, errW_some] <;> rfl) | (simp only [← hji14, ← hji87]; first | rfl | (simp [errW_none, errW_some] <;> rfl)) | (simp [*, errW_none, errW_some] <;> rfl), laB HB.out⟩
          ·rw [if_neg c89] at H
           exact absurd H (by simp)
         ·rw [if_neg c88] at H
          exact absurd H (by simp)
     ·rw [if_neg c16] at H
      exact absurd H (by simp)
    ·rw [if_neg c15] at H
     exact absurd H (by simp)



/-! ### laws_fresh: function 20 -/
def laws_fresh.l0 : Nat → List Int → Int → List Int → Int → Option (List Int)
 | 0, _, _, _, _ => none
 | k + 1, x0, x1, x5, x6 => if x6 < (x0.length : Int) then (if x6 < 600 then (if 0 ≤ x6 then (if x5.length < 140737488355328 then (laws_fresh.l0 k x0 x1 (x5 ++ [(wrap64 ((wrap64 ((wrap64 (rd x0 x6)) * 3)) + (wrap64 (x1 * (wrap64 ((Int.tmod x6 7) + 1)))))) % 256]) (wrap64 (x6 + 1))) else (none)) else (none)) else (some x5)) else (some x5)
def laws_fresh.f (k : Nat) (l0 : List Int) (a1 : Int) : Option (List Int) := laws_fresh.l0 k l0 a1 (([(a1) % 256] : List Int)) 0
theorem laws_fresh.mono_l : ∀ k, (∀ y0 y1 y2 y3, LeO (laws_fresh.l0 k y0 y1 y2 y3) (laws_fresh.l0 (k + 1) y0 y1 y2 y3))
 | 0 => fun _ _ _ _ r h => by simp [laws_fresh.l0] at h
 | k + 1 => by
  have ih0 := laws_fresh.mono_l k
  ·intro y0 y1 y2 y3
   unfold laws_fresh.l0
   repeat' first
   | (with_reducible exact ih0 _ _ _ _)
   | (with_reducible exact LeO.refl _)
   | (with_reducible exact LeO.none _)
   | (with_reducible refine LeO.ite ?_ ?_)
   | (with_reducible refine LeO.bind ?_ (fun _ => ?_))
   | exact ih0 _ _ _ _
   | exact LeO.none _
   | refine LeO.ite ?_ ?_
   | refine LeO.bind ?_ (fun _ => ?_)
theorem laws_fresh.mono : ∀ a0 a1 k, LeO (laws_fresh.f k a0 a1) (laws_fresh.f (k + 1) a0 a1) := by
 intro a0 a1 k
 have ih0 := laws_fresh.mono_l k
 unfold laws_fresh.f
 repeat' first
   | (with_reducible exact ih0 _ _ _ _)
   | (with_reducible exact LeO.refl _)
   | (with_reducible exact LeO.none _)
   | (with_reducible refine LeO.ite ?_ ?_)
   | (with_reducible refine LeO.bind ?_ (fun _ => ?_))
   | exact ih0 _ _ _ _
   | exact LeO.none _
   | refine LeO.ite ?_ ?_
   | refine LeO.bind ?_ (fun _ => ?_)
set_option maxHeartbeats 8000000 in
set_option maxRecDepth 100000 in
theorem laws_fresh.calls (k : Nat) (A0 : Option Addr) (c0 : Nat) (l0 : List Int) (a1 : Int) (r : List Int) (w : World) (hr0 : Kd.C (Kd.int .u8) w A0 l0.length l0) (hc0 : l0.length ≤ c0) (h : laws_fresh.f k l0 a1 = some r) :
  Calls Try.prog 20 #[.slice A0 l0.length c0, .int .i64 a1] w fun e w' => ∃ v0_ : Value, e = .returned (v0_) ∧ Kd.R (Kd.int .u8) 5 w' w.heap.size (fun _ => True) v0_ r ∧ Below w.heap.size w w' := by
 have HR0 := Aside0.mk hr0
 have HC0 := Aside0.mk hc0
 clear hr0 hc0
 have HB := Aside0.mk (Below.refl w.heap.size w)
 have H : (laws_fresh.l0 k l0 a1 (([(a1) % 256] : List Int)) 0) = some r := h
 clear h
 obtain ⟨y596, hy596⟩ : ∃ y_ : List Int, y_ = (([(a1) % 256] : List Int)) := ⟨_, rfl⟩
 replace H : (laws_fresh.l0 k l0 a1 y596 0) = some r := by first | (rw [hy596]; with_reducible exact H) | (have H2_ := (Option.bind_some _ _).symm.trans H; rw [hy596]; with_reducible exact H2_) | (have H2_ := (Option.bind_some _ _).symm.trans H; with_reducible exact H2_) | with_reducible exact H | (rw [hy596]; exact H) | exact H
 have Ny596 := Aside0.mk hy596
 clear hy596
 have H' := Aside0.mk H
 clear H
 go_enter Try.func20, Try.ntmps20
 go_wp2_with (first | ((with_reducible refine gate_dst (N := 9) rfl ?_); refine Kd.R_lit (Kd.int .u8) _ 5 ?hg (N := 9) ?hd (xs := ([(a1) % 256] : List Int)) (inner := [.int .u8 ((a1) % 256)]) (ok := fun _ => True) (okp := fun _ => True) ?hr ?hp (fun _ hk => hk) trivial (Below.refl _ _) (Nat.le_refl _) (by simp) ?_; (case hd => rfl); (case hg => rfl); (case hr => first | (go_simp; done) | (go_simp; rfl)); (case hp => exact (Reps.one (show Kd.M (Kd.int .u8) _ _ _ ((a1) % 256) [.int .u8 ((a1) % 256)] from rfl) (Reps.none _ _))); intro v597 w3 ho4 hb hg_ hnew_; clear hg_ hnew_; (first | rw [← Ny596.out] at ho4 | (simp only [Int.reduceToNat] at ho4; rw [← Ny596.out] at ho4)); have HO598 := Aside0.mk (Kd.R_lower ho4 (below_size (laB HB.out))); replace HB := Aside0.mk (below_step (laB HB.out) hb); clear hb ho4))
 go_loopg [5, 6] k (fun kq v5 v6 w' => ∃ (x5_1 : List Int) (x6_1 : Int), v6 = .int .i64 x6_1 ∧ Aside0 (laws_fresh.l0 kq l0 a1 x5_1 x6_1 = some r) ∧ Aside0 (kq ≤ k) ∧ Aside0 (Kd.R (Kd.int .u8) 5 w' w.heap.size (fun _ => True) v5 x5_1) ∧ Aside0 (Below w.heap.size w w'))
 case atStart => exact ⟨(y596), (0), (by first | rfl | (simp; done) | (simp [*]; done)), H', ⟨Nat.le_refl _⟩, ⟨laR HO598.out⟩, ⟨laB HB.out⟩⟩
 case round =>
  clear H'
  try clear c2
  try clear p2
  obtain ⟨x5_1, x6_1, rfl, HA, HK1, HO_5, HB⟩ := hrel
  cases gk with
  | zero => exact absurd HA.out (by simp [laws_fresh.l0])
  | succ k1 =>
   have H := HA.out
   clear HA
   simp only [laws_fresh.l0] at H
   by_cases c5 : x6_1 < (l0.length : Int)
   ·rw [if_pos c5] at H
    have c5b0 : decide (x6_1 < (l0.length : Int)) = true := decide_eq_true c5
    clear c5
    by_cases c6 : x6_1 < 600
    ·rw [if_pos c6] at H
     have c6b0 : decide (x6_1 < 600) = true := decide_eq_true c6
     clear c6
     by_cases c7 : 0 ≤ x6_1
     ·rw [if_pos c7] at H
      have c7b0 : decide (0 ≤ x6_1) = true := decide_eq_true c7
      clear c7
      by_cases c8 : x5_1.length < 140737488355328
      ·rw [if_pos c8] at H
       have LMc8 := Aside0.mk c8
       clear c8
       obtain ⟨y600, hy600⟩ : ∃ y_ : List Int, y_ = (x5_1 ++ [(wrap64 ((wrap64 ((wrap64 (rd l0 x6_1)) * 3)) + (wrap64 (a1 * (wrap64 ((Int.tmod x6_1 7) + 1)))))) % 256]) := ⟨_, rfl⟩
       replace H : (laws_fresh.l0 k1 l0 a1 y600 (wrap64 (x6_1 + 1))) = some r := by first | (rw [hy600]; with_reducible exact H) | (have H2_ := (Option.bind_some _ _).symm.trans H; rw [hy600]; with_reducible exact H2_) | (have H2_ := (Option.bind_some _ _).symm.trans H; with_reducible exact H2_) | with_reducible exact H | (rw [hy600]; exact H) | exact H
       have Ny600 := Aside0.mk hy600
       clear hy600
       have H' := Aside0.mk H
       clear H
       have p599 : 0 ≤ (x6_1 : Int) := of_decide_eq_true (by first | (with_reducible assumption) | assumption)
       have q599 : x6_1 < (l0.length : Int) := of_decide_eq_true (by first | (with_reducible assumption) | assumption)
       obtain ⟨ad599, e599, hx599_0⟩ := Kd.at_int HR0.out x6_1 p599 q599
       cases e599
       replace hx599_0 := (HB.out.cell (World.block_lt_of_cell? w _ hx599_0)).trans hx599_0
       replace p599 := eq_true p599
       replace q599 := eq_true q599
       go_wp2_with (first | ((with_reducible refine gate_builtin (b := .append) (xs := #[.tmp 20, .tmp 34]) rfl ?_); at_builtin; refine Kd.R_append (Kd.int .u8) (w0 := w) w.heap.size rfl (.tmp 20) (.tmp 34) 22 5 (.int .u8 0) 1 rfl Try.underlying22 info5 rfl (by decide) (by omega) u5 x5_1 ((wrap64 ((wrap64 ((wrap64 (rd l0 x6_1)) * 3)) + (wrap64 (a1 * (wrap64 ((Int.tmod x6_1 7) + 1)))))) % 256) [.int .u8 ((wrap64 ((wrap64 ((wrap64 (rd l0 x6_1)) * 3)) + (wrap64 (a1 * (wrap64 ((Int.tmod x6_1 7) + 1)))))) % 256)] (fun _ => True) (fun _ => False) rfl rfl ?aP (fun _ hk => hk.elim) ?aF ?aO ?aB ?aS ?aL ?_; (case aP => exact rfl); (case aB => exact (laB HB.out)); (case aF => exact (fun _ _ => trivial)); (case aO => exact (laR HO_5.out)); (case aS => exact (below_size (laB HB.out))); (case aL => have := LMc8.out; omega); intro v601 w9 ho hb hg hat; rw [← Ny600.out] at ho; have n0_ := Aside0.mk (hb); have n1_ := Aside0.mk (ho); clear HB; clear HO_5; have HB := n0_; have HO602 := n1_; clear n0_ n1_; clear ho hb hg hat))
       go_roundg k1
       case measure => have := HK1.out; omega
       case rel => exact ⟨(y600), (wrap64 (x6_1 + 1)), (by first | rfl | (simp; done) | (simp [*]; done)), H', ⟨by have := HK1.out; omega⟩, ⟨laR HO602.out⟩, ⟨laB HB.out⟩⟩
      ·rw [if_neg c8] at H
       exact absurd H (by simp)
     ·rw [if_neg c7] at H
      exact absurd H (by simp)
    ·rw [if_neg c6] at H
     have c6b0 : decide (x6_1 < 600) = false := decide_eq_false c6
     clear c6
     obtain rfl := Option.some.inj H
     go_wp2
     go_ret
     exact ⟨_, by first | rfl | (simp [errW_none, errW_some] <;> rfl) | (simp [*, errW_none, errW_some] <;> rfl), by (with_reducible repeat (first | apply Kd.R_alloc | apply Kd.R_drewN | apply Kd.R_drew)); exact HO_5.out, laB HB.out⟩
   ·rw [if_neg c5] at H
    have c5b0 : decide (x6_1 < (l0.length : Int)) = false := decide_eq_false c5
    clear c5
    obtain rfl := Option.some.inj H
    go_wp2
    go_ret
    exact ⟨_, by first | rfl | (simp [errW_none, errW_some] <;> rfl) | (simp [*, errW_none, errW_some] <;> rfl), by (with_reducible repeat (first | apply Kd.R_alloc | apply Kd.R_drewN | apply Kd.R_drew)); exact HO_5.out, laB HB.out⟩


end Go.Proofs.Ytekpggmnnfjphaa.P
