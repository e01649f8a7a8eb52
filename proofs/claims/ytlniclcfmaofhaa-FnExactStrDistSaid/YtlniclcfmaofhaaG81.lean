-- Written by this session's program mk.py with the kit's print program, out of the translation; not by hand. Lean checks it.
import Derived.Test.YtlniclcfmaofhaaP0
import Derived.Test.YtlniclcfmaofhaaHand
import Derived.Test.YtlniclcfmaofhaaG60
import Derived.Test.YtlniclcfmaofhaaG80
namespace Go.Proofs.Ytlniclcfmaofhaa.P
open Go.RowKit Go.Proofs.YtlniclcfmaofhaaW.PrintWords Go.Proofs.YtlniclcfmaofhaaW.PrintLast Go.Proofs.YtlniclcfmaofhaaW.PrintMore
attribute [local go_sem] max2_int min2_int max_two min_two max_three min_three max_four min_four   -- for this text's walks alone
set_option linter.unusedVariables false
set_option linter.unusedSimpArgs false


/-! ### spec_l25Labels: function 81 -/
def spec_l25Labels.l0 : Nat → List Int → Int → Option (Bool)
 | 0, _, _ => none
 | k + 1, x0, x3 => if x3 < (x0.length : Int) then (if 0 ≤ x3 then ((spec_LabelOk.f (rd x0 x3)).bind fun t557 => (if t557 = true then (spec_l25Labels.l0 k x0 (wrap64 (x3 + 1))) else (some false))) else (none)) else (some (decide ((x0.length : Int) ≤ 24)))
def spec_l25Labels.f (k : Nat) (l0 : List Int) : Option (Bool) := spec_l25Labels.l0 k l0 0
theorem spec_l25Labels.mono_l : ∀ k, (∀ y0 y1, LeO (spec_l25Labels.l0 k y0 y1) (spec_l25Labels.l0 (k + 1) y0 y1))
 | 0 => fun _ _ r h => by simp [spec_l25Labels.l0] at h
 | k + 1 => by
  have ih0 := spec_l25Labels.mono_l k
  ·intro y0 y1
   unfold spec_l25Labels.l0
   repeat' first
   | (with_reducible exact ih0 _ _)
   | (with_reducible exact LeO.refl _)
   | (with_reducible exact LeO.none _)
   | (with_reducible refine LeO.ite ?_ ?_)
   | (with_reducible refine LeO.bind ?_ (fun _ => ?_))
   | exact ih0 _ _
   | exact LeO.none _
   | refine LeO.ite ?_ ?_
   | refine LeO.bind ?_ (fun _ => ?_)
theorem spec_l25Labels.mono : ∀ a0 k, LeO (spec_l25Labels.f k a0) (spec_l25Labels.f (k + 1) a0) := by
 intro a0 k
 have ih0 := spec_l25Labels.mono_l k
 unfold spec_l25Labels.f
 repeat' first
   | (with_reducible exact ih0 _ _)
   | (with_reducible exact LeO.refl _)
   | (with_reducible exact LeO.none _)
   | (with_reducible refine LeO.ite ?_ ?_)
   | (with_reducible refine LeO.bind ?_ (fun _ => ?_))
   | exact ih0 _ _
   | exact LeO.none _
   | refine LeO.ite ?_ ?_
   | refine LeO.bind ?_ (fun _ => ?_)
set_option maxHeartbeats 8000000 in
set_option maxRecDepth 100000 in
theorem spec_l25Labels.calls (k : Nat) (A0 : Option Addr) (c0 : Nat) (l0 : List Int) (r : Bool) (w : World) (hr0 : Kd.C (Kd.int .i64) w A0 l0.length l0) (hc0 : l0.length ≤ c0) (h : spec_l25Labels.f k l0 = some r) :
  Calls Try.prog 81 #[.slice A0 l0.length c0] w fun e w' => e = .returned (.bool r) ∧ Drawn0 w w' := by
 have HR0 := Aside0.mk hr0
 have HC0 := Aside0.mk hc0
 clear hr0 hc0
 have H : (spec_l25Labels.l0 k l0 0) = some r := h
 clear h
 have H' := Aside0.mk H
 clear H
 go_enter Try.func81, Try.ntmps81
 go_wp2
 go_loopg [3] k (fun kq v3 w' => ∃ (x3_1 : Int), v3 = .int .i64 x3_1 ∧ Aside0 (spec_l25Labels.l0 kq l0 x3_1 = some r) ∧ Aside0 (kq ≤ k) ∧ Drawn0 w w')
 case atStart => exact ⟨(0), (by first | rfl | (simp; done) | (simp [*]; done)), H', ⟨Nat.le_refl _⟩, by repeat (first | exact Drawn0.refl _ | apply Drawn0.step)⟩
 case round =>
  clear H'
  obtain ⟨x3_1, rfl, HA, HK1, ⟨m1, rfl⟩⟩ := hrel
  cases gk with
  | zero => exact absurd HA.out (by simp [spec_l25Labels.l0])
  | succ k1 =>
   have H := HA.out
   clear HA
   simp only [spec_l25Labels.l0] at H
   by_cases c2 : x3_1 < (l0.length : Int)
   ·rw [if_pos c2] at H
    have c2b0 : decide (x3_1 < (l0.length : Int)) = true := decide_eq_true c2
    clear c2
    by_cases c3 : 0 ≤ x3_1
    ·rw [if_pos c3] at H
     have c3b0 : decide (0 ≤ x3_1) = true := decide_eq_true c3
     clear c3
     replace H := Option.bind_eq_some_iff.mp H
     obtain ⟨t557, A40, H⟩ := H
     have A4 := Aside0.mk A40
     clear A40
     by_cases c5 : t557 = true
     ·subst c5
      rw [if_pos rfl] at H
      have H' := Aside0.mk H
      clear H
      have p556 : 0 ≤ (x3_1 : Int) := of_decide_eq_true (by first | (with_reducible assumption) | assumption)
      have q556 : x3_1 < (l0.length : Int) := of_decide_eq_true (by first | (with_reducible assumption) | assumption)
      obtain ⟨ad556, e556, hx556_0⟩ := Kd.at_int HR0.out x3_1 p556 q556
      cases e556
      replace p556 := eq_true p556
      replace q556 := eq_true q556
      go_wp2_with (first | ((with_reducible refine gate_callee (f := 59) rfl ?_); refine goesL_ (some 14) rfl rfl Try.func59 (by kernel_rfl) rfl #[.int .i64 (rd l0 x3_1)] rfl (by (try simp only [List.map_toArray, List.map_cons, List.map_nil]); first | done | rfl | (simp only [List.length_drop, List.length_take]; rfl)) ?_; (with_reducible refine (spec_LabelOk.calls (rd l0 x3_1) true _ A4.out).mono ?_); rintro e w' ⟨rfl, ⟨nd, rfl⟩⟩; refine ⟨_, rfl, ?_⟩))
      go_roundg k1
      case measure => have := HK1.out; omega
      case rel => exact ⟨(wrap64 (x3_1 + 1)), (by first | rfl | (simp; done) | (simp [*]; done)), H', ⟨by have := HK1.out; omega⟩, by repeat (first | exact Drawn0.refl _ | apply Drawn0.step)⟩
     ·replace c5 := Bool.eq_false_iff.mpr c5
      subst c5
      rw [if_neg (show ¬ (false = true) by decide)] at H
      obtain rfl := Option.some.inj H
      have p556 : 0 ≤ (x3_1 : Int) := of_decide_eq_true (by first | (with_reducible assumption) | assumption)
      have q556 : x3_1 < (l0.length : Int) := of_decide_eq_true (by first | (with_reducible assumption) | assumption)
      obtain ⟨ad556, e556, hx556_0⟩ := Kd.at_int HR0.out x3_1 p556 q556
      cases e556
      replace p556 := eq_true p556
      replace q556 := eq_true q556
      go_wp2_with (first | ((with_reducible refine gate_callee (f := 59) rfl ?_); refine goesL_ (some 14) rfl rfl Try.func59 (by kernel_rfl) rfl #[.int .i64 (rd l0 x3_1)] rfl (by (try simp only [List.map_toArray, List.map_cons, List.map_nil]); first | done | rfl | (simp only [List.length_drop, List.length_take]; rfl)) ?_; (with_reducible refine (spec_LabelOk.calls (rd l0 x3_1) false _ A4.out).mono ?_); rintro e w' ⟨rfl, ⟨nd, rfl⟩⟩; refine ⟨_, rfl, ?_⟩))
      go_ret
      exact ⟨by first | rfl | (simp; done) | (simp [*]; done), by repeat (first | exact Drawn0.refl _ | apply Drawn0.step)⟩
    ·rw [if_neg c3] at H
     exact absurd H (by simp)
   ·rw [if_neg c2] at H
    have c2b0 : decide (x3_1 < (l0.length : Int)) = false := decide_eq_false c2
    clear c2
    obtain rfl := Option.some.inj H
    go_wp2
    go_ret
    exact ⟨by first | rfl | (simp; done) | (simp [*]; done), by repeat (first | exact Drawn0.refl _ | apply Drawn0.step)⟩



/-! ### spec_StrDist: function 47 -/
mutual
def spec_StrDist.j0 : Nat → List Int → List Int → Bool → List Int → List Int → List Int → Option (Int)
 | 0, _, _, _, _, _, _ => none
 | k + 1, x0, x1, x24, x566000, x566001, x566002 => if x24 = true then (some (-1)) else (if 0 ≤ (wrap64 ((wrap64 ((x0.length : Int) + 1)) * (wrap64 ((x1.length : Int) + 1)))) then (if (wrap64 ((wrap64 ((x0.length : Int) + 1)) * (wrap64 ((x1.length : Int) + 1))) : Int).toNat ≤ 35184372088832 then (spec_StrDist.l0 k x0 x1 (wrap64 ((x1.length : Int) + 1)) (List.replicate (wrap64 ((wrap64 ((x0.length : Int) + 1)) * (wrap64 ((x1.length : Int) + 1))) : Int).toNat 0) 0 x566000 x566001 x566002) else (none)) else (none))
def spec_StrDist.l0 : Nat → List Int → List Int → Int → List Int → Int → List Int → List Int → List Int → Option (Int)
 | 0, _, _, _, _, _, _, _, _ => none
 | k + 1, x0, x1, x7, x8, x9, x566000, x566001, x566002 => if x9 ≤ (x0.length : Int) then (spec_StrDist.l1 k x0 x1 x7 x8 x9 0 x566000 x566001 x566002) else (if 0 ≤ (wrap64 ((x8.length : Int) - 1)) then (if (wrap64 ((x8.length : Int) - 1)) < (x8.length : Int) then (some (rd x8 (wrap64 ((x8.length : Int) - 1)))) else (none)) else (none))
def spec_StrDist.l1 : Nat → List Int → List Int → Int → List Int → Int → Int → List Int → List Int → List Int → Option (Int)
 | 0, _, _, _, _, _, _, _, _, _ => none
 | k + 1, x0, x1, x7, x8, x9, x10, x566000, x566001, x566002 => if x10 ≤ (x1.length : Int) then (if x9 = 0 then (spec_StrDist.j3 k x0 x1 x7 x8 x9 x10 (x10 == 0) x566000 x566001 x566002) else (spec_StrDist.j3 k x0 x1 x7 x8 x9 x10 false x566000 x566001 x566002)) else (spec_StrDist.l0 k x0 x1 x7 x8 (wrap64 (x9 + 1)) x566000 x566001 x566002)
def spec_StrDist.j3 : Nat → List Int → List Int → Int → List Int → Int → Int → Bool → List Int → List Int → List Int → Option (Int)
 | 0, _, _, _, _, _, _, _, _, _, _ => none
 | k + 1, x0, x1, x7, x8, x9, x10, x51, x566000, x566001, x566002 => if x51 = true then (spec_StrDist.l1 k x0 x1 x7 x8 x9 (wrap64 (x10 + 1)) x566000 x566001 x566002) else (if x9 > 0 then (if 0 ≤ (wrap64 ((wrap64 ((wrap64 (x9 - 1)) * x7)) + x10)) then (if (wrap64 ((wrap64 ((wrap64 (x9 - 1)) * x7)) + x10)) < (x8.length : Int) then (if 0 ≤ (wrap64 (x9 - 1)) then (if (wrap64 (x9 - 1)) < (x0.length : Int) then (if 0 ≤ (rd x0 (wrap64 (x9 - 1))) then (if (rd x0 (wrap64 (x9 - 1))) < (x566000.length : Int) then (spec_StrDist.j4 k x0 x1 x7 x8 x9 x10 (mn 1000000000 (wrap64 ((rd x8 (wrap64 ((wrap64 ((wrap64 (x9 - 1)) * x7)) + x10))) + (rd x566000 (rd x0 (wrap64 (x9 - 1))))))) x566000 x566001 x566002) else (none)) else (none)) else (none)) else (none)) else (none)) else (none)) else (spec_StrDist.j4 k x0 x1 x7 x8 x9 x10 1000000000 x566000 x566001 x566002))
def spec_StrDist.j4 : Nat → List Int → List Int → Int → List Int → Int → Int → Int → List Int → List Int → List Int → Option (Int)
 | 0, _, _, _, _, _, _, _, _, _, _ => none
 | k + 1, x0, x1, x7, x8, x9, x10, x11, x566000, x566001, x566002 => if x10 > 0 then (if 0 ≤ (wrap64 ((wrap64 ((wrap64 (x9 * x7)) + x10)) - 1)) then (if (wrap64 ((wrap64 ((wrap64 (x9 * x7)) + x10)) - 1)) < (x8.length : Int) then (if 0 ≤ (wrap64 (x10 - 1)) then (if (wrap64 (x10 - 1)) < (x1.length : Int) then (if 0 ≤ (rd x1 (wrap64 (x10 - 1))) then (if (rd x1 (wrap64 (x10 - 1))) < (x566001.length : Int) then (if x9 > 0 then (if 0 ≤ (wrap64 ((wrap64 ((wrap64 ((wrap64 (x9 - 1)) * x7)) + x10)) - 1)) then (if (wrap64 ((wrap64 ((wrap64 ((wrap64 (x9 - 1)) * x7)) + x10)) - 1)) < (x8.length : Int) then (if 0 ≤ (wrap64 (x9 - 1)) then (if (wrap64 (x9 - 1)) < (x0.length : Int) then (if 0 ≤ (wrap64 ((wrap64 ((rd x0 (wrap64 (x9 - 1))) * 6)) + (rd x1 (wrap64 (x10 - 1))))) then (if (wrap64 ((wrap64 ((rd x0 (wrap64 (x9 - 1))) * 6)) + (rd x1 (wrap64 (x10 - 1))))) < (x566002.length : Int) then (if 0 ≤ (wrap64 ((wrap64 (x9 * x7)) + x10)) then (if (wrap64 ((wrap64 (x9 * x7)) + x10)) < (x8.length : Int) then (spec_StrDist.l1 k x0 x1 x7 (x8.set ((wrap64 ((wrap64 (x9 * x7)) + x10)) : Int).toNat (mn (mn x11 (wrap64 ((rd x8 (wrap64 ((wrap64 ((wrap64 (x9 * x7)) + x10)) - 1))) + (rd x566001 (rd x1 (wrap64 (x10 - 1))))))) (wrap64 ((rd x8 (wrap64 ((wrap64 ((wrap64 ((wrap64 (x9 - 1)) * x7)) + x10)) - 1))) + (rd x566002 (wrap64 ((wrap64 ((rd x0 (wrap64 (x9 - 1))) * 6)) + (rd x1 (wrap64 (x10 - 1)))))))))) x9 (wrap64 (x10 + 1)) x566000 x566001 x566002) else (none)) else (none)) else (none)) else (none)) else (none)) else (none)) else (none)) else (none)) else (if 0 ≤ (wrap64 ((wrap64 (x9 * x7)) + x10)) then (if (wrap64 ((wrap64 (x9 * x7)) + x10)) < (x8.length : Int) then (spec_StrDist.l1 k x0 x1 x7 (x8.set ((wrap64 ((wrap64 (x9 * x7)) + x10)) : Int).toNat (mn x11 (wrap64 ((rd x8 (wrap64 ((wrap64 ((wrap64 (x9 * x7)) + x10)) - 1))) + (rd x566001 (rd x1 (wrap64 (x10 - 1)))))))) x9 (wrap64 (x10 + 1)) x566000 x566001 x566002) else (none)) else (none))) else (none)) else (none)) else (none)) else (none)) else (none)) else (none)) else (if x9 > 0 then (if 0 ≤ (wrap64 ((wrap64 (x9 * x7)) + x10)) then (if (wrap64 ((wrap64 (x9 * x7)) + x10)) < (x8.length : Int) then (spec_StrDist.l1 k x0 x1 x7 (x8.set ((wrap64 ((wrap64 (x9 * x7)) + x10)) : Int).toNat x11) x9 (wrap64 (x10 + 1)) x566000 x566001 x566002) else (none)) else (none)) else (if 0 ≤ (wrap64 ((wrap64 (x9 * x7)) + x10)) then (if (wrap64 ((wrap64 (x9 * x7)) + x10)) < (x8.length : Int) then (spec_StrDist.l1 k x0 x1 x7 (x8.set ((wrap64 ((wrap64 (x9 * x7)) + x10)) : Int).toNat x11) x9 (wrap64 (x10 + 1)) x566000 x566001 x566002) else (none)) else (none)))
end
def spec_StrDist.f (k : Nat) (l0 : List Int) (l1 : List Int) (l2_0 : List Int) (l2_1 : List Int) (l2_2 : List Int) : Option (Int) := (spec_l25Labels.f k l0).bind fun t566 => (if t566 = true then ((spec_l25Labels.f k l1).bind fun t567 => (if t567 = true then ((spec_CostOk.f k l2_0 l2_1 l2_2).bind fun t568 => (spec_StrDist.j0 k l0 l1 (!t568) l2_0 l2_1 l2_2)) else (spec_StrDist.j0 k l0 l1 true l2_0 l2_1 l2_2))) else (spec_StrDist.j0 k l0 l1 true l2_0 l2_1 l2_2))
theorem spec_StrDist.mono_l : ∀ k, (∀ y0 y1 y2 y3 y4 y5, LeO (spec_StrDist.j0 k y0 y1 y2 y3 y4 y5) (spec_StrDist.j0 (k + 1) y0 y1 y2 y3 y4 y5)) ∧ (∀ y0 y1 y2 y3 y4 y5 y6 y7, LeO (spec_StrDist.l0 k y0 y1 y2 y3 y4 y5 y6 y7) (spec_StrDist.l0 (k + 1) y0 y1 y2 y3 y4 y5 y6 y7)) ∧ (∀ y0 y1 y2 y3 y4 y5 y6 y7 y8, LeO (spec_StrDist.l1 k y0 y1 y2 y3 y4 y5 y6 y7 y8) (spec_StrDist.l1 (k + 1) y0 y1 y2 y3 y4 y5 y6 y7 y8)) ∧ (∀ y0 y1 y2 y3 y4 y5 y6 y7 y8 y9, LeO (spec_StrDist.j3 k y0 y1 y2 y3 y4 y5 y6 y7 y8 y9) (spec_StrDist.j3 (k + 1) y0 y1 y2 y3 y4 y5 y6 y7 y8 y9)) ∧ (∀ y0 y1 y2 y3 y4 y5 y6 y7 y8 y9, LeO (spec_StrDist.j4 k y0 y1 y2 y3 y4 y5 y6 y7 y8 y9) (spec_StrDist.j4 (k + 1) y0 y1 y2 y3 y4 y5 y6 y7 y8 y9))
 | 0 => ⟨fun _ _ _ _ _ _ r h => by simp [spec_StrDist.j0] at h, fun _ _ _ _ _ _ _ _ r h => by simp [spec_StrDist.l0] at h, fun _ _ _ _ _ _ _ _ _ r h => by simp [spec_StrDist.l1] at h, fun _ _ _ _ _ _ _ _ _ _ r h => by simp [spec_StrDist.j3] at h, fun _ _ _ _ _ _ _ _ _ _ r h => by simp [spec_StrDist.j4] at h⟩
 | k + 1 => by
  obtain ⟨ih0, ih1, ih2, ih3, ih4⟩ := spec_StrDist.mono_l k
  refine ⟨?_, ?_, ?_, ?_, ?_⟩
  ·intro y0 y1 y2 y3 y4 y5
   unfold spec_StrDist.j0
   repeat' first
   | (with_reducible exact ih0 _ _ _ _ _ _)
   | (with_reducible exact ih1 _ _ _ _ _ _ _ _)
   | (with_reducible exact ih2 _ _ _ _ _ _ _ _ _)
   | (with_reducible exact ih3 _ _ _ _ _ _ _ _ _ _)
   | (with_reducible exact ih4 _ _ _ _ _ _ _ _ _ _)
   | (with_reducible exact spec_CostOk.mono _ _ _ _)
   | (with_reducible exact spec_l25Labels.mono _ _)
   | (with_reducible exact LeO.refl _)
   | (with_reducible exact LeO.none _)
   | (with_reducible refine LeO.ite ?_ ?_)
   | (with_reducible refine LeO.bind ?_ (fun _ => ?_))
   | exact ih0 _ _ _ _ _ _
   | exact ih1 _ _ _ _ _ _ _ _
   | exact ih2 _ _ _ _ _ _ _ _ _
   | exact ih3 _ _ _ _ _ _ _ _ _ _
   | exact ih4 _ _ _ _ _ _ _ _ _ _
   | exact spec_CostOk.mono _ _ _ _
   | exact spec_l25Labels.mono _ _
   | exact LeO.none _
   | refine LeO.ite ?_ ?_
   | refine LeO.bind ?_ (fun _ => ?_)
  ·intro y0 y1 y2 y3 y4 y5 y6 y7
   unfold spec_StrDist.l0
   repeat' first
   | (with_reducible exact ih0 _ _ _ _ _ _)
   | (with_reducible exact ih1 _ _ _ _ _ _ _ _)
   | (with_reducible exact ih2 _ _ _ _ _ _ _ _ _)
   | (with_reducible exact ih3 _ _ _ _ _ _ _ _ _ _)
   | (with_reducible exact ih4 _ _ _ _ _ _ _ _ _ _)
   | (with_reducible exact spec_CostOk.mono _ _ _ _)
   | (with_reducible exact spec_l25Labels.mono _ _)
   | (with_reducible exact LeO.refl _)
   | (with_reducible exact LeO.none _)
   | (with_reducible refine LeO.ite ?_ ?_)
   | (with_reducible refine LeO.bind ?_ (fun _ => ?_))
   | exact ih0 _ _ _ _ _ _
   | exact ih1 _ _ _ _ _ _ _ _
   | exact ih2 _ _ _ _ _ _ _ _ _
   | exact ih3 _ _ _ _ _ _ _ _ _ _
   | exact ih4 _ _ _ _ _ _ _ _ _ _
   | exact spec_CostOk.mono _ _ _ _
   | exact spec_l25Labels.mono _ _
   | exact LeO.none _
   | refine LeO.ite ?_ ?_
   | refine LeO.bind ?_ (fun _ => ?_)
  ·intro y0 y1 y2 y3 y4 y5 y6 y7 y8
   unfold spec_StrDist.l1
   repeat' first
   | (with_reducible exact ih0 _ _ _ _ _ _)
   | (with_reducible exact ih1 _ _ _ _ _ _ _ _)
   | (with_reducible exact ih2 _ _ _ _ _ _ _ _ _)
   | (with_reducible exact ih3 _ _ _ _ _ _ _ _ _ _)
   | (with_reducible exact ih4 _ _ _ _ _ _ _ _ _ _)
   | (with_reducible exact spec_CostOk.mono _ _ _ _)
   | (with_reducible exact spec_l25Labels.mono _ _)
   | (with_reducible exact LeO.refl _)
   | (with_reducible exact LeO.none _)
   | (with_reducible refine LeO.ite ?_ ?_)
   | (with_reducible refine LeO.bind ?_ (fun _ => ?_))
   | exact ih0 _ _ _ _ _ _
   | exact ih1 _ _ _ _ _ _ _ _
   | exact ih2 _ _ _ _ _ _ _ _ _
   | exact ih3 _ _ _ _ _ _ _ _ _ _
   | exact ih4 _ _ _ _ _ _ _ _ _ _
   | exact spec_CostOk.mono _ _ _ _
   | exact spec_l25Labels.mono _ _
   | exact LeO.none _
   | refine LeO.ite ?_ ?_
   | refine LeO.bind ?_ (fun _ => ?_)
  ·intro y0 y1 y2 y3 y4 y5 y6 y7 y8 y9
   unfold spec_StrDist.j3
   repeat' first
   | (with_reducible exact ih0 _ _ _ _ _ _)
   | (with_reducible exact ih1 _ _ _ _ _ _ _ _)
   | (with_reducible exact ih2 _ _ _ _ _ _ _ _ _)
   | (with_reducible exact ih3 _ _ _ _ _ _ _ _ _ _)
   | (with_reducible exact ih4 _ _ _ _ _ _ _ _ _ _)
   | (with_reducible exact spec_CostOk.mono _ _ _ _)
   | (with_reducible exact spec_l25Labels.mono _ _)
   | (with_reducible exact LeO.refl _)
   | (with_reducible exact LeO.none _)
   | (with_reducible refine LeO.ite ?_ ?_)
   | (with_reducible refine LeO.bind ?_ (fun _ => ?_))
   | exact ih0 _ _ _ _ _ _
   | exact ih1 _ _ _ _ _ _ _ _
   | exact ih2 _ _ _ _ _ _ _ _ _
   | exact ih3 _ _ _ _ _ _ _ _ _ _
   | exact ih4 _ _ _ _ _ _ _ _ _ _
   | exact spec_CostOk.mono _ _ _ _
   | exact spec_l25Labels.mono _ _
   | exact LeO.none _
   | refine LeO.ite ?_ ?_
   | refine LeO.bind ?_ (fun _ => ?_)
  ·intro y0 y1 y2 y3 y4 y5 y6 y7 y8 y9
   unfold spec_StrDist.j4
   repeat' first
   | (with_reducible exact ih0 _ _ _ _ _ _)
   | (with_reducible exact ih1 _ _ _ _ _ _ _ _)
   | (with_reducible exact ih2 _ _ _ _ _ _ _ _ _)
   | (with_reducible exact ih3 _ _ _ _ _ _ _ _ _ _)
   | (with_reducible exact ih4 _ _ _ _ _ _ _ _ _ _)
   | (with_reducible exact spec_CostOk.mono _ _ _ _)
   | (with_reducible exact spec_l25Labels.mono _ _)
   | (with_reducible exact LeO.refl _)
   | (with_reducible exact LeO.none _)
   | (with_reducible refine LeO.ite ?_ ?_)
   | (with_reducible refine LeO.bind ?_ (fun _ => ?_))
   | exact ih0 _ _ _ _ _ _
   | exact ih1 _ _ _ _ _ _ _ _
   | exact ih2 _ _ _ _ _ _ _ _ _
   | exact ih3 _ _ _ _ _ _ _ _ _ _
   | exact ih4 _ _ _ _ _ _ _ _ _ _
   | exact spec_CostOk.mono _ _ _ _
   | exact spec_l25Labels.mono _ _
   | exact LeO.none _
   | refine LeO.ite ?_ ?_
   | refine LeO.bind ?_ (fun _ => ?_)
theorem spec_StrDist.mono : ∀ a0 a1 a2 a3 a4 k, LeO (spec_StrDist.f k a0 a1 a2 a3 a4) (spec_StrDist.f (k + 1) a0 a1 a2 a3 a4) := by
 intro a0 a1 a2 a3 a4 k
 obtain ⟨ih0, ih1, ih2, ih3, ih4⟩ := spec_StrDist.mono_l k
 unfold spec_StrDist.f
 repeat' first
   | (with_reducible exact ih0 _ _ _ _ _ _)
   | (with_reducible exact ih1 _ _ _ _ _ _ _ _)
   | (with_reducible exact ih2 _ _ _ _ _ _ _ _ _)
   | (with_reducible exact ih3 _ _ _ _ _ _ _ _ _ _)
   | (with_reducible exact ih4 _ _ _ _ _ _ _ _ _ _)
   | (with_reducible exact spec_CostOk.mono _ _ _ _)
   | (with_reducible exact spec_l25Labels.mono _ _)
   | (with_reducible exact LeO.refl _)
   | (with_reducible exact LeO.none _)
   | (with_reducible refine LeO.ite ?_ ?_)
   | (with_reducible refine LeO.bind ?_ (fun _ => ?_))
   | exact ih0 _ _ _ _ _ _
   | exact ih1 _ _ _ _ _ _ _ _
   | exact ih2 _ _ _ _ _ _ _ _ _
   | exact ih3 _ _ _ _ _ _ _ _ _ _
   | exact ih4 _ _ _ _ _ _ _ _ _ _
   | exact spec_CostOk.mono _ _ _ _
   | exact spec_l25Labels.mono _ _
   | exact LeO.none _
   | refine LeO.ite ?_ ?_
   | refine LeO.bind ?_ (fun _ => ?_)
set_option maxHeartbeats 8000000 in
set_option maxRecDepth 100000 in
theorem spec_StrDist.calls (k : Nat) (A0 : Option Addr) (c0 : Nat) (l0 : List Int) (A1 : Option Addr) (c1 : Nat) (l1 : List Int) (A2_0 : Option Addr) (c2_0 : Nat) (l2_0 : List Int) (A2_1 : Option Addr) (c2_1 : Nat) (l2_1 : List Int) (A2_2 : Option Addr) (c2_2 : Nat) (l2_2 : List Int) (r : Int) (w : World) (hr0 : Kd.C (Kd.int .i64) w A0 l0.length l0) (hc0 : l0.length ≤ c0) (hr1 : Kd.C (Kd.int .i64) w A1 l1.length l1) (hc1 : l1.length ≤ c1) (hr2_0 : Kd.C (Kd.int .i64) w A2_0 l2_0.length l2_0) (hc2_0 : l2_0.length ≤ c2_0) (hr2_1 : Kd.C (Kd.int .i64) w A2_1 l2_1.length l2_1) (hc2_1 : l2_1.length ≤ c2_1) (hr2_2 : Kd.C (Kd.int .i64) w A2_2 l2_2.length l2_2) (hc2_2 : l2_2.length ≤ c2_2) (h : spec_StrDist.f k l0 l1 l2_0 l2_1 l2_2 = some r) :
  Calls Try.prog 47 #[.slice A0 l0.length c0, .slice A1 l1.length c1, .agg #[.slice A2_0 l2_0.length c2_0, .slice A2_1 l2_1.length c2_1, .slice A2_2 l2_2.length c2_2]] w fun e w' => e = .returned (.int .i64 r) ∧ Below w.heap.size w w' := by
 have hu60 := Try.underlying60
 have HR0 := Aside0.mk hr0
 have HC0 := Aside0.mk hc0
 clear hr0 hc0
 have HR1 := Aside0.mk hr1
 have HC1 := Aside0.mk hc1
 clear hr1 hc1
 have HR2_0 := Aside0.mk hr2_0
 have HC2_0 := Aside0.mk hc2_0
 clear hr2_0 hc2_0
 have HR2_1 := Aside0.mk hr2_1
 have HC2_1 := Aside0.mk hc2_1
 clear hr2_1 hc2_1
 have HR2_2 := Aside0.mk hr2_2
 have HC2_2 := Aside0.mk hc2_2
 clear hr2_2 hc2_2
 have HB := Aside0.mk (Below.refl w.heap.size w)
 have H : ((spec_l25Labels.f k l0).bind fun t566 => (if t566 = true then ((spec_l25Labels.f k l1).bind fun t567 => (if t567 = true then ((spec_CostOk.f k l2_0 l2_1 l2_2).bind fun t568 => (spec_StrDist.j0 k l0 l1 (!t568) l2_0 l2_1 l2_2)) else (spec_StrDist.j0 k l0 l1 true l2_0 l2_1 l2_2))) else (spec_StrDist.j0 k l0 l1 true l2_0 l2_1 l2_2))) = some r := h
 clear h
 have HC4 := Aside0.mk H
 clear H
 go_enter Try.func47, Try.ntmps47
 go_upto_region 1 with (first | ((with_reducible refine gate_dst (N := 5) rfl ?_); refine box_event ?hg (N := 5) ?hd (cs := #[.slice A2_0 l2_0.length c2_0, .slice A2_1 l2_1.length c2_1, .slice A2_2 l2_2.length c2_2]) (t := 60) ?hr ?_; (case hd => rfl); (case hg => rfl); (case hr => first | (go_simp; done) | (go_simp; rfl)); intro gb565 hg w5 hbox hb; have n0_ := Aside0.mk (below_step (by repeat (first | (with_reducible first | exact HB.out | apply below_alloc | apply pw_below_drewN | apply below_drew1) | exact HB.out)) hb); have n1_ := Aside0.mk (hbox); have n2_ := Aside0.mk ((by rw [hg]; exact (below_size (by repeat (first | (with_reducible first | exact HB.out | apply below_alloc | apply pw_below_drewN | apply below_drew1) | exact HB.out))) : w.heap.size ≤ gb565)); have n3_ := Aside0.mk ((by rw [hg]; exact (below_size (by repeat (first | (with_reducible first | exact HB.out | apply below_alloc | apply pw_below_drewN | apply below_drew1) | exact HB.out))) : w.heap.size ≤ gb565)); clear HB; have HB := n0_; have BK565 := n1_; have GW565 := n2_; have GE565 := n3_; clear n0_ n1_ n2_ n3_; clear hb hbox hg))
 repeat (go_quiet (first | ((with_reducible refine gate_dst (N := 5) rfl ?_); refine box_event ?hg (N := 5) ?hd (cs := #[.slice A2_0 l2_0.length c2_0, .slice A2_1 l2_1.length c2_1, .slice A2_2 l2_2.length c2_2]) (t := 60) ?hr ?_; (case hd => rfl); (case hg => rfl); (case hr => first | (go_simp; done) | (go_simp; rfl)); intro gb565 hg w5 hbox hb; have n0_ := Aside0.mk (below_step (by repeat (first | (with_reducible first | exact HB.out | apply below_alloc | apply pw_below_drewN | apply below_drew1) | exact HB.out)) hb); have n1_ := Aside0.mk (hbox); have n2_ := Aside0.mk ((by rw [hg]; exact (below_size (by repeat (first | (with_reducible first | exact HB.out | apply below_alloc | apply pw_below_drewN | apply below_drew1) | exact HB.out))) : w.heap.size ≤ gb565)); have n3_ := Aside0.mk ((by rw [hg]; exact (below_size (by repeat (first | (with_reducible first | exact HB.out | apply below_alloc | apply pw_below_drewN | apply below_drew1) | exact HB.out))) : w.heap.size ≤ gb565)); clear HB; have HB := n0_; have BK565 := n1_; have GW565 := n2_; have GE565 := n3_; clear n0_ n1_ n2_ n3_; clear hb hbox hg)); go_upto_region 1 with (first | ((with_reducible refine gate_dst (N := 5) rfl ?_); refine box_event ?hg (N := 5) ?hd (cs := #[.slice A2_0 l2_0.length c2_0, .slice A2_1 l2_1.length c2_1, .slice A2_2 l2_2.length c2_2]) (t := 60) ?hr ?_; (case hd => rfl); (case hg => rfl); (case hr => first | (go_simp; done) | (go_simp; rfl)); intro gb565 hg w5 hbox hb; have n0_ := Aside0.mk (below_step (by repeat (first | (with_reducible first | exact HB.out | apply below_alloc | apply pw_below_drewN | apply below_drew1) | exact HB.out)) hb); have n1_ := Aside0.mk (hbox); have n2_ := Aside0.mk ((by rw [hg]; exact (below_size (by repeat (first | (with_reducible first | exact HB.out | apply below_alloc | apply pw_below_drewN | apply below_drew1) | exact HB.out))) : w.heap.size ≤ gb565)); have n3_ := Aside0.mk ((by rw [hg]; exact (below_size (by repeat (first | (with_reducible first | exact HB.out | apply below_alloc | apply pw_below_drewN | apply below_drew1) | exact HB.out))) : w.heap.size ≤ gb565)); clear HB; have HB := n0_; have BK565 := n1_; have GW565 := n2_; have GE565 := n3_; clear n0_ n1_ n2_ n3_; clear hb hbox hg)))
 (try simp only [Act.put, List.setIfInBounds_toArray, List.set_cons_zero, List.set_cons_succ])
 go_cut [24] (fun v24 wc => ∃ (kq : Nat) (x24_3 : Bool), v24 = .bool x24_3 ∧ Aside0 (spec_StrDist.j0 kq l0 l1 x24_3 l2_0 l2_1 l2_2 = some r) ∧ Aside0 (kq ≤ k) ∧ Aside0 (wc.heap[gb565]? = some (.cells #[(.slice A2_0 l2_0.length c2_0), (.slice A2_1 l2_1.length c2_1), (.slice A2_2 l2_2.length c2_2)] 60 (0, 0))) ∧ Aside0 (Below w.heap.size w wc))
 case first =>
  have H := HC4.out
  clear HC4
  replace H := Option.bind_eq_some_iff.mp H
  obtain ⟨t566, A60, H⟩ := H
  have A6 := Aside0.mk A60
  clear A60
  by_cases c7 : t566 = true
  ·subst c7
   rw [if_pos rfl] at H
   replace H := Option.bind_eq_some_iff.mp H
   obtain ⟨t567, A80, H⟩ := H
   have A8 := Aside0.mk A80
   clear A80
   by_cases c9 : t567 = true
   ·subst c9
    rw [if_pos rfl] at H
    replace H := Option.bind_eq_some_iff.mp H
    obtain ⟨t568, A100, H⟩ := H
    have A10 := Aside0.mk A100
    clear A100
    have H' := Aside0.mk H
    clear H
    go_wp2_with (first | (go_at_call 81; (with_reducible refine (spec_l25Labels.calls k _ _ l0 true _ ?side1 ?side2 A6.out).mono ?_); (case side1 => repeat (first | exact (Kd.C_below HR0.out HB.out) | (with_reducible refine Kd.C_alloc ?_ _) | (with_reducible refine Kd.C_drewN ?_ _) | (with_reducible refine Kd.C_drew ?_))); (case side2 => exact HC0.out); rintro e w' ⟨rfl, ⟨nd, rfl⟩⟩; (try first | exact ⟨rfl, _, World.drewN_drewN _ _ _⟩ | exact ⟨rfl, _, Eq.trans (World.drewN_drewN _ _ _) (congrArg (World.drewN _) (Nat.add_assoc _ _ _))⟩)) | (go_at_call 81; (with_reducible refine (spec_l25Labels.calls k _ _ l1 true _ ?side1 ?side2 A8.out).mono ?_); (case side1 => repeat (first | exact (Kd.C_below HR1.out (by repeat (first | (with_reducible first | exact HB.out | apply below_alloc | apply pw_below_drewN | apply below_drew1 | refine below_set ?_ GE565.out) | exact HB.out))) | (with_reducible refine Kd.C_alloc ?_ _) | (with_reducible refine Kd.C_drewN ?_ _) | (with_reducible refine Kd.C_drew ?_))); (case side2 => exact HC1.out); rintro e w' ⟨rfl, ⟨nd, rfl⟩⟩; (try first | exact ⟨rfl, _, World.drewN_drewN _ _ _⟩ | exact ⟨rfl, _, Eq.trans (World.drewN_drewN _ _ _) (congrArg (World.drewN _) (Nat.add_assoc _ _ _))⟩); have hcz11_0 : w5.cell? ⟨gb565, 0, none⟩ = some (.slice A2_0 l2_0.length c2_0) := (blk_cell BK565.out 0).trans rfl; have hcz11_1 : w5.cell? ⟨gb565, 1, none⟩ = some (.slice A2_1 l2_1.length c2_1) := (blk_cell BK565.out 1).trans rfl; have hcz11_2 : w5.cell? ⟨gb565, 2, none⟩ = some (.slice A2_2 l2_2.length c2_2) := (blk_cell BK565.out 2).trans rfl; have hfz11_0 := blk_frozen BK565.out 0; have hfz11_1 := blk_frozen BK565.out 1; have hfz11_2 := blk_frozen BK565.out 2) | (go_at_call 82; (with_reducible refine (spec_CostOk.calls k _ _ l2_0 _ _ l2_1 _ _ l2_2 t568 _ ?side1 ?side2 ?side3 ?side4 ?side5 ?side6 A10.out).mono ?_); (case side1 => repeat (first | exact (Kd.C_below HR2_0.out (by repeat (first | (with_reducible first | exact HB.out | apply below_alloc | apply pw_below_drewN | apply below_drew1 | refine below_set ?_ GE565.out) | exact HB.out))) | (with_reducible refine Kd.C_alloc ?_ _) | (with_reducible refine Kd.C_drewN ?_ _) | (with_reducible refine Kd.C_drew ?_))); (case side2 => exact HC2_0.out); (case side3 => repeat (first | exact (Kd.C_below HR2_1.out (by repeat (first | (with_reducible first | exact HB.out | apply below_alloc | apply pw_below_drewN | apply below_drew1 | refine below_set ?_ GE565.out) | exact HB.out))) | (with_reducible refine Kd.C_alloc ?_ _) | (with_reducible refine Kd.C_drewN ?_ _) | (with_reducible refine Kd.C_drew ?_))); (case side4 => exact HC2_1.out); (case side5 => repeat (first | exact (Kd.C_below HR2_2.out (by repeat (first | (with_reducible first | exact HB.out | apply below_alloc | apply pw_below_drewN | apply below_drew1 | refine below_set ?_ GE565.out) | exact HB.out))) | (with_reducible refine Kd.C_alloc ?_ _) | (with_reducible refine Kd.C_drewN ?_ _) | (with_reducible refine Kd.C_drew ?_))); (case side6 => exact HC2_2.out); rintro e w12 ⟨rfl, hb⟩; have n0_ := Aside0.mk (blk_below (g := gb565) (o := .cells #[.slice A2_0 l2_0.length c2_0, .slice A2_1 l2_1.length c2_1, .slice A2_2 l2_2.length c2_2] 60 (0, 0)) (by (with_reducible repeat (first | refine blk_drewN ?_ _ | refine blk_drew ?_ | refine blk_alloc ?_ _)); exact BK565.out) hb); have n1_ := Aside0.mk (below_step (by repeat (first | (with_reducible first | exact HB.out | apply below_alloc | apply pw_below_drewN | apply below_drew1 | refine below_set ?_ GE565.out) | exact HB.out)) hb); clear BK565; clear HB; have BK565 := n0_; have HB := n1_; clear n0_ n1_; (try clear hb); (try clear hb2); (try clear hk); (try clear hi)))
    repeat (go_quiet (first | (go_at_call 81; (with_reducible refine (spec_l25Labels.calls k _ _ l0 true _ ?side1 ?side2 A6.out).mono ?_); (case side1 => repeat (first | exact (Kd.C_below HR0.out HB.out) | (with_reducible refine Kd.C_alloc ?_ _) | (with_reducible refine Kd.C_drewN ?_ _) | (with_reducible refine Kd.C_drew ?_))); (case side2 => exact HC0.out); rintro e w' ⟨rfl, ⟨nd, rfl⟩⟩; (try first | exact ⟨rfl, _, World.drewN_drewN _ _ _⟩ | exact ⟨rfl, _, Eq.trans (World.drewN_drewN _ _ _) (congrArg (World.drewN _) (Nat.add_assoc _ _ _))⟩)) | (go_at_call 81; (with_reducible refine (spec_l25Labels.calls k _ _ l1 true _ ?side1 ?side2 A8.out).mono ?_); (case side1 => repeat (first | exact (Kd.C_below HR1.out (by repeat (first | (with_reducible first | exact HB.out | apply below_alloc | apply pw_below_drewN | apply below_drew1 | refine below_set ?_ GE565.out) | exact HB.out))) | (with_reducible refine Kd.C_alloc ?_ _) | (with_reducible refine Kd.C_drewN ?_ _) | (with_reducible refine Kd.C_drew ?_))); (case side2 => exact HC1.out); rintro e w' ⟨rfl, ⟨nd, rfl⟩⟩; (try first | exact ⟨rfl, _, World.drewN_drewN _ _ _⟩ | exact ⟨rfl, _, Eq.trans (World.drewN_drewN _ _ _) (congrArg (World.drewN _) (Nat.add_assoc _ _ _))⟩); have hcz11_0 : w5.cell? ⟨gb565, 0, none⟩ = some (.slice A2_0 l2_0.length c2_0) := (blk_cell BK565.out 0).trans rfl; have hcz11_1 : w5.cell? ⟨gb565, 1, none⟩ = some (.slice A2_1 l2_1.length c2_1) := (blk_cell BK565.out 1).trans rfl; have hcz11_2 : w5.cell? ⟨gb565, 2, none⟩ = some (.slice A2_2 l2_2.length c2_2) := (blk_cell BK565.out 2).trans rfl; have hfz11_0 := blk_frozen BK565.out 0; have hfz11_1 := blk_frozen BK565.out 1; have hfz11_2 := blk_frozen BK565.out 2) | (go_at_call 82; (with_reducible refine (spec_CostOk.calls k _ _ l2_0 _ _ l2_1 _ _ l2_2 t568 _ ?side1 ?side2 ?side3 ?side4 ?side5 ?side6 A10.out).mono ?_); (case side1 => repeat (first | exact (Kd.C_below HR2_0.out (by repeat (first | (with_reducible first | exact HB.out | apply below_alloc | apply pw_below_drewN | apply below_drew1 | refine below_set ?_ GE565.out) | exact HB.out))) | (with_reducible refine Kd.C_alloc ?_ _) | (with_reducible refine Kd.C_drewN ?_ _) | (with_reducible refine Kd.C_drew ?_))); (case side2 => exact HC2_0.out); (case side3 => repeat (first | exact (Kd.C_below HR2_1.out (by repeat (first | (with_reducible first | exact HB.out | apply below_alloc | apply pw_below_drewN | apply below_drew1 | refine below_set ?_ GE565.out) | exact HB.out))) | (with_reducible refine Kd.C_alloc ?_ _) | (with_reducible refine Kd.C_drewN ?_ _) | (with_reducible refine Kd.C_drew ?_))); (case side4 => exact HC2_1.out); (case side5 => repeat (first | exact (Kd.C_below HR2_2.out (by repeat (first | (with_reducible first | exact HB.out | apply below_alloc | apply pw_below_drewN | apply below_drew1 | refine below_set ?_ GE565.out) | exact HB.out))) | (with_reducible refine Kd.C_alloc ?_ _) | (with_reducible refine Kd.C_drewN ?_ _) | (with_reducible refine Kd.C_drew ?_))); (case side6 => exact HC2_2.out); rintro e w12 ⟨rfl, hb⟩; have n0_ := Aside0.mk (blk_below (g := gb565) (o := .cells #[.slice A2_0 l2_0.length c2_0, .slice A2_1 l2_1.length c2_1, .slice A2_2 l2_2.length c2_2] 60 (0, 0)) (by (with_reducible repeat (first | refine blk_drewN ?_ _ | refine blk_drew ?_ | refine blk_alloc ?_ _)); exact BK565.out) hb); have n1_ := Aside0.mk (below_step (by repeat (first | (with_reducible first | exact HB.out | apply below_alloc | apply pw_below_drewN | apply below_drew1 | refine below_set ?_ GE565.out) | exact HB.out)) hb); clear BK565; clear HB; have BK565 := n0_; have HB := n1_; clear n0_ n1_; (try clear hb); (try clear hb2); (try clear hk); (try clear hi))); try go_wp2_with (first | (go_at_call 81; (with_reducible refine (spec_l25Labels.calls k _ _ l0 true _ ?side1 ?side2 A6.out).mono ?_); (case side1 => repeat (first | exact (Kd.C_below HR0.out HB.out) | (with_reducible refine Kd.C_alloc ?_ _) | (with_reducible refine Kd.C_drewN ?_ _) | (with_reducible refine Kd.C_drew ?_))); (case side2 => exact HC0.out); rintro e w' ⟨rfl, ⟨nd, rfl⟩⟩; (try first | exact ⟨rfl, _, World.drewN_drewN _ _ _⟩ | exact ⟨rfl, _, Eq.trans (World.drewN_drewN _ _ _) (congrArg (World.drewN _) (Nat.add_assoc _ _ _))⟩)) | (go_at_call 81; (with_reducible refine (spec_l25Labels.calls k _ _ l1 true _ ?side1 ?side2 A8.out).mono ?_); (case side1 => repeat (first | exact (Kd.C_below HR1.out (by repeat (first | (with_reducible first | exact HB.out | apply below_alloc | apply pw_below_drewN | apply below_drew1 | refine below_set ?_ GE565.out) | exact HB.out))) | (with_reducible refine Kd.C_alloc ?_ _) | (with_reducible refine Kd.C_drewN ?_ _) | (with_reducible refine Kd.C_drew ?_))); (case side2 => exact HC1.out); rintro e w' ⟨rfl, ⟨nd, rfl⟩⟩; (try first | exact ⟨rfl, _, World.drewN_drewN _ _ _⟩ | exact ⟨rfl, _, Eq.trans (World.drewN_drewN _ _ _) (congrArg (World.drewN _) (Nat.add_assoc _ _ _))⟩); have hcz11_0 : w5.cell? ⟨gb565, 0, none⟩ = some (.slice A2_0 l2_0.length c2_0) := (blk_cell BK565.out 0).trans rfl; have hcz11_1 : w5.cell? ⟨gb565, 1, none⟩ = some (.slice A2_1 l2_1.length c2_1) := (blk_cell BK565.out 1).trans rfl; have hcz11_2 : w5.cell? ⟨gb565, 2, none⟩ = some (.slice A2_2 l2_2.length c2_2) := (blk_cell BK565.out 2).trans rfl; have hfz11_0 := blk_frozen BK565.out 0; have hfz11_1 := blk_frozen BK565.out 1; have hfz11_2 := blk_frozen BK565.out 2) | (go_at_call 82; (with_reducible refine (spec_CostOk.calls k _ _ l2_0 _ _ l2_1 _ _ l2_2 t568 _ ?side1 ?side2 ?side3 ?side4 ?side5 ?side6 A10.out).mono ?_); (case side1 => repeat (first | exact (Kd.C_below HR2_0.out (by repeat (first | (with_reducible first | exact HB.out | apply below_alloc | apply pw_below_drewN | apply below_drew1 | refine below_set ?_ GE565.out) | exact HB.out))) | (with_reducible refine Kd.C_alloc ?_ _) | (with_reducible refine Kd.C_drewN ?_ _) | (with_reducible refine Kd.C_drew ?_))); (case side2 => exact HC2_0.out); (case side3 => repeat (first | exact (Kd.C_below HR2_1.out (by repeat (first | (with_reducible first | exact HB.out | apply below_alloc | apply pw_below_drewN | apply below_drew1 | refine below_set ?_ GE565.out) | exact HB.out))) | (with_reducible refine Kd.C_alloc ?_ _) | (with_reducible refine Kd.C_drewN ?_ _) | (with_reducible refine Kd.C_drew ?_))); (case side4 => exact HC2_1.out); (case side5 => repeat (first | exact (Kd.C_below HR2_2.out (by repeat (first | (with_reducible first | exact HB.out | apply below_alloc | apply pw_below_drewN | apply below_drew1 | refine below_set ?_ GE565.out) | exact HB.out))) | (with_reducible refine Kd.C_alloc ?_ _) | (with_reducible refine Kd.C_drewN ?_ _) | (with_reducible refine Kd.C_drew ?_))); (case side6 => exact HC2_2.out); rintro e w12 ⟨rfl, hb⟩; have n0_ := Aside0.mk (blk_below (g := gb565) (o := .cells #[.slice A2_0 l2_0.length c2_0, .slice A2_1 l2_1.length c2_1, .slice A2_2 l2_2.length c2_2] 60 (0, 0)) (by (with_reducible repeat (first | refine blk_drewN ?_ _ | refine blk_drew ?_ | refine blk_alloc ?_ _)); exact BK565.out) hb); have n1_ := Aside0.mk (below_step (by repeat (first | (with_reducible first | exact HB.out | apply below_alloc | apply pw_below_drewN | apply below_drew1 | refine below_set ?_ GE565.out) | exact HB.out)) hb); clear BK565; clear HB; have BK565 := n0_; have HB := n1_; clear n0_ n1_; (try clear hb); (try clear hb2); (try clear hk); (try clear hi))))
    go_meet
    case rel => exact ⟨_, (!t568), (by first | rfl | (simp; done) | (simp [*]; done)), H', ⟨by first | omega | exact Nat.le_refl _⟩, ⟨by (with_reducible repeat (first | refine blk_drewN ?_ _ | refine blk_drew ?_ | refine blk_alloc ?_ _)); exact BK565.out⟩, ⟨by repeat (first | (with_reducible first | exact HB.out | apply below_alloc | apply pw_below_drewN | apply below_drew1 | refine below_set ?_ GE565.out) | exact HB.out)⟩⟩
   ·replace c9 := Bool.eq_false_iff.mpr c9
    subst c9
    rw [if_neg (show ¬ (false = true) by decide)] at H
    have H' := Aside0.mk H
    clear H
    go_wp2_with (first | (go_at_call 81; (with_reducible refine (spec_l25Labels.calls k _ _ l0 true _ ?side1 ?side2 A6.out).mono ?_); (case side1 => repeat (first | exact (Kd.C_below HR0.out HB.out) | (with_reducible refine Kd.C_alloc ?_ _) | (with_reducible refine Kd.C_drewN ?_ _) | (with_reducible refine Kd.C_drew ?_))); (case side2 => exact HC0.out); rintro e w' ⟨rfl, ⟨nd, rfl⟩⟩; (try first | exact ⟨rfl, _, World.drewN_drewN _ _ _⟩ | exact ⟨rfl, _, Eq.trans (World.drewN_drewN _ _ _) (congrArg (World.drewN _) (Nat.add_assoc _ _ _))⟩)) | (go_at_call 81; (with_reducible refine (spec_l25Labels.calls k _ _ l1 false _ ?side1 ?side2 A8.out).mono ?_); (case side1 => repeat (first | exact (Kd.C_below HR1.out (by repeat (first | (with_reducible first | exact HB.out | apply below_alloc | apply pw_below_drewN | apply below_drew1 | refine below_set ?_ GE565.out) | exact HB.out))) | (with_reducible refine Kd.C_alloc ?_ _) | (with_reducible refine Kd.C_drewN ?_ _) | (with_reducible refine Kd.C_drew ?_))); (case side2 => exact HC1.out); rintro e w' ⟨rfl, ⟨nd, rfl⟩⟩; (try first | exact ⟨rfl, _, World.drewN_drewN _ _ _⟩ | exact ⟨rfl, _, Eq.trans (World.drewN_drewN _ _ _) (congrArg (World.drewN _) (Nat.add_assoc _ _ _))⟩)))
    repeat (go_quiet (first | (go_at_call 81; (with_reducible refine (spec_l25Labels.calls k _ _ l0 true _ ?side1 ?side2 A6.out).mono ?_); (case side1 => repeat (first | exact (Kd.C_below HR0.out HB.out) | (with_reducible refine Kd.C_alloc ?_ _) | (with_reducible refine Kd.C_drewN ?_ _) | (with_reducible refine Kd.C_drew ?_))); (case side2 => exact HC0.out); rintro e w' ⟨rfl, ⟨nd, rfl⟩⟩; (try first | exact ⟨rfl, _, World.drewN_drewN _ _ _⟩ | exact ⟨rfl, _, Eq.trans (World.drewN_drewN _ _ _) (congrArg (World.drewN _) (Nat.add_assoc _ _ _))⟩)) | (go_at_call 81; (with_reducible refine (spec_l25Labels.calls k _ _ l1 false _ ?side1 ?side2 A8.out).mono ?_); (case side1 => repeat (first | exact (Kd.C_below HR1.out (by repeat (first | (with_reducible first | exact HB.out | apply below_alloc | apply pw_below_drewN | apply below_drew1 | refine below_set ?_ GE565.out) | exact HB.out))) | (with_reducible refine Kd.C_alloc ?_ _) | (with_reducible refine Kd.C_drewN ?_ _) | (with_reducible refine Kd.C_drew ?_))); (case side2 => exact HC1.out); rintro e w' ⟨rfl, ⟨nd, rfl⟩⟩; (try first | exact ⟨rfl, _, World.drewN_drewN _ _ _⟩ | exact ⟨rfl, _, Eq.trans (World.drewN_drewN _ _ _) (congrArg (World.drewN _) (Nat.add_assoc _ _ _))⟩))); try go_wp2_with (first | (go_at_call 81; (with_reducible refine (spec_l25Labels.calls k _ _ l0 true _ ?side1 ?side2 A6.out).mono ?_); (case side1 => repeat (first | exact (Kd.C_below HR0.out HB.out) | (with_reducible refine Kd.C_alloc ?_ _) | (with_reducible refine Kd.C_drewN ?_ _) | (with_reducible refine Kd.C_drew ?_))); (case side2 => exact HC0.out); rintro e w' ⟨rfl, ⟨nd, rfl⟩⟩; (try first | exact ⟨rfl, _, World.drewN_drewN _ _ _⟩ | exact ⟨rfl, _, Eq.trans (World.drewN_drewN _ _ _) (congrArg (World.drewN _) (Nat.add_assoc _ _ _))⟩)) | (go_at_call 81; (with_reducible refine (spec_l25Labels.calls k _ _ l1 false _ ?side1 ?side2 A8.out).mono ?_); (case side1 => repeat (first | exact (Kd.C_below HR1.out (by repeat (first | (with_reducible first | exact HB.out | apply below_alloc | apply pw_below_drewN | apply below_drew1 | refine below_set ?_ GE565.out) | exact HB.out))) | (with_reducible refine Kd.C_alloc ?_ _) | (with_reducible refine Kd.C_drewN ?_ _) | (with_reducible refine Kd.C_drew ?_))); (case side2 => exact HC1.out); rintro e w' ⟨rfl, ⟨nd, rfl⟩⟩; (try first | exact ⟨rfl, _, World.drewN_drewN _ _ _⟩ | exact ⟨rfl, _, Eq.trans (World.drewN_drewN _ _ _) (congrArg (World.drewN _) (Nat.add_assoc _ _ _))⟩))))
    go_meet
    case rel => exact ⟨_, (true), (by first | rfl | (simp; done) | (simp [*]; done)), H', ⟨by first | omega | exact Nat.le_refl _⟩, ⟨by (with_reducible repeat (first | refine blk_drewN ?_ _ | refine blk_drew ?_ | refine blk_alloc ?_ _)); exact BK565.out⟩, ⟨by repeat (first | (with_reducible first | exact HB.out | apply below_alloc | apply pw_below_drewN | apply below_drew1 | refine below_set ?_ GE565.out) | exact HB.out)⟩⟩
  ·replace c7 := Bool.eq_false_iff.mpr c7
   subst c7
   rw [if_neg (show ¬ (false = true) by decide)] at H
   have H' := Aside0.mk H
   clear H
   go_wp2_with (first | (go_at_call 81; (with_reducible refine (spec_l25Labels.calls k _ _ l0 false _ ?side1 ?side2 A6.out).mono ?_); (case side1 => repeat (first | exact (Kd.C_below HR0.out HB.out) | (with_reducible refine Kd.C_alloc ?_ _) | (with_reducible refine Kd.C_drewN ?_ _) | (with_reducible refine Kd.C_drew ?_))); (case side2 => exact HC0.out); rintro e w' ⟨rfl, ⟨nd, rfl⟩⟩; (try first | exact ⟨rfl, _, World.drewN_drewN _ _ _⟩ | exact ⟨rfl, _, Eq.trans (World.drewN_drewN _ _ _) (congrArg (World.drewN _) (Nat.add_assoc _ _ _))⟩)))
   repeat (go_quiet (first | (go_at_call 81; (with_reducible refine (spec_l25Labels.calls k _ _ l0 false _ ?side1 ?side2 A6.out).mono ?_); (case side1 => repeat (first | exact (Kd.C_below HR0.out HB.out) | (with_reducible refine Kd.C_alloc ?_ _) | (with_reducible refine Kd.C_drewN ?_ _) | (with_reducible refine Kd.C_drew ?_))); (case side2 => exact HC0.out); rintro e w' ⟨rfl, ⟨nd, rfl⟩⟩; (try first | exact ⟨rfl, _, World.drewN_drewN _ _ _⟩ | exact ⟨rfl, _, Eq.trans (World.drewN_drewN _ _ _) (congrArg (World.drewN _) (Nat.add_assoc _ _ _))⟩))); try go_wp2_with (first | (go_at_call 81; (with_reducible refine (spec_l25Labels.calls k _ _ l0 false _ ?side1 ?side2 A6.out).mono ?_); (case side1 => repeat (first | exact (Kd.C_below HR0.out HB.out) | (with_reducible refine Kd.C_alloc ?_ _) | (with_reducible refine Kd.C_drewN ?_ _) | (with_reducible refine Kd.C_drew ?_))); (case side2 => exact HC0.out); rintro e w' ⟨rfl, ⟨nd, rfl⟩⟩; (try first | exact ⟨rfl, _, World.drewN_drewN _ _ _⟩ | exact ⟨rfl, _, Eq.trans (World.drewN_drewN _ _ _) (congrArg (World.drewN _) (Nat.add_assoc _ _ _))⟩))))
   go_meet
   case rel => exact ⟨_, (true), (by first | rfl | (simp; done) | (simp [*]; done)), H', ⟨by first | omega | exact Nat.le_refl _⟩, ⟨by (with_reducible repeat (first | refine blk_drewN ?_ _ | refine blk_drew ?_ | refine blk_alloc ?_ _)); exact BK565.out⟩, ⟨by repeat (first | (with_reducible first | exact HB.out | apply below_alloc | apply pw_below_drewN | apply below_drew1 | refine below_set ?_ GE565.out) | exact HB.out)⟩⟩
 case rest =>
  clear HC4
  try clear c1
  try clear c2
  try clear p2
  try clear c4
  try clear c7
  try clear c9
  try clear hcz11_0
  try clear hcz11_1
  try clear hcz11_2
  try clear hfz11_0
  try clear hfz11_1
  try clear hfz11_2
  obtain ⟨kq, x24_3, rfl, HA, HJ3, BK565, HB⟩ := hcut
  cases kq with
  | zero => exact absurd HA.out (by simp [spec_StrDist.j0])
  | succ kj3 =>
   have H := HA.out
   clear HA
   simp only [spec_StrDist.j0] at H
   by_cases c13 : x24_3 = true
   ·subst c13
    rw [if_pos rfl] at H
    obtain rfl := Option.some.inj H
    go_wp2
    repeat (go_quiet (fail); try go_wp2)
    go_ret
    exact ⟨by first | rfl | (simp [errW_none, errW_some] <;> rfl) | (simp [*, errW_none, errW_some] <;> rfl), by repeat (first | (with_reducible first | exact HB.out | apply below_alloc | apply pw_below_drewN | apply below_drew1 | refine below_set ?_ GE565.out) | exact HB.out)⟩
   ·replace c13 := Bool.eq_false_iff.mpr c13
    subst c13
    rw [if_neg (show ¬ (false = true) by decide)] at H
    obtain ⟨ji14, hji14⟩ : ∃ j_ : Int, (wrap64 ((wrap64 ((l0.length : Int) + 1)) * (wrap64 ((l1.length : Int) + 1)))) = j_ := ⟨_, rfl⟩
    replace H : (if 0 ≤ (ji14) then (if (ji14 : Int).toNat ≤ 35184372088832 then (spec_StrDist.l0 kj3 l0 l1 (wrap64 ((l1.length : Int) + 1)) (List.replicate (ji14 : Int).toNat 0) 0 l2_0 l2_1 l2_2) else (none)) else (none)) = some r := by first | (rw [hji14] at H; exact H) | (simp only [hji14] at H ⊢; exact H)
    have hji14w : (IntKind.i64.wrap ((wrap64 ((l0.length : Int) + 1)) * (wrap64 ((l1.length : Int) + 1)))) = ji14 := (i64_w _).trans hji14
    by_cases c15 : 0 ≤ (ji14)
    ·rw [if_pos c15] at H
     have c15b0 := eq_true c15
     have c15b1 : decide (0 ≤ (ji14)) = true := decide_eq_true c15
     clear c15
     by_cases c16 : (ji14 : Int).toNat ≤ 35184372088832
     ·rw [if_pos c16] at H
      have c16b0 := eq_true c16
      have c16b1 : decide ((ji14 : Int).toNat ≤ 35184372088832) = true := decide_eq_true c16
      clear c16
      obtain ⟨y569, hy569⟩ : ∃ y_ : List Int, y_ = (List.replicate (ji14 : Int).toNat 0) := ⟨_, rfl⟩
      replace H : (spec_StrDist.l0 kj3 l0 l1 (wrap64 ((l1.length : Int) + 1)) y569 0 l2_0 l2_1 l2_2) = some r := by first | (rw [hy569]; with_reducible exact H) | (have H2_ := (Option.bind_some _ _).symm.trans H; rw [hy569]; with_reducible exact H2_) | (have H2_ := (Option.bind_some _ _).symm.trans H; with_reducible exact H2_) | with_reducible exact H | (rw [hy569]; exact H) | exact H
      have Ny569 := Aside0.mk hy569
      clear hy569
      have H' := Aside0.mk H
      clear H
      go_wp2_with (first | ((with_reducible refine gate_dst (N := 33) rfl ?_); refine Kd.R_make (Kd.int .i64) _ 3 rfl (N := 33) rfl 49 _ _ rfl ji14 rfl rfl Try.underlying49 (.int .i64 0) 8 info3 rfl (by decide) (by omega) 0 (ok := fun _ => True) (okp := fun _ => True) rfl (fun _ hk => hk) trivial (of_decide_eq_true (by first | (with_reducible assumption) | assumption)) (Nat.le_trans (Nat.mul_le_mul_right _ (of_decide_eq_true (by first | (with_reducible assumption) | assumption) : ji14.toNat ≤ 35184372088832)) (by omega)) (Below.refl _ _) (Nat.le_refl _) ?_; intro v570 w17 ho18 hb hg_ hnew_; clear hg_ hnew_; (first | rw [← Ny569.out] at ho18 | (simp only [Int.reduceToNat] at ho18; rw [← Ny569.out] at ho18)); have n0_ := Aside0.mk (Kd.R_lower ho18 (below_size (by repeat (first | (with_reducible first | exact HB.out | apply below_alloc | apply pw_below_drewN | apply below_drew1 | refine below_set ?_ GE565.out) | exact HB.out)))); have n1_ := Aside0.mk (blk_below (g := gb565) (o := .cells #[.slice A2_0 l2_0.length c2_0, .slice A2_1 l2_1.length c2_1, .slice A2_2 l2_2.length c2_2] 60 (0, 0)) (by (with_reducible repeat (first | refine blk_drewN ?_ _ | refine blk_drew ?_ | refine blk_alloc ?_ _)); exact BK565.out) hb); have n2_ := Aside0.mk (below_step (by repeat (first | (with_reducible first | exact HB.out | apply below_alloc | apply pw_below_drewN | apply below_drew1 | refine below_set ?_ GE565.out) | exact HB.out)) hb); clear BK565; clear HB; have HO571 := n0_; have BK565 := n1_; have HB := n2_; clear n0_ n1_ n2_; clear hb ho18))
      repeat (go_quiet (first | ((with_reducible refine gate_dst (N := 33) rfl ?_); refine Kd.R_make (Kd.int .i64) _ 3 rfl (N := 33) rfl 49 _ _ rfl ji14 rfl rfl Try.underlying49 (.int .i64 0) 8 info3 rfl (by decide) (by omega) 0 (ok := fun _ => True) (okp := fun _ => True) rfl (fun _ hk => hk) trivial (of_decide_eq_true (by first | (with_reducible assumption) | assumption)) (Nat.le_trans (Nat.mul_le_mul_right _ (of_decide_eq_true (by first | (with_reducible assumption) | assumption) : ji14.toNat ≤ 35184372088832)) (by omega)) (Below.refl _ _) (Nat.le_refl _) ?_; intro v570 w17 ho18 hb hg_ hnew_; clear hg_ hnew_; (first | rw [← Ny569.out] at ho18 | (simp only [Int.reduceToNat] at ho18; rw [← Ny569.out] at ho18)); have n0_ := Aside0.mk (Kd.R_lower ho18 (below_size (by repeat (first | (with_reducible first | exact HB.out | apply below_alloc | apply pw_below_drewN | apply below_drew1 | refine below_set ?_ GE565.out) | exact HB.out)))); have n1_ := Aside0.mk (blk_below (g := gb565) (o := .cells #[.slice A2_0 l2_0.length c2_0, .slice A2_1 l2_1.length c2_1, .slice A2_2 l2_2.length c2_2] 60 (0, 0)) (by (with_reducible repeat (first | refine blk_drewN ?_ _ | refine blk_drew ?_ | refine blk_alloc ?_ _)); exact BK565.out) hb); have n2_ := Aside0.mk (below_step (by repeat (first | (with_reducible first | exact HB.out | apply below_alloc | apply pw_below_drewN | apply below_drew1 | refine below_set ?_ GE565.out) | exact HB.out)) hb); clear BK565; clear HB; have HO571 := n0_; have BK565 := n1_; have HB := n2_; clear n0_ n1_ n2_; clear hb ho18)); try go_wp2_with (first | ((with_reducible refine gate_dst (N := 33) rfl ?_); refine Kd.R_make (Kd.int .i64) _ 3 rfl (N := 33) rfl 49 _ _ rfl ji14 rfl rfl Try.underlying49 (.int .i64 0) 8 info3 rfl (by decide) (by omega) 0 (ok := fun _ => True) (okp := fun _ => True) rfl (fun _ hk => hk) trivial (of_decide_eq_true (by first | (with_reducible assumption) | assumption)) (Nat.le_trans (Nat.mul_le_mul_right _ (of_decide_eq_true (by first | (with_reducible assumption) | assumption) : ji14.toNat ≤ 35184372088832)) (by omega)) (Below.refl _ _) (Nat.le_refl _) ?_; intro v570 w17 ho18 hb hg_ hnew_; clear hg_ hnew_; (first | rw [← Ny569.out] at ho18 | (simp only [Int.reduceToNat] at ho18; rw [← Ny569.out] at ho18)); have n0_ := Aside0.mk (Kd.R_lower ho18 (below_size (by repeat (first | (with_reducible first | exact HB.out | apply below_alloc | apply pw_below_drewN | apply below_drew1 | refine below_set ?_ GE565.out) | exact HB.out)))); have n1_ := Aside0.mk (blk_below (g := gb565) (o := .cells #[.slice A2_0 l2_0.length c2_0, .slice A2_1 l2_1.length c2_1, .slice A2_2 l2_2.length c2_2] 60 (0, 0)) (by (with_reducible repeat (first | refine blk_drewN ?_ _ | refine blk_drew ?_ | refine blk_alloc ?_ _)); exact BK565.out) hb); have n2_ := Aside0.mk (below_step (by repeat (first | (with_reducible first | exact HB.out | apply below_alloc | apply pw_below_drewN | apply below_drew1 | refine below_set ?_ GE565.out) | exact HB.out)) hb); clear BK565; clear HB; have HO571 := n0_; have BK565 := n1_; have HB := n2_; clear n0_ n1_ n2_; clear hb ho18)))
      go_loopg [9] kj3 (fun kq v9 w' => ∃ (x8_2 : List Int) (x9_2 : Int), v9 = .int .i64 x9_2 ∧ Aside0 (spec_StrDist.l0 kq l0 l1 (wrap64 ((l1.length : Int) + 1)) x8_2 x9_2 l2_0 l2_1 l2_2 = some r) ∧ Aside0 (kq ≤ kj3) ∧ Aside0 (Kd.R (Kd.int .i64) 3 w' w.heap.size (fun _ => True) v570 x8_2) ∧ Aside0 (w'.heap[gb565]? = some (.cells #[(.slice A2_0 l2_0.length c2_0), (.slice A2_1 l2_1.length c2_1), (.slice A2_2 l2_2.length c2_2)] 60 (0, 0))) ∧ Aside0 (Below w.heap.size w w'))
      case atStart => exact ⟨(y569), (0), (by first | rfl | (simp; done) | (simp [*]; done)), H', ⟨Nat.le_refl _⟩, ⟨by (with_reducible repeat (first | apply Kd.R_alloc | apply Kd.R_drewN | apply Kd.R_drew)); exact HO571.out⟩, ⟨by (with_reducible repeat (first | refine blk_drewN ?_ _ | refine blk_drew ?_ | refine blk_alloc ?_ _)); exact BK565.out⟩, ⟨by repeat (first | (with_reducible first | exact HB.out | apply below_alloc | apply pw_below_drewN | apply below_drew1 | refine below_set ?_ GE565.out) | exact HB.out)⟩⟩
      case round =>
       clear H'
       try clear c1
       try clear c2
       try clear p2
       try clear c4
       try clear p6
       try clear c7
       try clear c9
       try clear c13
       try clear c15
       try clear c15b0
       try clear c15b1
       try clear c16
       try clear c16b0
       try clear c16b1
       try clear hcz11_0
       try clear hcz11_1
       try clear hcz11_2
       try clear hfz11_0
       try clear hfz11_1
       try clear hfz11_2
       try clear p2
       obtain ⟨x8_2, x9_2, rfl, HA, HK2, HO_8, BK565, HB⟩ := hrel
       cases gk with
       | zero => exact absurd HA.out (by simp [spec_StrDist.l0])
       | succ k2 =>
        have H := HA.out
        clear HA
        simp only [spec_StrDist.l0] at H
        by_cases c19 : x9_2 ≤ (l0.length : Int)
        ·rw [if_pos c19] at H
         have c19b0 : decide (x9_2 ≤ (l0.length : Int)) = true := decide_eq_true c19
         clear c19
         have H' := Aside0.mk H
         clear H
         go_wp2
         repeat (go_quiet (fail); try go_wp2)
         go_loopg [10] k2 (fun kq v10 w' => ∃ (x8_3 : List Int) (x10_3 : Int), v10 = .int .i64 x10_3 ∧ Aside0 (spec_StrDist.l1 kq l0 l1 (wrap64 ((l1.length : Int) + 1)) x8_3 x9_2 x10_3 l2_0 l2_1 l2_2 = some r) ∧ Aside0 (kq ≤ k2) ∧ Aside0 (Kd.R (Kd.int .i64) 3 w' w.heap.size (fun _ => True) v570 x8_3) ∧ Aside0 (w'.heap[gb565]? = some (.cells #[(.slice A2_0 l2_0.length c2_0), (.slice A2_1 l2_1.length c2_1), (.slice A2_2 l2_2.length c2_2)] 60 (0, 0))) ∧ Aside0 (Below w.heap.size w w'))
         case atStart => exact ⟨(x8_2), (0), (by first | rfl | (simp; done) | (simp [*]; done)), H', ⟨Nat.le_refl _⟩, ⟨by (with_reducible repeat (first | apply Kd.R_alloc | apply Kd.R_drewN | apply Kd.R_drew)); exact HO_8.out⟩, ⟨by (with_reducible repeat (first | refine blk_drewN ?_ _ | refine blk_drew ?_ | refine blk_alloc ?_ _)); exact BK565.out⟩, ⟨by repeat (first | (with_reducible first | exact HB.out | apply below_alloc | apply pw_below_drewN | apply below_drew1 | refine below_set ?_ GE565.out) | exact HB.out)⟩⟩
         case round =>
          clear H'
          try clear c1
          try clear c2
          try clear p2
          try clear c4
          try clear p6
          try clear c7
          try clear c9
          try clear c13
          try clear c15
          try clear c15b0
          try clear c15b1
          try clear c16
          try clear c16b0
          try clear c16b1
          try clear c19
          try clear c19b0
          try clear hcz11_0
          try clear hcz11_1
          try clear hcz11_2
          try clear hfz11_0
          try clear hfz11_1
          try clear hfz11_2
          try clear p2
          try clear p6
          obtain ⟨x8_3, x10_3, rfl, HA, HK3, HO_8, BK565, HB⟩ := hrel
          cases gk with
          | zero => exact absurd HA.out (by simp [spec_StrDist.l1])
          | succ k3 =>
           have H := HA.out
           clear HA
           simp only [spec_StrDist.l1] at H
           by_cases c20 : x10_3 ≤ (l1.length : Int)
           ·rw [if_pos c20] at H
            have c20b0 : decide (x10_3 ≤ (l1.length : Int)) = true := decide_eq_true c20
            clear c20
            have HC21 := Aside0.mk H
            clear H
            go_upto_region 11 with (fail)
            repeat (go_quiet (fail); go_upto_region 11 with (fail))
            go_cut [51] (fun v51 wc => ∃ (kq : Nat) (x51_20 : Bool), v51 = .bool x51_20 ∧ Aside0 (spec_StrDist.j3 kq l0 l1 (wrap64 ((l1.length : Int) + 1)) x8_3 x9_2 x10_3 x51_20 l2_0 l2_1 l2_2 = some r) ∧ Aside0 (kq ≤ k3) ∧ Aside0 (Kd.R (Kd.int .i64) 3 wc w.heap.size (fun _ => True) v570 x8_3) ∧ Aside0 (wc.heap[gb565]? = some (.cells #[(.slice A2_0 l2_0.length c2_0), (.slice A2_1 l2_1.length c2_1), (.slice A2_2 l2_2.length c2_2)] 60 (0, 0))) ∧ Aside0 (Below w.heap.size w wc))
            case first =>
             have H := HC21.out
             clear HC21
             by_cases c22 : x9_2 = 0
             ·rw [if_pos c22] at H
              have c22b0 : (x9_2 == 0) = true := beq_iff_eq.mpr c22
              have c22b1 : (x9_2 != 0) = false := bne_eq_false_iff_eq.mpr c22
              clear c22
              (first | rw [c22b0] | (simp only [i64_w, i32_w]; rw [c22b0]) | skip)
              have H' := Aside0.mk H
              clear H
              go_wp2
              repeat (go_quiet (fail); try go_wp2)
              go_meet
              case rel => exact ⟨_, ((x10_3 == 0)), (by first | rfl | (simp; done) | (simp [*]; done)), H', ⟨by have := HJ3.out; have := HK2.out; have := HK3.out; first | omega | exact Nat.le_refl _⟩, ⟨by (with_reducible repeat (first | apply Kd.R_alloc | apply Kd.R_drewN | apply Kd.R_drew)); exact HO_8.out⟩, ⟨by (with_reducible repeat (first | refine blk_drewN ?_ _ | refine blk_drew ?_ | refine blk_alloc ?_ _)); exact BK565.out⟩, ⟨by repeat (first | (with_reducible first | exact HB.out | apply below_alloc | apply pw_below_drewN | apply below_drew1 | refine below_set ?_ GE565.out) | exact HB.out)⟩⟩
             ·rw [if_neg c22] at H
              have c22b0 : (x9_2 == 0) = false := beq_eq_false_iff_ne.mpr c22
              have c22b1 : (x9_2 != 0) = true := bne_iff_ne.mpr c22
              (first | rw [c22b0] | (simp only [i64_w, i32_w]; rw [c22b0]) | skip)
              have H' := Aside0.mk H
              clear H
              go_wp2
              repeat (go_quiet (fail); try go_wp2)
              go_meet
              case rel => exact ⟨_, (false), (by first | rfl | (simp; done) | (simp [*]; done)), H', ⟨by have := HJ3.out; have := HK2.out; have := HK3.out; first | omega | exact Nat.le_refl _⟩, ⟨by (with_reducible repeat (first | apply Kd.R_alloc | apply Kd.R_drewN | apply Kd.R_drew)); exact HO_8.out⟩, ⟨by (with_reducible repeat (first | refine blk_drewN ?_ _ | refine blk_drew ?_ | refine blk_alloc ?_ _)); exact BK565.out⟩, ⟨by repeat (first | (with_reducible first | exact HB.out | apply below_alloc | apply pw_below_drewN | apply below_drew1 | refine below_set ?_ GE565.out) | exact HB.out)⟩⟩
            case rest =>
             clear HC21
             try clear c1
             try clear c2
             try clear p2
             try clear c4
             try clear p6
             try clear c7
             try clear c9
             try clear c13
             try clear c15
             try clear c15b0
             try clear c15b1
             try clear c16
             try clear c16b0
             try clear c16b1
             try clear c19
             try clear c19b0
             try clear c20
             try clear c20b0
             try clear c22
             try clear c22b0
             try clear c22b1
             try clear hcz11_0
             try clear hcz11_1
             try clear hcz11_2
             try clear hfz11_0
             try clear hfz11_1
             try clear hfz11_2
             try clear p2
             try clear p6
             obtain ⟨kq, x51_20, rfl, HA, HJ20, HO_8, BK565, HB⟩ := hcut
             cases kq with
             | zero => exact absurd HA.out (by simp [spec_StrDist.j3])
             | succ kj20 =>
              have H := HA.out
              clear HA
              simp only [spec_StrDist.j3] at H
              by_cases c23 : x51_20 = true
              ·subst c23
               rw [if_pos rfl] at H
               have H' := Aside0.mk H
               clear H
               go_wp2
               repeat (go_quiet (fail); try go_wp2)
               go_roundg kj20
               case measure => have := HJ3.out; have := HK2.out; have := HK3.out; have := HJ20.out; omega
               case rel => exact ⟨(x8_3), (wrap64 (x10_3 + 1)), (by first | rfl | (simp; done) | (simp [*]; done)), H', ⟨by have := HJ3.out; have := HK2.out; have := HK3.out; have := HJ20.out; omega⟩, ⟨by (with_reducible repeat (first | apply Kd.R_alloc | apply Kd.R_drewN | apply Kd.R_drew)); exact HO_8.out⟩, ⟨by (with_reducible repeat (first | refine blk_drewN ?_ _ | refine blk_drew ?_ | refine blk_alloc ?_ _)); exact BK565.out⟩, ⟨by repeat (first | (with_reducible first | exact HB.out | apply below_alloc | apply pw_below_drewN | apply below_drew1 | refine below_set ?_ GE565.out) | exact HB.out)⟩⟩
              ·replace c23 := Bool.eq_false_iff.mpr c23
               subst c23
               rw [if_neg (show ¬ (false = true) by decide)] at H
               have HC24 := Aside0.mk H
               clear H
               go_upto_if 53 with (fail)
               repeat (go_quiet (fail); go_upto_if 53 with (fail))
               go_cut [11] (fun v11 wc => ∃ (kq : Nat) (x11_23 : Int), v11 = .int .i64 x11_23 ∧ Aside0 (spec_StrDist.j4 kq l0 l1 (wrap64 ((l1.length : Int) + 1)) x8_3 x9_2 x10_3 x11_23 l2_0 l2_1 l2_2 = some r) ∧ Aside0 (kq ≤ kj20) ∧ Aside0 (Kd.R (Kd.int .i64) 3 wc w.heap.size (fun _ => True) v570 x8_3) ∧ Aside0 (wc.heap[gb565]? = some (.cells #[(.slice A2_0 l2_0.length c2_0), (.slice A2_1 l2_1.length c2_1), (.slice A2_2 l2_2.length c2_2)] 60 (0, 0))) ∧ Aside0 (Below w.heap.size w wc))
               case first =>
                have H := HC24.out
                clear HC24
                by_cases c25 : x9_2 > 0
                ·rw [if_pos c25] at H
                 have c25b0 : decide (0 < x9_2) = true := decide_eq_true c25
                 clear c25
                 (first | rw [c25b0] | (simp only [i64_w, i32_w]; rw [c25b0]) | skip)
                 obtain ⟨ji26, hji26⟩ : ∃ j_ : Int, (wrap64 ((wrap64 ((wrap64 (x9_2 - 1)) * (wrap64 ((l1.length : Int) + 1)))) + x10_3)) = j_ := ⟨_, rfl⟩
                 replace H : (if 0 ≤ (ji26) then (if (ji26) < (x8_3.length : Int) then (if 0 ≤ (wrap64 (x9_2 - 1)) then (if (wrap64 (x9_2 - 1)) < (l0.length : Int) then (if 0 ≤ (rd l0 (wrap64 (x9_2 - 1))) then (if (rd l0 (wrap64 (x9_2 - 1))) < (l2_0.length : Int) then (spec_StrDist.j4 kj20 l0 l1 (wrap64 ((l1.length : Int) + 1)) x8_3 x9_2 x10_3 (mn 1000000000 (wrap64 ((rd x8_3 (ji26)) + (rd l2_0 (rd l0 (wrap64 (x9_2 - 1))))))) l2_0 l2_1 l2_2) else (none)) else (none)) else (none)) else (none)) else (none)) else (none)) = some r := by first | (rw [hji26] at H; exact H) | (simp only [hji26] at H ⊢; exact H)
                 have hji26w : (IntKind.i64.wrap ((wrap64 ((wrap64 (x9_2 - 1)) * (wrap64 ((l1.length : Int) + 1)))) + x10_3)) = ji26 := (i64_w _).trans hji26
                 by_cases c27 : 0 ≤ (ji26)
                 ·rw [if_pos c27] at H
                  have c27b0 : decide (0 ≤ (ji26)) = true := decide_eq_true c27
                  clear c27
                  by_cases c28 : (ji26) < (x8_3.length : Int)
                  ·rw [if_pos c28] at H
                   have c28b0 : decide ((ji26) < (x8_3.length : Int)) = true := decide_eq_true c28
                   clear c28
                   obtain ⟨ji29, hji29⟩ : ∃ j_ : Int, (wrap64 (x9_2 - 1)) = j_ := ⟨_, rfl⟩
                   replace H : (if 0 ≤ (ji29) then (if (ji29) < (l0.length : Int) then (if 0 ≤ (rd l0 (ji29)) then (if (rd l0 (ji29)) < (l2_0.length : Int) then (spec_StrDist.j4 kj20 l0 l1 (wrap64 ((l1.length : Int) + 1)) x8_3 x9_2 x10_3 (mn 1000000000 (wrap64 ((rd x8_3 (ji26)) + (rd l2_0 (rd l0 (ji29)))))) l2_0 l2_1 l2_2) else (none)) else (none)) else (none)) else (none)) = some r := by first | (rw [hji29] at H; exact H) | (simp only [hji29] at H ⊢; exact H)
                   have hji29w : (IntKind.i64.wrap (x9_2 - 1)) = ji29 := (i64_w _).trans hji29
                   by_cases c30 : 0 ≤ (ji29)
                   ·rw [if_pos c30] at H
                    have c30b0 : decide (0 ≤ (ji29)) = true := decide_eq_true c30
                    clear c30
                    by_cases c31 : (ji29) < (l0.length : Int)
                    ·rw [if_pos c31] at H
                     have c31b0 : decide ((ji29) < (l0.length : Int)) = true := decide_eq_true c31
                     clear c31
                     by_cases c32 : 0 ≤ (rd l0 (ji29))
                     ·rw [if_pos c32] at H
                      have c32b0 : decide (0 ≤ (rd l0 (ji29))) = true := decide_eq_true c32
                      clear c32
                      by_cases c33 : (rd l0 (ji29)) < (l2_0.length : Int)
                      ·rw [if_pos c33] at H
                       have c33b0 : decide ((rd l0 (ji29)) < (l2_0.length : Int)) = true := decide_eq_true c33
                       clear c33
                       obtain ⟨ji34, hji34⟩ : ∃ j_ : Int, (mn 1000000000 (wrap64 ((rd x8_3 (ji26)) + (rd l2_0 (rd l0 (ji29)))))) = j_ := ⟨_, rfl⟩
                       replace H : (spec_StrDist.j4 kj20 l0 l1 (wrap64 ((l1.length : Int) + 1)) x8_3 x9_2 x10_3 ji34 l2_0 l2_1 l2_2) = some r := by first | (rw [hji34] at H; exact H) | (simp only [hji34] at H ⊢; exact H)
                       have hji34_ : (if (wrap64 ((rd x8_3 (ji26)) + (rd l2_0 (rd l0 (ji29))))) < 1000000000 then (wrap64 ((rd x8_3 (ji26)) + (rd l2_0 (rd l0 (ji29))))) else 1000000000) = ji34 := hji34
                       have H' := Aside0.mk H
                       clear H
                       obtain ⟨Ao35, co35, eo35⟩ := Kd.R_slice HO_8.out
                       subst eo35
                       have p573 : 0 ≤ ((ji26) : Int) := of_decide_eq_true (by first | (with_reducible assumption) | assumption)
                       have q573 : (ji26) < (x8_3.length : Int) := of_decide_eq_true (by first | (with_reducible assumption) | assumption)
                       obtain ⟨ad573, e573, hx573_0⟩ := Kd.at_int (Kd.R_reads' HO_8.out).2.2 (ji26) p573 q573
                       cases e573
                       replace p573 := eq_true p573
                       replace q573 := eq_true q573
                       have hcz36_0 : wc.cell? ⟨gb565, 0, none⟩ = some (.slice A2_0 l2_0.length c2_0) := (blk_cell BK565.out 0).trans rfl
                       have hcz36_1 : wc.cell? ⟨gb565, 1, none⟩ = some (.slice A2_1 l2_1.length c2_1) := (blk_cell BK565.out 1).trans rfl
                       have hcz36_2 : wc.cell? ⟨gb565, 2, none⟩ = some (.slice A2_2 l2_2.length c2_2) := (blk_cell BK565.out 2).trans rfl
                       have hfz36_0 := blk_frozen BK565.out 0
                       have hfz36_1 := blk_frozen BK565.out 1
                       have hfz36_2 := blk_frozen BK565.out 2
                       have p574 : 0 ≤ ((ji29) : Int) := of_decide_eq_true (by first | (with_reducible assumption) | assumption)
                       have q574 : (ji29) < (l0.length : Int) := of_decide_eq_true (by first | (with_reducible assumption) | assumption)
                       obtain ⟨ad574, e574, hx574_0⟩ := Kd.at_int HR0.out (ji29) p574 q574
                       cases e574
                       replace hx574_0 := (HB.out.cell (World.block_lt_of_cell? w _ hx574_0)).trans hx574_0
                       replace p574 := eq_true p574
                       replace q574 := eq_true q574
                       have p575 : 0 ≤ ((rd l0 (ji29)) : Int) := of_decide_eq_true (by first | (with_reducible assumption) | assumption)
                       have q575 : (rd l0 (ji29)) < (l2_0.length : Int) := of_decide_eq_true (by first | (with_reducible assumption) | assumption)
                       obtain ⟨ad575, e575, hx575_0⟩ := Kd.at_int HR2_0.out (rd l0 (ji29)) p575 q575
                       cases e575
                       replace hx575_0 := (HB.out.cell (World.block_lt_of_cell? w _ hx575_0)).trans hx575_0
                       replace p575 := eq_true p575
                       replace q575 := eq_true q575
                       try rw [hji29] at hji26w
                       try rw [hji29] at hji26
                       obtain ⟨q1_, hq1_⟩ : ∃ j_ : Int, (wrap64 ((ji29) * (wrap64 ((l1.length : Int) + 1)))) = j_ := ⟨_, rfl⟩
                       have hq1_w : (IntKind.i64.wrap ((ji29) * (wrap64 ((l1.length : Int) + 1)))) = q1_ := (i64_w _).trans hq1_
                       try rw [hq1_] at hji26w
                       try rw [hq1_] at hji26
                       go_wp2
                       repeat (go_quiet (fail); try go_wp2)
                       go_meet
                       case rel => exact ⟨_, (ji34), (by first | rfl | (simp; done) | (simp only [← hji34] <;> (first | rfl | simp)) | (simp [*]; done)), H', ⟨by have := HJ3.out; have := HK2.out; have := HK3.out; have := HJ20.out; first | omega | exact Nat.le_refl _⟩, ⟨by (with_reducible repeat (first | apply Kd.R_alloc | apply Kd.R_drewN | apply Kd.R_drew)); exact HO_8.out⟩, ⟨by (with_reducible repeat (first | refine blk_drewN ?_ _ | refine blk_drew ?_ | refine blk_alloc ?_ _)); exact BK565.out⟩, ⟨by repeat (first | (with_reducible first | exact HB.out | apply below_alloc | apply pw_below_drewN | apply below_drew1 | refine below_set ?_ GE565.out) | exact HB.out)⟩⟩
                      ·rw [if_neg c33] at H
                       exact absurd H (by simp)
                     ·rw [if_neg c32] at H
                      exact absurd H (by simp)
                    ·rw [if_neg c31] at H
                     exact absurd H (by simp)
                   ·rw [if_neg c30] at H
                    exact absurd H (by simp)
                  ·rw [if_neg c28] at H
                   exact absurd H (by simp)
                 ·rw [if_neg c27] at H
                  exact absurd H (by simp)
                ·rw [if_neg c25] at H
                 have c25b0 : decide (0 < x9_2) = false := decide_eq_false c25
                 clear c25
                 (first | rw [c25b0] | (simp only [i64_w, i32_w]; rw [c25b0]) | skip)
                 have H' := Aside0.mk H
                 clear H
                 go_wp2
                 repeat (go_quiet (fail); try go_wp2)
                 go_meet
                 case rel => exact ⟨_, (1000000000), (by first | rfl | (simp; done) | (simp [*]; done)), H', ⟨by have := HJ3.out; have := HK2.out; have := HK3.out; have := HJ20.out; first | omega | exact Nat.le_refl _⟩, ⟨by (with_reducible repeat (first | apply Kd.R_alloc | apply Kd.R_drewN | apply Kd.R_drew)); exact HO_8.out⟩, ⟨by (with_reducible repeat (first | refine blk_drewN ?_ _ | refine blk_drew ?_ | refine blk_alloc ?_ _)); exact BK565.out⟩, ⟨by repeat (first | (with_reducible first | exact HB.out | apply below_alloc | apply pw_below_drewN | apply below_drew1 | refine below_set ?_ GE565.out) | exact HB.out)⟩⟩
               case rest =>
                clear HC24
                try clear c1
                try clear c2
                try clear p2
                try clear c3
                try clear c4
                try clear p5
                try clear q5
                try clear hx5
                try clear p6
                try clear c7
                try clear c9
                try clear c13
                try clear c15
                try clear c15b0
                try clear c15b1
                try clear c16
                try clear c16b0
                try clear c16b1
                try clear c19
                try clear c19b0
                try clear c20
                try clear c20b0
                try clear c22
                try clear c22b0
                try clear c22b1
                try clear c23
                try clear c25
                try clear c25b0
                try clear c27
                try clear c27b0
                try clear c28
                try clear c28b0
                try clear c30
                try clear c30b0
                try clear c31
                try clear c31b0
                try clear c32
                try clear c32b0
                try clear c33
                try clear c33b0
                try clear hcz11_0
                try clear hcz11_1
                try clear hcz11_2
                try clear hcz36_0
                try clear hcz36_1
                try clear hcz36_2
                try clear hfz11_0
                try clear hfz11_1
                try clear hfz11_2
                try clear hfz36_0
                try clear hfz36_1
                try clear hfz36_2
                try clear hx573_0
                try clear hx574_0
                try clear hx575_0
                try clear p2
                try clear p573
                try clear p574
                try clear p575
                try clear p6
                try clear q573
                try clear q574
                try clear q575
                obtain ⟨kq, x11_23, rfl, HA, HJ23, HO_8, BK565, HB⟩ := hcut
                cases kq with
                | zero => exact absurd HA.out (by simp [spec_StrDist.j4])
                | succ kj23 =>
                 have H := HA.out
                 clear HA
                 simp only [spec_StrDist.j4] at H
                 by_cases c37 : x10_3 > 0
                 ·rw [if_pos c37] at H
                  have c37b0 : decide (0 < x10_3) = true := decide_eq_true c37
                  clear c37
                  obtain ⟨ji38, hji38⟩ : ∃ j_ : Int, (wrap64 ((wrap64 ((wrap64 (x9_2 * (wrap64 ((l1.length : Int) + 1)))) + x10_3)) - 1)) = j_ := ⟨_, rfl⟩
                  replace H : (if 0 ≤ (ji38) then (if (ji38) < (x8_3.length : Int) then (if 0 ≤ (wrap64 (x10_3 - 1)) then (if (wrap64 (x10_3 - 1)) < (l1.length : Int) then (if 0 ≤ (rd l1 (wrap64 (x10_3 - 1))) then (if (rd l1 (wrap64 (x10_3 - 1))) < (l2_1.length : Int) then (if x9_2 > 0 then (if 0 ≤ (wrap64 ((wrap64 ((wrap64 ((wrap64 (x9_2 - 1)) * (wrap64 ((l1.length : Int) + 1)))) + x10_3)) - 1)) then (if (wrap64 ((wrap64 ((wrap64 ((wrap64 (x9_2 - 1)) * (wrap64 ((l1.length : Int) + 1)))) + x10_3)) - 1)) < (x8_3.length : Int) then (if 0 ≤ (wrap64 (x9_2 - 1)) then (if (wrap64 (x9_2 - 1)) < (l0.length : Int) then (if 0 ≤ (wrap64 ((wrap64 ((rd l0 (wrap64 (x9_2 - 1))) * 6)) + (rd l1 (wrap64 (x10_3 - 1))))) then (if (wrap64 ((wrap64 ((rd l0 (wrap64 (x9_2 - 1))) * 6)) + (rd l1 (wrap64 (x10_3 - 1))))) < (l2_2.length : Int) then (if 0 ≤ (wrap64 ((wrap64 (x9_2 * (wrap64 ((l1.length : Int) + 1)))) + x10_3)) then (if (wrap64 ((wrap64 (x9_2 * (wrap64 ((l1.length : Int) + 1)))) + x10_3)) < (x8_3.length : Int) then (spec_StrDist.l1 kj23 l0 l1 (wrap64 ((l1.length : Int) + 1)) (x8_3.set ((wrap64 ((wrap64 (x9_2 * (wrap64 ((l1.length : Int) + 1)))) + x10_3)) : Int).toNat (mn (mn x11_23 (wrap64 ((rd x8_3 (ji38)) + (rd l2_1 (rd l1 (wrap64 (x10_3 - 1))))))) (wrap64 ((rd x8_3 (wrap64 ((wrap64 ((wrap64 ((wrap64 (x9_2 - 1)) * (wrap64 ((l1.length : Int) + 1)))) + x10_3)) - 1))) + (rd l2_2 (wrap64 ((wrap64 ((rd l0 (wrap64 (x9_2 - 1))) * 6)) + (rd l1 (wrap64 (x10_3 - 1)))))))))) x9_2 (wrap64 (x10_3 + 1)) l2_0 l2_1 l2_2) else (none)) else (none)) else (none)) else (none)) else (none)) else (none)) else (none)) else (none)) else (if 0 ≤ (wrap64 ((wrap64 (x9_2 * (wrap64 ((l1.length : Int) + 1)))) + x10_3)) then (if (wrap64 ((wrap64 (x9_2 * (wrap64 ((l1.length : Int) + 1)))) + x10_3)) < (x8_3.length : Int) then (spec_StrDist.l1 kj23 l0 l1 (wrap64 ((l1.length : Int) + 1)) (x8_3.set ((wrap64 ((wrap64 (x9_2 * (wrap64 ((l1.length : Int) + 1)))) + x10_3)) : Int).toNat (mn x11_23 (wrap64 ((rd x8_3 (ji38)) + (rd l2_1 (rd l1 (wrap64 (x10_3 - 1)))))))) x9_2 (wrap64 (x10_3 + 1)) l2_0 l2_1 l2_2) else (none)) else (none))) else (none)) else (none)) else (none)) else (none)) else (none)) else (none)) = some r := by first | (rw [hji38] at H; exact H) | (simp only [hji38] at H ⊢; exact H)
                  have hji38w : (IntKind.i64.wrap ((wrap64 ((wrap64 (x9_2 * (wrap64 ((l1.length : Int) + 1)))) + x10_3)) - 1)) = ji38 := (i64_w _).trans hji38
                  by_cases c39 : 0 ≤ (ji38)
                  ·rw [if_pos c39] at H
                   have c39b0 : decide (0 ≤ (ji38)) = true := decide_eq_true c39
                   clear c39
                   by_cases c40 : (ji38) < (x8_3.length : Int)
                   ·rw [if_pos c40] at H
                    have c40b0 : decide ((ji38) < (x8_3.length : Int)) = true := decide_eq_true c40
                    clear c40
                    obtain ⟨ji41, hji41⟩ : ∃ j_ : Int, (wrap64 (x10_3 - 1)) = j_ := ⟨_, rfl⟩
                    replace H : (if 0 ≤ (ji41) then (if (ji41) < (l1.length : Int) then (if 0 ≤ (rd l1 (ji41)) then (if (rd l1 (ji41)) < (l2_1.length : Int) then (if x9_2 > 0 then (if 0 ≤ (wrap64 ((wrap64 ((wrap64 ((wrap64 (x9_2 - 1)) * (wrap64 ((l1.length : Int) + 1)))) + x10_3)) - 1)) then (if (wrap64 ((wrap64 ((wrap64 ((wrap64 (x9_2 - 1)) * (wrap64 ((l1.length : Int) + 1)))) + x10_3)) - 1)) < (x8_3.length : Int) then (if 0 ≤ (wrap64 (x9_2 - 1)) then (if (wrap64 (x9_2 - 1)) < (l0.length : Int) then (if 0 ≤ (wrap64 ((wrap64 ((rd l0 (wrap64 (x9_2 - 1))) * 6)) + (rd l1 (ji41)))) then (if (wrap64 ((wrap64 ((rd l0 (wrap64 (x9_2 - 1))) * 6)) + (rd l1 (ji41)))) < (l2_2.length : Int) then (if 0 ≤ (wrap64 ((wrap64 (x9_2 * (wrap64 ((l1.length : Int) + 1)))) + x10_3)) then (if (wrap64 ((wrap64 (x9_2 * (wrap64 ((l1.length : Int) + 1)))) + x10_3)) < (x8_3.length : Int) then (spec_StrDist.l1 kj23 l0 l1 (wrap64 ((l1.length : Int) + 1)) (x8_3.set ((wrap64 ((wrap64 (x9_2 * (wrap64 ((l1.length : Int) + 1)))) + x10_3)) : Int).toNat (mn (mn x11_23 (wrap64 ((rd x8_3 (ji38)) + (rd l2_1 (rd l1 (ji41)))))) (wrap64 ((rd x8_3 (wrap64 ((wrap64 ((wrap64 ((wrap64 (x9_2 - 1)) * (wrap64 ((l1.length : Int) + 1)))) + x10_3)) - 1))) + (rd l2_2 (wrap64 ((wrap64 ((rd l0 (wrap64 (x9_2 - 1))) * 6)) + (rd l1 (ji41))))))))) x9_2 (wrap64 (x10_3 + 1)) l2_0 l2_1 l2_2) else (none)) else (none)) else (none)) else (none)) else (none)) else (none)) else (none)) else (none)) else (if 0 ≤ (wrap64 ((wrap64 (x9_2 * (wrap64 ((l1.length : Int) + 1)))) + x10_3)) then (if (wrap64 ((wrap64 (x9_2 * (wrap64 ((l1.length : Int) + 1)))) + x10_3)) < (x8_3.length : Int) then (spec_StrDist.l1 kj23 l0 l1 (wrap64 ((l1.length : Int) + 1)) (x8_3.set ((wrap64 ((wrap64 (x9_2 * (wrap64 ((l1.length : Int) + 1)))) + x10_3)) : Int).toNat (mn x11_23 (wrap64 ((rd x8_3 (ji38)) + (rd l2_1 (rd l1 (ji41))))))) x9_2 (wrap64 (x10_3 + 1)) l2_0 l2_1 l2_2) else (none)) else (none))) else (none)) else (none)) else (none)) else (none)) = some r := by first | (rw [hji41] at H; exact H) | (simp only [hji41] at H ⊢; exact H)
                    have hji41w : (IntKind.i64.wrap (x10_3 - 1)) = ji41 := (i64_w _).trans hji41
                    by_cases c42 : 0 ≤ (ji41)
                    ·rw [if_pos c42] at H
                     have c42b0 : decide (0 ≤ (ji41)) = true := decide_eq_true c42
                     clear c42
                     by_cases c43 : (ji41) < (l1.length : Int)
                     ·rw [if_pos c43] at H
                      have c43b0 : decide ((ji41) < (l1.length : Int)) = true := decide_eq_true c43
                      clear c43
                      by_cases c44 : 0 ≤ (rd l1 (ji41))
                      ·rw [if_pos c44] at H
                       have c44b0 : decide (0 ≤ (rd l1 (ji41))) = true := decide_eq_true c44
                       clear c44
                       by_cases c45 : (rd l1 (ji41)) < (l2_1.length : Int)
                       ·rw [if_pos c45] at H
                        have c45b0 : decide ((rd l1 (ji41)) < (l2_1.length : Int)) = true := decide_eq_true c45
                        clear c45
                        obtain ⟨ji46, hji46⟩ : ∃ j_ : Int, (mn x11_23 (wrap64 ((rd x8_3 (ji38)) + (rd l2_1 (rd l1 (ji41)))))) = j_ := ⟨_, rfl⟩
                        replace H : (if x9_2 > 0 then (if 0 ≤ (wrap64 ((wrap64 ((wrap64 ((wrap64 (x9_2 - 1)) * (wrap64 ((l1.length : Int) + 1)))) + x10_3)) - 1)) then (if (wrap64 ((wrap64 ((wrap64 ((wrap64 (x9_2 - 1)) * (wrap64 ((l1.length : Int) + 1)))) + x10_3)) - 1)) < (x8_3.length : Int) then (if 0 ≤ (wrap64 (x9_2 - 1)) then (if (wrap64 (x9_2 - 1)) < (l0.length : Int) then (if 0 ≤ (wrap64 ((wrap64 ((rd l0 (wrap64 (x9_2 - 1))) * 6)) + (rd l1 (ji41)))) then (if (wrap64 ((wrap64 ((rd l0 (wrap64 (x9_2 - 1))) * 6)) + (rd l1 (ji41)))) < (l2_2.length : Int) then (if 0 ≤ (wrap64 ((wrap64 (x9_2 * (wrap64 ((l1.length : Int) + 1)))) + x10_3)) then (if (wrap64 ((wrap64 (x9_2 * (wrap64 ((l1.length : Int) + 1)))) + x10_3)) < (x8_3.length : Int) then (spec_StrDist.l1 kj23 l0 l1 (wrap64 ((l1.length : Int) + 1)) (x8_3.set ((wrap64 ((wrap64 (x9_2 * (wrap64 ((l1.length : Int) + 1)))) + x10_3)) : Int).toNat (mn (ji46) (wrap64 ((rd x8_3 (wrap64 ((wrap64 ((wrap64 ((wrap64 (x9_2 - 1)) * (wrap64 ((l1.length : Int) + 1)))) + x10_3)) - 1))) + (rd l2_2 (wrap64 ((wrap64 ((rd l0 (wrap64 (x9_2 - 1))) * 6)) + (rd l1 (ji41))))))))) x9_2 (wrap64 (x10_3 + 1)) l2_0 l2_1 l2_2) else (none)) else (none)) else (none)) else (none)) else (none)) else (none)) else (none)) else (none)) else (if 0 ≤ (wrap64 ((wrap64 (x9_2 * (wrap64 ((l1.length : Int) + 1)))) + x10_3)) then (if (wrap64 ((wrap64 (x9_2 * (wrap64 ((l1.length : Int) + 1)))) + x10_3)) < (x8_3.length : Int) then (spec_StrDist.l1 kj23 l0 l1 (wrap64 ((l1.length : Int) + 1)) (x8_3.set ((wrap64 ((wrap64 (x9_2 * (wrap64 ((l1.length : Int) + 1)))) + x10_3)) : Int).toNat (ji46)) x9_2 (wrap64 (x10_3 + 1)) l2_0 l2_1 l2_2) else (none)) else (none))) = some r := by first | (rw [hji46] at H; exact H) | (simp only [hji46] at H ⊢; exact H)
                        have hji46_ : (if (wrap64 ((rd x8_3 (ji38)) + (rd l2_1 (rd l1 (ji41))))) < x11_23 then (wrap64 ((rd x8_3 (ji38)) + (rd l2_1 (rd l1 (ji41))))) else x11_23) = ji46 := hji46
                        by_cases c47 : x9_2 > 0
                        ·rw [if_pos c47] at H
                         have c47b0 : decide (0 < x9_2) = true := decide_eq_true c47
                         clear c47
                         obtain ⟨ji48, hji48⟩ : ∃ j_ : Int, (wrap64 ((wrap64 ((wrap64 ((wrap64 (x9_2 - 1)) * (wrap64 ((l1.length : Int) + 1)))) + x10_3)) - 1)) = j_ := ⟨_, rfl⟩
                         replace H : (if 0 ≤ (ji48) then (if (ji48) < (x8_3.length : Int) then (if 0 ≤ (wrap64 (x9_2 - 1)) then (if (wrap64 (x9_2 - 1)) < (l0.length : Int) then (if 0 ≤ (wrap64 ((wrap64 ((rd l0 (wrap64 (x9_2 - 1))) * 6)) + (rd l1 (ji41)))) then (if (wrap64 ((wrap64 ((rd l0 (wrap64 (x9_2 - 1))) * 6)) + (rd l1 (ji41)))) < (l2_2.length : Int) then (if 0 ≤ (wrap64 ((wrap64 (x9_2 * (wrap64 ((l1.length : Int) + 1)))) + x10_3)) then (if (wrap64 ((wrap64 (x9_2 * (wrap64 ((l1.length : Int) + 1)))) + x10_3)) < (x8_3.length : Int) then (spec_StrDist.l1 kj23 l0 l1 (wrap64 ((l1.length : Int) + 1)) (x8_3.set ((wrap64 ((wrap64 (x9_2 * (wrap64 ((l1.length : Int) + 1)))) + x10_3)) : Int).toNat (mn (ji46) (wrap64 ((rd x8_3 (ji48)) + (rd l2_2 (wrap64 ((wrap64 ((rd l0 (wrap64 (x9_2 - 1))) * 6)) + (rd l1 (ji41))))))))) x9_2 (wrap64 (x10_3 + 1)) l2_0 l2_1 l2_2) else (none)) else (none)) else (none)) else (none)) else (none)) else (none)) else (none)) else (none)) = some r := by first | (rw [hji48] at H; exact H) | (simp only [hji48] at H ⊢; exact H)
                         have hji48w : (IntKind.i64.wrap ((wrap64 ((wrap64 ((wrap64 (x9_2 - 1)) * (wrap64 ((l1.length : Int) + 1)))) + x10_3)) - 1)) = ji48 := (i64_w _).trans hji48
                         by_cases c49 : 0 ≤ (ji48)
                         ·rw [if_pos c49] at H
                          have c49b0 : decide (0 ≤ (ji48)) = true := decide_eq_true c49
                          clear c49
                          by_cases c50 : (ji48) < (x8_3.length : Int)
                          ·rw [if_pos c50] at H
                           have c50b0 : decide ((ji48) < (x8_3.length : Int)) = true := decide_eq_true c50
                           clear c50
                           obtain ⟨ji51, hji51⟩ : ∃ j_ : Int, (wrap64 (x9_2 - 1)) = j_ := ⟨_, rfl⟩
                           replace H : (if 0 ≤ (ji51) then (if (ji51) < (l0.length : Int) then (if 0 ≤ (wrap64 ((wrap64 ((rd l0 (ji51)) * 6)) + (rd l1 (ji41)))) then (if (wrap64 ((wrap64 ((rd l0 (ji51)) * 6)) + (rd l1 (ji41)))) < (l2_2.length : Int) then (if 0 ≤ (wrap64 ((wrap64 (x9_2 * (wrap64 ((l1.length : Int) + 1)))) + x10_3)) then (if (wrap64 ((wrap64 (x9_2 * (wrap64 ((l1.length : Int) + 1)))) + x10_3)) < (x8_3.length : Int) then (spec_StrDist.l1 kj23 l0 l1 (wrap64 ((l1.length : Int) + 1)) (x8_3.set ((wrap64 ((wrap64 (x9_2 * (wrap64 ((l1.length : Int) + 1)))) + x10_3)) : Int).toNat (mn (ji46) (wrap64 ((rd x8_3 (ji48)) + (rd l2_2 (wrap64 ((wrap64 ((rd l0 (ji51)) * 6)) + (rd l1 (ji41))))))))) x9_2 (wrap64 (x10_3 + 1)) l2_0 l2_1 l2_2) else (none)) else (none)) else (none)) else (none)) else (none)) else (none)) = some r := by first | (rw [hji51] at H; exact H) | (simp only [hji51] at H ⊢; exact H)
                           have hji51w : (IntKind.i64.wrap (x9_2 - 1)) = ji51 := (i64_w _).trans hji51
                           by_cases c52 : 0 ≤ (ji51)
                           ·rw [if_pos c52] at H
                            have c52b0 : decide (0 ≤ (ji51)) = true := decide_eq_true c52
                            clear c52
                            by_cases c53 : (ji51) < (l0.length : Int)
                            ·rw [if_pos c53] at H
                             have c53b0 : decide ((ji51) < (l0.length : Int)) = true := decide_eq_true c53
                             clear c53
                             obtain ⟨ji54, hji54⟩ : ∃ j_ : Int, (wrap64 ((wrap64 ((rd l0 (ji51)) * 6)) + (rd l1 (ji41)))) = j_ := ⟨_, rfl⟩
                             replace H : (if 0 ≤ (ji54) then (if (ji54) < (l2_2.length : Int) then (if 0 ≤ (wrap64 ((wrap64 (x9_2 * (wrap64 ((l1.length : Int) + 1)))) + x10_3)) then (if (wrap64 ((wrap64 (x9_2 * (wrap64 ((l1.length : Int) + 1)))) + x10_3)) < (x8_3.length : Int) then (spec_StrDist.l1 kj23 l0 l1 (wrap64 ((l1.length : Int) + 1)) (x8_3.set ((wrap64 ((wrap64 (x9_2 * (wrap64 ((l1.length : Int) + 1)))) + x10_3)) : Int).toNat (mn (ji46) (wrap64 ((rd x8_3 (ji48)) + (rd l2_2 (ji54)))))) x9_2 (wrap64 (x10_3 + 1)) l2_0 l2_1 l2_2) else (none)) else (none)) else (none)) else (none)) = some r := by first | (rw [hji54] at H; exact H) | (simp only [hji54] at H ⊢; exact H)
                             have hji54w : (IntKind.i64.wrap ((wrap64 ((rd l0 (ji51)) * 6)) + (rd l1 (ji41)))) = ji54 := (i64_w _).trans hji54
                             by_cases c55 : 0 ≤ (ji54)
                             ·rw [if_pos c55] at H
                              have c55b0 : decide (0 ≤ (ji54)) = true := decide_eq_true c55
                              clear c55
                              by_cases c56 : (ji54) < (l2_2.length : Int)
                              ·rw [if_pos c56] at H
                               have c56b0 : decide ((ji54) < (l2_2.length : Int)) = true := decide_eq_true c56
                               clear c56
                               obtain ⟨ji57, hji57⟩ : ∃ j_ : Int, (mn (ji46) (wrap64 ((rd x8_3 (ji48)) + (rd l2_2 (ji54))))) = j_ := ⟨_, rfl⟩
                               replace H : (if 0 ≤ (wrap64 ((wrap64 (x9_2 * (wrap64 ((l1.length : Int) + 1)))) + x10_3)) then (if (wrap64 ((wrap64 (x9_2 * (wrap64 ((l1.length : Int) + 1)))) + x10_3)) < (x8_3.length : Int) then (spec_StrDist.l1 kj23 l0 l1 (wrap64 ((l1.length : Int) + 1)) (x8_3.set ((wrap64 ((wrap64 (x9_2 * (wrap64 ((l1.length : Int) + 1)))) + x10_3)) : Int).toNat (ji57)) x9_2 (wrap64 (x10_3 + 1)) l2_0 l2_1 l2_2) else (none)) else (none)) = some r := by first | (rw [hji57] at H; exact H) | (simp only [hji57] at H ⊢; exact H)
                               have hji57_ : (if (wrap64 ((rd x8_3 (ji48)) + (rd l2_2 (ji54)))) < (ji46) then (wrap64 ((rd x8_3 (ji48)) + (rd l2_2 (ji54)))) else (ji46)) = ji57 := hji57
                               obtain ⟨ji58, hji58⟩ : ∃ j_ : Int, (wrap64 ((wrap64 (x9_2 * (wrap64 ((l1.length : Int) + 1)))) + x10_3)) = j_ := ⟨_, rfl⟩
                               replace H : (if 0 ≤ (ji58) then (if (ji58) < (x8_3.length : Int) then (spec_StrDist.l1 kj23 l0 l1 (wrap64 ((l1.length : Int) + 1)) (x8_3.set ((ji58) : Int).toNat (ji57)) x9_2 (wrap64 (x10_3 + 1)) l2_0 l2_1 l2_2) else (none)) else (none)) = some r := by first | (rw [hji58] at H; exact H) | (simp only [hji58] at H ⊢; exact H)
                               have hji58w : (IntKind.i64.wrap ((wrap64 (x9_2 * (wrap64 ((l1.length : Int) + 1)))) + x10_3)) = ji58 := (i64_w _).trans hji58
                               by_cases c59 : 0 ≤ (ji58)
                               ·rw [if_pos c59] at H
                                have c59b0 : decide (0 ≤ (ji58)) = true := decide_eq_true c59
                                clear c59
                                by_cases c60 : (ji58) < (x8_3.length : Int)
                                ·rw [if_pos c60] at H
                                 have c60b0 : decide ((ji58) < (x8_3.length : Int)) = true := decide_eq_true c60
                                 clear c60
                                 obtain ⟨y583, hy583⟩ : ∃ y_ : List Int, y_ = (x8_3.set ((ji58) : Int).toNat (ji57)) := ⟨_, rfl⟩
                                 replace H : (spec_StrDist.l1 kj23 l0 l1 (wrap64 ((l1.length : Int) + 1)) y583 x9_2 (wrap64 (x10_3 + 1)) l2_0 l2_1 l2_2) = some r := by first | (rw [hy583]; with_reducible exact H) | (have H2_ := (Option.bind_some _ _).symm.trans H; rw [hy583]; with_reducible exact H2_) | (have H2_ := (Option.bind_some _ _).symm.trans H; with_reducible exact H2_) | with_reducible exact H | (rw [hy583]; exact H) | exact H
                                 have Ny583 := Aside0.mk hy583
                                 clear hy583
                                 have H' := Aside0.mk H
                                 clear H
                                 obtain ⟨Ao62, co62, eo62⟩ := Kd.R_slice HO_8.out
                                 subst eo62
                                 have p576 : 0 ≤ ((ji38) : Int) := of_decide_eq_true (by first | (with_reducible assumption) | assumption)
                                 have q576 : (ji38) < (x8_3.length : Int) := of_decide_eq_true (by first | (with_reducible assumption) | assumption)
                                 obtain ⟨ad576, e576, hx576_0⟩ := Kd.at_int (Kd.R_reads' HO_8.out).2.2 (ji38) p576 q576
                                 cases e576
                                 replace p576 := eq_true p576
                                 replace q576 := eq_true q576
                                 have hcz63_0 : wc.cell? ⟨gb565, 0, none⟩ = some (.slice A2_0 l2_0.length c2_0) := (blk_cell BK565.out 0).trans rfl
                                 have hcz63_1 : wc.cell? ⟨gb565, 1, none⟩ = some (.slice A2_1 l2_1.length c2_1) := (blk_cell BK565.out 1).trans rfl
                                 have hcz63_2 : wc.cell? ⟨gb565, 2, none⟩ = some (.slice A2_2 l2_2.length c2_2) := (blk_cell BK565.out 2).trans rfl
                                 have hfz63_0 := blk_frozen BK565.out 0
                                 have hfz63_1 := blk_frozen BK565.out 1
                                 have hfz63_2 := blk_frozen BK565.out 2
                                 have p577 : 0 ≤ ((ji41) : Int) := of_decide_eq_true (by first | (with_reducible assumption) | assumption)
                                 have q577 : (ji41) < (l1.length : Int) := of_decide_eq_true (by first | (with_reducible assumption) | assumption)
                                 obtain ⟨ad577, e577, hx577_0⟩ := Kd.at_int HR1.out (ji41) p577 q577
                                 cases e577
                                 replace hx577_0 := (HB.out.cell (World.block_lt_of_cell? w _ hx577_0)).trans hx577_0
                                 replace p577 := eq_true p577
                                 replace q577 := eq_true q577
                                 have p578 : 0 ≤ ((rd l1 (ji41)) : Int) := of_decide_eq_true (by first | (with_reducible assumption) | assumption)
                                 have q578 : (rd l1 (ji41)) < (l2_1.length : Int) := of_decide_eq_true (by first | (with_reducible assumption) | assumption)
                                 obtain ⟨ad578, e578, hx578_0⟩ := Kd.at_int HR2_1.out (rd l1 (ji41)) p578 q578
                                 cases e578
                                 replace hx578_0 := (HB.out.cell (World.block_lt_of_cell? w _ hx578_0)).trans hx578_0
                                 replace p578 := eq_true p578
                                 replace q578 := eq_true q578
                                 have p579 : 0 ≤ ((ji48) : Int) := of_decide_eq_true (by first | (with_reducible assumption) | assumption)
                                 have q579 : (ji48) < (x8_3.length : Int) := of_decide_eq_true (by first | (with_reducible assumption) | assumption)
                                 obtain ⟨ad579, e579, hx579_0⟩ := Kd.at_int (Kd.R_reads' HO_8.out).2.2 (ji48) p579 q579
                                 obtain rfl : ad576 = ad579 := (by injection e579)
                                 replace p579 := eq_true p579
                                 replace q579 := eq_true q579
                                 have p580 : 0 ≤ ((ji51) : Int) := of_decide_eq_true (by first | (with_reducible assumption) | assumption)
                                 have q580 : (ji51) < (l0.length : Int) := of_decide_eq_true (by first | (with_reducible assumption) | assumption)
                                 obtain ⟨ad580, e580, hx580_0⟩ := Kd.at_int HR0.out (ji51) p580 q580
                                 cases e580
                                 replace hx580_0 := (HB.out.cell (World.block_lt_of_cell? w _ hx580_0)).trans hx580_0
                                 replace p580 := eq_true p580
                                 replace q580 := eq_true q580
                                 have p581 : 0 ≤ ((ji41) : Int) := of_decide_eq_true (by first | (with_reducible assumption) | assumption)
                                 have q581 : (ji41) < (l1.length : Int) := of_decide_eq_true (by first | (with_reducible assumption) | assumption)
                                 obtain ⟨ad581, e581, hx581_0⟩ := Kd.at_int HR1.out (ji41) p581 q581
                                 obtain rfl : ad577 = ad581 := (by injection e581)
                                 replace hx581_0 := (HB.out.cell (World.block_lt_of_cell? w _ hx581_0)).trans hx581_0
                                 replace p581 := eq_true p581
                                 replace q581 := eq_true q581
                                 have p582 : 0 ≤ ((ji54) : Int) := of_decide_eq_true (by first | (with_reducible assumption) | assumption)
                                 have q582 : (ji54) < (l2_2.length : Int) := of_decide_eq_true (by first | (with_reducible assumption) | assumption)
                                 obtain ⟨ad582, e582, hx582_0⟩ := Kd.at_int HR2_2.out (ji54) p582 q582
                                 cases e582
                                 replace hx582_0 := (HB.out.cell (World.block_lt_of_cell? w _ hx582_0)).trans hx582_0
                                 replace p582 := eq_true p582
                                 replace q582 := eq_true q582
                                 have p61 : 0 ≤ ((ji58) : Int) := of_decide_eq_true (by first | (with_reducible assumption) | assumption)
                                 have q61 : ((ji58) : Int) < ((x8_3.length : Int) : Int) := of_decide_eq_true (by first | (with_reducible assumption) | assumption)
                                 obtain ⟨go61, co61, eo61, gb61, gl61, cl61, HG61⟩ := Kd.R_form HO_8.out (by omega)
                                 (first | cases eo61 | (injection eo61 with ea_ en_ ec_; (first | subst ea_ | (injection ea_ with ea_; subst ea_)); subst ec_; clear en_))
                                 have GB61 := Aside0.mk gb61
                                 have GG61 := Aside0.mk HG61
                                 clear gb61 gl61 HG61
                                 (first | simp only [add_plain] at hx576_0 | skip)
                                 (first | simp only [add_plain] at hx579_0 | skip)
                                 obtain ⟨hx61_0, hf61_0⟩ := Kd.R_celln 0 HO_8.out ((ji58) : Int) p61 q61
                                 replace p61 := eq_true p61
                                 replace q61 := eq_true q61
                                 have HP64 := Kd.R_putg HO_8.out ((ji58) : Int) ji57
                                 try rw [hji51] at hji48w
                                 try rw [hji51] at hji48
                                 obtain ⟨q2_, hq2_⟩ : ∃ j_ : Int, (wrap64 ((rd l0 (ji51)) * 6)) = j_ := ⟨_, rfl⟩
                                 have hq2_w : (IntKind.i64.wrap ((rd l0 (ji51)) * 6)) = q2_ := (i64_w _).trans hq2_
                                 try rw [hq2_] at hji54w
                                 try rw [hq2_] at hji54
                                 obtain ⟨q3_, hq3_⟩ : ∃ j_ : Int, (wrap64 (x9_2 * (wrap64 ((l1.length : Int) + 1)))) = j_ := ⟨_, rfl⟩
                                 have hq3_w : (IntKind.i64.wrap (x9_2 * (wrap64 ((l1.length : Int) + 1)))) = q3_ := (i64_w _).trans hq3_
                                 try rw [hq3_] at hji38w
                                 try rw [hq3_] at hji38
                                 try rw [hq3_] at hji58w
                                 try rw [hq3_] at hji58
                                 try rw [hji58] at hji38w
                                 try rw [hji58] at hji38
                                 obtain ⟨q4_, hq4_⟩ : ∃ j_ : Int, (wrap64 ((ji51) * (wrap64 ((l1.length : Int) + 1)))) = j_ := ⟨_, rfl⟩
                                 have hq4_w : (IntKind.i64.wrap ((ji51) * (wrap64 ((l1.length : Int) + 1)))) = q4_ := (i64_w _).trans hq4_
                                 try rw [hq4_] at hji48w
                                 try rw [hq4_] at hji48
                                 obtain ⟨q5_, hq5_⟩ : ∃ j_ : Int, (wrap64 ((q4_) + x10_3)) = j_ := ⟨_, rfl⟩
                                 have hq5_w : (IntKind.i64.wrap ((q4_) + x10_3)) = q5_ := (i64_w _).trans hq5_
                                 try rw [hq5_] at hji48w
                                 try rw [hq5_] at hji48
                                 go_wp2_with (first | ((with_reducible refine gate_store (t := 3) (p := 140) rfl ?_); (try (rw [drewN_self wc]; generalize hq_ : World.drewN wc _ = wc; have n0_ := Aside0.mk (Kd.R_at hq_ HO_8.out); have n1_ := Aside0.mk (blk_at hq_ BK565.out); have n2_ := Aside0.mk (below_at hq_ HB.out); clear hq_ HO_8 BK565 HB; have HO_8 := n0_; have BK565 := n1_; have HB := n2_; clear n0_ n1_ n2_; (try (have HP64 := Kd.R_putg HO_8.out ((ji58) : Int) ji57)); (try (have hz_ := Kd.R_celln 0 HO_8.out ((ji58) : Int) (of_eq_true p61) (of_eq_true q61); have hxn_ := hz_.1; have hfn_ := hz_.2; clear hz_)))); refine store_event (t := 3) (p := 140) (v := ?vo_w65) (w1 := (wc.setCell ⟨go61, ((ji58) : Int).toNat, none⟩ (.int .i64 ji57))) ?hg ?ho ?hn ?hr ?_; (case ho => rfl); (case hg => rfl); (case hn => rfl); (case hr => first | (go_simp; done) | (go_simp; rfl)); intro w65 hw; have hg : wc.grownBy w65 (some go61) := (by rw [hw]; exact HP64.2); have hp_ : Kd.R (Kd.int .i64) 3 w65 w.heap.size (fun _ => True) (.slice (some ⟨go61, 0, none⟩) x8_3.length co62) y583 := (by rw [hw, Ny583.out]; exact HP64.1); clear HP64; have n0_ := Aside0.mk (hp_); have n1_ := Aside0.mk (blk_grown (g := gb565) (o := .cells #[.slice A2_0 l2_0.length c2_0, .slice (some ad578) l2_1.length c2_1, .slice (some ad582) l2_2.length c2_2] 60 (0, 0)) (by (with_reducible repeat (first | refine blk_drewN ?_ _ | refine blk_drew ?_ | refine blk_alloc ?_ _)); exact BK565.out) hg (Kd.R_ne HO_8.out BK565.out (by decide))); have n2_ := Aside0.mk ((by rw [hw]; exact below_set (HB.out) GB61.out : Below w.heap.size w w65)); clear HO_8; clear BK565; clear HB; have HO_8 := n0_; have BK565 := n1_; have HB := n2_; clear n0_ n1_ n2_; clear hg hw hp_))
                                 repeat (go_quiet (first | ((with_reducible refine gate_store (t := 3) (p := 140) rfl ?_); (try (rw [drewN_self wc]; generalize hq_ : World.drewN wc _ = wc; have n0_ := Aside0.mk (Kd.R_at hq_ HO_8.out); have n1_ := Aside0.mk (blk_at hq_ BK565.out); have n2_ := Aside0.mk (below_at hq_ HB.out); clear hq_ HO_8 BK565 HB; have HO_8 := n0_; have BK565 := n1_; have HB := n2_; clear n0_ n1_ n2_; (try (have HP64 := Kd.R_putg HO_8.out ((ji58) : Int) ji57)); (try (have hz_ := Kd.R_celln 0 HO_8.out ((ji58) : Int) (of_eq_true p61) (of_eq_true q61); have hxn_ := hz_.1; have hfn_ := hz_.2; clear hz_)))); refine store_event (t := 3) (p := 140) (v := ?vo_w65) (w1 := (wc.setCell ⟨go61, ((ji58) : Int).toNat, none⟩ (.int .i64 ji57))) ?hg ?ho ?hn ?hr ?_; (case ho => rfl); (case hg => rfl); (case hn => rfl); (case hr => first | (go_simp; done) | (go_simp; rfl)); intro w65 hw; have hg : wc.grownBy w65 (some go61) := (by rw [hw]; exact HP64.2); have hp_ : Kd.R (Kd.int .i64) 3 w65 w.heap.size (fun _ => True) (.slice (some ⟨go61, 0, none⟩) x8_3.length co62) y583 := (by rw [hw, Ny583.out]; exact HP64.1); clear HP64; have n0_ := Aside0.mk (hp_); have n1_ := Aside0.mk (blk_grown (g := gb565) (o := .cells #[.slice A2_0 l2_0.length c2_0, .slice (some ad578) l2_1.length c2_1, .slice (some ad582) l2_2.length c2_2] 60 (0, 0)) (by (with_reducible repeat (first | refine blk_drewN ?_ _ | refine blk_drew ?_ | refine blk_alloc ?_ _)); exact BK565.out) hg (Kd.R_ne HO_8.out BK565.out (by decide))); have n2_ := Aside0.mk ((by rw [hw]; exact below_set (HB.out) GB61.out : Below w.heap.size w w65)); clear HO_8; clear BK565; clear HB; have HO_8 := n0_; have BK565 := n1_; have HB := n2_; clear n0_ n1_ n2_; clear hg hw hp_)); try go_wp2_with (first | ((with_reducible refine gate_store (t := 3) (p := 140) rfl ?_); (try (rw [drewN_self wc]; generalize hq_ : World.drewN wc _ = wc; have n0_ := Aside0.mk (Kd.R_at hq_ HO_8.out); have n1_ := Aside0.mk (blk_at hq_ BK565.out); have n2_ := Aside0.mk (below_at hq_ HB.out); clear hq_ HO_8 BK565 HB; have HO_8 := n0_; have BK565 := n1_; have HB := n2_; clear n0_ n1_ n2_; (try (have HP64 := Kd.R_putg HO_8.out ((ji58) : Int) ji57)); (try (have hz_ := Kd.R_celln 0 HO_8.out ((ji58) : Int) (of_eq_true p61) (of_eq_true q61); have hxn_ := hz_.1; have hfn_ := hz_.2; clear hz_)))); refine store_event (t := 3) (p := 140) (v := ?vo_w65) (w1 := (wc.setCell ⟨go61, ((ji58) : Int).toNat, none⟩ (.int .i64 ji57))) ?hg ?ho ?hn ?hr ?_; (case ho => rfl); (case hg => rfl); (case hn => rfl); (case hr => first | (go_simp; done) | (go_simp; rfl)); intro w65 hw; have hg : wc.grownBy w65 (some go61) := (by rw [hw]; exact HP64.2); have hp_ : Kd.R (Kd.int .i64) 3 w65 w.heap.size (fun _ => True) (.slice (some ⟨go61, 0, none⟩) x8_3.length co62) y583 := (by rw [hw, Ny583.out]; exact HP64.1); clear HP64; have n0_ := Aside0.mk (hp_); have n1_ := Aside0.mk (blk_grown (g := gb565) (o := .cells #[.slice A2_0 l2_0.length c2_0, .slice (some ad578) l2_1.length c2_1, .slice (some ad582) l2_2.length c2_2] 60 (0, 0)) (by (with_reducible repeat (first | refine blk_drewN ?_ _ | refine blk_drew ?_ | refine blk_alloc ?_ _)); exact BK565.out) hg (Kd.R_ne HO_8.out BK565.out (by decide))); have n2_ := Aside0.mk ((by rw [hw]; exact below_set (HB.out) GB61.out : Below w.heap.size w w65)); clear HO_8; clear BK565; clear HB; have HO_8 := n0_; have BK565 := n1_; have HB := n2_; clear n0_ n1_ n2_; clear hg hw hp_)))
                                 go_roundg kj23
                                 case measure => have := HJ3.out; have := HK2.out; have := HK3.out; have := HJ20.out; have := HJ23.out; omega
                                 case rel => exact ⟨(y583), (wrap64 (x10_3 + 1)), (by first | rfl | (simp; done) | (simp [*]; done)), H', ⟨by have := HJ3.out; have := HK2.out; have := HK3.out; have := HJ20.out; have := HJ23.out; omega⟩, ⟨by (with_reducible repeat (first | apply Kd.R_alloc | apply Kd.R_drewN | apply Kd.R_drew)); exact HO_8.out⟩, ⟨by (with_reducible repeat (first | refine blk_drewN ?_ _ | refine blk_drew ?_ | refine blk_alloc ?_ _)); exact BK565.out⟩, ⟨by repeat (first | (with_reducible first | exact HB.out | apply below_alloc | apply pw_below_drewN | apply below_drew1 | refine below_set ?_ GE565.out) | exact HB.out)⟩⟩
                                ·rw [if_neg c60] at H
                                 exact absurd H (by simp)
                               ·rw [if_neg c59] at H
                                exact absurd H (by simp)
                              ·rw [if_neg c56] at H
                               exact absurd H (by simp)
                             ·rw [if_neg c55] at H
                              exact absurd H (by simp)
                            ·rw [if_neg c53] at H
                             exact absurd H (by simp)
                           ·rw [if_neg c52] at H
                            exact absurd H (by simp)
                          ·rw [if_neg c50] at H
                           exact absurd H (by simp)
                         ·rw [if_neg c49] at H
                          exact absurd H (by simp)
                        ·rw [if_neg c47] at H
                         have c47b0 : decide (0 < x9_2) = false := decide_eq_false c47
                         clear c47
                         obtain ⟨ji66, hji66⟩ : ∃ j_ : Int, (wrap64 ((wrap64 (x9_2 * (wrap64 ((l1.length : Int) + 1)))) + x10_3)) = j_ := ⟨_, rfl⟩
                         replace H : (if 0 ≤ (ji66) then (if (ji66) < (x8_3.length : Int) then (spec_StrDist.l1 kj23 l0 l1 (wrap64 ((l1.length : Int) + 1)) (x8_3.set ((ji66) : Int).toNat (ji46)) x9_2 (wrap64 (x10_3 + 1)) l2_0 l2_1 l2_2) else (none)) else (none)) = some r := by first | (rw [hji66] at H; exact H) | (simp only [hji66] at H ⊢; exact H)
                         have hji66w : (IntKind.i64.wrap ((wrap64 (x9_2 * (wrap64 ((l1.length : Int) + 1)))) + x10_3)) = ji66 := (i64_w _).trans hji66
                         by_cases c67 : 0 ≤ (ji66)
                         ·rw [if_pos c67] at H
                          have c67b0 : decide (0 ≤ (ji66)) = true := decide_eq_true c67
                          clear c67
                          by_cases c68 : (ji66) < (x8_3.length : Int)
                          ·rw [if_pos c68] at H
                           have c68b0 : decide ((ji66) < (x8_3.length : Int)) = true := decide_eq_true c68
                           clear c68
                           obtain ⟨y584, hy584⟩ : ∃ y_ : List Int, y_ = (x8_3.set ((ji66) : Int).toNat (ji46)) := ⟨_, rfl⟩
                           replace H : (spec_StrDist.l1 kj23 l0 l1 (wrap64 ((l1.length : Int) + 1)) y584 x9_2 (wrap64 (x10_3 + 1)) l2_0 l2_1 l2_2) = some r := by first | (rw [hy584]; with_reducible exact H) | (have H2_ := (Option.bind_some _ _).symm.trans H; rw [hy584]; with_reducible exact H2_) | (have H2_ := (Option.bind_some _ _).symm.trans H; with_reducible exact H2_) | with_reducible exact H | (rw [hy584]; exact H) | exact H
                           have Ny584 := Aside0.mk hy584
                           clear hy584
                           have H' := Aside0.mk H
                           clear H
                           obtain ⟨Ao70, co70, eo70⟩ := Kd.R_slice HO_8.out
                           subst eo70
                           have p576 : 0 ≤ ((ji38) : Int) := of_decide_eq_true (by first | (with_reducible assumption) | assumption)
                           have q576 : (ji38) < (x8_3.length : Int) := of_decide_eq_true (by first | (with_reducible assumption) | assumption)
                           obtain ⟨ad576, e576, hx576_0⟩ := Kd.at_int (Kd.R_reads' HO_8.out).2.2 (ji38) p576 q576
                           cases e576
                           replace p576 := eq_true p576
                           replace q576 := eq_true q576
                           have hcz71_0 : wc.cell? ⟨gb565, 0, none⟩ = some (.slice A2_0 l2_0.length c2_0) := (blk_cell BK565.out 0).trans rfl
                           have hcz71_1 : wc.cell? ⟨gb565, 1, none⟩ = some (.slice A2_1 l2_1.length c2_1) := (blk_cell BK565.out 1).trans rfl
                           have hcz71_2 : wc.cell? ⟨gb565, 2, none⟩ = some (.slice A2_2 l2_2.length c2_2) := (blk_cell BK565.out 2).trans rfl
                           have hfz71_0 := blk_frozen BK565.out 0
                           have hfz71_1 := blk_frozen BK565.out 1
                           have hfz71_2 := blk_frozen BK565.out 2
                           have p577 : 0 ≤ ((ji41) : Int) := of_decide_eq_true (by first | (with_reducible assumption) | assumption)
                           have q577 : (ji41) < (l1.length : Int) := of_decide_eq_true (by first | (with_reducible assumption) | assumption)
                           obtain ⟨ad577, e577, hx577_0⟩ := Kd.at_int HR1.out (ji41) p577 q577
                           cases e577
                           replace hx577_0 := (HB.out.cell (World.block_lt_of_cell? w _ hx577_0)).trans hx577_0
                           replace p577 := eq_true p577
                           replace q577 := eq_true q577
                           have p578 : 0 ≤ ((rd l1 (ji41)) : Int) := of_decide_eq_true (by first | (with_reducible assumption) | assumption)
                           have q578 : (rd l1 (ji41)) < (l2_1.length : Int) := of_decide_eq_true (by first | (with_reducible assumption) | assumption)
                           obtain ⟨ad578, e578, hx578_0⟩ := Kd.at_int HR2_1.out (rd l1 (ji41)) p578 q578
                           cases e578
                           replace hx578_0 := (HB.out.cell (World.block_lt_of_cell? w _ hx578_0)).trans hx578_0
                           replace p578 := eq_true p578
                           replace q578 := eq_true q578
                           have p69 : 0 ≤ ((ji66) : Int) := of_decide_eq_true (by first | (with_reducible assumption) | assumption)
                           have q69 : ((ji66) : Int) < ((x8_3.length : Int) : Int) := of_decide_eq_true (by first | (with_reducible assumption) | assumption)
                           obtain ⟨go69, co69, eo69, gb69, gl69, cl69, HG69⟩ := Kd.R_form HO_8.out (by omega)
                           (first | cases eo69 | (injection eo69 with ea_ en_ ec_; (first | subst ea_ | (injection ea_ with ea_; subst ea_)); subst ec_; clear en_))
                           have GB69 := Aside0.mk gb69
                           have GG69 := Aside0.mk HG69
                           clear gb69 gl69 HG69
                           (first | simp only [add_plain] at hx576_0 | skip)
                           obtain ⟨hx69_0, hf69_0⟩ := Kd.R_celln 0 HO_8.out ((ji66) : Int) p69 q69
                           replace p69 := eq_true p69
                           replace q69 := eq_true q69
                           have HP72 := Kd.R_putg HO_8.out ((ji66) : Int) ji46
                           obtain ⟨q6_, hq6_⟩ : ∃ j_ : Int, (wrap64 (x9_2 * (wrap64 ((l1.length : Int) + 1)))) = j_ := ⟨_, rfl⟩
                           have hq6_w : (IntKind.i64.wrap (x9_2 * (wrap64 ((l1.length : Int) + 1)))) = q6_ := (i64_w _).trans hq6_
                           try rw [hq6_] at hji38w
                           try rw [hq6_] at hji38
                           try rw [hq6_] at hji66w
                           try rw [hq6_] at hji66
                           try rw [hji66] at hji38w
                           try rw [hji66] at hji38
                           go_wp2_with (first | ((with_reducible refine gate_store (t := 3) (p := 140) rfl ?_); (try (rw [drewN_self wc]; generalize hq_ : World.drewN wc _ = wc; have n0_ := Aside0.mk (Kd.R_at hq_ HO_8.out); have n1_ := Aside0.mk (blk_at hq_ BK565.out); have n2_ := Aside0.mk (below_at hq_ HB.out); clear hq_ HO_8 BK565 HB; have HO_8 := n0_; have BK565 := n1_; have HB := n2_; clear n0_ n1_ n2_; (try (have HP72 := Kd.R_putg HO_8.out ((ji66) : Int) ji46)); (try (have hz_ := Kd.R_celln 0 HO_8.out ((ji66) : Int) (of_eq_true p69) (of_eq_true q69); have hxn_ := hz_.1; have hfn_ := hz_.2; clear hz_)))); refine store_event (t := 3) (p := 140) (v := ?vo_w73) (w1 := (wc.setCell ⟨go69, ((ji66) : Int).toNat, none⟩ (.int .i64 ji46))) ?hg ?ho ?hn ?hr ?_; (case ho => rfl); (case hg => rfl); (case hn => rfl); (case hr => first | (go_simp; done) | (go_simp; rfl)); intro w73 hw; have hg : wc.grownBy w73 (some go69) := (by rw [hw]; exact HP72.2); have hp_ : Kd.R (Kd.int .i64) 3 w73 w.heap.size (fun _ => True) (.slice (some ⟨go69, 0, none⟩) x8_3.length co70) y584 := (by rw [hw, Ny584.out]; exact HP72.1); clear HP72; have n0_ := Aside0.mk (hp_); have n1_ := Aside0.mk (blk_grown (g := gb565) (o := .cells #[.slice A2_0 l2_0.length c2_0, .slice (some ad578) l2_1.length c2_1, .slice A2_2 l2_2.length c2_2] 60 (0, 0)) (by (with_reducible repeat (first | refine blk_drewN ?_ _ | refine blk_drew ?_ | refine blk_alloc ?_ _)); exact BK565.out) hg (Kd.R_ne HO_8.out BK565.out (by decide))); have n2_ := Aside0.mk ((by rw [hw]; exact below_set (HB.out) GB69.out : Below w.heap.size w w73)); clear HO_8; clear BK565; clear HB; have HO_8 := n0_; have BK565 := n1_; have HB := n2_; clear n0_ n1_ n2_; clear hg hw hp_))
                           repeat (go_quiet (first | ((with_reducible refine gate_store (t := 3) (p := 140) rfl ?_); (try (rw [drewN_self wc]; generalize hq_ : World.drewN wc _ = wc; have n0_ := Aside0.mk (Kd.R_at hq_ HO_8.out); have n1_ := Aside0.mk (blk_at hq_ BK565.out); have n2_ := Aside0.mk (below_at hq_ HB.out); clear hq_ HO_8 BK565 HB; have HO_8 := n0_; have BK565 := n1_; have HB := n2_; clear n0_ n1_ n2_; (try (have HP72 := Kd.R_putg HO_8.out ((ji66) : Int) ji46)); (try (have hz_ := Kd.R_celln 0 HO_8.out ((ji66) : Int) (of_eq_true p69) (of_eq_true q69); have hxn_ := hz_.1; have hfn_ := hz_.2; clear hz_)))); refine store_event (t := 3) (p := 140) (v := ?vo_w73) (w1 := (wc.setCell ⟨go69, ((ji66) : Int).toNat, none⟩ (.int .i64 ji46))) ?hg ?ho ?hn ?hr ?_; (case ho => rfl); (case hg => rfl); (case hn => rfl); (case hr => first | (go_simp; done) | (go_simp; rfl)); intro w73 hw; have hg : wc.grownBy w73 (some go69) := (by rw [hw]; exact HP72.2); have hp_ : Kd.R (Kd.int .i64) 3 w73 w.heap.size (fun _ => True) (.slice (some ⟨go69, 0, none⟩) x8_3.length co70) y584 := (by rw [hw, Ny584.out]; exact HP72.1); clear HP72; have n0_ := Aside0.mk (hp_); have n1_ := Aside0.mk (blk_grown (g := gb565) (o := .cells #[.slice A2_0 l2_0.length c2_0, .slice (some ad578) l2_1.length c2_1, .slice A2_2 l2_2.length c2_2] 60 (0, 0)) (by (with_reducible repeat (first | refine blk_drewN ?_ _ | refine blk_drew ?_ | refine blk_alloc ?_ _)); exact BK565.out) hg (Kd.R_ne HO_8.out BK565.out (by decide))); have n2_ := Aside0.mk ((by rw [hw]; exact below_set (HB.out) GB69.out : Below w.heap.size w w73)); clear HO_8; clear BK565; clear HB; have HO_8 := n0_; have BK565 := n1_; have HB := n2_; clear n0_ n1_ n2_; clear hg hw hp_)); try go_wp2_with (first | ((with_reducible refine gate_store (t := 3) (p := 140) rfl ?_); (try (rw [drewN_self wc]; generalize hq_ : World.drewN wc _ = wc; have n0_ := Aside0.mk (Kd.R_at hq_ HO_8.out); have n1_ := Aside0.mk (blk_at hq_ BK565.out); have n2_ := Aside0.mk (below_at hq_ HB.out); clear hq_ HO_8 BK565 HB; have HO_8 := n0_; have BK565 := n1_; have HB := n2_; clear n0_ n1_ n2_; (try (have HP72 := Kd.R_putg HO_8.out ((ji66) : Int) ji46)); (try (have hz_ := Kd.R_celln 0 HO_8.out ((ji66) : Int) (of_eq_true p69) (of_eq_true q69); have hxn_ := hz_.1; have hfn_ := hz_.2; clear hz_)))); refine store_event (t := 3) (p := 140) (v := ?vo_w73) (w1 := (wc.setCell ⟨go69, ((ji66) : Int).toNat, none⟩ (.int .i64 ji46))) ?hg ?ho ?hn ?hr ?_; (case ho => rfl); (case hg => rfl); (case hn => rfl); (case hr => first | (go_simp; done) | (go_simp; rfl)); intro w73 hw; have hg : wc.grownBy w73 (some go69) := (by rw [hw]; exact HP72.2); have hp_ : Kd.R (Kd.int .i64) 3 w73 w.heap.size (fun _ => True) (.slice (some ⟨go69, 0, none⟩) x8_3.length co70) y584 := (by rw [hw, Ny584.out]; exact HP72.1); clear HP72; have n0_ := Aside0.mk (hp_); have n1_ := Aside0.mk (blk_grown (g := gb565) (o := .cells #[.slice A2_0 l2_0.length c2_0, .slice (some ad578) l2_1.length c2_1, .slice A2_2 l2_2.length c2_2] 60 (0, 0)) (by (with_reducible repeat (first | refine blk_drewN ?_ _ | refine blk_drew ?_ | refine blk_alloc ?_ _)); exact BK565.out) hg (Kd.R_ne HO_8.out BK565.out (by decide))); have n2_ := Aside0.mk ((by rw [hw]; exact below_set (HB.out) GB69.out : Below w.heap.size w w73)); clear HO_8; clear BK565; clear HB; have HO_8 := n0_; have BK565 := n1_; have HB := n2_; clear n0_ n1_ n2_; clear hg hw hp_)))
                           go_roundg kj23
                           case measure => have := HJ3.out; have := HK2.out; have := HK3.out; have := HJ20.out; have := HJ23.out; omega
                           case rel => exact ⟨(y584), (wrap64 (x10_3 + 1)), (by first | rfl | (simp; done) | (simp [*]; done)), H', ⟨by have := HJ3.out; have := HK2.out; have := HK3.out; have := HJ20.out; have := HJ23.out; omega⟩, ⟨by (with_reducible repeat (first | apply Kd.R_alloc | apply Kd.R_drewN | apply Kd.R_drew)); exact HO_8.out⟩, ⟨by (with_reducible repeat (first | refine blk_drewN ?_ _ | refine blk_drew ?_ | refine blk_alloc ?_ _)); exact BK565.out⟩, ⟨by repeat (first | (with_reducible first | exact HB.out | apply below_alloc | apply pw_below_drewN | apply below_drew1 | refine below_set ?_ GE565.out) | exact HB.out)⟩⟩
                          ·rw [if_neg c68] at H
                           exact absurd H (by simp)
                         ·rw [if_neg c67] at H
                          exact absurd H (by simp)
                       ·rw [if_neg c45] at H
                        exact absurd H (by simp)
                      ·rw [if_neg c44] at H
                       exact absurd H (by simp)
                     ·rw [if_neg c43] at H
                      exact absurd H (by simp)
                    ·rw [if_neg c42] at H
                     exact absurd H (by simp)
                   ·rw [if_neg c40] at H
                    exact absurd H (by simp)
                  ·rw [if_neg c39] at H
                   exact absurd H (by simp)
                 ·rw [if_neg c37] at H
                  have c37b0 : decide (0 < x10_3) = false := decide_eq_false c37
                  clear c37
                  by_cases c74 : x9_2 > 0
                  ·rw [if_pos c74] at H
                   have c74b0 : decide (0 < x9_2) = true := decide_eq_true c74
                   clear c74
                   obtain ⟨ji75, hji75⟩ : ∃ j_ : Int, (wrap64 ((wrap64 (x9_2 * (wrap64 ((l1.length : Int) + 1)))) + x10_3)) = j_ := ⟨_, rfl⟩
                   replace H : (if 0 ≤ (ji75) then (if (ji75) < (x8_3.length : Int) then (spec_StrDist.l1 kj23 l0 l1 (wrap64 ((l1.length : Int) + 1)) (x8_3.set ((ji75) : Int).toNat x11_23) x9_2 (wrap64 (x10_3 + 1)) l2_0 l2_1 l2_2) else (none)) else (none)) = some r := by first | (rw [hji75] at H; exact H) | (simp only [hji75] at H ⊢; exact H)
                   have hji75w : (IntKind.i64.wrap ((wrap64 (x9_2 * (wrap64 ((l1.length : Int) + 1)))) + x10_3)) = ji75 := (i64_w _).trans hji75
                   by_cases c76 : 0 ≤ (ji75)
                   ·rw [if_pos c76] at H
                    have c76b0 : decide (0 ≤ (ji75)) = true := decide_eq_true c76
                    clear c76
                    by_cases c77 : (ji75) < (x8_3.length : Int)
                    ·rw [if_pos c77] at H
                     have c77b0 : decide ((ji75) < (x8_3.length : Int)) = true := decide_eq_true c77
                     clear c77
                     obtain ⟨y585, hy585⟩ : ∃ y_ : List Int, y_ = (x8_3.set ((ji75) : Int).toNat x11_23) := ⟨_, rfl⟩
                     replace H : (spec_StrDist.l1 kj23 l0 l1 (wrap64 ((l1.length : Int) + 1)) y585 x9_2 (wrap64 (x10_3 + 1)) l2_0 l2_1 l2_2) = some r := by first | (rw [hy585]; with_reducible exact H) | (have H2_ := (Option.bind_some _ _).symm.trans H; rw [hy585]; with_reducible exact H2_) | (have H2_ := (Option.bind_some _ _).symm.trans H; with_reducible exact H2_) | with_reducible exact H | (rw [hy585]; exact H) | exact H
                     have Ny585 := Aside0.mk hy585
                     clear hy585
                     have H' := Aside0.mk H
                     clear H
                     have p78 : 0 ≤ ((ji75) : Int) := of_decide_eq_true (by first | (with_reducible assumption) | assumption)
                     have q78 : ((ji75) : Int) < ((x8_3.length : Int) : Int) := of_decide_eq_true (by first | (with_reducible assumption) | assumption)
                     obtain ⟨go78, co78, eo78, gb78, gl78, cl78, HG78⟩ := Kd.R_form HO_8.out (by omega)
                     (first | cases eo78 | (injection eo78 with ea_ en_ ec_; (first | subst ea_ | (injection ea_ with ea_; subst ea_)); subst ec_; clear en_))
                     have GB78 := Aside0.mk gb78
                     have GG78 := Aside0.mk HG78
                     clear gb78 gl78 HG78
                     obtain ⟨hx78_0, hf78_0⟩ := Kd.R_celln 0 HO_8.out ((ji75) : Int) p78 q78
                     replace p78 := eq_true p78
                     replace q78 := eq_true q78
                     have HP79 := Kd.R_putg HO_8.out ((ji75) : Int) x11_23
                     obtain ⟨q7_, hq7_⟩ : ∃ j_ : Int, (wrap64 (x9_2 * (wrap64 ((l1.length : Int) + 1)))) = j_ := ⟨_, rfl⟩
                     have hq7_w : (IntKind.i64.wrap (x9_2 * (wrap64 ((l1.length : Int) + 1)))) = q7_ := (i64_w _).trans hq7_
                     try rw [hq7_] at hji75w
                     try rw [hq7_] at hji75
                     go_wp2_with (first | ((with_reducible refine gate_store (t := 3) (p := 140) rfl ?_); (try (rw [drewN_self wc]; generalize hq_ : World.drewN wc _ = wc; have n0_ := Aside0.mk (Kd.R_at hq_ HO_8.out); have n1_ := Aside0.mk (blk_at hq_ BK565.out); have n2_ := Aside0.mk (below_at hq_ HB.out); clear hq_ HO_8 BK565 HB; have HO_8 := n0_; have BK565 := n1_; have HB := n2_; clear n0_ n1_ n2_; (try (have HP79 := Kd.R_putg HO_8.out ((ji75) : Int) x11_23)); (try (have hz_ := Kd.R_celln 0 HO_8.out ((ji75) : Int) (of_eq_true p78) (of_eq_true q78); have hxn_ := hz_.1; have hfn_ := hz_.2; clear hz_)))); refine store_event (t := 3) (p := 140) (v := ?vo_w80) (w1 := (wc.setCell ⟨go78, ((ji75) : Int).toNat, none⟩ (.int .i64 x11_23))) ?hg ?ho ?hn ?hr ?_; (case ho => rfl); (case hg => rfl); (case hn => rfl); (case hr => first | (go_simp; done) | (go_simp; rfl)); intro w80 hw; have hg : wc.grownBy w80 (some go78) := (by rw [hw]; exact HP79.2); have hp_ : Kd.R (Kd.int .i64) 3 w80 w.heap.size (fun _ => True) (.slice (some ⟨go78, 0, none⟩) x8_3.length co78) y585 := (by rw [hw, Ny585.out]; exact HP79.1); clear HP79; have n0_ := Aside0.mk (hp_); have n1_ := Aside0.mk (blk_grown (g := gb565) (o := .cells #[.slice A2_0 l2_0.length c2_0, .slice A2_1 l2_1.length c2_1, .slice A2_2 l2_2.length c2_2] 60 (0, 0)) (by (with_reducible repeat (first | refine blk_drewN ?_ _ | refine blk_drew ?_ | refine blk_alloc ?_ _)); exact BK565.out) hg (Kd.R_ne HO_8.out BK565.out (by decide))); have n2_ := Aside0.mk ((by rw [hw]; exact below_set (HB.out) GB78.out : Below w.heap.size w w80)); clear HO_8; clear BK565; clear HB; have HO_8 := n0_; have BK565 := n1_; have HB := n2_; clear n0_ n1_ n2_; clear hg hw hp_))
                     repeat (go_quiet (first | ((with_reducible refine gate_store (t := 3) (p := 140) rfl ?_); (try (rw [drewN_self wc]; generalize hq_ : World.drewN wc _ = wc; have n0_ := Aside0.mk (Kd.R_at hq_ HO_8.out); have n1_ := Aside0.mk (blk_at hq_ BK565.out); have n2_ := Aside0.mk (below_at hq_ HB.out); clear hq_ HO_8 BK565 HB; have HO_8 := n0_; have BK565 := n1_; have HB := n2_; clear n0_ n1_ n2_; (try (have HP79 := Kd.R_putg HO_8.out ((ji75) : Int) x11_23)); (try (have hz_ := Kd.R_celln 0 HO_8.out ((ji75) : Int) (of_eq_true p78) (of_eq_true q78); have hxn_ := hz_.1; have hfn_ := hz_.2; clear hz_)))); refine store_event (t := 3) (p := 140) (v := ?vo_w80) (w1 := (wc.setCell ⟨go78, ((ji75) : Int).toNat, none⟩ (.int .i64 x11_23))) ?hg ?ho ?hn ?hr ?_; (case ho => rfl); (case hg => rfl); (case hn => rfl); (case hr => first | (go_simp; done) | (go_simp; rfl)); intro w80 hw; have hg : wc.grownBy w80 (some go78) := (by rw [hw]; exact HP79.2); have hp_ : Kd.R (Kd.int .i64) 3 w80 w.heap.size (fun _ => True) (.slice (some ⟨go78, 0, none⟩) x8_3.length co78) y585 := (by rw [hw, Ny585.out]; exact HP79.1); clear HP79; have n0_ := Aside0.mk (hp_); have n1_ := Aside0.mk (blk_grown (g := gb565) (o := .cells #[.slice A2_0 l2_0.length c2_0, .slice A2_1 l2_1.length c2_1, .slice A2_2 l2_2.length c2_2] 60 (0, 0)) (by (with_reducible repeat (first | refine blk_drewN ?_ _ | refine blk_drew ?_ | refine blk_alloc ?_ _)); exact BK565.out) hg (Kd.R_ne HO_8.out BK565.out (by decide))); have n2_ := Aside0.mk ((by rw [hw]; exact below_set (HB.out) GB78.out : Below w.heap.size w w80)); clear HO_8; clear BK565; clear HB; have HO_8 := n0_; have BK565 := n1_; have HB := n2_; clear n0_ n1_ n2_; clear hg hw hp_)); try go_wp2_with (first | ((with_reducible refine gate_store (t := 3) (p := 140) rfl ?_); (try (rw [drewN_self wc]; generalize hq_ : World.drewN wc _ = wc; have n0_ := Aside0.mk (Kd.R_at hq_ HO_8.out); have n1_ := Aside0.mk (blk_at hq_ BK565.out); have n2_ := Aside0.mk (below_at hq_ HB.out); clear hq_ HO_8 BK565 HB; have HO_8 := n0_; have BK565 := n1_; have HB := n2_; clear n0_ n1_ n2_; (try (have HP79 := Kd.R_putg HO_8.out ((ji75) : Int) x11_23)); (try (have hz_ := Kd.R_celln 0 HO_8.out ((ji75) : Int) (of_eq_true p78) (of_eq_true q78); have hxn_ := hz_.1; have hfn_ := hz_.2; clear hz_)))); refine store_event (t := 3) (p := 140) (v := ?vo_w80) (w1 := (wc.setCell ⟨go78, ((ji75) : Int).toNat, none⟩ (.int .i64 x11_23))) ?hg ?ho ?hn ?hr ?_; (case ho => rfl); (case hg => rfl); (case hn => rfl); (case hr => first | (go_simp; done) | (go_simp; rfl)); intro w80 hw; have hg : wc.grownBy w80 (some go78) := (by rw [hw]; exact HP79.2); have hp_ : Kd.R (Kd.int .i64) 3 w80 w.heap.size (fun _ => True) (.slice (some ⟨go78, 0, none⟩) x8_3.length co78) y585 := (by rw [hw, Ny585.out]; exact HP79.1); clear HP79; have n0_ := Aside0.mk (hp_); have n1_ := Aside0.mk (blk_grown (g := gb565) (o := .cells #[.slice A2_0 l2_0.length c2_0, .slice A2_1 l2_1.length c2_1, .slice A2_2 l2_2.length c2_2] 60 (0, 0)) (by (with_reducible repeat (first | refine blk_drewN ?_ _ | refine blk_drew ?_ | refine blk_alloc ?_ _)); exact BK565.out) hg (Kd.R_ne HO_8.out BK565.out (by decide))); have n2_ := Aside0.mk ((by rw [hw]; exact below_set (HB.out) GB78.out : Below w.heap.size w w80)); clear HO_8; clear BK565; clear HB; have HO_8 := n0_; have BK565 := n1_; have HB := n2_; clear n0_ n1_ n2_; clear hg hw hp_)))
                     go_roundg kj23
                     case measure => have := HJ3.out; have := HK2.out; have := HK3.out; have := HJ20.out; have := HJ23.out; omega
                     case rel => exact ⟨(y585), (wrap64 (x10_3 + 1)), (by first | rfl | (simp; done) | (simp [*]; done)), H', ⟨by have := HJ3.out; have := HK2.out; have := HK3.out; have := HJ20.out; have := HJ23.out; omega⟩, ⟨by (with_reducible repeat (first | apply Kd.R_alloc | apply Kd.R_drewN | apply Kd.R_drew)); exact HO_8.out⟩, ⟨by (with_reducible repeat (first | refine blk_drewN ?_ _ | refine blk_drew ?_ | refine blk_alloc ?_ _)); exact BK565.out⟩, ⟨by repeat (first | (with_reducible first | exact HB.out | apply below_alloc | apply pw_below_drewN | apply below_drew1 | refine below_set ?_ GE565.out) | exact HB.out)⟩⟩
                    ·rw [if_neg c77] at H
                     exact absurd H (by simp)
                   ·rw [if_neg c76] at H
                    exact absurd H (by simp)
                  ·rw [if_neg c74] at H
                   have c74b0 : decide (0 < x9_2) = false := decide_eq_false c74
                   clear c74
                   obtain ⟨ji81, hji81⟩ : ∃ j_ : Int, (wrap64 ((wrap64 (x9_2 * (wrap64 ((l1.length : Int) + 1)))) + x10_3)) = j_ := ⟨_, rfl⟩
                   replace H : (if 0 ≤ (ji81) then (if (ji81) < (x8_3.length : Int) then (spec_StrDist.l1 kj23 l0 l1 (wrap64 ((l1.length : Int) + 1)) (x8_3.set ((ji81) : Int).toNat x11_23) x9_2 (wrap64 (x10_3 + 1)) l2_0 l2_1 l2_2) else (none)) else (none)) = some r := by first | (rw [hji81] at H; exact H) | (simp only [hji81] at H ⊢; exact H)
                   have hji81w : (IntKind.i64.wrap ((wrap64 (x9_2 * (wrap64 ((l1.length : Int) + 1)))) + x10_3)) = ji81 := (i64_w _).trans hji81
                   by_cases c82 : 0 ≤ (ji81)
                   ·rw [if_pos c82] at H
                    have c82b0 : decide (0 ≤ (ji81)) = true := decide_eq_true c82
                    clear c82
                    by_cases c83 : (ji81) < (x8_3.length : Int)
                    ·rw [if_pos c83] at H
                     have c83b0 : decide ((ji81) < (x8_3.length : Int)) = true := decide_eq_true c83
                     clear c83
                     obtain ⟨y586, hy586⟩ : ∃ y_ : List Int, y_ = (x8_3.set ((ji81) : Int).toNat x11_23) := ⟨_, rfl⟩
                     replace H : (spec_StrDist.l1 kj23 l0 l1 (wrap64 ((l1.length : Int) + 1)) y586 x9_2 (wrap64 (x10_3 + 1)) l2_0 l2_1 l2_2) = some r := by first | (rw [hy586]; with_reducible exact H) | (have H2_ := (Option.bind_some _ _).symm.trans H; rw [hy586]; with_reducible exact H2_) | (have H2_ := (Option.bind_some _ _).symm.trans H; with_reducible exact H2_) | with_reducible exact H | (rw [hy586]; exact H) | exact H
                     have Ny586 := Aside0.mk hy586
                     clear hy586
                     have H' := Aside0.mk H
                     clear H
                     have p84 : 0 ≤ ((ji81) : Int) := of_decide_eq_true (by first | (with_reducible assumption) | assumption)
                     have q84 : ((ji81) : Int) < ((x8_3.length : Int) : Int) := of_decide_eq_true (by first | (with_reducible assumption) | assumption)
                     obtain ⟨go84, co84, eo84, gb84, gl84, cl84, HG84⟩ := Kd.R_form HO_8.out (by omega)
                     (first | cases eo84 | (injection eo84 with ea_ en_ ec_; (first | subst ea_ | (injection ea_ with ea_; subst ea_)); subst ec_; clear en_))
                     have GB84 := Aside0.mk gb84
                     have GG84 := Aside0.mk HG84
                     clear gb84 gl84 HG84
                     obtain ⟨hx84_0, hf84_0⟩ := Kd.R_celln 0 HO_8.out ((ji81) : Int) p84 q84
                     replace p84 := eq_true p84
                     replace q84 := eq_true q84
                     have HP85 := Kd.R_putg HO_8.out ((ji81) : Int) x11_23
                     obtain ⟨q8_, hq8_⟩ : ∃ j_ : Int, (wrap64 (x9_2 * (wrap64 ((l1.length : Int) + 1)))) = j_ := ⟨_, rfl⟩
                     have hq8_w : (IntKind.i64.wrap (x9_2 * (wrap64 ((l1.length : Int) + 1)))) = q8_ := (i64_w _).trans hq8_
                     try rw [hq8_] at hji81w
                     try rw [hq8_] at hji81
                     go_wp2_with (first | ((with_reducible refine gate_store (t := 3) (p := 140) rfl ?_); (try (rw [drewN_self wc]; generalize hq_ : World.drewN wc _ = wc; have n0_ := Aside0.mk (Kd.R_at hq_ HO_8.out); have n1_ := Aside0.mk (blk_at hq_ BK565.out); have n2_ := Aside0.mk (below_at hq_ HB.out); clear hq_ HO_8 BK565 HB; have HO_8 := n0_; have BK565 := n1_; have HB := n2_; clear n0_ n1_ n2_; (try (have HP85 := Kd.R_putg HO_8.out ((ji81) : Int) x11_23)); (try (have hz_ := Kd.R_celln 0 HO_8.out ((ji81) : Int) (of_eq_true p84) (of_eq_true q84); have hxn_ := hz_.1; have hfn_ := hz_.2; clear hz_)))); refine store_event (t := 3) (p := 140) (v := ?vo_w86) (w1 := (wc.setCell ⟨go84, ((ji81) : Int).toNat, none⟩ (.int .i64 x11_23))) ?hg ?ho ?hn ?hr ?_; (case ho => rfl); (case hg => rfl); (case hn => rfl); (case hr => first | (go_simp; done) | (go_simp; rfl)); intro w86 hw; have hg : wc.grownBy w86 (some go84) := (by rw [hw]; exact HP85.2); have hp_ : Kd.R (Kd.int .i64) 3 w86 w.heap.size (fun _ => True) (.slice (some ⟨go84, 0, none⟩) x8_3.length co84) y586 := (by rw [hw, Ny586.out]; exact HP85.1); clear HP85; have n0_ := Aside0.mk (hp_); have n1_ := Aside0.mk (blk_grown (g := gb565) (o := .cells #[.slice A2_0 l2_0.length c2_0, .slice A2_1 l2_1.length c2_1, .slice A2_2 l2_2.length c2_2] 60 (0, 0)) (by (with_reducible repeat (first | refine blk_drewN ?_ _ | refine blk_drew ?_ | refine blk_alloc ?_ _)); exact BK565.out) hg (Kd.R_ne HO_8.out BK565.out (by decide))); have n2_ := Aside0.mk ((by rw [hw]; exact below_set (HB.out) GB84.out : Below w.heap.size w w86)); clear HO_8; clear BK565; clear HB; have HO_8 := n0_; have BK565 := n1_; have HB := n2_; clear n0_ n1_ n2_; clear hg hw hp_))
                     repeat (go_quiet (first | ((with_reducible refine gate_store (t := 3) (p := 140) rfl ?_); (try (rw [drewN_self wc]; generalize hq_ : World.drewN wc _ = wc; have n0_ := Aside0.mk (Kd.R_at hq_ HO_8.out); have n1_ := Aside0.mk (blk_at hq_ BK565.out); have n2_ := Aside0.mk (below_at hq_ HB.out); clear hq_ HO_8 BK565 HB; have HO_8 := n0_; have BK565 := n1_; have HB := n2_; clear n0_ n1_ n2_; (try (have HP85 := Kd.R_putg HO_8.out ((ji81) : Int) x11_23)); (try (have hz_ := Kd.R_celln 0 HO_8.out ((ji81) : Int) (of_eq_true p84) (of_eq_true q84); have hxn_ := hz_.1; have hfn_ := hz_.2; clear hz_)))); refine store_event (t := 3) (p := 140) (v := ?vo_w86) (w1 := (wc.setCell ⟨go84, ((ji81) : Int).toNat, none⟩ (.int .i64 x11_23))) ?hg ?ho ?hn ?hr ?_; (case ho => rfl); (case hg => rfl); (case hn => rfl); (case hr => first | (go_simp; done) | (go_simp; rfl)); intro w86 hw; have hg : wc.grownBy w86 (some go84) := (by rw [hw]; exact HP85.2); have hp_ : Kd.R (Kd.int .i64) 3 w86 w.heap.size (fun _ => True) (.slice (some ⟨go84, 0, none⟩) x8_3.length co84) y586 := (by rw [hw, Ny586.out]; exact HP85.1); clear HP85; have n0_ := Aside0.mk (hp_); have n1_ := Aside0.mk (blk_grown (g := gb565) (o := .cells #[.slice A2_0 l2_0.length c2_0, .slice A2_1 l2_1.length c2_1, .slice A2_2 l2_2.length c2_2] 60 (0, 0)) (by (with_reducible repeat (first | refine blk_drewN ?_ _ | refine blk_drew ?_ | refine blk_alloc ?_ _)); exact BK565.out) hg (Kd.R_ne HO_8.out BK565.out (by decide))); have n2_ := Aside0.mk ((by rw [hw]; exact below_set (HB.out) GB84.out : Below w.heap.size w w86)); clear HO_8; clear BK565; clear HB; have HO_8 := n0_; have BK565 := n1_; have HB := n2_; clear n0_ n1_ n2_; clear hg hw hp_)); try go_wp2_with (first | ((with_reducible refine gate_store (t := 3) (p := 140) rfl ?_); (try (rw [drewN_self wc]; generalize hq_ : World.drewN wc _ = wc; have n0_ := Aside0.mk (Kd.R_at hq_ HO_8.out); have n1_ := Aside0.mk (blk_at hq_ BK565.out); have n2_ := Aside0.mk (below_at hq_ HB.out); clear hq_ HO_8 BK565 HB; have HO_8 := n0_; have BK565 := n1_; have HB := n2_; clear n0_ n1_ n2_; (try (have HP85 := Kd.R_putg HO_8.out ((ji81) : Int) x11_23)); (try (have hz_ := Kd.R_celln 0 HO_8.out ((ji81) : Int) (of_eq_true p84) (of_eq_true q84); have hxn_ := hz_.1; have hfn_ := hz_.2; clear hz_)))); refine store_event (t := 3) (p := 140) (v := ?vo_w86) (w1 := (wc.setCell ⟨go84, ((ji81) : Int).toNat, none⟩ (.int .i64 x11_23))) ?hg ?ho ?hn ?hr ?_; (case ho => rfl); (case hg => rfl); (case hn => rfl); (case hr => first | (go_simp; done) | (go_simp; rfl)); intro w86 hw; have hg : wc.grownBy w86 (some go84) := (by rw [hw]; exact HP85.2); have hp_ : Kd.R (Kd.int .i64) 3 w86 w.heap.size (fun _ => True) (.slice (some ⟨go84, 0, none⟩) x8_3.length co84) y586 := (by rw [hw, Ny586.out]; exact HP85.1); clear HP85; have n0_ := Aside0.mk (hp_); have n1_ := Aside0.mk (blk_grown (g := gb565) (o := .cells #[.slice A2_0 l2_0.length c2_0, .slice A2_1 l2_1.length c2_1, .slice A2_2 l2_2.length c2_2] 60 (0, 0)) (by (with_reducible repeat (first | refine blk_drewN ?_ _ | refine blk_drew ?_ | refine blk_alloc ?_ _)); exact BK565.out) hg (Kd.R_ne HO_8.out BK565.out (by decide))); have n2_ := Aside0.mk ((by rw [hw]; exact below_set (HB.out) GB84.out : Below w.heap.size w w86)); clear HO_8; clear BK565; clear HB; have HO_8 := n0_; have BK565 := n1_; have HB := n2_; clear n0_ n1_ n2_; clear hg hw hp_)))
                     go_roundg kj23
                     case measure => have := HJ3.out; have := HK2.out; have := HK3.out; have := HJ20.out; have := HJ23.out; omega
                     case rel => exact ⟨(y586), (wrap64 (x10_3 + 1)), (by first | rfl | (simp; done) | (simp [*]; done)), H', ⟨by have := HJ3.out; have := HK2.out; have := HK3.out; have := HJ20.out; have := HJ23.out; omega⟩, ⟨by (with_reducible repeat (first | apply Kd.R_alloc | apply Kd.R_drewN | apply Kd.R_drew)); exact HO_8.out⟩, ⟨by (with_reducible repeat (first | refine blk_drewN ?_ _ | refine blk_drew ?_ | refine blk_alloc ?_ _)); exact BK565.out⟩, ⟨by repeat (first | (with_reducible first | exact HB.out | apply below_alloc | apply pw_below_drewN | apply below_drew1 | refine below_set ?_ GE565.out) | exact HB.out)⟩⟩
                    ·rw [if_neg c83] at H
                     exact absurd H (by simp)
                   ·rw [if_neg c82] at H
                    exact absurd H (by simp)
           ·rw [if_neg c20] at H
            have c20b0 : decide (x10_3 ≤ (l1.length : Int)) = false := decide_eq_false c20
            clear c20
            have H' := Aside0.mk H
            clear H
            go_wp2
            repeat (go_quiet (fail); try go_wp2)
            go_roundg k3
            case measure => have := HJ3.out; have := HK2.out; have := HK3.out; omega
            case rel => exact ⟨(x8_3), (wrap64 (x9_2 + 1)), (by first | rfl | (simp; done) | (simp [*]; done)), H', ⟨by have := HJ3.out; have := HK2.out; have := HK3.out; omega⟩, ⟨by (with_reducible repeat (first | apply Kd.R_alloc | apply Kd.R_drewN | apply Kd.R_drew)); exact HO_8.out⟩, ⟨by (with_reducible repeat (first | refine blk_drewN ?_ _ | refine blk_drew ?_ | refine blk_alloc ?_ _)); exact BK565.out⟩, ⟨by repeat (first | (with_reducible first | exact HB.out | apply below_alloc | apply pw_below_drewN | apply below_drew1 | refine below_set ?_ GE565.out) | exact HB.out)⟩⟩
        ·rw [if_neg c19] at H
         have c19b0 : decide (x9_2 ≤ (l0.length : Int)) = false := decide_eq_false c19
         clear c19
         obtain ⟨ji87, hji87⟩ : ∃ j_ : Int, (wrap64 ((x8_2.length : Int) - 1)) = j_ := ⟨_, rfl⟩
         replace H : (if 0 ≤ (ji87) then (if (ji87) < (x8_2.length : Int) then (some (rd x8_2 (ji87))) else (none)) else (none)) = some r := by first | (rw [hji87] at H; exact H) | (simp only [hji87] at H ⊢; exact H)
         have hji87w : (IntKind.i64.wrap ((x8_2.length : Int) - 1)) = ji87 := (i64_w _).trans hji87
         by_cases c88 : 0 ≤ (ji87)
         ·rw [if_pos c88] at H
          have c88b0 : decide (0 ≤ (ji87)) = true := decide_eq_true c88
          clear c88
          by_cases c89 : (ji87) < (x8_2.length : Int)
          ·rw [if_pos c89] at H
           have c89b0 : decide ((ji87) < (x8_2.length : Int)) = true := decide_eq_true c89
           clear c89
           obtain rfl := Option.some.inj H
           obtain ⟨Ao90, co90, eo90⟩ := Kd.R_slice HO_8.out
           subst eo90
           have p572 : 0 ≤ ((ji87) : Int) := of_decide_eq_true (by first | (with_reducible assumption) | assumption)
           have q572 : (ji87) < (x8_2.length : Int) := of_decide_eq_true (by first | (with_reducible assumption) | assumption)
           obtain ⟨ad572, e572, hx572_0⟩ := Kd.at_int (Kd.R_reads' HO_8.out).2.2 (ji87) p572 q572
           cases e572
           replace p572 := eq_true p572
           replace q572 := eq_true q572
           go_wp2
           repeat (go_quiet (fail); try go_wp2)
           go_ret
           exact ⟨by first | rfl | (simp [errW_none, errW_some] <;> rfl) | (simp only [← hji14, ← hji87]; first | rfl | (simp [errW_none, errW_some] <;> rfl)) | (simp [*, errW_none, errW_some] <;> rfl), by repeat (first | (with_reducible first | exact HB.out | apply below_alloc | apply pw_below_drewN | apply below_drew1 | refine below_set ?_ GE565.out) | exact HB.out)⟩
          ·rw [if_neg c89] at H
           exact absurd H (by simp)
         ·rw [if_neg c88] at H
          exact absurd H (by simp)
     ·rw [if_neg c16] at H
      exact absurd H (by simp)
    ·rw [if_neg c15] at H
     exact absurd H (by simp)



/-! ### impl_labelsOk_lit1: function 96 -/
def impl_labelsOk_lit1.f (a0 : Int) : Option (Bool) := (impl_LabelOk.f a0).bind fun t604 => (some (!t604))
set_option maxHeartbeats 8000000 in
set_option maxRecDepth 100000 in
theorem impl_labelsOk_lit1.calls (a0 : Int) (r : Bool) (w : World) (h : impl_labelsOk_lit1.f a0 = some r) :
  Calls Try.prog 96 #[.int .i64 a0] w fun e w' => e = .returned (.bool r) ∧ Drawn0 w w' := by
 have H : ((impl_LabelOk.f a0).bind fun t604 => (some (!t604))) = some r := h
 clear h
 replace H := Option.bind_eq_some_iff.mp H
 obtain ⟨t604, A20, H⟩ := H
 have A2 := Aside0.mk A20
 clear A20
 obtain rfl := Option.some.inj H
 go_enter Try.func96, Try.ntmps96
 go_wp2_with (first | ((with_reducible refine gate_callee (f := 64) rfl ?_); refine goesL_ (some 4) rfl rfl Try.func64 (by kernel_rfl) rfl #[.int .i64 a0] rfl (by (try simp only [List.map_toArray, List.map_cons, List.map_nil]); first | done | rfl | (simp only [List.length_drop, List.length_take]; rfl)) ?_; (with_reducible refine (impl_LabelOk.calls a0 t604 _ A2.out).mono ?_); rintro e w' ⟨rfl, ⟨nd, rfl⟩⟩; refine ⟨_, rfl, ?_⟩))
 go_ret
 exact ⟨by first | rfl | (simp; done) | (simp [*]; done), by repeat (first | exact Drawn0.refl _ | apply Drawn0.step)⟩



/-! ### slices_IndexFunc_int_int__labelsOk_lit1: function 119 -/
def slices_IndexFunc_int_int__labelsOk_lit1.l0 : Nat → List Int → Int → Int → Option (Int)
 | 0, _, _, _ => none
 | k + 1, x0, x7, x8 => if x8 < x7 then (if 0 ≤ x8 then (if x8 < (x0.length : Int) then ((impl_labelsOk_lit1.f (rd x0 x8)).bind fun t606 => (if t606 = true then (some x8) else (slices_IndexFunc_int_int__labelsOk_lit1.l0 k x0 x7 (wrap64 (x8 + 1))))) else (none)) else (none)) else (some (-1))
def slices_IndexFunc_int_int__labelsOk_lit1.f (k : Nat) (l0 : List Int)  : Option (Int) := slices_IndexFunc_int_int__labelsOk_lit1.l0 k l0 (l0.length : Int) 0
theorem slices_IndexFunc_int_int__labelsOk_lit1.mono_l : ∀ k, (∀ y0 y1 y2, LeO (slices_IndexFunc_int_int__labelsOk_lit1.l0 k y0 y1 y2) (slices_IndexFunc_int_int__labelsOk_lit1.l0 (k + 1) y0 y1 y2))
 | 0 => fun _ _ _ r h => by simp [slices_IndexFunc_int_int__labelsOk_lit1.l0] at h
 | k + 1 => by
  have ih0 := slices_IndexFunc_int_int__labelsOk_lit1.mono_l k
  ·intro y0 y1 y2
   unfold slices_IndexFunc_int_int__labelsOk_lit1.l0
   repeat' first
   | (with_reducible exact ih0 _ _ _)
   | (with_reducible exact LeO.refl _)
   | (with_reducible exact LeO.none _)
   | (with_reducible refine LeO.ite ?_ ?_)
   | (with_reducible refine LeO.bind ?_ (fun _ => ?_))
   | exact ih0 _ _ _
   | exact LeO.none _
   | refine LeO.ite ?_ ?_
   | refine LeO.bind ?_ (fun _ => ?_)
theorem slices_IndexFunc_int_int__labelsOk_lit1.mono : ∀ a0 k, LeO (slices_IndexFunc_int_int__labelsOk_lit1.f k a0) (slices_IndexFunc_int_int__labelsOk_lit1.f (k + 1) a0) := by
 intro a0 k
 have ih0 := slices_IndexFunc_int_int__labelsOk_lit1.mono_l k
 unfold slices_IndexFunc_int_int__labelsOk_lit1.f
 repeat' first
   | (with_reducible exact ih0 _ _ _)
   | (with_reducible exact LeO.refl _)
   | (with_reducible exact LeO.none _)
   | (with_reducible refine LeO.ite ?_ ?_)
   | (with_reducible refine LeO.bind ?_ (fun _ => ?_))
   | exact ih0 _ _ _
   | exact LeO.none _
   | refine LeO.ite ?_ ?_
   | refine LeO.bind ?_ (fun _ => ?_)
set_option maxHeartbeats 8000000 in
set_option maxRecDepth 100000 in
theorem slices_IndexFunc_int_int__labelsOk_lit1.calls (k : Nat) (A0 : Option Addr) (c0 : Nat) (l0 : List Int)  (r : Int) (w : World) (hr0 : Kd.C (Kd.int .i64) w A0 l0.length l0) (hc0 : l0.length ≤ c0) (h : slices_IndexFunc_int_int__labelsOk_lit1.f k l0 = some r) :
  Calls Try.prog 98 #[.slice A0 l0.length c0, .func (.func 96) #[] #[]] w fun e w' => e = .returned (.int .i64 r) ∧ Drawn0 w w' := by
 have HR0 := Aside0.mk hr0
 have HC0 := Aside0.mk hc0
 clear hr0 hc0
 have H : (slices_IndexFunc_int_int__labelsOk_lit1.l0 k l0 (l0.length : Int) 0) = some r := h
 clear h
 have H' := Aside0.mk H
 clear H
 go_enter Try.func98, Try.ntmps98
 go_wp2
 go_loopg [8] k (fun kq v8 w' => ∃ (x8_1 : Int), v8 = .int .i64 x8_1 ∧ Aside0 (slices_IndexFunc_int_int__labelsOk_lit1.l0 kq l0 (l0.length : Int) x8_1 = some r) ∧ Aside0 (kq ≤ k) ∧ Drawn0 w w')
 case atStart => exact ⟨(0), (by first | rfl | (simp; done) | (simp [*]; done)), H', ⟨Nat.le_refl _⟩, by repeat (first | exact Drawn0.refl _ | apply Drawn0.step)⟩
 case round =>
  clear H'
  try clear c1
  try clear p2
  obtain ⟨x8_1, rfl, HA, HK1, ⟨m1, rfl⟩⟩ := hrel
  cases gk with
  | zero => exact absurd HA.out (by simp [slices_IndexFunc_int_int__labelsOk_lit1.l0])
  | succ k1 =>
   have H := HA.out
   clear HA
   simp only [slices_IndexFunc_int_int__labelsOk_lit1.l0] at H
   by_cases c3 : x8_1 < (l0.length : Int)
   ·rw [if_pos c3] at H
    have c3b0 : decide (x8_1 < (l0.length : Int)) = true := decide_eq_true c3
    clear c3
    by_cases c4 : 0 ≤ x8_1
    ·rw [if_pos c4] at H
     have c4b0 : decide (0 ≤ x8_1) = true := decide_eq_true c4
     clear c4
     by_cases c5 : x8_1 < (l0.length : Int)
     ·rw [if_pos c5] at H
      have c5b0 : decide (x8_1 < (l0.length : Int)) = true := decide_eq_true c5
      clear c5
      replace H := Option.bind_eq_some_iff.mp H
      obtain ⟨t606, A60, H⟩ := H
      have A6 := Aside0.mk A60
      clear A60
      by_cases c7 : t606 = true
      ·subst c7
       rw [if_pos rfl] at H
       obtain rfl := Option.some.inj H
       have p605 : 0 ≤ (x8_1 : Int) := of_decide_eq_true (by first | (with_reducible assumption) | assumption)
       have q605 : x8_1 < (l0.length : Int) := of_decide_eq_true (by first | (with_reducible assumption) | assumption)
       obtain ⟨ad605, e605, hx605_0⟩ := Kd.at_int HR0.out x8_1 p605 q605
       cases e605
       replace p605 := eq_true p605
       replace q605 := eq_true q605
       go_wp2_with (first | ((with_reducible refine gate_value_ (x := .tmp 11) rfl ?_); refine goesV_ (some 16) rfl rfl (x := .tmp 11) rfl Try.func96 (by kernel_rfl) rfl #[.int .i64 (rd l0 x8_1)] rfl (by (try simp only [List.map_toArray, List.map_cons, List.map_nil]); first | done | rfl | (simp only [List.length_drop, List.length_take]; rfl)) ?_; (with_reducible refine (impl_labelsOk_lit1.calls (rd l0 x8_1) true _ A6.out).mono ?_); rintro e w' ⟨rfl, ⟨nd, rfl⟩⟩; refine ⟨_, rfl, ?_⟩))
       go_ret
       exact ⟨by first | rfl | (simp; done) | (simp [*]; done), by repeat (first | exact Drawn0.refl _ | apply Drawn0.step)⟩
      ·replace c7 := Bool.eq_false_iff.mpr c7
       subst c7
       rw [if_neg (show ¬ (false = true) by decide)] at H
       have H' := Aside0.mk H
       clear H
       have p605 : 0 ≤ (x8_1 : Int) := of_decide_eq_true (by first | (with_reducible assumption) | assumption)
       have q605 : x8_1 < (l0.length : Int) := of_decide_eq_true (by first | (with_reducible assumption) | assumption)
       obtain ⟨ad605, e605, hx605_0⟩ := Kd.at_int HR0.out x8_1 p605 q605
       cases e605
       replace p605 := eq_true p605
       replace q605 := eq_true q605
       go_wp2_with (first | ((with_reducible refine gate_value_ (x := .tmp 11) rfl ?_); refine goesV_ (some 16) rfl rfl (x := .tmp 11) rfl Try.func96 (by kernel_rfl) rfl #[.int .i64 (rd l0 x8_1)] rfl (by (try simp only [List.map_toArray, List.map_cons, List.map_nil]); first | done | rfl | (simp only [List.length_drop, List.length_take]; rfl)) ?_; (with_reducible refine (impl_labelsOk_lit1.calls (rd l0 x8_1) false _ A6.out).mono ?_); rintro e w' ⟨rfl, ⟨nd, rfl⟩⟩; refine ⟨_, rfl, ?_⟩))
       go_roundg k1
       case measure => have := HK1.out; omega
       case rel => exact ⟨(wrap64 (x8_1 + 1)), (by first | rfl | (simp; done) | (simp [*]; done)), H', ⟨by have := HK1.out; omega⟩, by repeat (first | exact Drawn0.refl _ | apply Drawn0.step)⟩
     ·rw [if_neg c5] at H
      exact absurd H (by simp)
    ·rw [if_neg c4] at H
     exact absurd H (by simp)
   ·rw [if_neg c3] at H
    have c3b0 : decide (x8_1 < (l0.length : Int)) = false := decide_eq_false c3
    clear c3
    obtain rfl := Option.some.inj H
    go_wp2
    go_ret
    exact ⟨by first | rfl | (simp; done) | (simp [*]; done), by repeat (first | exact Drawn0.refl _ | apply Drawn0.step)⟩



/-! ### slices_ContainsFunc_int_int__labelsOk_lit1: function 118 -/
def slices_ContainsFunc_int_int__labelsOk_lit1.f (k : Nat) (l0 : List Int)  : Option (Bool) := (slices_IndexFunc_int_int__labelsOk_lit1.f k l0).bind fun t607 => (some (decide (t607 ≥ 0)))
theorem slices_ContainsFunc_int_int__labelsOk_lit1.mono : ∀ a0 k, LeO (slices_ContainsFunc_int_int__labelsOk_lit1.f k a0) (slices_ContainsFunc_int_int__labelsOk_lit1.f (k + 1) a0) := by
 intro a0 k
 unfold slices_ContainsFunc_int_int__labelsOk_lit1.f
 repeat' first
   | (with_reducible exact slices_IndexFunc_int_int__labelsOk_lit1.mono _ _)
   | (with_reducible exact LeO.refl _)
   | (with_reducible exact LeO.none _)
   | (with_reducible refine LeO.ite ?_ ?_)
   | (with_reducible refine LeO.bind ?_ (fun _ => ?_))
   | exact slices_IndexFunc_int_int__labelsOk_lit1.mono _ _
   | exact LeO.none _
   | refine LeO.ite ?_ ?_
   | refine LeO.bind ?_ (fun _ => ?_)
set_option maxHeartbeats 8000000 in
set_option maxRecDepth 100000 in
theorem slices_ContainsFunc_int_int__labelsOk_lit1.calls (k : Nat) (A0 : Option Addr) (c0 : Nat) (l0 : List Int)  (r : Bool) (w : World) (hr0 : Kd.C (Kd.int .i64) w A0 l0.length l0) (hc0 : l0.length ≤ c0) (h : slices_ContainsFunc_int_int__labelsOk_lit1.f k l0 = some r) :
  Calls Try.prog 95 #[.slice A0 l0.length c0, .func (.func 96) #[] #[]] w fun e w' => e = .returned (.bool r) ∧ Drawn0 w w' := by
 have HR0 := Aside0.mk hr0
 have HC0 := Aside0.mk hc0
 clear hr0 hc0
 have H : ((slices_IndexFunc_int_int__labelsOk_lit1.f k l0).bind fun t607 => (some (decide (t607 ≥ 0)))) = some r := h
 clear h
 replace H := Option.bind_eq_some_iff.mp H
 obtain ⟨t607, A30, H⟩ := H
 have A3 := Aside0.mk A30
 clear A30
 obtain rfl := Option.some.inj H
 go_enter Try.func95, Try.ntmps95
 go_wp2_with (first | ((with_reducible refine gate_callee (f := 98) rfl ?_); refine goesL_ (some 7) rfl rfl Try.func98 (by kernel_rfl) rfl #[.slice A0 l0.length c0, .func (.func 96) #[] #[]] rfl (by (try simp only [List.map_toArray, List.map_cons, List.map_nil]); first | done | rfl | (simp only [List.length_drop, List.length_take]; rfl)) ?_; (with_reducible refine (slices_IndexFunc_int_int__labelsOk_lit1.calls k _ _ l0 t607 _ ?side1 ?side2 A3.out).mono ?_); (case side1 => repeat (first | exact HR0.out | (with_reducible refine Kd.C_alloc ?_ _) | (with_reducible refine Kd.C_drewN ?_ _) | (with_reducible refine Kd.C_drew ?_))); (case side2 => exact HC0.out); rintro e w' ⟨rfl, ⟨nd, rfl⟩⟩; refine ⟨_, rfl, ?_⟩))
 go_ret
 exact ⟨by first | rfl | (simp; done) | (simp [*]; done), by repeat (first | exact Drawn0.refl _ | apply Drawn0.step)⟩



/-! ### impl_labelsOk: function 83 -/
def impl_labelsOk.f (k : Nat) (l0 : List Int) : Option (Bool) := if (l0.length : Int) ≤ 24 then ((slices_ContainsFunc_int_int__labelsOk_lit1.f k l0).bind fun t608 => (some (!t608))) else (some false)
theorem impl_labelsOk.mono : ∀ a0 k, LeO (impl_labelsOk.f k a0) (impl_labelsOk.f (k + 1) a0) := by
 intro a0 k
 unfold impl_labelsOk.f
 repeat' first
   | (with_reducible exact slices_ContainsFunc_int_int__labelsOk_lit1.mono _ _)
   | (with_reducible exact LeO.refl _)
   | (with_reducible exact LeO.none _)
   | (with_reducible refine LeO.ite ?_ ?_)
   | (with_reducible refine LeO.bind ?_ (fun _ => ?_))
   | exact slices_ContainsFunc_int_int__labelsOk_lit1.mono _ _
   | exact LeO.none _
   | refine LeO.ite ?_ ?_
   | refine LeO.bind ?_ (fun _ => ?_)
set_option maxHeartbeats 8000000 in
set_option maxRecDepth 100000 in
theorem impl_labelsOk.calls (k : Nat) (A0 : Option Addr) (c0 : Nat) (l0 : List Int) (r : Bool) (w : World) (hr0 : Kd.C (Kd.int .i64) w A0 l0.length l0) (hc0 : l0.length ≤ c0) (h : impl_labelsOk.f k l0 = some r) :
  Calls Try.prog 83 #[.slice A0 l0.length c0] w fun e w' => e = .returned (.bool r) ∧ Drawn0 w w' := by
 have HR0 := Aside0.mk hr0
 have HC0 := Aside0.mk hc0
 clear hr0 hc0
 have H : (if (l0.length : Int) ≤ 24 then ((slices_ContainsFunc_int_int__labelsOk_lit1.f k l0).bind fun t608 => (some (!t608))) else (some false)) = some r := h
 clear h
 by_cases c2 : (l0.length : Int) ≤ 24
 ·rw [if_pos c2] at H
  have c2b0 : decide ((l0.length : Int) ≤ 24) = true := decide_eq_true c2
  have c2b1 : decide (l0.length ≤ 24) = true := decide_eq_true (by omega)
  clear c2
  replace H := Option.bind_eq_some_iff.mp H
  obtain ⟨t608, A30, H⟩ := H
  have A3 := Aside0.mk A30
  clear A30
  obtain rfl := Option.some.inj H
  go_enter Try.func83, Try.ntmps83
  go_wp2_with (first | (go_at_call 95; (with_reducible refine (slices_ContainsFunc_int_int__labelsOk_lit1.calls k _ _ l0 t608 _ ?side1 ?side2 A3.out).mono ?_); (case side1 => repeat (first | exact HR0.out | (with_reducible refine Kd.C_alloc ?_ _) | (with_reducible refine Kd.C_drewN ?_ _) | (with_reducible refine Kd.C_drew ?_))); (case side2 => exact HC0.out); rintro e w' ⟨rfl, ⟨nd, rfl⟩⟩))
  go_ret
  exact ⟨by first | rfl | (simp; done) | (simp [*]; done), by repeat (first | exact Drawn0.refl _ | apply Drawn0.step)⟩
 ·rw [if_neg c2] at H
  have c2b0 : decide ((l0.length : Int) ≤ 24) = false := decide_eq_false c2
  have c2b1 : decide (l0.length ≤ 24) = false := decide_eq_false (by omega)
  clear c2
  obtain rfl := Option.some.inj H
  go_enter Try.func83, Try.ntmps83
  go_wp2
  go_ret
  exact ⟨by first | rfl | (simp; done) | (simp [*]; done), by repeat (first | exact Drawn0.refl _ | apply Drawn0.step)⟩


end Go.Proofs.Ytlniclcfmaofhaa.P
