-- Written by this session's program mk.py with the kit's print program, out of the translation; not by hand. Lean checks it.
import Derived.Test.YtfdaifgfnpjoaaaDoorP0
import Derived.Test.YtfdaifgfnpjoaaaDoorHand
import Derived.Test.YtfdaifgfnpjoaaaDoorG10
import Derived.Test.YtfdaifgfnpjoaaaDoorG33
namespace Go.Proofs.YtfdaifgfnpjoaaaDoor.P
open Go.RowKit Go.Proofs.YtfdaifgfnpjoaaaDoorW.PrintWords Go.Proofs.YtfdaifgfnpjoaaaDoorW.PrintLast Go.Proofs.YtfdaifgfnpjoaaaDoorW.PrintMore
attribute [local go_sem] max2_int min2_int max_two min_two max_three min_three max_four min_four   -- for this text's walks alone
set_option linter.unusedVariables false
set_option linter.unusedSimpArgs false


/-! ### spec_DrawSameQuery: function 14 -/
def spec_DrawSameQuery.f (k : Nat) (l0 : List Int) : Option ((List (S40)) × (List (S40))) := (spec_l1New.f k l0).bind fun bt371 => ((spec_l27Query.f k bt371.1 bt371.2.1 bt371.2.2).bind fun bt375 => ((some (([] : List (S40)) : List (S40))).bind fun y380 => (if y380.length + bt375.1.length < 8796093022208 then ((some (y380 ++ bt375.1 : List (S40))).bind fun y383 => (if (y383.length : Int) > 0 then ((spec_l1Once.f bt371.1 bt375.2.1 bt375.2.2 2).bind fun bt386 => (if bt386.1 = true then ((spec_l1Below.f bt371.1 bt386.2.1 bt386.2.2 (y383.length : Int)).bind fun bt389 => (if 0 ≤ bt389.1 then (if bt389.1 < (y383.length : Int) then (some (bt375.1, (y383.set (bt389.1 : Int).toNat (⟨true, (rd_T40 y383 bt389.1).f1⟩ : S40)))) else (none)) else (none))) else (some (bt375.1, y383)))) else (some (bt375.1, y383)))) else (none))))
theorem spec_DrawSameQuery.mono : ∀ a0 k, LeO (spec_DrawSameQuery.f k a0) (spec_DrawSameQuery.f (k + 1) a0) := by
 intro a0 k
 unfold spec_DrawSameQuery.f
 repeat' first
   | (with_reducible exact spec_l1New.mono _ _)
   | (with_reducible exact spec_l27Query.mono _ _ _ _)
   | (with_reducible exact LeO.refl _)
   | (with_reducible exact LeO.none _)
   | (with_reducible refine LeO.ite ?_ ?_)
   | (with_reducible refine LeO.bind ?_ (fun _ => ?_))
   | exact spec_l1New.mono _ _
   | exact spec_l27Query.mono _ _ _ _
   | exact LeO.none _
   | refine LeO.ite ?_ ?_
   | refine LeO.bind ?_ (fun _ => ?_)
set_option maxHeartbeats 8000000 in
set_option maxRecDepth 100000 in
theorem spec_DrawSameQuery.calls (k : Nat) (A0 : Option Addr) (c0 : Nat) (l0 : List Int) (r1 : List (S40)) (r2 : List (S40)) (w : World) (hr0 : Kd.C (Kd.int .u8) w A0 l0.length l0) (hc0 : l0.length ≤ c0) (h : spec_DrawSameQuery.f k l0 = some (r1, r2)) :
  Calls Tryd.prog 14 #[.slice A0 l0.length c0] w fun e w' => ∃ v0_ v1_ : Value, e = .returned (.tuple #[v0_, v1_]) ∧ Kd.R k40 40 w' w.heap.size (fun k_ => some k_ ≠ (v1_ : Value).ownBlock) v0_ r1 ∧ Kd.R k40 40 w' w.heap.size (fun k_ => some k_ ≠ (v0_ : Value).ownBlock) v1_ r2 ∧ Below w.heap.size w w' := by
 have HR0 := Aside0.mk hr0
 have HC0 := Aside0.mk hc0
 clear hr0 hc0
 have HB := Aside0.mk (Below.refl w.heap.size w)
 have H : ((spec_l1New.f k l0).bind fun bt371 => ((spec_l27Query.f k bt371.1 bt371.2.1 bt371.2.2).bind fun bt375 => ((some (([] : List (S40)) : List (S40))).bind fun y380 => (if y380.length + bt375.1.length < 8796093022208 then ((some (y380 ++ bt375.1 : List (S40))).bind fun y383 => (if (y383.length : Int) > 0 then ((spec_l1Once.f bt371.1 bt375.2.1 bt375.2.2 2).bind fun bt386 => (if bt386.1 = true then ((spec_l1Below.f bt371.1 bt386.2.1 bt386.2.2 (y383.length : Int)).bind fun bt389 => (if 0 ≤ bt389.1 then (if bt389.1 < (y383.length : Int) then (some (bt375.1, (y383.set (bt389.1 : Int).toNat (⟨true, (rd_T40 y383 bt389.1).f1⟩ : S40)))) else (none)) else (none))) else (some (bt375.1, y383)))) else (some (bt375.1, y383)))) else (none))))) = some (r1, r2) := h
 clear h
 replace H := Option.bind_eq_some_iff.mp H
 obtain ⟨⟨t371, t372, t373⟩, A20, H⟩ := H
 have A2 := Aside0.mk A20
 clear A20
 replace H := Option.bind_eq_some_iff.mp H
 obtain ⟨⟨t375, t378, t379⟩, A30, H⟩ := H
 have A3 := Aside0.mk A30
 clear A30
 obtain ⟨y380, hy380⟩ : ∃ y_ : List (S40), y_ = (([] : List (S40))) := ⟨_, rfl⟩
 replace H : (if y380.length + t375.length < 8796093022208 then ((some (y380 ++ t375 : List (S40))).bind fun y383 => (if (y383.length : Int) > 0 then ((spec_l1Once.f t371 t378 t379 2).bind fun bt386 => (if bt386.1 = true then ((spec_l1Below.f t371 bt386.2.1 bt386.2.2 (y383.length : Int)).bind fun bt389 => (if 0 ≤ bt389.1 then (if bt389.1 < (y383.length : Int) then (some (t375, (y383.set (bt389.1 : Int).toNat (⟨true, (rd_T40 y383 bt389.1).f1⟩ : S40)))) else (none)) else (none))) else (some (t375, y383)))) else (some (t375, y383)))) else (none)) = some (r1, r2) := by first | (rw [hy380]; with_reducible exact H) | (have H2_ := (Option.bind_some _ _).symm.trans H; rw [hy380]; with_reducible exact H2_) | (have H2_ := (Option.bind_some _ _).symm.trans H; with_reducible exact H2_) | with_reducible exact H | (rw [hy380]; exact H) | exact H
 have Ny380 := Aside0.mk hy380
 clear hy380
 by_cases c4 : y380.length + t375.length < 8796093022208
 ·rw [if_pos c4] at H
  have LMc4 := Aside0.mk c4
  clear c4
  obtain ⟨y383, hy383⟩ : ∃ y_ : List (S40), y_ = (y380 ++ t375) := ⟨_, rfl⟩
  replace H : (if (y383.length : Int) > 0 then ((spec_l1Once.f t371 t378 t379 2).bind fun bt386 => (if bt386.1 = true then ((spec_l1Below.f t371 bt386.2.1 bt386.2.2 (y383.length : Int)).bind fun bt389 => (if 0 ≤ bt389.1 then (if bt389.1 < (y383.length : Int) then (some (t375, (y383.set (bt389.1 : Int).toNat (⟨true, (rd_T40 y383 bt389.1).f1⟩ : S40)))) else (none)) else (none))) else (some (t375, y383)))) else (some (t375, y383))) = some (r1, r2) := by first | (rw [hy383]; with_reducible exact H) | (have H2_ := (Option.bind_some _ _).symm.trans H; rw [hy383]; with_reducible exact H2_) | (have H2_ := (Option.bind_some _ _).symm.trans H; with_reducible exact H2_) | with_reducible exact H | (rw [hy383]; exact H) | exact H
  have Ny383 := Aside0.mk hy383
  clear hy383
  by_cases c5 : (y383.length : Int) > 0
  ·rw [if_pos c5] at H
   have c5b0 : decide (0 < (y383.length : Int)) = true := decide_eq_true c5
   have c5b1 : decide (0 < y383.length) = true := decide_eq_true (by omega)
   clear c5
   replace H := Option.bind_eq_some_iff.mp H
   obtain ⟨⟨t386, t387, t388⟩, A60, H⟩ := H
   have A6 := Aside0.mk A60
   clear A60
   by_cases c7 : t386 = true
   ·subst c7
    rw [if_pos rfl] at H
    replace H := Option.bind_eq_some_iff.mp H
    obtain ⟨⟨t389, t390, t391⟩, A80, H⟩ := H
    have A8 := Aside0.mk A80
    clear A80
    by_cases c9 : 0 ≤ t389
    ·rw [if_pos c9] at H
     have c9b0 : decide (0 ≤ t389) = true := decide_eq_true c9
     clear c9
     by_cases c10 : t389 < (y383.length : Int)
     ·rw [if_pos c10] at H
      have c10b0 : decide (t389 < (y383.length : Int)) = true := decide_eq_true c10
      clear c10
      obtain ⟨y392, hy392⟩ : ∃ y_ : List (S40), y_ = (y383.set (t389 : Int).toNat (⟨true, (rd_T40 y383 t389).f1⟩ : S40)) := ⟨_, rfl⟩
      replace H : (some (t375, y392)) = some (r1, r2) := by first | (rw [hy392]; with_reducible exact H) | (have H2_ := (Option.bind_some _ _).symm.trans H; rw [hy392]; with_reducible exact H2_) | (have H2_ := (Option.bind_some _ _).symm.trans H; with_reducible exact H2_) | with_reducible exact H | (rw [hy392]; exact H) | exact H
      have Ny392 := Aside0.mk hy392
      clear hy392
      simp only [Option.some.injEq, Prod.mk.injEq] at H
      obtain ⟨rfl, rfl⟩ := H
      go_enter Tryd.func14, Tryd.ntmps14
      go_wp2_with (first | ((with_reducible refine gate_callee (f := 26) rfl ?_); refine goesL_ (some 8) rfl rfl Tryd.func26 (by kernel_rfl) rfl #[.slice A0 l0.length c0] rfl (by (try simp only [List.map_toArray, List.map_cons, List.map_nil]); first | done | rfl | (simp only [List.length_drop, List.length_take]; rfl)) ?_; (with_reducible refine (spec_l1New.calls k _ _ l0 t371 t372 t373 w _ ?side1 ?side2 ?side3 A2.out).mono ?_); (case side1 => repeat (first | (with_reducible first | exact HB.out | apply below_alloc | apply pw_below_drewN | apply below_drew1) | exact HB.out)); (case side2 => exact HR0.out); (case side3 => exact HC0.out); rintro e w12 ⟨g374, rfl, hi, hb, hb2⟩; refine ⟨_, rfl, ?_⟩; replace HB := Aside0.mk (hb); have HI374 := Aside0.mk (hi); (try clear hb); (try clear hb2); (try clear hk); (try clear hi)) | ((with_reducible refine gate_callee (f := 25) rfl ?_); refine goesL_ (some 10) rfl rfl Tryd.func25 (by kernel_rfl) rfl #[.pointer (some ⟨g374, 0, none⟩)] rfl (by (try simp only [List.map_toArray, List.map_cons, List.map_nil]); first | done | rfl | (simp only [List.length_drop, List.length_take]; rfl)) ?_; (with_reducible refine (spec_l27Query.calls k g374 t371 t372 t373 t375 t378 t379 w _ ?side1 ?side2 A3.out).mono ?_); (case side1 => repeat (first | (with_reducible first | exact HI374.out | apply IsS59.alloc | apply IsS59.drewN | apply IsS59.drew | apply IsS59.set_1 | apply IsS59.set_2) | exact HI374.out)); (case side2 => repeat (first | (with_reducible first | exact HB.out | apply below_alloc | apply pw_below_drewN | apply below_drew1 | refine below_set ?_ (IsS59.ge HI374.out)) | exact HB.out)); rintro e w13 ⟨v376, rfl, ho0, hi, hb, hk⟩; refine ⟨_, rfl, ?_⟩; have HO377 := Aside0.mk (Kd.R_lower ho0 (below_size (by repeat (first | (with_reducible first | exact HB.out | apply below_alloc | apply pw_below_drewN | apply below_drew1 | refine below_set ?_ (IsS59.ge HI374.out)) | exact HB.out)))); replace HB := Aside0.mk (hb); replace HI374 := Aside0.mk (hi); (try clear hb); (try clear hb2); (try clear hk); (try clear hi); (try clear ho0)) | ((with_reducible refine gate_dst (N := 11) rfl ?_); refine Kd.R_lit k40 _ 40 ?hg (N := 11) ?hd (xs := ([] : List (S40))) (inner := []) (ok := fun _ => True) (okp := fun _ => True) ?hr ?hp (fun _ hk => hk) trivial (Below.refl _ _) (Nat.le_refl _) (by simp) ?_; (case hd => rfl); (case hg => rfl); (case hr => first | (go_simp; done) | (go_simp; rfl)); (case hp => exact (Reps.none _ _)); intro v381 w14 ho15 hb hg_ hnew_; clear hg_ hnew_; (first | rw [← Ny380.out] at ho15 | (simp only [Int.reduceToNat] at ho15; rw [← Ny380.out] at ho15)); have HO382 := Aside0.mk (Kd.R_lower (Kd.R_new' ho15 (Kd.R_lt (laR HO377.out))) (below_size (by repeat (first | (with_reducible first | exact HB.out | apply below_alloc | apply pw_below_drewN | apply below_drew1 | refine below_set ?_ (IsS59.ge HI374.out)) | exact HB.out)))); replace HO377 := Aside0.mk (Kd.R_elder' (laR HO377.out) (Kd.R_base ho15) hb); replace HB := Aside0.mk (below_step (by repeat (first | (with_reducible first | exact HB.out | apply below_alloc | apply pw_below_drewN | apply below_drew1 | refine below_set ?_ (IsS59.ge HI374.out)) | exact HB.out)) hb); replace HI374 := Aside0.mk (IsS59.below (by repeat (first | (with_reducible first | exact HI374.out | apply IsS59.alloc | apply IsS59.drewN | apply IsS59.drew | apply IsS59.set_1 | apply IsS59.set_2) | exact HI374.out)) hb); clear hb ho15; obtain ⟨Ao17, co17, eo17⟩ := Kd.R_slice HO377.out; subst eo17) | ((with_reducible refine gate_builtin (b := .append) (xs := #[.tmp 11, .tmp 12]) rfl ?_); at_builtin; refine Kd.R_append_rows k40 (w0 := w) w.heap.size rfl (.tmp 11) (.tmp 12) 22 40 (.agg #[(.bool false), (.int .i64 0)]) 16 rfl Tryd.underlying22 info40 rfl (by decide) (by omega) v381 y380 t375 _ _ _ (fun k_ => some k_ ≠ (.slice Ao17 t375.length co17 : Value).ownBlock) (fun _ => False) rfl rfl ?aO ?aR (fun _ _ h => h) (fun _ h => h.elim) ?aF ?aB ?aS ?aL ?_; (case aR => exact laC (Kd.R_reads' HO377.out).2.2); (case aB => exact (by repeat (first | (with_reducible first | exact HB.out | apply below_alloc | apply pw_below_drewN | apply below_drew1 | refine below_set ?_ (IsS59.ge HI374.out)) | exact HB.out))); (case aF => exact (fun k_ hk => Kd.fresh' (Kd.R_lt (laR HO377.out)) k_ hk)); (case aO => exact (laR (Kd.R_mono HO382.out (fun _ hk => hk.2)))); (case aS => exact (below_size (by repeat (first | (with_reducible first | exact HB.out | apply below_alloc | apply pw_below_drewN | apply below_drew1 | refine below_set ?_ (IsS59.ge HI374.out)) | exact HB.out)))); (case aL => have := LMc4.out; omega); intro v384 w16 ho hb hg hat; rw [← Ny383.out] at ho; have n0_ := Aside0.mk (IsS59.grown (by repeat (first | (with_reducible first | exact HI374.out | apply IsS59.alloc | apply IsS59.drewN | apply IsS59.drew | apply IsS59.set_1 | apply IsS59.set_2) | exact HI374.out)) hg (IsS59.own_ne HI374.out HO382.out (by decide))); have n1_ := Aside0.mk (Kd.R_after (ok := (fun _ => True)) (laR HO377.out) hg hat); have n2_ := Aside0.mk (hb); have n3_ := Aside0.mk (ho); clear HI374; clear HO377; clear HB; clear HO382; have HI374 := n0_; have HO377 := n1_; have HB := n2_; have HO385 := n3_; clear n0_ n1_ n2_ n3_; clear ho hb hg hat; obtain ⟨Ao18, co18, eo18⟩ := Kd.R_slice HO385.out; subst eo18) | (go_at_call 28; (with_reducible refine (spec_l1Once.calls g374 t371 t378 t379 2 true t387 t388 w _ ?side1 ?side2 A6.out).mono ?_); (case side1 => repeat (first | (with_reducible first | exact HI374.out | apply IsS59.alloc | apply IsS59.drewN | apply IsS59.drew | apply IsS59.set_1 | apply IsS59.set_2) | exact HI374.out)); (case side2 => repeat (first | (with_reducible first | exact HB.out | apply below_alloc | apply pw_below_drewN | apply below_drew1 | refine below_set ?_ (IsS59.ge HI374.out)) | exact HB.out)); rintro e w19 ⟨rfl, hi, hb, hk⟩; replace HO377 := Aside0.mk (Kd.R_mono (Kd.R_keep (IsS59.apart (show IsS59 w _ g374 t371 t378 t379 from by repeat (first | (with_reducible first | exact HI374.out | apply IsS59.alloc | apply IsS59.drewN | apply IsS59.drew | apply IsS59.set_1 | apply IsS59.set_2) | exact HI374.out)) (laR HO377.out) (by decide)) hk (fun _ h => h.2)) (fun _ h => h.1)); replace HO385 := Aside0.mk (Kd.R_mono (Kd.R_keep (IsS59.apart (show IsS59 w _ g374 t371 t378 t379 from by repeat (first | (with_reducible first | exact HI374.out | apply IsS59.alloc | apply IsS59.drewN | apply IsS59.drew | apply IsS59.set_1 | apply IsS59.set_2) | exact HI374.out)) (laR HO385.out) (by decide)) hk (fun _ h => h.2)) (fun _ h => h.1)); replace HB := Aside0.mk (hb); replace HI374 := Aside0.mk (hi); (try clear hb); (try clear hb2); (try clear hk); (try clear hi)) | ((with_reducible refine gate_callee (f := 31) rfl ?_); refine goesL_ (some 25) rfl rfl Tryd.func31 (by kernel_rfl) rfl #[.pointer (some ⟨g374, 0, none⟩), .int .i64 (y383.length : Int)] rfl (by (try simp only [List.map_toArray, List.map_cons, List.map_nil]); first | done | rfl | (simp only [List.length_drop, List.length_take]; rfl)) ?_; (with_reducible refine (spec_l1Below.calls g374 t371 t387 t388 (y383.length : Int) t389 t390 t391 w _ ?side1 ?side2 A8.out).mono ?_); (case side1 => repeat (first | (with_reducible first | exact HI374.out | apply IsS59.alloc | apply IsS59.drewN | apply IsS59.drew | apply IsS59.set_1 | apply IsS59.set_2) | exact HI374.out)); (case side2 => repeat (first | (with_reducible first | exact HB.out | apply below_alloc | apply pw_below_drewN | apply below_drew1 | refine below_set ?_ (IsS59.ge HI374.out)) | exact HB.out)); rintro e w20 ⟨rfl, hi, hb, hk⟩; refine ⟨_, rfl, ?_⟩; replace HO377 := Aside0.mk (Kd.R_mono (Kd.R_keep (IsS59.apart (show IsS59 w _ g374 t371 t387 t388 from by repeat (first | (with_reducible first | exact HI374.out | apply IsS59.alloc | apply IsS59.drewN | apply IsS59.drew | apply IsS59.set_1 | apply IsS59.set_2) | exact HI374.out)) (laR HO377.out) (by decide)) hk (fun _ h => h.2)) (fun _ h => h.1)); replace HO385 := Aside0.mk (Kd.R_mono (Kd.R_keep (IsS59.apart (show IsS59 w _ g374 t371 t387 t388 from by repeat (first | (with_reducible first | exact HI374.out | apply IsS59.alloc | apply IsS59.drewN | apply IsS59.drew | apply IsS59.set_1 | apply IsS59.set_2) | exact HI374.out)) (laR HO385.out) (by decide)) hk (fun _ h => h.2)) (fun _ h => h.1)); replace HB := Aside0.mk (hb); replace HI374 := Aside0.mk (hi); (try clear hb); (try clear hb2); (try clear hk); (try clear hi); have p11 : 0 ≤ (t389 : Int) := of_decide_eq_true (by first | (with_reducible assumption) | assumption); have q11 : (t389 : Int) < ((y383.length : Int) : Int) := of_decide_eq_true (by first | (with_reducible assumption) | assumption); obtain ⟨go11, co11, eo11, gb11, gl11, cl11, HG11⟩ := Kd.R_form HO385.out (by omega); (first | cases eo11 | (injection eo11 with ea_ en_ ec_; (first | subst ea_ | (injection ea_ with ea_; subst ea_)); subst ec_; clear en_)); have GB11 := Aside0.mk gb11; have GG11 := Aside0.mk HG11; clear gb11 gl11 HG11; obtain ⟨ce11, hcl11, hM11, hcc11, hfr11⟩ := Kd.R_elem HO385.out z40 (t389 : Int) p11 q11; obtain rfl := k40_openM hM11; have hx11_0 : w20.cell? ⟨go11, (t389 : Int).toNat * 2, none⟩ = some (.bool ((rd_T40 y383 t389).f0)) := hcc11 0 _ rfl; have hx11_1 : w20.cell? ⟨go11, (t389 : Int).toNat * 2 + 1, none⟩ = some (.int .i64 ((rd_T40 y383 t389).f1)) := hcc11 1 _ rfl; have hf11_0 : w20.frozen? ⟨go11, (t389 : Int).toNat * 2, none⟩ = false := hfr11 0; have hf11_1 : w20.frozen? ⟨go11, (t389 : Int).toNat * 2 + 1, none⟩ = false := hfr11 1; clear hcl11 hcc11 hfr11 hM11; replace p11 := eq_true p11; replace q11 := eq_true q11; have HX21 := Aside0.mk (show Kd.R k40 40 w20 w.heap.size (fun k_ => some k_ ≠ (.slice Ao17 t375.length co17 : Value).ownBlock) (.slice (some ⟨go11, 0, none⟩) y383.length co18) y383 from (laR HO385.out)); obtain ⟨ce21, hcl21, hM21, hcc21, hfr21⟩ := Kd.R_elem HX21.out z40 (t389 : Int) (of_decide_eq_true (by first | (with_reducible assumption) | assumption)) (by have h_ : (t389 : Int) < ((y383.length : Int) : Int) := of_decide_eq_true (by first | (with_reducible assumption) | assumption); first | exact h_ | (have e_ := (Kd.R_reads' HO385.out).1; omega) | simpa using h_); obtain rfl := k40_openM hM21; have HP21 := Kd.R_seg HX21.out (t389 : Int) (of_decide_eq_true (by first | (with_reducible assumption) | assumption)) (by have h_ : (t389 : Int) < ((y383.length : Int) : Int) := of_decide_eq_true (by first | (with_reducible assumption) | assumption); first | exact h_ | (have e_ := (Kd.R_reads' HO385.out).1; omega) | simpa using h_) (seg := [.bool true]) (j := 0) hcl21 hcc21 (show 1 ≤ 2 from by decide) (x' := (⟨true, (rd_T40 y383 t389).f1⟩ : S40)) (k40_mkM _ _ _ (⟨true, (rd_T40 y383 t389).f1⟩ : S40) ) (fun _ hk => hk); have hx21_0 := hcc21 0 _ rfl; (try simp only [show (k40).sz = 2 from rfl, Nat.mul_one, Nat.add_zero] at hx21_0); have hf21_0 := hfr21 0; (try simp only [show (k40).sz = 2 from rfl, Nat.mul_one, Nat.add_zero] at hf21_0); clear hcl21 hcc21 hfr21 hM21) | ((with_reducible refine gate_store (t := 4) (p := 27) rfl ?_); refine store_event (t := 4) (p := 27) (v := ?vo_w22) (w1 := (w20.setCell ⟨go11, (t389 : Int).toNat * 2, none⟩ (.bool true))) ?hg ?ho ?hn ?hr ?_; (case ho => rfl); (case hg => rfl); (case hn => rfl); (case hr => first | (go_simp; done) | (go_simp; rfl)); intro w22 hw; have hg : w20.grownBy w22 (some go11) := (by rw [hw]; exact HP21.2); have hp_ : Kd.R k40 40 w22 w.heap.size (fun k_ => some k_ ≠ (.slice Ao17 t375.length co17 : Value).ownBlock) (.slice (some ⟨go11, 0, none⟩) y383.length co18) y392 := (by rw [hw, Ny392.out]; exact HP21.1); clear HP21; replace HI374 := Aside0.mk (IsS59.grown (by repeat (first | (with_reducible first | exact HI374.out | apply IsS59.alloc | apply IsS59.drewN | apply IsS59.drew | apply IsS59.set_1 | apply IsS59.set_2) | exact HI374.out)) hg (IsS59.own_ne HI374.out HO385.out (by decide))); replace HO377 := Aside0.mk (Kd.R_after (v := (.slice (some ⟨go11, 0, none⟩) y383.length co18)) (v1 := (.slice (some ⟨go11, 0, none⟩) y383.length co18)) (ok := (fun _ => True)) (laR HO377.out) hg (.inl rfl)); replace HO385 := Aside0.mk (hp_); replace HB := Aside0.mk ((by rw [hw]; exact below_set (HB.out) GB11.out : Below w.heap.size w w22)); clear hg hw hp_))
      go_ret2
      exact ⟨_, _, by first | rfl | (simp [errW_none, errW_some] <;> rfl) | (simp [*, errW_none, errW_some] <;> rfl), by (with_reducible repeat (first | apply Kd.R_alloc | apply Kd.R_drewN | apply Kd.R_drew)); exact Kd.R_mono HO377.out (fun _ hk => hk.2), by (with_reducible repeat (first | apply Kd.R_alloc | apply Kd.R_drewN | apply Kd.R_drew)); exact HO385.out, by repeat (first | (with_reducible first | exact HB.out | apply below_alloc | apply pw_below_drewN | apply below_drew1 | refine below_set ?_ (IsS59.ge HI374.out)) | exact HB.out)⟩
     ·rw [if_neg c10] at H
      exact absurd H (by simp)
    ·rw [if_neg c9] at H
     exact absurd H (by simp)
   ·replace c7 := Bool.eq_false_iff.mpr c7
    subst c7
    rw [if_neg (show ¬ (false = true) by decide)] at H
    simp only [Option.some.injEq, Prod.mk.injEq] at H
    obtain ⟨rfl, rfl⟩ := H
    go_enter Tryd.func14, Tryd.ntmps14
    go_wp2_with (first | ((with_reducible refine gate_callee (f := 26) rfl ?_); refine goesL_ (some 8) rfl rfl Tryd.func26 (by kernel_rfl) rfl #[.slice A0 l0.length c0] rfl (by (try simp only [List.map_toArray, List.map_cons, List.map_nil]); first | done | rfl | (simp only [List.length_drop, List.length_take]; rfl)) ?_; (with_reducible refine (spec_l1New.calls k _ _ l0 t371 t372 t373 w _ ?side1 ?side2 ?side3 A2.out).mono ?_); (case side1 => repeat (first | (with_reducible first | exact HB.out | apply below_alloc | apply pw_below_drewN | apply below_drew1) | exact HB.out)); (case side2 => exact HR0.out); (case side3 => exact HC0.out); rintro e w23 ⟨g374, rfl, hi, hb, hb2⟩; refine ⟨_, rfl, ?_⟩; replace HB := Aside0.mk (hb); have HI374 := Aside0.mk (hi); (try clear hb); (try clear hb2); (try clear hk); (try clear hi)) | ((with_reducible refine gate_callee (f := 25) rfl ?_); refine goesL_ (some 10) rfl rfl Tryd.func25 (by kernel_rfl) rfl #[.pointer (some ⟨g374, 0, none⟩)] rfl (by (try simp only [List.map_toArray, List.map_cons, List.map_nil]); first | done | rfl | (simp only [List.length_drop, List.length_take]; rfl)) ?_; (with_reducible refine (spec_l27Query.calls k g374 t371 t372 t373 t375 t378 t379 w _ ?side1 ?side2 A3.out).mono ?_); (case side1 => repeat (first | (with_reducible first | exact HI374.out | apply IsS59.alloc | apply IsS59.drewN | apply IsS59.drew | apply IsS59.set_1 | apply IsS59.set_2) | exact HI374.out)); (case side2 => repeat (first | (with_reducible first | exact HB.out | apply below_alloc | apply pw_below_drewN | apply below_drew1 | refine below_set ?_ (IsS59.ge HI374.out)) | exact HB.out)); rintro e w24 ⟨v376, rfl, ho0, hi, hb, hk⟩; refine ⟨_, rfl, ?_⟩; have HO377 := Aside0.mk (Kd.R_lower ho0 (below_size (by repeat (first | (with_reducible first | exact HB.out | apply below_alloc | apply pw_below_drewN | apply below_drew1 | refine below_set ?_ (IsS59.ge HI374.out)) | exact HB.out)))); replace HB := Aside0.mk (hb); replace HI374 := Aside0.mk (hi); (try clear hb); (try clear hb2); (try clear hk); (try clear hi); (try clear ho0)) | ((with_reducible refine gate_dst (N := 11) rfl ?_); refine Kd.R_lit k40 _ 40 ?hg (N := 11) ?hd (xs := ([] : List (S40))) (inner := []) (ok := fun _ => True) (okp := fun _ => True) ?hr ?hp (fun _ hk => hk) trivial (Below.refl _ _) (Nat.le_refl _) (by simp) ?_; (case hd => rfl); (case hg => rfl); (case hr => first | (go_simp; done) | (go_simp; rfl)); (case hp => exact (Reps.none _ _)); intro v381 w25 ho26 hb hg_ hnew_; clear hg_ hnew_; (first | rw [← Ny380.out] at ho26 | (simp only [Int.reduceToNat] at ho26; rw [← Ny380.out] at ho26)); have HO382 := Aside0.mk (Kd.R_lower (Kd.R_new' ho26 (Kd.R_lt (laR HO377.out))) (below_size (by repeat (first | (with_reducible first | exact HB.out | apply below_alloc | apply pw_below_drewN | apply below_drew1 | refine below_set ?_ (IsS59.ge HI374.out)) | exact HB.out)))); replace HO377 := Aside0.mk (Kd.R_elder' (laR HO377.out) (Kd.R_base ho26) hb); replace HB := Aside0.mk (below_step (by repeat (first | (with_reducible first | exact HB.out | apply below_alloc | apply pw_below_drewN | apply below_drew1 | refine below_set ?_ (IsS59.ge HI374.out)) | exact HB.out)) hb); replace HI374 := Aside0.mk (IsS59.below (by repeat (first | (with_reducible first | exact HI374.out | apply IsS59.alloc | apply IsS59.drewN | apply IsS59.drew | apply IsS59.set_1 | apply IsS59.set_2) | exact HI374.out)) hb); clear hb ho26; obtain ⟨Ao28, co28, eo28⟩ := Kd.R_slice HO377.out; subst eo28) | ((with_reducible refine gate_builtin (b := .append) (xs := #[.tmp 11, .tmp 12]) rfl ?_); at_builtin; refine Kd.R_append_rows k40 (w0 := w) w.heap.size rfl (.tmp 11) (.tmp 12) 22 40 (.agg #[(.bool false), (.int .i64 0)]) 16 rfl Tryd.underlying22 info40 rfl (by decide) (by omega) v381 y380 t375 _ _ _ (fun k_ => some k_ ≠ (.slice Ao28 t375.length co28 : Value).ownBlock) (fun _ => False) rfl rfl ?aO ?aR (fun _ _ h => h) (fun _ h => h.elim) ?aF ?aB ?aS ?aL ?_; (case aR => exact laC (Kd.R_reads' HO377.out).2.2); (case aB => exact (by repeat (first | (with_reducible first | exact HB.out | apply below_alloc | apply pw_below_drewN | apply below_drew1 | refine below_set ?_ (IsS59.ge HI374.out)) | exact HB.out))); (case aF => exact (fun k_ hk => Kd.fresh' (Kd.R_lt (laR HO377.out)) k_ hk)); (case aO => exact (laR (Kd.R_mono HO382.out (fun _ hk => hk.2)))); (case aS => exact (below_size (by repeat (first | (with_reducible first | exact HB.out | apply below_alloc | apply pw_below_drewN | apply below_drew1 | refine below_set ?_ (IsS59.ge HI374.out)) | exact HB.out)))); (case aL => have := LMc4.out; omega); intro v384 w27 ho hb hg hat; rw [← Ny383.out] at ho; have n0_ := Aside0.mk (IsS59.grown (by repeat (first | (with_reducible first | exact HI374.out | apply IsS59.alloc | apply IsS59.drewN | apply IsS59.drew | apply IsS59.set_1 | apply IsS59.set_2) | exact HI374.out)) hg (IsS59.own_ne HI374.out HO382.out (by decide))); have n1_ := Aside0.mk (Kd.R_after (ok := (fun _ => True)) (laR HO377.out) hg hat); have n2_ := Aside0.mk (hb); have n3_ := Aside0.mk (ho); clear HI374; clear HO377; clear HB; clear HO382; have HI374 := n0_; have HO377 := n1_; have HB := n2_; have HO385 := n3_; clear n0_ n1_ n2_ n3_; clear ho hb hg hat; obtain ⟨Ao29, co29, eo29⟩ := Kd.R_slice HO385.out; subst eo29) | (go_at_call 28; (with_reducible refine (spec_l1Once.calls g374 t371 t378 t379 2 false t387 t388 w _ ?side1 ?side2 A6.out).mono ?_); (case side1 => repeat (first | (with_reducible first | exact HI374.out | apply IsS59.alloc | apply IsS59.drewN | apply IsS59.drew | apply IsS59.set_1 | apply IsS59.set_2) | exact HI374.out)); (case side2 => repeat (first | (with_reducible first | exact HB.out | apply below_alloc | apply pw_below_drewN | apply below_drew1 | refine below_set ?_ (IsS59.ge HI374.out)) | exact HB.out)); rintro e w30 ⟨rfl, hi, hb, hk⟩; replace HO377 := Aside0.mk (Kd.R_mono (Kd.R_keep (IsS59.apart (show IsS59 w _ g374 t371 t378 t379 from by repeat (first | (with_reducible first | exact HI374.out | apply IsS59.alloc | apply IsS59.drewN | apply IsS59.drew | apply IsS59.set_1 | apply IsS59.set_2) | exact HI374.out)) (laR HO377.out) (by decide)) hk (fun _ h => h.2)) (fun _ h => h.1)); replace HO385 := Aside0.mk (Kd.R_mono (Kd.R_keep (IsS59.apart (show IsS59 w _ g374 t371 t378 t379 from by repeat (first | (with_reducible first | exact HI374.out | apply IsS59.alloc | apply IsS59.drewN | apply IsS59.drew | apply IsS59.set_1 | apply IsS59.set_2) | exact HI374.out)) (laR HO385.out) (by decide)) hk (fun _ h => h.2)) (fun _ h => h.1)); replace HB := Aside0.mk (hb); replace HI374 := Aside0.mk (hi); (try clear hb); (try clear hb2); (try clear hk); (try clear hi)))
    go_ret2
    exact ⟨_, _, by first | rfl | (simp [errW_none, errW_some] <;> rfl) | (simp [*, errW_none, errW_some] <;> rfl), by (with_reducible repeat (first | apply Kd.R_alloc | apply Kd.R_drewN | apply Kd.R_drew)); exact Kd.R_mono HO377.out (fun _ hk => hk.2), by (with_reducible repeat (first | apply Kd.R_alloc | apply Kd.R_drewN | apply Kd.R_drew)); exact HO385.out, by repeat (first | (with_reducible first | exact HB.out | apply below_alloc | apply pw_below_drewN | apply below_drew1 | refine below_set ?_ (IsS59.ge HI374.out)) | exact HB.out)⟩
  ·rw [if_neg c5] at H
   have c5b0 : decide (0 < (y383.length : Int)) = false := decide_eq_false c5
   have c5b1 : decide (0 < y383.length) = false := decide_eq_false (by omega)
   clear c5
   simp only [Option.some.injEq, Prod.mk.injEq] at H
   obtain ⟨rfl, rfl⟩ := H
   go_enter Tryd.func14, Tryd.ntmps14
   go_wp2_with (first | ((with_reducible refine gate_callee (f := 26) rfl ?_); refine goesL_ (some 8) rfl rfl Tryd.func26 (by kernel_rfl) rfl #[.slice A0 l0.length c0] rfl (by (try simp only [List.map_toArray, List.map_cons, List.map_nil]); first | done | rfl | (simp only [List.length_drop, List.length_take]; rfl)) ?_; (with_reducible refine (spec_l1New.calls k _ _ l0 t371 t372 t373 w _ ?side1 ?side2 ?side3 A2.out).mono ?_); (case side1 => repeat (first | (with_reducible first | exact HB.out | apply below_alloc | apply pw_below_drewN | apply below_drew1) | exact HB.out)); (case side2 => exact HR0.out); (case side3 => exact HC0.out); rintro e w31 ⟨g374, rfl, hi, hb, hb2⟩; refine ⟨_, rfl, ?_⟩; replace HB := Aside0.mk (hb); have HI374 := Aside0.mk (hi); (try clear hb); (try clear hb2); (try clear hk); (try clear hi)) | ((with_reducible refine gate_callee (f := 25) rfl ?_); refine goesL_ (some 10) rfl rfl Tryd.func25 (by kernel_rfl) rfl #[.pointer (some ⟨g374, 0, none⟩)] rfl (by (try simp only [List.map_toArray, List.map_cons, List.map_nil]); first | done | rfl | (simp only [List.length_drop, List.length_take]; rfl)) ?_; (with_reducible refine (spec_l27Query.calls k g374 t371 t372 t373 t375 t378 t379 w _ ?side1 ?side2 A3.out).mono ?_); (case side1 => repeat (first | (with_reducible first | exact HI374.out | apply IsS59.alloc | apply IsS59.drewN | apply IsS59.drew | apply IsS59.set_1 | apply IsS59.set_2) | exact HI374.out)); (case side2 => repeat (first | (with_reducible first | exact HB.out | apply below_alloc | apply pw_below_drewN | apply below_drew1 | refine below_set ?_ (IsS59.ge HI374.out)) | exact HB.out)); rintro e w32 ⟨v376, rfl, ho0, hi, hb, hk⟩; refine ⟨_, rfl, ?_⟩; have HO377 := Aside0.mk (Kd.R_lower ho0 (below_size (by repeat (first | (with_reducible first | exact HB.out | apply below_alloc | apply pw_below_drewN | apply below_drew1 | refine below_set ?_ (IsS59.ge HI374.out)) | exact HB.out)))); replace HB := Aside0.mk (hb); replace HI374 := Aside0.mk (hi); (try clear hb); (try clear hb2); (try clear hk); (try clear hi); (try clear ho0)) | ((with_reducible refine gate_dst (N := 11) rfl ?_); refine Kd.R_lit k40 _ 40 ?hg (N := 11) ?hd (xs := ([] : List (S40))) (inner := []) (ok := fun _ => True) (okp := fun _ => True) ?hr ?hp (fun _ hk => hk) trivial (Below.refl _ _) (Nat.le_refl _) (by simp) ?_; (case hd => rfl); (case hg => rfl); (case hr => first | (go_simp; done) | (go_simp; rfl)); (case hp => exact (Reps.none _ _)); intro v381 w33 ho34 hb hg_ hnew_; clear hg_ hnew_; (first | rw [← Ny380.out] at ho34 | (simp only [Int.reduceToNat] at ho34; rw [← Ny380.out] at ho34)); have HO382 := Aside0.mk (Kd.R_lower (Kd.R_new' ho34 (Kd.R_lt (laR HO377.out))) (below_size (by repeat (first | (with_reducible first | exact HB.out | apply below_alloc | apply pw_below_drewN | apply below_drew1 | refine below_set ?_ (IsS59.ge HI374.out)) | exact HB.out)))); replace HO377 := Aside0.mk (Kd.R_elder' (laR HO377.out) (Kd.R_base ho34) hb); replace HB := Aside0.mk (below_step (by repeat (first | (with_reducible first | exact HB.out | apply below_alloc | apply pw_below_drewN | apply below_drew1 | refine below_set ?_ (IsS59.ge HI374.out)) | exact HB.out)) hb); replace HI374 := Aside0.mk (IsS59.below (by repeat (first | (with_reducible first | exact HI374.out | apply IsS59.alloc | apply IsS59.drewN | apply IsS59.drew | apply IsS59.set_1 | apply IsS59.set_2) | exact HI374.out)) hb); clear hb ho34; obtain ⟨Ao36, co36, eo36⟩ := Kd.R_slice HO377.out; subst eo36) | ((with_reducible refine gate_builtin (b := .append) (xs := #[.tmp 11, .tmp 12]) rfl ?_); at_builtin; refine Kd.R_append_rows k40 (w0 := w) w.heap.size rfl (.tmp 11) (.tmp 12) 22 40 (.agg #[(.bool false), (.int .i64 0)]) 16 rfl Tryd.underlying22 info40 rfl (by decide) (by omega) v381 y380 t375 _ _ _ (fun k_ => some k_ ≠ (.slice Ao36 t375.length co36 : Value).ownBlock) (fun _ => False) rfl rfl ?aO ?aR (fun _ _ h => h) (fun _ h => h.elim) ?aF ?aB ?aS ?aL ?_; (case aR => exact laC (Kd.R_reads' HO377.out).2.2); (case aB => exact (by repeat (first | (with_reducible first | exact HB.out | apply below_alloc | apply pw_below_drewN | apply below_drew1 | refine below_set ?_ (IsS59.ge HI374.out)) | exact HB.out))); (case aF => exact (fun k_ hk => Kd.fresh' (Kd.R_lt (laR HO377.out)) k_ hk)); (case aO => exact (laR (Kd.R_mono HO382.out (fun _ hk => hk.2)))); (case aS => exact (below_size (by repeat (first | (with_reducible first | exact HB.out | apply below_alloc | apply pw_below_drewN | apply below_drew1 | refine below_set ?_ (IsS59.ge HI374.out)) | exact HB.out)))); (case aL => have := LMc4.out; omega); intro v384 w35 ho hb hg hat; rw [← Ny383.out] at ho; have n0_ := Aside0.mk (IsS59.grown (by repeat (first | (with_reducible first | exact HI374.out | apply IsS59.alloc | apply IsS59.drewN | apply IsS59.drew | apply IsS59.set_1 | apply IsS59.set_2) | exact HI374.out)) hg (IsS59.own_ne HI374.out HO382.out (by decide))); have n1_ := Aside0.mk (Kd.R_after (ok := (fun _ => True)) (laR HO377.out) hg hat); have n2_ := Aside0.mk (hb); have n3_ := Aside0.mk (ho); clear HI374; clear HO377; clear HB; clear HO382; have HI374 := n0_; have HO377 := n1_; have HB := n2_; have HO385 := n3_; clear n0_ n1_ n2_ n3_; clear ho hb hg hat; obtain ⟨Ao37, co37, eo37⟩ := Kd.R_slice HO385.out; subst eo37))
   go_ret2
   exact ⟨_, _, by first | rfl | (simp [errW_none, errW_some] <;> rfl) | (simp [*, errW_none, errW_some] <;> rfl), by (with_reducible repeat (first | apply Kd.R_alloc | apply Kd.R_drewN | apply Kd.R_drew)); exact Kd.R_mono HO377.out (fun _ hk => hk.2), by (with_reducible repeat (first | apply Kd.R_alloc | apply Kd.R_drewN | apply Kd.R_drew)); exact HO385.out, by repeat (first | (with_reducible first | exact HB.out | apply below_alloc | apply pw_below_drewN | apply below_drew1 | refine below_set ?_ (IsS59.ge HI374.out)) | exact HB.out)⟩
 ·rw [if_neg c4] at H
  exact absurd H (by simp)



attribute [local go_sem high] eqA40
/-! ### spec_SameQuery: function 17 -/
def spec_SameQuery.l0 : Nat → List (S40) → List (S40) → Int → Option (Bool)
 | 0, _, _, _ => none
 | k + 1, x0, x1, x5 => if x5 < (x0.length : Int) then (if 0 ≤ x5 then (if x5 < (x1.length : Int) then (if (!(((rd_T40 x0 x5).f0) == ((rd_T40 x1 x5).f0)) || (!(((rd_T40 x0 x5).f1) == ((rd_T40 x1 x5).f1)))) = true then (some false) else (spec_SameQuery.l0 k x0 x1 (wrap64 (x5 + 1)))) else (none)) else (none)) else (some true)
def spec_SameQuery.f (k : Nat) (l0 : List (S40)) (l1 : List (S40)) : Option (Bool) := if (l0.length : Int) = (l1.length : Int) then (spec_SameQuery.l0 k l0 l1 0) else (some false)
theorem spec_SameQuery.mono_l : ∀ k, (∀ y0 y1 y2, LeO (spec_SameQuery.l0 k y0 y1 y2) (spec_SameQuery.l0 (k + 1) y0 y1 y2))
 | 0 => fun _ _ _ r h => by simp [spec_SameQuery.l0] at h
 | k + 1 => by
  have ih0 := spec_SameQuery.mono_l k
  ·intro y0 y1 y2
   unfold spec_SameQuery.l0
   repeat' first
   | (with_reducible exact ih0 _ _ _)
   | (with_reducible exact LeO.refl _)
   | (with_reducible exact LeO.none _)
   | (with_reducible refine LeO.ite ?_ ?_)
   | (with_reducible refine LeO.bind ?_ (fun _ => ?_))
   | exact ih0 _ _ _
   | exact LeO.none _
   | refine LeO.ite ?_ ?_
   | refine LeO.bind ?_ (fun _ => ?_)
theorem spec_SameQuery.mono : ∀ a0 a1 k, LeO (spec_SameQuery.f k a0 a1) (spec_SameQuery.f (k + 1) a0 a1) := by
 intro a0 a1 k
 have ih0 := spec_SameQuery.mono_l k
 unfold spec_SameQuery.f
 repeat' first
   | (with_reducible exact ih0 _ _ _)
   | (with_reducible exact LeO.refl _)
   | (with_reducible exact LeO.none _)
   | (with_reducible refine LeO.ite ?_ ?_)
   | (with_reducible refine LeO.bind ?_ (fun _ => ?_))
   | exact ih0 _ _ _
   | exact LeO.none _
   | refine LeO.ite ?_ ?_
   | refine LeO.bind ?_ (fun _ => ?_)
set_option maxHeartbeats 8000000 in
set_option maxRecDepth 100000 in
theorem spec_SameQuery.calls (k : Nat) (A0 : Option Addr) (c0 : Nat) (l0 : List (S40)) (A1 : Option Addr) (c1 : Nat) (l1 : List (S40)) (r : Bool) (w : World) (hr0 : Kd.C k40 w A0 l0.length l0) (hc0 : l0.length ≤ c0) (hr1 : Kd.C k40 w A1 l1.length l1) (hc1 : l1.length ≤ c1) (h : spec_SameQuery.f k l0 l1 = some r) :
  Calls Tryd.prog 17 #[.slice A0 l0.length c0, .slice A1 l1.length c1] w fun e w' => e = .returned (.bool r) ∧ Drawn0 w w' := by
 have hu40 := Tryd.underlying40
 have HR0 := Aside0.mk hr0
 have HC0 := Aside0.mk hc0
 clear hr0 hc0
 have HR1 := Aside0.mk hr1
 have HC1 := Aside0.mk hc1
 clear hr1 hc1
 have H : (if (l0.length : Int) = (l1.length : Int) then (spec_SameQuery.l0 k l0 l1 0) else (some false)) = some r := h
 clear h
 by_cases c3 : (l0.length : Int) = (l1.length : Int)
 ·rw [if_pos c3] at H
  have c3b0 : ((l0.length : Int) == (l1.length : Int)) = true := beq_iff_eq.mpr c3
  have c3b1 : ((l0.length : Int) != (l1.length : Int)) = false := bne_eq_false_iff_eq.mpr c3
  have c3b2 : (l0.length == l1.length) = true := by first | simpa using c3 | (simp at c3 ⊢; omega)
  clear c3
  have H' := Aside0.mk H
  clear H
  go_enter Tryd.func17, Tryd.ntmps17
  go_wp2
  repeat (go_quiet (fail); try go_wp2)
  go_loopg [5] k (fun kq v5 w' => ∃ (x5_1 : Int), v5 = .int .i64 x5_1 ∧ Aside0 (spec_SameQuery.l0 kq l0 l1 x5_1 = some r) ∧ Aside0 (kq ≤ k) ∧ Drawn0 w w')
  case atStart => exact ⟨(0), (by first | rfl | (simp; done) | (simp [*]; done)), H', ⟨Nat.le_refl _⟩, by repeat (first | exact Drawn0.refl _ | apply Drawn0.step)⟩
  case round =>
   clear H'
   try clear c1
   try clear p2
   try clear c3
   try clear c3b0
   try clear c3b1
   try clear c3b2
   obtain ⟨x5_1, rfl, HA, HK1, ⟨m1, rfl⟩⟩ := hrel
   cases gk with
   | zero => exact absurd HA.out (by simp [spec_SameQuery.l0])
   | succ k1 =>
    have H := HA.out
    clear HA
    simp only [spec_SameQuery.l0] at H
    by_cases c4 : x5_1 < (l0.length : Int)
    ·rw [if_pos c4] at H
     have c4b0 : decide (x5_1 < (l0.length : Int)) = true := decide_eq_true c4
     clear c4
     by_cases c5 : 0 ≤ x5_1
     ·rw [if_pos c5] at H
      have c5b0 : decide (0 ≤ x5_1) = true := decide_eq_true c5
      clear c5
      by_cases c6 : x5_1 < (l1.length : Int)
      ·rw [if_pos c6] at H
       have c6b0 : decide (x5_1 < (l1.length : Int)) = true := decide_eq_true c6
       clear c6
       by_cases c7 : (!(((rd_T40 l0 x5_1).f0) == ((rd_T40 l1 x5_1).f0)) || (!(((rd_T40 l0 x5_1).f1) == ((rd_T40 l1 x5_1).f1)))) = true
       ·rw [if_pos c7] at H
        have c7b0 : (!(((rd_T40 l0 x5_1).f0) == ((rd_T40 l1 x5_1).f0)) || (!(((rd_T40 l0 x5_1).f1) == ((rd_T40 l1 x5_1).f1)))) = true := c7
        clear c7
        obtain rfl := Option.some.inj H
        have p393 : 0 ≤ (x5_1 : Int) := of_decide_eq_true (by first | (with_reducible assumption) | assumption)
        have q393 : x5_1 < (l0.length : Int) := of_decide_eq_true (by first | (with_reducible assumption) | assumption)
        obtain ⟨ad393, e393, hx393_0, hx393_1⟩ := at_T40 HR0.out x5_1 p393 q393
        cases e393
        replace p393 := eq_true p393
        replace q393 := eq_true q393
        have p394 : 0 ≤ (x5_1 : Int) := of_decide_eq_true (by first | (with_reducible assumption) | assumption)
        have q394 : x5_1 < (l1.length : Int) := of_decide_eq_true (by first | (with_reducible assumption) | assumption)
        obtain ⟨ad394, e394, hx394_0, hx394_1⟩ := at_T40 HR1.out x5_1 p394 q394
        cases e394
        replace p394 := eq_true p394
        replace q394 := eq_true q394
        go_wp2
        repeat (go_quiet (fail); try go_wp2)
        go_ret
        exact ⟨by first | rfl | (simp; done) | (simp [*]; done), by repeat (first | exact Drawn0.refl _ | apply Drawn0.step)⟩
       ·rw [if_neg c7] at H
        have c7b0 : (!(((rd_T40 l0 x5_1).f0) == ((rd_T40 l1 x5_1).f0)) || (!(((rd_T40 l0 x5_1).f1) == ((rd_T40 l1 x5_1).f1)))) = false := by simpa using c7
        clear c7
        have H' := Aside0.mk H
        clear H
        have p393 : 0 ≤ (x5_1 : Int) := of_decide_eq_true (by first | (with_reducible assumption) | assumption)
        have q393 : x5_1 < (l0.length : Int) := of_decide_eq_true (by first | (with_reducible assumption) | assumption)
        obtain ⟨ad393, e393, hx393_0, hx393_1⟩ := at_T40 HR0.out x5_1 p393 q393
        cases e393
        replace p393 := eq_true p393
        replace q393 := eq_true q393
        have p394 : 0 ≤ (x5_1 : Int) := of_decide_eq_true (by first | (with_reducible assumption) | assumption)
        have q394 : x5_1 < (l1.length : Int) := of_decide_eq_true (by first | (with_reducible assumption) | assumption)
        obtain ⟨ad394, e394, hx394_0, hx394_1⟩ := at_T40 HR1.out x5_1 p394 q394
        cases e394
        replace p394 := eq_true p394
        replace q394 := eq_true q394
        go_wp2
        repeat (go_quiet (fail); try go_wp2)
        go_roundg k1
        case measure => have := HK1.out; omega
        case rel => exact ⟨(wrap64 (x5_1 + 1)), (by first | rfl | (simp; done) | (simp [*]; done)), H', ⟨by have := HK1.out; omega⟩, by repeat (first | exact Drawn0.refl _ | apply Drawn0.step)⟩
      ·rw [if_neg c6] at H
       exact absurd H (by simp)
     ·rw [if_neg c5] at H
      exact absurd H (by simp)
    ·rw [if_neg c4] at H
     have c4b0 : decide (x5_1 < (l0.length : Int)) = false := decide_eq_false c4
     clear c4
     obtain rfl := Option.some.inj H
     go_wp2
     repeat (go_quiet (fail); try go_wp2)
     go_ret
     exact ⟨by first | rfl | (simp; done) | (simp [*]; done), by repeat (first | exact Drawn0.refl _ | apply Drawn0.step)⟩
 ·rw [if_neg c3] at H
  have c3b0 : ((l0.length : Int) == (l1.length : Int)) = false := beq_eq_false_iff_ne.mpr c3
  have c3b1 : ((l0.length : Int) != (l1.length : Int)) = true := bne_iff_ne.mpr c3
  have c3b2 : (l0.length == l1.length) = false := by first | simpa using c3 | (simp at c3 ⊢; omega)
  obtain rfl := Option.some.inj H
  go_enter Tryd.func17, Tryd.ntmps17
  go_wp2
  repeat (go_quiet (fail); try go_wp2)
  go_ret
  exact ⟨by first | rfl | (simp; done) | (simp [*]; done), by repeat (first | exact Drawn0.refl _ | apply Drawn0.step)⟩



attribute [local go_sem high] eqA40
/-! ### impl_Pick_38: function 38 -/
def impl_Pick_38.l0 : Nat → List (S40) → List (S40) → Int → Int → Option (Bool)
 | 0, _, _, _, _ => none
 | k + 1, x0, x1, x12, x13 => if x13 < x12 then (if 0 ≤ x13 then (if x13 < (x0.length : Int) then (if x13 < (x1.length : Int) then (if (!(((rd_T40 x0 x13).f0) == ((rd_T40 x1 x13).f0)) || (!(((rd_T40 x0 x13).f1) == ((rd_T40 x1 x13).f1)))) = true then (some false) else (impl_Pick_38.l0 k x0 x1 x12 (wrap64 (x13 + 1)))) else (none)) else (none)) else (none)) else (some true)
def impl_Pick_38.f (k : Nat) (l0 : List (S40)) (l1 : List (S40)) : Option (Bool) := if (l0.length : Int) = (l1.length : Int) then (impl_Pick_38.l0 k l0 l1 (l0.length : Int) 0) else (some false)
theorem impl_Pick_38.mono_l : ∀ k, (∀ y0 y1 y2 y3, LeO (impl_Pick_38.l0 k y0 y1 y2 y3) (impl_Pick_38.l0 (k + 1) y0 y1 y2 y3))
 | 0 => fun _ _ _ _ r h => by simp [impl_Pick_38.l0] at h
 | k + 1 => by
  have ih0 := impl_Pick_38.mono_l k
  ·intro y0 y1 y2 y3
   unfold impl_Pick_38.l0
   repeat' first
   | (with_reducible exact ih0 _ _ _ _)
   | (with_reducible exact LeO.refl _)
   | (with_reducible exact LeO.none _)
   | (with_reducible refine LeO.ite ?_ ?_)
   | (with_reducible refine LeO.bind ?_ (fun _ => ?_))
   | exact ih0 _ _ _ _
   | exact LeO.none _
   | refine LeO.ite ?_ ?_
   | refine LeO.bind ?_ (fun _ => ?_)
theorem impl_Pick_38.mono : ∀ a0 a1 k, LeO (impl_Pick_38.f k a0 a1) (impl_Pick_38.f (k + 1) a0 a1) := by
 intro a0 a1 k
 have ih0 := impl_Pick_38.mono_l k
 unfold impl_Pick_38.f
 repeat' first
   | (with_reducible exact ih0 _ _ _ _)
   | (with_reducible exact LeO.refl _)
   | (with_reducible exact LeO.none _)
   | (with_reducible refine LeO.ite ?_ ?_)
   | (with_reducible refine LeO.bind ?_ (fun _ => ?_))
   | exact ih0 _ _ _ _
   | exact LeO.none _
   | refine LeO.ite ?_ ?_
   | refine LeO.bind ?_ (fun _ => ?_)
set_option maxHeartbeats 8000000 in
set_option maxRecDepth 100000 in
theorem impl_Pick_38.calls (k : Nat) (A0 : Option Addr) (c0 : Nat) (l0 : List (S40)) (A1 : Option Addr) (c1 : Nat) (l1 : List (S40)) (r : Bool) (w : World) (hr0 : Kd.C k40 w A0 l0.length l0) (hc0 : l0.length ≤ c0) (hr1 : Kd.C k40 w A1 l1.length l1) (hc1 : l1.length ≤ c1) (h : impl_Pick_38.f k l0 l1 = some r) :
  Calls Tryd.prog 38 #[.slice A0 l0.length c0, .slice A1 l1.length c1] w fun e w' => e = .returned (.bool r) ∧ Drawn0 w w' := by
 have hu40 := Tryd.underlying40
 have HR0 := Aside0.mk hr0
 have HC0 := Aside0.mk hc0
 clear hr0 hc0
 have HR1 := Aside0.mk hr1
 have HC1 := Aside0.mk hc1
 clear hr1 hc1
 have H : (if (l0.length : Int) = (l1.length : Int) then (impl_Pick_38.l0 k l0 l1 (l0.length : Int) 0) else (some false)) = some r := h
 clear h
 by_cases c3 : (l0.length : Int) = (l1.length : Int)
 ·rw [if_pos c3] at H
  have c3b0 : ((l0.length : Int) == (l1.length : Int)) = true := beq_iff_eq.mpr c3
  have c3b1 : ((l0.length : Int) != (l1.length : Int)) = false := bne_eq_false_iff_eq.mpr c3
  have c3b2 : (l0.length == l1.length) = true := by first | simpa using c3 | (simp at c3 ⊢; omega)
  clear c3
  have H' := Aside0.mk H
  clear H
  go_enter Tryd.func38, Tryd.ntmps38
  go_wp2
  repeat (go_quiet (fail); try go_wp2)
  go_loopg [13] k (fun kq v13 w' => ∃ (x13_1 : Int), v13 = .int .i64 x13_1 ∧ Aside0 (impl_Pick_38.l0 kq l0 l1 (l0.length : Int) x13_1 = some r) ∧ Aside0 (kq ≤ k) ∧ Drawn0 w w')
  case atStart => exact ⟨(0), (by first | rfl | (simp; done) | (simp [*]; done)), H', ⟨Nat.le_refl _⟩, by repeat (first | exact Drawn0.refl _ | apply Drawn0.step)⟩
  case round =>
   clear H'
   try clear c1
   try clear p2
   try clear c3
   try clear c3b0
   try clear c3b1
   try clear c3b2
   obtain ⟨x13_1, rfl, HA, HK1, ⟨m1, rfl⟩⟩ := hrel
   cases gk with
   | zero => exact absurd HA.out (by simp [impl_Pick_38.l0])
   | succ k1 =>
    have H := HA.out
    clear HA
    simp only [impl_Pick_38.l0] at H
    by_cases c4 : x13_1 < (l0.length : Int)
    ·rw [if_pos c4] at H
     have c4b0 : decide (x13_1 < (l0.length : Int)) = true := decide_eq_true c4
     clear c4
     by_cases c5 : 0 ≤ x13_1
     ·rw [if_pos c5] at H
      have c5b0 : decide (0 ≤ x13_1) = true := decide_eq_true c5
      clear c5
      by_cases c6 : x13_1 < (l0.length : Int)
      ·rw [if_pos c6] at H
       have c6b0 : decide (x13_1 < (l0.length : Int)) = true := decide_eq_true c6
       clear c6
       by_cases c7 : x13_1 < (l1.length : Int)
       ·rw [if_pos c7] at H
        have c7b0 : decide (x13_1 < (l1.length : Int)) = true := decide_eq_true c7
        clear c7
        by_cases c8 : (!(((rd_T40 l0 x13_1).f0) == ((rd_T40 l1 x13_1).f0)) || (!(((rd_T40 l0 x13_1).f1) == ((rd_T40 l1 x13_1).f1)))) = true
        ·rw [if_pos c8] at H
         have c8b0 : (!(((rd_T40 l0 x13_1).f0) == ((rd_T40 l1 x13_1).f0)) || (!(((rd_T40 l0 x13_1).f1) == ((rd_T40 l1 x13_1).f1)))) = true := c8
         clear c8
         obtain rfl := Option.some.inj H
         have p395 : 0 ≤ (x13_1 : Int) := of_decide_eq_true (by first | (with_reducible assumption) | assumption)
         have q395 : x13_1 < (l0.length : Int) := of_decide_eq_true (by first | (with_reducible assumption) | assumption)
         obtain ⟨ad395, e395, hx395_0, hx395_1⟩ := at_T40 HR0.out x13_1 p395 q395
         cases e395
         replace p395 := eq_true p395
         replace q395 := eq_true q395
         have p396 : 0 ≤ (x13_1 : Int) := of_decide_eq_true (by first | (with_reducible assumption) | assumption)
         have q396 : x13_1 < (l1.length : Int) := of_decide_eq_true (by first | (with_reducible assumption) | assumption)
         obtain ⟨ad396, e396, hx396_0, hx396_1⟩ := at_T40 HR1.out x13_1 p396 q396
         cases e396
         replace p396 := eq_true p396
         replace q396 := eq_true q396
         go_wp2
         repeat (go_quiet (fail); try go_wp2)
         go_ret
         exact ⟨by first | rfl | (simp; done) | (simp [*]; done), by repeat (first | exact Drawn0.refl _ | apply Drawn0.step)⟩
        ·rw [if_neg c8] at H
         have c8b0 : (!(((rd_T40 l0 x13_1).f0) == ((rd_T40 l1 x13_1).f0)) || (!(((rd_T40 l0 x13_1).f1) == ((rd_T40 l1 x13_1).f1)))) = false := by simpa using c8
         clear c8
         have H' := Aside0.mk H
         clear H
         have p395 : 0 ≤ (x13_1 : Int) := of_decide_eq_true (by first | (with_reducible assumption) | assumption)
         have q395 : x13_1 < (l0.length : Int) := of_decide_eq_true (by first | (with_reducible assumption) | assumption)
         obtain ⟨ad395, e395, hx395_0, hx395_1⟩ := at_T40 HR0.out x13_1 p395 q395
         cases e395
         replace p395 := eq_true p395
         replace q395 := eq_true q395
         have p396 : 0 ≤ (x13_1 : Int) := of_decide_eq_true (by first | (with_reducible assumption) | assumption)
         have q396 : x13_1 < (l1.length : Int) := of_decide_eq_true (by first | (with_reducible assumption) | assumption)
         obtain ⟨ad396, e396, hx396_0, hx396_1⟩ := at_T40 HR1.out x13_1 p396 q396
         cases e396
         replace p396 := eq_true p396
         replace q396 := eq_true q396
         go_wp2
         repeat (go_quiet (fail); try go_wp2)
         go_roundg k1
         case measure => have := HK1.out; omega
         case rel => exact ⟨(wrap64 (x13_1 + 1)), (by first | rfl | (simp; done) | (simp [*]; done)), H', ⟨by have := HK1.out; omega⟩, by repeat (first | exact Drawn0.refl _ | apply Drawn0.step)⟩
       ·rw [if_neg c7] at H
        exact absurd H (by simp)
      ·rw [if_neg c6] at H
       exact absurd H (by simp)
     ·rw [if_neg c5] at H
      exact absurd H (by simp)
    ·rw [if_neg c4] at H
     have c4b0 : decide (x13_1 < (l0.length : Int)) = false := decide_eq_false c4
     clear c4
     obtain rfl := Option.some.inj H
     go_wp2
     repeat (go_quiet (fail); try go_wp2)
     go_ret
     exact ⟨by first | rfl | (simp; done) | (simp [*]; done), by repeat (first | exact Drawn0.refl _ | apply Drawn0.step)⟩
 ·rw [if_neg c3] at H
  have c3b0 : ((l0.length : Int) == (l1.length : Int)) = false := beq_eq_false_iff_ne.mpr c3
  have c3b1 : ((l0.length : Int) != (l1.length : Int)) = true := bne_iff_ne.mpr c3
  have c3b2 : (l0.length == l1.length) = false := by first | simpa using c3 | (simp at c3 ⊢; omega)
  obtain rfl := Option.some.inj H
  go_enter Tryd.func38, Tryd.ntmps38
  go_wp2
  repeat (go_quiet (fail); try go_wp2)
  go_ret
  exact ⟨by first | rfl | (simp; done) | (simp [*]; done), by repeat (first | exact Drawn0.refl _ | apply Drawn0.step)⟩



/-! ### impl_SameQuery: function 18 -/
def impl_SameQuery.f (k : Nat) (l0 : List (S40)) (l1 : List (S40)) : Option (Bool) := (impl_Pick_38.f k l0 l1).bind fun t397 => (some t397)
theorem impl_SameQuery.mono : ∀ a0 a1 k, LeO (impl_SameQuery.f k a0 a1) (impl_SameQuery.f (k + 1) a0 a1) := by
 intro a0 a1 k
 unfold impl_SameQuery.f
 repeat' first
   | (with_reducible exact impl_Pick_38.mono _ _ _)
   | (with_reducible exact LeO.refl _)
   | (with_reducible exact LeO.none _)
   | (with_reducible refine LeO.ite ?_ ?_)
   | (with_reducible refine LeO.bind ?_ (fun _ => ?_))
   | exact impl_Pick_38.mono _ _ _
   | exact LeO.none _
   | refine LeO.ite ?_ ?_
   | refine LeO.bind ?_ (fun _ => ?_)
set_option maxHeartbeats 8000000 in
set_option maxRecDepth 100000 in
theorem impl_SameQuery.calls (k : Nat) (A0 : Option Addr) (c0 : Nat) (l0 : List (S40)) (A1 : Option Addr) (c1 : Nat) (l1 : List (S40)) (r : Bool) (w : World) (hr0 : Kd.C k40 w A0 l0.length l0) (hc0 : l0.length ≤ c0) (hr1 : Kd.C k40 w A1 l1.length l1) (hc1 : l1.length ≤ c1) (h : impl_SameQuery.f k l0 l1 = some r) :
  Calls Tryd.prog 18 #[.slice A0 l0.length c0, .slice A1 l1.length c1] w fun e w' => e = .returned (.bool r) ∧ Drawn0 w w' := by
 have HR0 := Aside0.mk hr0
 have HC0 := Aside0.mk hc0
 clear hr0 hc0
 have HR1 := Aside0.mk hr1
 have HC1 := Aside0.mk hc1
 clear hr1 hc1
 have H : ((impl_Pick_38.f k l0 l1).bind fun t397 => (some t397)) = some r := h
 clear h
 replace H := Option.bind_eq_some_iff.mp H
 obtain ⟨t397, A30, H⟩ := H
 have A3 := Aside0.mk A30
 clear A30
 obtain rfl := Option.some.inj H
 go_enter Tryd.func18, Tryd.ntmps18
 go_wp2_with (first | ((with_reducible refine gate_callee (f := 38) rfl ?_); refine goesL_ (some 7) rfl rfl Tryd.func38 (by kernel_rfl) rfl #[.slice A0 l0.length c0, .slice A1 l1.length c1] rfl (by (try simp only [List.map_toArray, List.map_cons, List.map_nil]); first | done | rfl | (simp only [List.length_drop, List.length_take]; rfl)) ?_; (with_reducible refine (impl_Pick_38.calls k _ _ l0 _ _ l1 t397 _ ?side1 ?side2 ?side3 ?side4 A3.out).mono ?_); (case side1 => repeat (first | exact HR0.out | (with_reducible refine Kd.C_alloc ?_ _) | (with_reducible refine Kd.C_drewN ?_ _) | (with_reducible refine Kd.C_drew ?_))); (case side2 => exact HC0.out); (case side3 => repeat (first | exact HR1.out | (with_reducible refine Kd.C_alloc ?_ _) | (with_reducible refine Kd.C_drewN ?_ _) | (with_reducible refine Kd.C_drew ?_))); (case side4 => exact HC1.out); rintro e w' ⟨rfl, ⟨nd, rfl⟩⟩; refine ⟨_, rfl, ?_⟩))
 go_ret
 exact ⟨by first | rfl | (simp; done) | (simp [*]; done), by repeat (first | exact Drawn0.refl _ | apply Drawn0.step)⟩



/-! ### laws_FnQueries: function 4 -/
def laws_FnQueries.f (k : Nat) (l0 : List Int) : Option (Bool) := (laws_big.f l0).bind fun t398 => (if t398 = true then (some true) else ((spec_DrawQueryText.f k l0).bind fun t399 => ((impl_QueryText.f k t399).bind fun t402 => ((impl_ReadQuery.f k t402).bind fun bt403 => ((spec_DrawReadQuery.f k l0).bind fun t407 => ((impl_ReadQuery.f k t407).bind fun bt408 => ((spec_ReadQuery.f k t407).bind fun bt412 => ((spec_DrawSameQuery.f k l0).bind fun bt416 => ((spec_QueryOk.f k t399).bind fun t422 => (if (bt403.2 == t422) = true then ((impl_QueryOk.f k t399).bind fun t423 => (if (bt403.2 == t423) = true then (if bt403.2 = true then ((spec_SameQuery.f k bt403.1 t399).bind fun t424 => (if t424 = true then (if (bt408.2 == bt412.2) = true then (if bt408.2 = true then ((impl_QueryText.f k bt408.1).bind fun t425 => (if t425.toList = t407.toList then ((impl_SameQuery.f k bt416.1 bt416.2).bind fun t426 => ((spec_SameQuery.f k bt416.1 bt416.2).bind fun t427 => (some (t426 == t427)))) else (some false))) else ((impl_SameQuery.f k bt416.1 bt416.2).bind fun t428 => ((spec_SameQuery.f k bt416.1 bt416.2).bind fun t429 => (some (t428 == t429))))) else (some false)) else (some false))) else (if (bt408.2 == bt412.2) = true then (if bt408.2 = true then ((impl_QueryText.f k bt408.1).bind fun t430 => (if t430.toList = t407.toList then ((impl_SameQuery.f k bt416.1 bt416.2).bind fun t431 => ((spec_SameQuery.f k bt416.1 bt416.2).bind fun t432 => (some (t431 == t432)))) else (some false))) else ((impl_SameQuery.f k bt416.1 bt416.2).bind fun t433 => ((spec_SameQuery.f k bt416.1 bt416.2).bind fun t434 => (some (t433 == t434))))) else (some false))) else (some false))) else (some false)))))))))))
theorem laws_FnQueries.mono : ∀ a0 k, LeO (laws_FnQueries.f k a0) (laws_FnQueries.f (k + 1) a0) := by
 intro a0 k
 unfold laws_FnQueries.f
 repeat' first
   | (with_reducible exact impl_QueryOk.mono _ _)
   | (with_reducible exact impl_QueryText.mono _ _)
   | (with_reducible exact impl_ReadQuery.mono _ _)
   | (with_reducible exact impl_SameQuery.mono _ _ _)
   | (with_reducible exact spec_DrawQueryText.mono _ _)
   | (with_reducible exact spec_DrawReadQuery.mono _ _)
   | (with_reducible exact spec_DrawSameQuery.mono _ _)
   | (with_reducible exact spec_QueryOk.mono _ _)
   | (with_reducible exact spec_ReadQuery.mono _ _)
   | (with_reducible exact spec_SameQuery.mono _ _ _)
   | (with_reducible exact LeO.refl _)
   | (with_reducible exact LeO.none _)
   | (with_reducible refine LeO.ite ?_ ?_)
   | (with_reducible refine LeO.bind ?_ (fun _ => ?_))
   | exact impl_QueryOk.mono _ _
   | exact impl_QueryText.mono _ _
   | exact impl_ReadQuery.mono _ _
   | exact impl_SameQuery.mono _ _ _
   | exact spec_DrawQueryText.mono _ _
   | exact spec_DrawReadQuery.mono _ _
   | exact spec_DrawSameQuery.mono _ _
   | exact spec_QueryOk.mono _ _
   | exact spec_ReadQuery.mono _ _
   | exact spec_SameQuery.mono _ _ _
   | exact LeO.none _
   | refine LeO.ite ?_ ?_
   | refine LeO.bind ?_ (fun _ => ?_)
set_option maxHeartbeats 8000000 in
set_option maxRecDepth 100000 in
theorem laws_FnQueries.calls (k : Nat) (A0 : Option Addr) (c0 : Nat) (l0 : List Int) (r : Bool) (w : World) (hr0 : Kd.C (Kd.int .u8) w A0 l0.length l0) (hc0 : l0.length ≤ c0) (h : laws_FnQueries.f k l0 = some r) (hr_ : r = true) (hG_ : hand_G w) :
  Calls Tryd.prog 4 #[.slice A0 l0.length c0] w fun e w' => e = .returned (.bool r) ∧ Below w.heap.size w w' := by
 have HG := Aside0.mk hG_
 clear hG_
 have HRT_ := Aside0.mk hr_
 clear hr_
 have HR0 := Aside0.mk hr0
 have HC0 := Aside0.mk hc0
 clear hr0 hc0
 have HB := Aside0.mk (Below.refl w.heap.size w)
 have H : ((laws_big.f l0).bind fun t398 => (if t398 = true then (some true) else ((spec_DrawQueryText.f k l0).bind fun t399 => ((impl_QueryText.f k t399).bind fun t402 => ((impl_ReadQuery.f k t402).bind fun bt403 => ((spec_DrawReadQuery.f k l0).bind fun t407 => ((impl_ReadQuery.f k t407).bind fun bt408 => ((spec_ReadQuery.f k t407).bind fun bt412 => ((spec_DrawSameQuery.f k l0).bind fun bt416 => ((spec_QueryOk.f k t399).bind fun t422 => (if (bt403.2 == t422) = true then ((impl_QueryOk.f k t399).bind fun t423 => (if (bt403.2 == t423) = true then (if bt403.2 = true then ((spec_SameQuery.f k bt403.1 t399).bind fun t424 => (if t424 = true then (if (bt408.2 == bt412.2) = true then (if bt408.2 = true then ((impl_QueryText.f k bt408.1).bind fun t425 => (if t425.toList = t407.toList then ((impl_SameQuery.f k bt416.1 bt416.2).bind fun t426 => ((spec_SameQuery.f k bt416.1 bt416.2).bind fun t427 => (some (t426 == t427)))) else (some false))) else ((impl_SameQuery.f k bt416.1 bt416.2).bind fun t428 => ((spec_SameQuery.f k bt416.1 bt416.2).bind fun t429 => (some (t428 == t429))))) else (some false)) else (some false))) else (if (bt408.2 == bt412.2) = true then (if bt408.2 = true then ((impl_QueryText.f k bt408.1).bind fun t430 => (if t430.toList = t407.toList then ((impl_SameQuery.f k bt416.1 bt416.2).bind fun t431 => ((spec_SameQuery.f k bt416.1 bt416.2).bind fun t432 => (some (t431 == t432)))) else (some false))) else ((impl_SameQuery.f k bt416.1 bt416.2).bind fun t433 => ((spec_SameQuery.f k bt416.1 bt416.2).bind fun t434 => (some (t433 == t434))))) else (some false))) else (some false))) else (some false)))))))))))) = some r := h
 clear h
 replace H := Option.bind_eq_some_iff.mp H
 obtain ⟨t398, A20, H⟩ := H
 have A2 := Aside0.mk A20
 clear A20
 by_cases c3 : t398 = true
 ·subst c3
  rw [if_pos rfl] at H
  obtain rfl := Option.some.inj H
  go_enter Tryd.func4, Tryd.ntmps4
  go_wp2_with (first | ((with_reducible refine gate_callee (f := 10) rfl ?_); refine goesL_ (some 14) rfl rfl Tryd.func10 (by kernel_rfl) rfl #[.slice A0 l0.length c0] rfl (by (try simp only [List.map_toArray, List.map_cons, List.map_nil]); first | done | rfl | (simp only [List.length_drop, List.length_take]; rfl)) ?_; (with_reducible refine (laws_big.calls _ _ l0 true _ ?side1 ?side2 A2.out).mono ?_); (case side1 => repeat (first | exact HR0.out | (with_reducible refine Kd.C_alloc ?_ _) | (with_reducible refine Kd.C_drewN ?_ _) | (with_reducible refine Kd.C_drew ?_))); (case side2 => exact HC0.out); rintro e w' ⟨rfl, ⟨nd, rfl⟩⟩; refine ⟨_, rfl, ?_⟩))
  go_ret
  exact ⟨by first | rfl | (simp [errW_none, errW_some] <;> rfl) | (simp [*, errW_none, errW_some] <;> rfl), laB HB.out⟩
 ·replace c3 := Bool.eq_false_iff.mpr c3
  subst c3
  rw [if_neg (show ¬ (false = true) by decide)] at H
  replace H := Option.bind_eq_some_iff.mp H
  obtain ⟨t399, A40, H⟩ := H
  have A4 := Aside0.mk A40
  clear A40
  replace H := Option.bind_eq_some_iff.mp H
  obtain ⟨t402, A50, H⟩ := H
  have A5 := Aside0.mk A50
  clear A50
  replace H := Option.bind_eq_some_iff.mp H
  obtain ⟨⟨t403, t404⟩, A60, H⟩ := H
  have A6 := Aside0.mk A60
  clear A60
  replace H := Option.bind_eq_some_iff.mp H
  obtain ⟨t407, A70, H⟩ := H
  have A7 := Aside0.mk A70
  clear A70
  replace H := Option.bind_eq_some_iff.mp H
  obtain ⟨⟨t408, t409⟩, A80, H⟩ := H
  have A8 := Aside0.mk A80
  clear A80
  replace H := Option.bind_eq_some_iff.mp H
  obtain ⟨⟨t412, t413⟩, A90, H⟩ := H
  have A9 := Aside0.mk A90
  clear A90
  replace H := Option.bind_eq_some_iff.mp H
  obtain ⟨⟨t416, t417⟩, A100, H⟩ := H
  have A10 := Aside0.mk A100
  clear A100
  replace H := Option.bind_eq_some_iff.mp H
  obtain ⟨t422, A110, H⟩ := H
  have A11 := Aside0.mk A110
  clear A110
  by_cases c12 : (t404 == t422) = true
  ·rw [if_pos c12] at H
   have c12b0 : (t404 == t422) = true := c12
   (try (have c12b1 : decide (t404 = t422) = true := by simpa using c12))
   (try (have c12b2 : (t404 == t422) = true := by simpa using c12))
   clear c12
   replace H := Option.bind_eq_some_iff.mp H
   obtain ⟨t423, A130, H⟩ := H
   have A13 := Aside0.mk A130
   clear A130
   by_cases c14 : (t404 == t423) = true
   ·rw [if_pos c14] at H
    have c14b0 : (t404 == t423) = true := c14
    (try (have c14b1 : decide (t404 = t423) = true := by simpa using c14))
    (try (have c14b2 : (t404 == t423) = true := by simpa using c14))
    clear c14
    by_cases c15 : t404 = true
    ·subst c15
     rw [if_pos rfl] at H
     replace H := Option.bind_eq_some_iff.mp H
     obtain ⟨t424, A160, H⟩ := H
     have A16 := Aside0.mk A160
     clear A160
     by_cases c17 : t424 = true
     ·subst c17
      rw [if_pos rfl] at H
      by_cases c18 : (t409 == t413) = true
      ·rw [if_pos c18] at H
       have c18b0 : (t409 == t413) = true := c18
       (try (have c18b1 : decide (t409 = t413) = true := by simpa using c18))
       (try (have c18b2 : (t409 == t413) = true := by simpa using c18))
       clear c18
       by_cases c19 : t409 = true
       ·subst c19
        rw [if_pos rfl] at H
        replace H := Option.bind_eq_some_iff.mp H
        obtain ⟨t425, A200, H⟩ := H
        have A20 := Aside0.mk A200
        clear A200
        by_cases c21 : t425.toList = t407.toList
        ·rw [if_pos c21] at H
         have c21b0 : (t425.toList == t407.toList) = true := beq_iff_eq.mpr c21
         have c21b1 : (t425.toList != t407.toList) = false := bne_eq_false_iff_eq.mpr c21
         clear c21
         replace H := Option.bind_eq_some_iff.mp H
         obtain ⟨t426, A220, H⟩ := H
         have A22 := Aside0.mk A220
         clear A220
         replace H := Option.bind_eq_some_iff.mp H
         obtain ⟨t427, A230, H⟩ := H
         have A23 := Aside0.mk A230
         clear A230
         obtain rfl := Option.some.inj H
         go_enter Tryd.func4, Tryd.ntmps4
         go_wp2_with (first | ((with_reducible refine gate_callee (f := 10) rfl ?_); refine goesL_ (some 14) rfl rfl Tryd.func10 (by kernel_rfl) rfl #[.slice A0 l0.length c0] rfl (by (try simp only [List.map_toArray, List.map_cons, List.map_nil]); first | done | rfl | (simp only [List.length_drop, List.length_take]; rfl)) ?_; (with_reducible refine (laws_big.calls _ _ l0 false _ ?side1 ?side2 A2.out).mono ?_); (case side1 => repeat (first | exact HR0.out | (with_reducible refine Kd.C_alloc ?_ _) | (with_reducible refine Kd.C_drewN ?_ _) | (with_reducible refine Kd.C_drew ?_))); (case side2 => exact HC0.out); rintro e w' ⟨rfl, ⟨nd, rfl⟩⟩; refine ⟨_, rfl, ?_⟩) | ((with_reducible refine gate_callee (f := 11) rfl ?_); refine goesL_ (some 16) rfl rfl Tryd.func11 (by kernel_rfl) rfl #[.slice A0 l0.length c0] rfl (by (try simp only [List.map_toArray, List.map_cons, List.map_nil]); first | done | rfl | (simp only [List.length_drop, List.length_take]; rfl)) ?_; (with_reducible refine (spec_DrawQueryText.calls k _ _ l0 t399 _ ?side1 ?side2 A4.out).mono ?_); (case side1 => repeat (first | exact HR0.out | (with_reducible refine Kd.C_alloc ?_ _) | (with_reducible refine Kd.C_drewN ?_ _) | (with_reducible refine Kd.C_drew ?_))); (case side2 => exact HC0.out); rintro e w24 ⟨v400, rfl, ho0, hb⟩; refine ⟨_, rfl, ?_⟩; have HO401 := Aside0.mk (Kd.R_lower ho0 (below_size (laB HB.out))); replace HB := Aside0.mk (below_step (laB HB.out) hb); (try clear hb); (try clear hb2); (try clear hk); (try clear hi); (try clear ho0); obtain ⟨Ao25, co25, eo25⟩ := Kd.R_slice HO401.out; subst eo25) | ((with_reducible refine gate_callee (f := 12) rfl ?_); refine goesL_ (some 19) rfl rfl Tryd.func12 (by kernel_rfl) rfl #[.slice Ao25 t399.length co25] rfl (by (try simp only [List.map_toArray, List.map_cons, List.map_nil]); first | done | rfl | (simp only [List.length_drop, List.length_take]; rfl)) ?_; (with_reducible refine (impl_QueryText.calls k _ _ t399 t402 _ ?side1 ?side2 A5.out).mono ?_); (case side1 => exact laC (Kd.R_reads' HO401.out).2.2); (case side2 => exact (Kd.R_reads' HO401.out).2.1); rintro e w26 ⟨rfl, hb⟩; refine ⟨_, rfl, ?_⟩; replace HO401 := Aside0.mk (laRb HO401.out hb); replace HB := Aside0.mk (below_step (laB HB.out) hb); (try clear hb); (try clear hb2); (try clear hk); (try clear hi)) | ((with_reducible refine gate_callee (f := 6) rfl ?_); refine goesL_ (some 20) rfl rfl Tryd.func6 (by kernel_rfl) rfl #[.string t402] rfl (by (try simp only [List.map_toArray, List.map_cons, List.map_nil]); first | done | rfl | (simp only [List.length_drop, List.length_take]; rfl)) ?_; (with_reducible refine (impl_ReadQuery.calls k t402 t403 true _ A6.out (hand_G_below HG.out (laB HB.out))).mono ?_); rintro e w27 ⟨v405, rfl, ho0, hb⟩; refine ⟨_, rfl, ?_⟩; have HO406 := Aside0.mk (Kd.R_lower (Kd.R_new' ho0 (Kd.R_lt (laR HO401.out))) (below_size (laB HB.out))); replace HO401 := Aside0.mk (Kd.R_elder' (laR HO401.out) (Kd.R_base ho0) hb); replace HB := Aside0.mk (below_step (laB HB.out) hb); (try clear hb); (try clear hb2); (try clear hk); (try clear hi); (try clear ho0)) | ((with_reducible refine gate_callee (f := 13) rfl ?_); refine goesL_ (some 24) rfl rfl Tryd.func13 (by kernel_rfl) rfl #[.slice A0 l0.length c0] rfl (by (try simp only [List.map_toArray, List.map_cons, List.map_nil]); first | done | rfl | (simp only [List.length_drop, List.length_take]; rfl)) ?_; (with_reducible refine (spec_DrawReadQuery.calls k _ _ l0 t407 _ ?side1 ?side2 A7.out).mono ?_); (case side1 => exact laC (Kd.C_below HR0.out HB.out)); (case side2 => exact HC0.out); rintro e w28 ⟨rfl, hb⟩; refine ⟨_, rfl, ?_⟩; replace HO401 := Aside0.mk (laRb HO401.out hb); replace HO406 := Aside0.mk (laRb HO406.out hb); replace HB := Aside0.mk (below_step (laB HB.out) hb); (try clear hb); (try clear hb2); (try clear hk); (try clear hi)) | ((with_reducible refine gate_callee (f := 6) rfl ?_); refine goesL_ (some 27) rfl rfl Tryd.func6 (by kernel_rfl) rfl #[.string t407] rfl (by (try simp only [List.map_toArray, List.map_cons, List.map_nil]); first | done | rfl | (simp only [List.length_drop, List.length_take]; rfl)) ?_; (with_reducible refine (impl_ReadQuery.calls k t407 t408 true _ A8.out (hand_G_below HG.out (laB HB.out))).mono ?_); rintro e w29 ⟨v410, rfl, ho0, hb⟩; refine ⟨_, rfl, ?_⟩; have HO411 := Aside0.mk (Kd.R_lower (Kd.R_new' (Kd.R_new' ho0 (Kd.R_lt (laR HO401.out))) (Kd.R_lt (laR HO406.out))) (below_size (laB HB.out))); replace HO401 := Aside0.mk (Kd.R_elder' (laR HO401.out) (Kd.R_base ho0) hb); replace HO406 := Aside0.mk (Kd.R_elder' (laR HO406.out) (Kd.R_base ho0) hb); replace HB := Aside0.mk (below_step (laB HB.out) hb); (try clear hb); (try clear hb2); (try clear hk); (try clear hi); (try clear ho0)) | ((with_reducible refine gate_callee (f := 5) rfl ?_); refine goesL_ (some 32) rfl rfl Tryd.func5 (by kernel_rfl) rfl #[.string t407] rfl (by (try simp only [List.map_toArray, List.map_cons, List.map_nil]); first | done | rfl | (simp only [List.length_drop, List.length_take]; rfl)) ?_; (with_reducible refine (spec_ReadQuery.calls k t407 t412 t413 _ A9.out).mono ?_); rintro e w30 ⟨v414, rfl, ho0, hb⟩; refine ⟨_, rfl, ?_⟩; have HO415 := Aside0.mk (Kd.R_lower (Kd.R_new' (Kd.R_new' (Kd.R_new' ho0 (Kd.R_lt (laR HO401.out))) (Kd.R_lt (laR HO406.out))) (Kd.R_lt (laR HO411.out))) (below_size (laB HB.out))); replace HO401 := Aside0.mk (Kd.R_elder' (laR HO401.out) (Kd.R_base ho0) hb); replace HO406 := Aside0.mk (Kd.R_elder' (laR HO406.out) (Kd.R_base ho0) hb); replace HO411 := Aside0.mk (Kd.R_elder' (laR HO411.out) (Kd.R_base ho0) hb); replace HB := Aside0.mk (below_step (laB HB.out) hb); (try clear hb); (try clear hb2); (try clear hk); (try clear hi); (try clear ho0)) | ((with_reducible refine gate_callee (f := 14) rfl ?_); refine goesL_ (some 37) rfl rfl Tryd.func14 (by kernel_rfl) rfl #[.slice A0 l0.length c0] rfl (by (try simp only [List.map_toArray, List.map_cons, List.map_nil]); first | done | rfl | (simp only [List.length_drop, List.length_take]; rfl)) ?_; (with_reducible refine (spec_DrawSameQuery.calls k _ _ l0 t416 t417 _ ?side1 ?side2 A10.out).mono ?_); (case side1 => exact laC (Kd.C_below HR0.out HB.out)); (case side2 => exact HC0.out); rintro e w31 ⟨v418, v420, rfl, ho0, ho1, hb⟩; refine ⟨_, rfl, ?_⟩; have HO419 := Aside0.mk (Kd.R_lower (Kd.R_new' (Kd.R_new' (Kd.R_new' (Kd.R_new' ho0 (Kd.R_lt (laR HO401.out))) (Kd.R_lt (laR HO406.out))) (Kd.R_lt (laR HO411.out))) (Kd.R_lt (laR HO415.out))) (below_size (laB HB.out))); have HO421 := Aside0.mk (Kd.R_lower (Kd.R_new' (Kd.R_new' (Kd.R_new' (Kd.R_new' ho1 (Kd.R_lt (laR HO401.out))) (Kd.R_lt (laR HO406.out))) (Kd.R_lt (laR HO411.out))) (Kd.R_lt (laR HO415.out))) (below_size (laB HB.out))); replace HO401 := Aside0.mk (Kd.R_mono (Kd.R_told (Kd.R_told (Kd.R_old (laR HO401.out) hb) (Kd.R_base ho0)) (Kd.R_base ho1)) (fun _ h_ => h_.1)); replace HO406 := Aside0.mk (Kd.R_mono (Kd.R_told (Kd.R_told (Kd.R_old (laR HO406.out) hb) (Kd.R_base ho0)) (Kd.R_base ho1)) (fun _ h_ => h_.1)); replace HO411 := Aside0.mk (Kd.R_mono (Kd.R_told (Kd.R_told (Kd.R_old (laR HO411.out) hb) (Kd.R_base ho0)) (Kd.R_base ho1)) (fun _ h_ => h_.1)); replace HO415 := Aside0.mk (Kd.R_mono (Kd.R_told (Kd.R_told (Kd.R_old (laR HO415.out) hb) (Kd.R_base ho0)) (Kd.R_base ho1)) (fun _ h_ => h_.1)); replace HB := Aside0.mk (below_step (laB HB.out) hb); (try clear hb); (try clear hb2); (try clear hk); (try clear hi); (try clear ho0); (try clear ho1)) | ((with_reducible refine gate_callee (f := 15) rfl ?_); refine goesL_ (some 42) rfl rfl Tryd.func15 (by kernel_rfl) rfl #[.slice Ao25 t399.length co25] rfl (by (try simp only [List.map_toArray, List.map_cons, List.map_nil]); first | done | rfl | (simp only [List.length_drop, List.length_take]; rfl)) ?_; (with_reducible refine (spec_QueryOk.calls k _ _ t399 t422 _ ?side1 ?side2 A11.out).mono ?_); (case side1 => exact laC (Kd.R_reads' HO401.out).2.2); (case side2 => exact (Kd.R_reads' HO401.out).2.1); rintro e w' ⟨rfl, ⟨nd, rfl⟩⟩; refine ⟨_, rfl, ?_⟩) | (go_at_call 16; (with_reducible refine (impl_QueryOk.calls k _ _ t399 t423 _ ?side1 ?side2 A13.out).mono ?_); (case side1 => exact laC (Kd.R_reads' HO401.out).2.2); (case side2 => exact (Kd.R_reads' HO401.out).2.1); rintro e w32 ⟨rfl, hb⟩; replace HO401 := Aside0.mk (laRb HO401.out hb); replace HO406 := Aside0.mk (laRb HO406.out hb); replace HO411 := Aside0.mk (laRb HO411.out hb); replace HO415 := Aside0.mk (laRb HO415.out hb); replace HO419 := Aside0.mk (laRb HO419.out hb); replace HO421 := Aside0.mk (laRb HO421.out hb); replace HB := Aside0.mk (below_step (laB HB.out) hb); (try clear hb); (try clear hb2); (try clear hk); (try clear hi); obtain ⟨Ao33, co33, eo33⟩ := Kd.R_slice HO406.out; subst eo33) | (go_at_call 17; (with_reducible refine (spec_SameQuery.calls k _ _ t403 _ _ t399 true _ ?side1 ?side2 ?side3 ?side4 A16.out).mono ?_); (case side1 => exact laC (Kd.R_reads' HO406.out).2.2); (case side2 => exact (Kd.R_reads' HO406.out).2.1); (case side3 => exact laC (Kd.R_reads' HO401.out).2.2); (case side4 => exact (Kd.R_reads' HO401.out).2.1); rintro e w' ⟨rfl, ⟨nd, rfl⟩⟩; obtain ⟨Ao34, co34, eo34⟩ := Kd.R_slice HO411.out; subst eo34) | (go_at_call 12; (with_reducible refine (impl_QueryText.calls k _ _ t408 t425 _ ?side1 ?side2 A20.out).mono ?_); (case side1 => exact laC (Kd.R_reads' HO411.out).2.2); (case side2 => exact (Kd.R_reads' HO411.out).2.1); rintro e w35 ⟨rfl, hb⟩; replace HO401 := Aside0.mk (laRb HO401.out hb); replace HO406 := Aside0.mk (laRb HO406.out hb); replace HO411 := Aside0.mk (laRb HO411.out hb); replace HO415 := Aside0.mk (laRb HO415.out hb); replace HO419 := Aside0.mk (laRb HO419.out hb); replace HO421 := Aside0.mk (laRb HO421.out hb); replace HB := Aside0.mk (below_step (laB HB.out) hb); (try clear hb); (try clear hb2); (try clear hk); (try clear hi); obtain ⟨Ao36, co36, eo36⟩ := Kd.R_slice HO419.out; subst eo36; obtain ⟨Ao37, co37, eo37⟩ := Kd.R_slice HO421.out; subst eo37) | (go_at_call 18; (with_reducible refine (impl_SameQuery.calls k _ _ t416 _ _ t417 t426 _ ?side1 ?side2 ?side3 ?side4 A22.out).mono ?_); (case side1 => exact laC (Kd.R_reads' HO419.out).2.2); (case side2 => exact (Kd.R_reads' HO419.out).2.1); (case side3 => exact laC (Kd.R_reads' HO421.out).2.2); (case side4 => exact (Kd.R_reads' HO421.out).2.1); rintro e w' ⟨rfl, ⟨nd, rfl⟩⟩) | (go_at_call 17; (with_reducible refine (spec_SameQuery.calls k _ _ t416 _ _ t417 t427 _ ?side1 ?side2 ?side3 ?side4 A23.out).mono ?_); (case side1 => exact laC (Kd.R_reads' HO419.out).2.2); (case side2 => exact (Kd.R_reads' HO419.out).2.1); (case side3 => exact laC (Kd.R_reads' HO421.out).2.2); (case side4 => exact (Kd.R_reads' HO421.out).2.1); rintro e w' ⟨rfl, ⟨nd, rfl⟩⟩))
         go_ret
         exact ⟨by first | rfl | (simp [errW_none, errW_some] <;> rfl) | (simp [*, errW_none, errW_some] <;> rfl), laB HB.out⟩
        ·rw [if_neg c21] at H
         have c21b0 : (t425.toList == t407.toList) = false := beq_eq_false_iff_ne.mpr c21
         have c21b1 : (t425.toList != t407.toList) = true := bne_iff_ne.mpr c21
         exact absurd ((Option.some.inj H).trans HRT_.out) (by decide)
       ·replace c19 := Bool.eq_false_iff.mpr c19
        subst c19
        rw [if_neg (show ¬ (false = true) by decide)] at H
        replace H := Option.bind_eq_some_iff.mp H
        obtain ⟨t428, A500, H⟩ := H
        have A50 := Aside0.mk A500
        clear A500
        replace H := Option.bind_eq_some_iff.mp H
        obtain ⟨t429, A510, H⟩ := H
        have A51 := Aside0.mk A510
        clear A510
        obtain rfl := Option.some.inj H
        go_enter Tryd.func4, Tryd.ntmps4
        go_wp2_with (first | ((with_reducible refine gate_callee (f := 10) rfl ?_); refine goesL_ (some 14) rfl rfl Tryd.func10 (by kernel_rfl) rfl #[.slice A0 l0.length c0] rfl (by (try simp only [List.map_toArray, List.map_cons, List.map_nil]); first | done | rfl | (simp only [List.length_drop, List.length_take]; rfl)) ?_; (with_reducible refine (laws_big.calls _ _ l0 false _ ?side1 ?side2 A2.out).mono ?_); (case side1 => repeat (first | exact HR0.out | (with_reducible refine Kd.C_alloc ?_ _) | (with_reducible refine Kd.C_drewN ?_ _) | (with_reducible refine Kd.C_drew ?_))); (case side2 => exact HC0.out); rintro e w' ⟨rfl, ⟨nd, rfl⟩⟩; refine ⟨_, rfl, ?_⟩) | ((with_reducible refine gate_callee (f := 11) rfl ?_); refine goesL_ (some 16) rfl rfl Tryd.func11 (by kernel_rfl) rfl #[.slice A0 l0.length c0] rfl (by (try simp only [List.map_toArray, List.map_cons, List.map_nil]); first | done | rfl | (simp only [List.length_drop, List.length_take]; rfl)) ?_; (with_reducible refine (spec_DrawQueryText.calls k _ _ l0 t399 _ ?side1 ?side2 A4.out).mono ?_); (case side1 => repeat (first | exact HR0.out | (with_reducible refine Kd.C_alloc ?_ _) | (with_reducible refine Kd.C_drewN ?_ _) | (with_reducible refine Kd.C_drew ?_))); (case side2 => exact HC0.out); rintro e w52 ⟨v400, rfl, ho0, hb⟩; refine ⟨_, rfl, ?_⟩; have HO401 := Aside0.mk (Kd.R_lower ho0 (below_size (laB HB.out))); replace HB := Aside0.mk (below_step (laB HB.out) hb); (try clear hb); (try clear hb2); (try clear hk); (try clear hi); (try clear ho0); obtain ⟨Ao53, co53, eo53⟩ := Kd.R_slice HO401.out; subst eo53) | ((with_reducible refine gate_callee (f := 12) rfl ?_); refine goesL_ (some 19) rfl rfl Tryd.func12 (by kernel_rfl) rfl #[.slice Ao53 t399.length co53] rfl (by (try simp only [List.map_toArray, List.map_cons, List.map_nil]); first | done | rfl | (simp only [List.length_drop, List.length_take]; rfl)) ?_; (with_reducible refine (impl_QueryText.calls k _ _ t399 t402 _ ?side1 ?side2 A5.out).mono ?_); (case side1 => exact laC (Kd.R_reads' HO401.out).2.2); (case side2 => exact (Kd.R_reads' HO401.out).2.1); rintro e w54 ⟨rfl, hb⟩; refine ⟨_, rfl, ?_⟩; replace HO401 := Aside0.mk (laRb HO401.out hb); replace HB := Aside0.mk (below_step (laB HB.out) hb); (try clear hb); (try clear hb2); (try clear hk); (try clear hi)) | ((with_reducible refine gate_callee (f := 6) rfl ?_); refine goesL_ (some 20) rfl rfl Tryd.func6 (by kernel_rfl) rfl #[.string t402] rfl (by (try simp only [List.map_toArray, List.map_cons, List.map_nil]); first | done | rfl | (simp only [List.length_drop, List.length_take]; rfl)) ?_; (with_reducible refine (impl_ReadQuery.calls k t402 t403 true _ A6.out (hand_G_below HG.out (laB HB.out))).mono ?_); rintro e w55 ⟨v405, rfl, ho0, hb⟩; refine ⟨_, rfl, ?_⟩; have HO406 := Aside0.mk (Kd.R_lower (Kd.R_new' ho0 (Kd.R_lt (laR HO401.out))) (below_size (laB HB.out))); replace HO401 := Aside0.mk (Kd.R_elder' (laR HO401.out) (Kd.R_base ho0) hb); replace HB := Aside0.mk (below_step (laB HB.out) hb); (try clear hb); (try clear hb2); (try clear hk); (try clear hi); (try clear ho0)) | ((with_reducible refine gate_callee (f := 13) rfl ?_); refine goesL_ (some 24) rfl rfl Tryd.func13 (by kernel_rfl) rfl #[.slice A0 l0.length c0] rfl (by (try simp only [List.map_toArray, List.map_cons, List.map_nil]); first | done | rfl | (simp only [List.length_drop, List.length_take]; rfl)) ?_; (with_reducible refine (spec_DrawReadQuery.calls k _ _ l0 t407 _ ?side1 ?side2 A7.out).mono ?_); (case side1 => exact laC (Kd.C_below HR0.out HB.out)); (case side2 => exact HC0.out); rintro e w56 ⟨rfl, hb⟩; refine ⟨_, rfl, ?_⟩; replace HO401 := Aside0.mk (laRb HO401.out hb); replace HO406 := Aside0.mk (laRb HO406.out hb); replace HB := Aside0.mk (below_step (laB HB.out) hb); (try clear hb); (try clear hb2); (try clear hk); (try clear hi)) | ((with_reducible refine gate_callee (f := 6) rfl ?_); refine goesL_ (some 27) rfl rfl Tryd.func6 (by kernel_rfl) rfl #[.string t407] rfl (by (try simp only [List.map_toArray, List.map_cons, List.map_nil]); first | done | rfl | (simp only [List.length_drop, List.length_take]; rfl)) ?_; (with_reducible refine (impl_ReadQuery.calls k t407 t408 false _ A8.out (hand_G_below HG.out (laB HB.out))).mono ?_); rintro e w57 ⟨v410, rfl, ho0, hb⟩; refine ⟨_, rfl, ?_⟩; have HO411 := Aside0.mk (Kd.R_lower (Kd.R_new' (Kd.R_new' ho0 (Kd.R_lt (laR HO401.out))) (Kd.R_lt (laR HO406.out))) (below_size (laB HB.out))); replace HO401 := Aside0.mk (Kd.R_elder' (laR HO401.out) (Kd.R_base ho0) hb); replace HO406 := Aside0.mk (Kd.R_elder' (laR HO406.out) (Kd.R_base ho0) hb); replace HB := Aside0.mk (below_step (laB HB.out) hb); (try clear hb); (try clear hb2); (try clear hk); (try clear hi); (try clear ho0)) | ((with_reducible refine gate_callee (f := 5) rfl ?_); refine goesL_ (some 32) rfl rfl Tryd.func5 (by kernel_rfl) rfl #[.string t407] rfl (by (try simp only [List.map_toArray, List.map_cons, List.map_nil]); first | done | rfl | (simp only [List.length_drop, List.length_take]; rfl)) ?_; (with_reducible refine (spec_ReadQuery.calls k t407 t412 t413 _ A9.out).mono ?_); rintro e w58 ⟨v414, rfl, ho0, hb⟩; refine ⟨_, rfl, ?_⟩; have HO415 := Aside0.mk (Kd.R_lower (Kd.R_new' (Kd.R_new' (Kd.R_new' ho0 (Kd.R_lt (laR HO401.out))) (Kd.R_lt (laR HO406.out))) (Kd.R_lt (laR HO411.out))) (below_size (laB HB.out))); replace HO401 := Aside0.mk (Kd.R_elder' (laR HO401.out) (Kd.R_base ho0) hb); replace HO406 := Aside0.mk (Kd.R_elder' (laR HO406.out) (Kd.R_base ho0) hb); replace HO411 := Aside0.mk (Kd.R_elder' (laR HO411.out) (Kd.R_base ho0) hb); replace HB := Aside0.mk (below_step (laB HB.out) hb); (try clear hb); (try clear hb2); (try clear hk); (try clear hi); (try clear ho0)) | ((with_reducible refine gate_callee (f := 14) rfl ?_); refine goesL_ (some 37) rfl rfl Tryd.func14 (by kernel_rfl) rfl #[.slice A0 l0.length c0] rfl (by (try simp only [List.map_toArray, List.map_cons, List.map_nil]); first | done | rfl | (simp only [List.length_drop, List.length_take]; rfl)) ?_; (with_reducible refine (spec_DrawSameQuery.calls k _ _ l0 t416 t417 _ ?side1 ?side2 A10.out).mono ?_); (case side1 => exact laC (Kd.C_below HR0.out HB.out)); (case side2 => exact HC0.out); rintro e w59 ⟨v418, v420, rfl, ho0, ho1, hb⟩; refine ⟨_, rfl, ?_⟩; have HO419 := Aside0.mk (Kd.R_lower (Kd.R_new' (Kd.R_new' (Kd.R_new' (Kd.R_new' ho0 (Kd.R_lt (laR HO401.out))) (Kd.R_lt (laR HO406.out))) (Kd.R_lt (laR HO411.out))) (Kd.R_lt (laR HO415.out))) (below_size (laB HB.out))); have HO421 := Aside0.mk (Kd.R_lower (Kd.R_new' (Kd.R_new' (Kd.R_new' (Kd.R_new' ho1 (Kd.R_lt (laR HO401.out))) (Kd.R_lt (laR HO406.out))) (Kd.R_lt (laR HO411.out))) (Kd.R_lt (laR HO415.out))) (below_size (laB HB.out))); replace HO401 := Aside0.mk (Kd.R_mono (Kd.R_told (Kd.R_told (Kd.R_old (laR HO401.out) hb) (Kd.R_base ho0)) (Kd.R_base ho1)) (fun _ h_ => h_.1)); replace HO406 := Aside0.mk (Kd.R_mono (Kd.R_told (Kd.R_told (Kd.R_old (laR HO406.out) hb) (Kd.R_base ho0)) (Kd.R_base ho1)) (fun _ h_ => h_.1)); replace HO411 := Aside0.mk (Kd.R_mono (Kd.R_told (Kd.R_told (Kd.R_old (laR HO411.out) hb) (Kd.R_base ho0)) (Kd.R_base ho1)) (fun _ h_ => h_.1)); replace HO415 := Aside0.mk (Kd.R_mono (Kd.R_told (Kd.R_told (Kd.R_old (laR HO415.out) hb) (Kd.R_base ho0)) (Kd.R_base ho1)) (fun _ h_ => h_.1)); replace HB := Aside0.mk (below_step (laB HB.out) hb); (try clear hb); (try clear hb2); (try clear hk); (try clear hi); (try clear ho0); (try clear ho1)) | ((with_reducible refine gate_callee (f := 15) rfl ?_); refine goesL_ (some 42) rfl rfl Tryd.func15 (by kernel_rfl) rfl #[.slice Ao53 t399.length co53] rfl (by (try simp only [List.map_toArray, List.map_cons, List.map_nil]); first | done | rfl | (simp only [List.length_drop, List.length_take]; rfl)) ?_; (with_reducible refine (spec_QueryOk.calls k _ _ t399 t422 _ ?side1 ?side2 A11.out).mono ?_); (case side1 => exact laC (Kd.R_reads' HO401.out).2.2); (case side2 => exact (Kd.R_reads' HO401.out).2.1); rintro e w' ⟨rfl, ⟨nd, rfl⟩⟩; refine ⟨_, rfl, ?_⟩) | (go_at_call 16; (with_reducible refine (impl_QueryOk.calls k _ _ t399 t423 _ ?side1 ?side2 A13.out).mono ?_); (case side1 => exact laC (Kd.R_reads' HO401.out).2.2); (case side2 => exact (Kd.R_reads' HO401.out).2.1); rintro e w60 ⟨rfl, hb⟩; replace HO401 := Aside0.mk (laRb HO401.out hb); replace HO406 := Aside0.mk (laRb HO406.out hb); replace HO411 := Aside0.mk (laRb HO411.out hb); replace HO415 := Aside0.mk (laRb HO415.out hb); replace HO419 := Aside0.mk (laRb HO419.out hb); replace HO421 := Aside0.mk (laRb HO421.out hb); replace HB := Aside0.mk (below_step (laB HB.out) hb); (try clear hb); (try clear hb2); (try clear hk); (try clear hi); obtain ⟨Ao61, co61, eo61⟩ := Kd.R_slice HO406.out; subst eo61) | (go_at_call 17; (with_reducible refine (spec_SameQuery.calls k _ _ t403 _ _ t399 true _ ?side1 ?side2 ?side3 ?side4 A16.out).mono ?_); (case side1 => exact laC (Kd.R_reads' HO406.out).2.2); (case side2 => exact (Kd.R_reads' HO406.out).2.1); (case side3 => exact laC (Kd.R_reads' HO401.out).2.2); (case side4 => exact (Kd.R_reads' HO401.out).2.1); rintro e w' ⟨rfl, ⟨nd, rfl⟩⟩; obtain ⟨Ao62, co62, eo62⟩ := Kd.R_slice HO419.out; subst eo62; obtain ⟨Ao63, co63, eo63⟩ := Kd.R_slice HO421.out; subst eo63) | (go_at_call 18; (with_reducible refine (impl_SameQuery.calls k _ _ t416 _ _ t417 t428 _ ?side1 ?side2 ?side3 ?side4 A50.out).mono ?_); (case side1 => exact laC (Kd.R_reads' HO419.out).2.2); (case side2 => exact (Kd.R_reads' HO419.out).2.1); (case side3 => exact laC (Kd.R_reads' HO421.out).2.2); (case side4 => exact (Kd.R_reads' HO421.out).2.1); rintro e w' ⟨rfl, ⟨nd, rfl⟩⟩) | (go_at_call 17; (with_reducible refine (spec_SameQuery.calls k _ _ t416 _ _ t417 t429 _ ?side1 ?side2 ?side3 ?side4 A51.out).mono ?_); (case side1 => exact laC (Kd.R_reads' HO419.out).2.2); (case side2 => exact (Kd.R_reads' HO419.out).2.1); (case side3 => exact laC (Kd.R_reads' HO421.out).2.2); (case side4 => exact (Kd.R_reads' HO421.out).2.1); rintro e w' ⟨rfl, ⟨nd, rfl⟩⟩))
        go_ret
        exact ⟨by first | rfl | (simp [errW_none, errW_some] <;> rfl) | (simp [*, errW_none, errW_some] <;> rfl), laB HB.out⟩
      ·rw [if_neg c18] at H
       have c18b0 : (t409 == t413) = false := by simpa using c18
       (try (have c18b1 : decide (t409 = t413) = false := by simpa using c18))
       (try (have c18b2 : (t409 == t413) = false := by simpa using c18))
       (try (have c18b3 : ¬ (t409 = t413) := by simpa using c18))
       clear c18
       exact absurd ((Option.some.inj H).trans HRT_.out) (by decide)
     ·replace c17 := Bool.eq_false_iff.mpr c17
      subst c17
      rw [if_neg (show ¬ (false = true) by decide)] at H
      exact absurd ((Option.some.inj H).trans HRT_.out) (by decide)
    ·replace c15 := Bool.eq_false_iff.mpr c15
     subst c15
     rw [if_neg (show ¬ (false = true) by decide)] at H
     by_cases c84 : (t409 == t413) = true
     ·rw [if_pos c84] at H
      have c84b0 : (t409 == t413) = true := c84
      (try (have c84b1 : decide (t409 = t413) = true := by simpa using c84))
      (try (have c84b2 : (t409 == t413) = true := by simpa using c84))
      clear c84
      by_cases c85 : t409 = true
      ·subst c85
       rw [if_pos rfl] at H
       replace H := Option.bind_eq_some_iff.mp H
       obtain ⟨t430, A860, H⟩ := H
       have A86 := Aside0.mk A860
       clear A860
       by_cases c87 : t430.toList = t407.toList
       ·rw [if_pos c87] at H
        have c87b0 : (t430.toList == t407.toList) = true := beq_iff_eq.mpr c87
        have c87b1 : (t430.toList != t407.toList) = false := bne_eq_false_iff_eq.mpr c87
        clear c87
        replace H := Option.bind_eq_some_iff.mp H
        obtain ⟨t431, A880, H⟩ := H
        have A88 := Aside0.mk A880
        clear A880
        replace H := Option.bind_eq_some_iff.mp H
        obtain ⟨t432, A890, H⟩ := H
        have A89 := Aside0.mk A890
        clear A890
        obtain rfl := Option.some.inj H
        go_enter Tryd.func4, Tryd.ntmps4
        go_wp2_with (first | ((with_reducible refine gate_callee (f := 10) rfl ?_); refine goesL_ (some 14) rfl rfl Tryd.func10 (by kernel_rfl) rfl #[.slice A0 l0.length c0] rfl (by (try simp only [List.map_toArray, List.map_cons, List.map_nil]); first | done | rfl | (simp only [List.length_drop, List.length_take]; rfl)) ?_; (with_reducible refine (laws_big.calls _ _ l0 false _ ?side1 ?side2 A2.out).mono ?_); (case side1 => repeat (first | exact HR0.out | (with_reducible refine Kd.C_alloc ?_ _) | (with_reducible refine Kd.C_drewN ?_ _) | (with_reducible refine Kd.C_drew ?_))); (case side2 => exact HC0.out); rintro e w' ⟨rfl, ⟨nd, rfl⟩⟩; refine ⟨_, rfl, ?_⟩) | ((with_reducible refine gate_callee (f := 11) rfl ?_); refine goesL_ (some 16) rfl rfl Tryd.func11 (by kernel_rfl) rfl #[.slice A0 l0.length c0] rfl (by (try simp only [List.map_toArray, List.map_cons, List.map_nil]); first | done | rfl | (simp only [List.length_drop, List.length_take]; rfl)) ?_; (with_reducible refine (spec_DrawQueryText.calls k _ _ l0 t399 _ ?side1 ?side2 A4.out).mono ?_); (case side1 => repeat (first | exact HR0.out | (with_reducible refine Kd.C_alloc ?_ _) | (with_reducible refine Kd.C_drewN ?_ _) | (with_reducible refine Kd.C_drew ?_))); (case side2 => exact HC0.out); rintro e w90 ⟨v400, rfl, ho0, hb⟩; refine ⟨_, rfl, ?_⟩; have HO401 := Aside0.mk (Kd.R_lower ho0 (below_size (laB HB.out))); replace HB := Aside0.mk (below_step (laB HB.out) hb); (try clear hb); (try clear hb2); (try clear hk); (try clear hi); (try clear ho0); obtain ⟨Ao91, co91, eo91⟩ := Kd.R_slice HO401.out; subst eo91) | ((with_reducible refine gate_callee (f := 12) rfl ?_); refine goesL_ (some 19) rfl rfl Tryd.func12 (by kernel_rfl) rfl #[.slice Ao91 t399.length co91] rfl (by (try simp only [List.map_toArray, List.map_cons, List.map_nil]); first | done | rfl | (simp only [List.length_drop, List.length_take]; rfl)) ?_; (with_reducible refine (impl_QueryText.calls k _ _ t399 t402 _ ?side1 ?side2 A5.out).mono ?_); (case side1 => exact laC (Kd.R_reads' HO401.out).2.2); (case side2 => exact (Kd.R_reads' HO401.out).2.1); rintro e w92 ⟨rfl, hb⟩; refine ⟨_, rfl, ?_⟩; replace HO401 := Aside0.mk (laRb HO401.out hb); replace HB := Aside0.mk (below_step (laB HB.out) hb); (try clear hb); (try clear hb2); (try clear hk); (try clear hi)) | ((with_reducible refine gate_callee (f := 6) rfl ?_); refine goesL_ (some 20) rfl rfl Tryd.func6 (by kernel_rfl) rfl #[.string t402] rfl (by (try simp only [List.map_toArray, List.map_cons, List.map_nil]); first | done | rfl | (simp only [List.length_drop, List.length_take]; rfl)) ?_; (with_reducible refine (impl_ReadQuery.calls k t402 t403 false _ A6.out (hand_G_below HG.out (laB HB.out))).mono ?_); rintro e w93 ⟨v405, rfl, ho0, hb⟩; refine ⟨_, rfl, ?_⟩; have HO406 := Aside0.mk (Kd.R_lower (Kd.R_new' ho0 (Kd.R_lt (laR HO401.out))) (below_size (laB HB.out))); replace HO401 := Aside0.mk (Kd.R_elder' (laR HO401.out) (Kd.R_base ho0) hb); replace HB := Aside0.mk (below_step (laB HB.out) hb); (try clear hb); (try clear hb2); (try clear hk); (try clear hi); (try clear ho0)) | ((with_reducible refine gate_callee (f := 13) rfl ?_); refine goesL_ (some 24) rfl rfl Tryd.func13 (by kernel_rfl) rfl #[.slice A0 l0.length c0] rfl (by (try simp only [List.map_toArray, List.map_cons, List.map_nil]); first | done | rfl | (simp only [List.length_drop, List.length_take]; rfl)) ?_; (with_reducible refine (spec_DrawReadQuery.calls k _ _ l0 t407 _ ?side1 ?side2 A7.out).mono ?_); (case side1 => exact laC (Kd.C_below HR0.out HB.out)); (case side2 => exact HC0.out); rintro e w94 ⟨rfl, hb⟩; refine ⟨_, rfl, ?_⟩; replace HO401 := Aside0.mk (laRb HO401.out hb); replace HO406 := Aside0.mk (laRb HO406.out hb); replace HB := Aside0.mk (below_step (laB HB.out) hb); (try clear hb); (try clear hb2); (try clear hk); (try clear hi)) | ((with_reducible refine gate_callee (f := 6) rfl ?_); refine goesL_ (some 27) rfl rfl Tryd.func6 (by kernel_rfl) rfl #[.string t407] rfl (by (try simp only [List.map_toArray, List.map_cons, List.map_nil]); first | done | rfl | (simp only [List.length_drop, List.length_take]; rfl)) ?_; (with_reducible refine (impl_ReadQuery.calls k t407 t408 true _ A8.out (hand_G_below HG.out (laB HB.out))).mono ?_); rintro e w95 ⟨v410, rfl, ho0, hb⟩; refine ⟨_, rfl, ?_⟩; have HO411 := Aside0.mk (Kd.R_lower (Kd.R_new' (Kd.R_new' ho0 (Kd.R_lt (laR HO401.out))) (Kd.R_lt (laR HO406.out))) (below_size (laB HB.out))); replace HO401 := Aside0.mk (Kd.R_elder' (laR HO401.out) (Kd.R_base ho0) hb); replace HO406 := Aside0.mk (Kd.R_elder' (laR HO406.out) (Kd.R_base ho0) hb); replace HB := Aside0.mk (below_step (laB HB.out) hb); (try clear hb); (try clear hb2); (try clear hk); (try clear hi); (try clear ho0)) | ((with_reducible refine gate_callee (f := 5) rfl ?_); refine goesL_ (some 32) rfl rfl Tryd.func5 (by kernel_rfl) rfl #[.string t407] rfl (by (try simp only [List.map_toArray, List.map_cons, List.map_nil]); first | done | rfl | (simp only [List.length_drop, List.length_take]; rfl)) ?_; (with_reducible refine (spec_ReadQuery.calls k t407 t412 t413 _ A9.out).mono ?_); rintro e w96 ⟨v414, rfl, ho0, hb⟩; refine ⟨_, rfl, ?_⟩; have HO415 := Aside0.mk (Kd.R_lower (Kd.R_new' (Kd.R_new' (Kd.R_new' ho0 (Kd.R_lt (laR HO401.out))) (Kd.R_lt (laR HO406.out))) (Kd.R_lt (laR HO411.out))) (below_size (laB HB.out))); replace HO401 := Aside0.mk (Kd.R_elder' (laR HO401.out) (Kd.R_base ho0) hb); replace HO406 := Aside0.mk (Kd.R_elder' (laR HO406.out) (Kd.R_base ho0) hb); replace HO411 := Aside0.mk (Kd.R_elder' (laR HO411.out) (Kd.R_base ho0) hb); replace HB := Aside0.mk (below_step (laB HB.out) hb); (try clear hb); (try clear hb2); (try clear hk); (try clear hi); (try clear ho0)) | ((with_reducible refine gate_callee (f := 14) rfl ?_); refine goesL_ (some 37) rfl rfl Tryd.func14 (by kernel_rfl) rfl #[.slice A0 l0.length c0] rfl (by (try simp only [List.map_toArray, List.map_cons, List.map_nil]); first | done | rfl | (simp only [List.length_drop, List.length_take]; rfl)) ?_; (with_reducible refine (spec_DrawSameQuery.calls k _ _ l0 t416 t417 _ ?side1 ?side2 A10.out).mono ?_); (case side1 => exact laC (Kd.C_below HR0.out HB.out)); (case side2 => exact HC0.out); rintro e w97 ⟨v418, v420, rfl, ho0, ho1, hb⟩; refine ⟨_, rfl, ?_⟩; have HO419 := Aside0.mk (Kd.R_lower (Kd.R_new' (Kd.R_new' (Kd.R_new' (Kd.R_new' ho0 (Kd.R_lt (laR HO401.out))) (Kd.R_lt (laR HO406.out))) (Kd.R_lt (laR HO411.out))) (Kd.R_lt (laR HO415.out))) (below_size (laB HB.out))); have HO421 := Aside0.mk (Kd.R_lower (Kd.R_new' (Kd.R_new' (Kd.R_new' (Kd.R_new' ho1 (Kd.R_lt (laR HO401.out))) (Kd.R_lt (laR HO406.out))) (Kd.R_lt (laR HO411.out))) (Kd.R_lt (laR HO415.out))) (below_size (laB HB.out))); replace HO401 := Aside0.mk (Kd.R_mono (Kd.R_told (Kd.R_told (Kd.R_old (laR HO401.out) hb) (Kd.R_base ho0)) (Kd.R_base ho1)) (fun _ h_ => h_.1)); replace HO406 := Aside0.mk (Kd.R_mono (Kd.R_told (Kd.R_told (Kd.R_old (laR HO406.out) hb) (Kd.R_base ho0)) (Kd.R_base ho1)) (fun _ h_ => h_.1)); replace HO411 := Aside0.mk (Kd.R_mono (Kd.R_told (Kd.R_told (Kd.R_old (laR HO411.out) hb) (Kd.R_base ho0)) (Kd.R_base ho1)) (fun _ h_ => h_.1)); replace HO415 := Aside0.mk (Kd.R_mono (Kd.R_told (Kd.R_told (Kd.R_old (laR HO415.out) hb) (Kd.R_base ho0)) (Kd.R_base ho1)) (fun _ h_ => h_.1)); replace HB := Aside0.mk (below_step (laB HB.out) hb); (try clear hb); (try clear hb2); (try clear hk); (try clear hi); (try clear ho0); (try clear ho1)) | ((with_reducible refine gate_callee (f := 15) rfl ?_); refine goesL_ (some 42) rfl rfl Tryd.func15 (by kernel_rfl) rfl #[.slice Ao91 t399.length co91] rfl (by (try simp only [List.map_toArray, List.map_cons, List.map_nil]); first | done | rfl | (simp only [List.length_drop, List.length_take]; rfl)) ?_; (with_reducible refine (spec_QueryOk.calls k _ _ t399 t422 _ ?side1 ?side2 A11.out).mono ?_); (case side1 => exact laC (Kd.R_reads' HO401.out).2.2); (case side2 => exact (Kd.R_reads' HO401.out).2.1); rintro e w' ⟨rfl, ⟨nd, rfl⟩⟩; refine ⟨_, rfl, ?_⟩) | (go_at_call 16; (with_reducible refine (impl_QueryOk.calls k _ _ t399 t423 _ ?side1 ?side2 A13.out).mono ?_); (case side1 => exact laC (Kd.R_reads' HO401.out).2.2); (case side2 => exact (Kd.R_reads' HO401.out).2.1); rintro e w98 ⟨rfl, hb⟩; replace HO401 := Aside0.mk (laRb HO401.out hb); replace HO406 := Aside0.mk (laRb HO406.out hb); replace HO411 := Aside0.mk (laRb HO411.out hb); replace HO415 := Aside0.mk (laRb HO415.out hb); replace HO419 := Aside0.mk (laRb HO419.out hb); replace HO421 := Aside0.mk (laRb HO421.out hb); replace HB := Aside0.mk (below_step (laB HB.out) hb); (try clear hb); (try clear hb2); (try clear hk); (try clear hi); obtain ⟨Ao99, co99, eo99⟩ := Kd.R_slice HO411.out; subst eo99) | (go_at_call 12; (with_reducible refine (impl_QueryText.calls k _ _ t408 t430 _ ?side1 ?side2 A86.out).mono ?_); (case side1 => exact laC (Kd.R_reads' HO411.out).2.2); (case side2 => exact (Kd.R_reads' HO411.out).2.1); rintro e w100 ⟨rfl, hb⟩; replace HO401 := Aside0.mk (laRb HO401.out hb); replace HO406 := Aside0.mk (laRb HO406.out hb); replace HO411 := Aside0.mk (laRb HO411.out hb); replace HO415 := Aside0.mk (laRb HO415.out hb); replace HO419 := Aside0.mk (laRb HO419.out hb); replace HO421 := Aside0.mk (laRb HO421.out hb); replace HB := Aside0.mk (below_step (laB HB.out) hb); (try clear hb); (try clear hb2); (try clear hk); (try clear hi); obtain ⟨Ao101, co101, eo101⟩ := Kd.R_slice HO419.out; subst eo101; obtain ⟨Ao102, co102, eo102⟩ := Kd.R_slice HO421.out; subst eo102) | (go_at_call 18; (with_reducible refine (impl_SameQuery.calls k _ _ t416 _ _ t417 t431 _ ?side1 ?side2 ?side3 ?side4 A88.out).mono ?_); (case side1 => exact laC (Kd.R_reads' HO419.out).2.2); (case side2 => exact (Kd.R_reads' HO419.out).2.1); (case side3 => exact laC (Kd.R_reads' HO421.out).2.2); (case side4 => exact (Kd.R_reads' HO421.out).2.1); rintro e w' ⟨rfl, ⟨nd, rfl⟩⟩) | (go_at_call 17; (with_reducible refine (spec_SameQuery.calls k _ _ t416 _ _ t417 t432 _ ?side1 ?side2 ?side3 ?side4 A89.out).mono ?_); (case side1 => exact laC (Kd.R_reads' HO419.out).2.2); (case side2 => exact (Kd.R_reads' HO419.out).2.1); (case side3 => exact laC (Kd.R_reads' HO421.out).2.2); (case side4 => exact (Kd.R_reads' HO421.out).2.1); rintro e w' ⟨rfl, ⟨nd, rfl⟩⟩))
        go_ret
        exact ⟨by first | rfl | (simp [errW_none, errW_some] <;> rfl) | (simp [*, errW_none, errW_some] <;> rfl), laB HB.out⟩
       ·rw [if_neg c87] at H
        have c87b0 : (t430.toList == t407.toList) = false := beq_eq_false_iff_ne.mpr c87
        have c87b1 : (t430.toList != t407.toList) = true := bne_iff_ne.mpr c87
        exact absurd ((Option.some.inj H).trans HRT_.out) (by decide)
      ·replace c85 := Bool.eq_false_iff.mpr c85
       subst c85
       rw [if_neg (show ¬ (false = true) by decide)] at H
       replace H := Option.bind_eq_some_iff.mp H
       obtain ⟨t433, A1140, H⟩ := H
       have A114 := Aside0.mk A1140
       clear A1140
       replace H := Option.bind_eq_some_iff.mp H
       obtain ⟨t434, A1150, H⟩ := H
       have A115 := Aside0.mk A1150
       clear A1150
       obtain rfl := Option.some.inj H
       go_enter Tryd.func4, Tryd.ntmps4
       go_wp2_with (first | ((with_reducible refine gate_callee (f := 10) rfl ?_); refine goesL_ (some 14) rfl rfl Tryd.func10 (by kernel_rfl) rfl #[.slice A0 l0.length c0] rfl (by (try simp only [List.map_toArray, List.map_cons, List.map_nil]); first | done | rfl | (simp only [List.length_drop, List.length_take]; rfl)) ?_; (with_reducible refine (laws_big.calls _ _ l0 false _ ?side1 ?side2 A2.out).mono ?_); (case side1 => repeat (first | exact HR0.out | (with_reducible refine Kd.C_alloc ?_ _) | (with_reducible refine Kd.C_drewN ?_ _) | (with_reducible refine Kd.C_drew ?_))); (case side2 => exact HC0.out); rintro e w' ⟨rfl, ⟨nd, rfl⟩⟩; refine ⟨_, rfl, ?_⟩) | ((with_reducible refine gate_callee (f := 11) rfl ?_); refine goesL_ (some 16) rfl rfl Tryd.func11 (by kernel_rfl) rfl #[.slice A0 l0.length c0] rfl (by (try simp only [List.map_toArray, List.map_cons, List.map_nil]); first | done | rfl | (simp only [List.length_drop, List.length_take]; rfl)) ?_; (with_reducible refine (spec_DrawQueryText.calls k _ _ l0 t399 _ ?side1 ?side2 A4.out).mono ?_); (case side1 => repeat (first | exact HR0.out | (with_reducible refine Kd.C_alloc ?_ _) | (with_reducible refine Kd.C_drewN ?_ _) | (with_reducible refine Kd.C_drew ?_))); (case side2 => exact HC0.out); rintro e w116 ⟨v400, rfl, ho0, hb⟩; refine ⟨_, rfl, ?_⟩; have HO401 := Aside0.mk (Kd.R_lower ho0 (below_size (laB HB.out))); replace HB := Aside0.mk (below_step (laB HB.out) hb); (try clear hb); (try clear hb2); (try clear hk); (try clear hi); (try clear ho0); obtain ⟨Ao117, co117, eo117⟩ := Kd.R_slice HO401.out; subst eo117) | ((with_reducible refine gate_callee (f := 12) rfl ?_); refine goesL_ (some 19) rfl rfl Tryd.func12 (by kernel_rfl) rfl #[.slice Ao117 t399.length co117] rfl (by (try simp only [List.map_toArray, List.map_cons, List.map_nil]); first | done | rfl | (simp only [List.length_drop, List.length_take]; rfl)) ?_; (with_reducible refine (impl_QueryText.calls k _ _ t399 t402 _ ?side1 ?side2 A5.out).mono ?_); (case side1 => exact laC (Kd.R_reads' HO401.out).2.2); (case side2 => exact (Kd.R_reads' HO401.out).2.1); rintro e w118 ⟨rfl, hb⟩; refine ⟨_, rfl, ?_⟩; replace HO401 := Aside0.mk (laRb HO401.out hb); replace HB := Aside0.mk (below_step (laB HB.out) hb); (try clear hb); (try clear hb2); (try clear hk); (try clear hi)) | ((with_reducible refine gate_callee (f := 6) rfl ?_); refine goesL_ (some 20) rfl rfl Tryd.func6 (by kernel_rfl) rfl #[.string t402] rfl (by (try simp only [List.map_toArray, List.map_cons, List.map_nil]); first | done | rfl | (simp only [List.length_drop, List.length_take]; rfl)) ?_; (with_reducible refine (impl_ReadQuery.calls k t402 t403 false _ A6.out (hand_G_below HG.out (laB HB.out))).mono ?_); rintro e w119 ⟨v405, rfl, ho0, hb⟩; refine ⟨_, rfl, ?_⟩; have HO406 := Aside0.mk (Kd.R_lower (Kd.R_new' ho0 (Kd.R_lt (laR HO401.out))) (below_size (laB HB.out))); replace HO401 := Aside0.mk (Kd.R_elder' (laR HO401.out) (Kd.R_base ho0) hb); replace HB := Aside0.mk (below_step (laB HB.out) hb); (try clear hb); (try clear hb2); (try clear hk); (try clear hi); (try clear ho0)) | ((with_reducible refine gate_callee (f := 13) rfl ?_); refine goesL_ (some 24) rfl rfl Tryd.func13 (by kernel_rfl) rfl #[.slice A0 l0.length c0] rfl (by (try simp only [List.map_toArray, List.map_cons, List.map_nil]); first | done | rfl | (simp only [List.length_drop, List.length_take]; rfl)) ?_; (with_reducible refine (spec_DrawReadQuery.calls k _ _ l0 t407 _ ?side1 ?side2 A7.out).mono ?_); (case side1 => exact laC (Kd.C_below HR0.out HB.out)); (case side2 => exact HC0.out); rintro e w120 ⟨rfl, hb⟩; refine ⟨_, rfl, ?_⟩; replace HO401 := Aside0.mk (laRb HO401.out hb); replace HO406 := Aside0.mk (laRb HO406.out hb); replace HB := Aside0.mk (below_step (laB HB.out) hb); (try clear hb); (try clear hb2); (try clear hk); (try clear hi)) | ((with_reducible refine gate_callee (f := 6) rfl ?_); refine goesL_ (some 27) rfl rfl Tryd.func6 (by kernel_rfl) rfl #[.string t407] rfl (by (try simp only [List.map_toArray, List.map_cons, List.map_nil]); first | done | rfl | (simp only [List.length_drop, List.length_take]; rfl)) ?_; (with_reducible refine (impl_ReadQuery.calls k t407 t408 false _ A8.out (hand_G_below HG.out (laB HB.out))).mono ?_); rintro e w121 ⟨v410, rfl, ho0, hb⟩; refine ⟨_, rfl, ?_⟩; have HO411 := Aside0.mk (Kd.R_lower (Kd.R_new' (Kd.R_new' ho0 (Kd.R_lt (laR HO401.out))) (Kd.R_lt (laR HO406.out))) (below_size (laB HB.out))); replace HO401 := Aside0.mk (Kd.R_elder' (laR HO401.out) (Kd.R_base ho0) hb); replace HO406 := Aside0.mk (Kd.R_elder' (laR HO406.out) (Kd.R_base ho0) hb); replace HB := Aside0.mk (below_step (laB HB.out) hb); (try clear hb); (try clear hb2); (try clear hk); (try clear hi); (try clear ho0)) | ((with_reducible refine gate_callee (f := 5) rfl ?_); refine goesL_ (some 32) rfl rfl Tryd.func5 (by kernel_rfl) rfl #[.string t407] rfl (by (try simp only [List.map_toArray, List.map_cons, List.map_nil]); first | done | rfl | (simp only [List.length_drop, List.length_take]; rfl)) ?_; (with_reducible refine (spec_ReadQuery.calls k t407 t412 t413 _ A9.out).mono ?_); rintro e w122 ⟨v414, rfl, ho0, hb⟩; refine ⟨_, rfl, ?_⟩; have HO415 := Aside0.mk (Kd.R_lower (Kd.R_new' (Kd.R_new' (Kd.R_new' ho0 (Kd.R_lt (laR HO401.out))) (Kd.R_lt (laR HO406.out))) (Kd.R_lt (laR HO411.out))) (below_size (laB HB.out))); replace HO401 := Aside0.mk (Kd.R_elder' (laR HO401.out) (Kd.R_base ho0) hb); replace HO406 := Aside0.mk (Kd.R_elder' (laR HO406.out) (Kd.R_base ho0) hb); replace HO411 := Aside0.mk (Kd.R_elder' (laR HO411.out) (Kd.R_base ho0) hb); replace HB := Aside0.mk (below_step (laB HB.out) hb); (try clear hb); (try clear hb2); (try clear hk); (try clear hi); (try clear ho0)) | ((with_reducible refine gate_callee (f := 14) rfl ?_); refine goesL_ (some 37) rfl rfl Tryd.func14 (by kernel_rfl) rfl #[.slice A0 l0.length c0] rfl (by (try simp only [List.map_toArray, List.map_cons, List.map_nil]); first | done | rfl | (simp only [List.length_drop, List.length_take]; rfl)) ?_; (with_reducible refine (spec_DrawSameQuery.calls k _ _ l0 t416 t417 _ ?side1 ?side2 A10.out).mono ?_); (case side1 => exact laC (Kd.C_below HR0.out HB.out)); (case side2 => exact HC0.out); rintro e w123 ⟨v418, v420, rfl, ho0, ho1, hb⟩; refine ⟨_, rfl, ?_⟩; have HO419 := Aside0.mk (Kd.R_lower (Kd.R_new' (Kd.R_new' (Kd.R_new' (Kd.R_new' ho0 (Kd.R_lt (laR HO401.out))) (Kd.R_lt (laR HO406.out))) (Kd.R_lt (laR HO411.out))) (Kd.R_lt (laR HO415.out))) (below_size (laB HB.out))); have HO421 := Aside0.mk (Kd.R_lower (Kd.R_new' (Kd.R_new' (Kd.R_new' (Kd.R_new' ho1 (Kd.R_lt (laR HO401.out))) (Kd.R_lt (laR HO406.out))) (Kd.R_lt (laR HO411.out))) (Kd.R_lt (laR HO415.out))) (below_size (laB HB.out))); replace HO401 := Aside0.mk (Kd.R_mono (Kd.R_told (Kd.R_told (Kd.R_old (laR HO401.out) hb) (Kd.R_base ho0)) (Kd.R_base ho1)) (fun _ h_ => h_.1)); replace HO406 := Aside0.mk (Kd.R_mono (Kd.R_told (Kd.R_told (Kd.R_old (laR HO406.out) hb) (Kd.R_base ho0)) (Kd.R_base ho1)) (fun _ h_ => h_.1)); replace HO411 := Aside0.mk (Kd.R_mono (Kd.R_told (Kd.R_told (Kd.R_old (laR HO411.out) hb) (Kd.R_base ho0)) (Kd.R_base ho1)) (fun _ h_ => h_.1)); replace HO415 := Aside0.mk (Kd.R_mono (Kd.R_told (Kd.R_told (Kd.R_old (laR HO415.out) hb) (Kd.R_base ho0)) (Kd.R_base ho1)) (fun _ h_ => h_.1)); replace HB := Aside0.mk (below_step (laB HB.out) hb); (try clear hb); (try clear hb2); (try clear hk); (try clear hi); (try clear ho0); (try clear ho1)) | ((with_reducible refine gate_callee (f := 15) rfl ?_); refine goesL_ (some 42) rfl rfl Tryd.func15 (by kernel_rfl) rfl #[.slice Ao117 t399.length co117] rfl (by (try simp only [List.map_toArray, List.map_cons, List.map_nil]); first | done | rfl | (simp only [List.length_drop, List.length_take]; rfl)) ?_; (with_reducible refine (spec_QueryOk.calls k _ _ t399 t422 _ ?side1 ?side2 A11.out).mono ?_); (case side1 => exact laC (Kd.R_reads' HO401.out).2.2); (case side2 => exact (Kd.R_reads' HO401.out).2.1); rintro e w' ⟨rfl, ⟨nd, rfl⟩⟩; refine ⟨_, rfl, ?_⟩) | (go_at_call 16; (with_reducible refine (impl_QueryOk.calls k _ _ t399 t423 _ ?side1 ?side2 A13.out).mono ?_); (case side1 => exact laC (Kd.R_reads' HO401.out).2.2); (case side2 => exact (Kd.R_reads' HO401.out).2.1); rintro e w124 ⟨rfl, hb⟩; replace HO401 := Aside0.mk (laRb HO401.out hb); replace HO406 := Aside0.mk (laRb HO406.out hb); replace HO411 := Aside0.mk (laRb HO411.out hb); replace HO415 := Aside0.mk (laRb HO415.out hb); replace HO419 := Aside0.mk (laRb HO419.out hb); replace HO421 := Aside0.mk (laRb HO421.out hb); replace HB := Aside0.mk (below_step (laB HB.out) hb); (try clear hb); (try clear hb2); (try clear hk); (try clear hi); obtain ⟨Ao125, co125, eo125⟩ := Kd.R_slice HO419.out; subst eo125; obtain ⟨Ao126, co126, eo126⟩ := Kd.R_slice HO421.out; subst eo126) | (go_at_call 18; (with_reducible refine (impl_SameQuery.calls k _ _ t416 _ _ t417 t433 _ ?side1 ?side2 ?side3 ?side4 A114.out).mono ?_); (case side1 => exact laC (Kd.R_reads' HO419.out).2.2); (case side2 => exact (Kd.R_reads' HO419.out).2.1); (case side3 => exact laC (Kd.R_reads' HO421.out).2.2); (case side4 => exact (Kd.R_reads' HO421.out).2.1); rintro e w' ⟨rfl, ⟨nd, rfl⟩⟩) | (go_at_call 17; (with_reducible refine (spec_SameQuery.calls k _ _ t416 _ _ t417 t434 _ ?side1 ?side2 ?side3 ?side4 A115.out).mono ?_); (case side1 => exact laC (Kd.R_reads' HO419.out).2.2); (case side2 => exact (Kd.R_reads' HO419.out).2.1); (case side3 => exact laC (Kd.R_reads' HO421.out).2.2); (case side4 => exact (Kd.R_reads' HO421.out).2.1); rintro e w' ⟨rfl, ⟨nd, rfl⟩⟩))
       go_ret
       exact ⟨by first | rfl | (simp [errW_none, errW_some] <;> rfl) | (simp [*, errW_none, errW_some] <;> rfl), laB HB.out⟩
     ·rw [if_neg c84] at H
      have c84b0 : (t409 == t413) = false := by simpa using c84
      (try (have c84b1 : decide (t409 = t413) = false := by simpa using c84))
      (try (have c84b2 : (t409 == t413) = false := by simpa using c84))
      (try (have c84b3 : ¬ (t409 = t413) := by simpa using c84))
      clear c84
      exact absurd ((Option.some.inj H).trans HRT_.out) (by decide)
   ·rw [if_neg c14] at H
    have c14b0 : (t404 == t423) = false := by simpa using c14
    (try (have c14b1 : decide (t404 = t423) = false := by simpa using c14))
    (try (have c14b2 : (t404 == t423) = false := by simpa using c14))
    (try (have c14b3 : ¬ (t404 = t423) := by simpa using c14))
    clear c14
    exact absurd ((Option.some.inj H).trans HRT_.out) (by decide)
  ·rw [if_neg c12] at H
   have c12b0 : (t404 == t422) = false := by simpa using c12
   (try (have c12b1 : decide (t404 = t422) = false := by simpa using c12))
   (try (have c12b2 : (t404 == t422) = false := by simpa using c12))
   (try (have c12b3 : ¬ (t404 = t422) := by simpa using c12))
   clear c12
   exact absurd ((Option.some.inj H).trans HRT_.out) (by decide)

end Go.Proofs.YtfdaifgfnpjoaaaDoor.P
