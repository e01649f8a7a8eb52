/- FnMerged: WJ WK WO L0 LC L7 L36 L119 L79 L83 L84 L78 L81 L80 L37 L82 L90 L89 L41 L85 L38 L8 L120 L121 L122 L86. -/
import Derived.Test.YthccagmifnipdaaBFnMerged1
import Derived.Deep.Slices
import Derived.ChangeArms
import Derived.WideShapes
import Derived.Below
import Derived.Test.YthccagmifnipdaaProg
import Derived.KernelRfl
section YthccagmifnipdaaWJ
namespace Go.Proofs.Ythccagmifnipdaa.V
open Go Go.RowKit
set_option linter.unusedVariables false
set_option linter.unusedSimpArgs false

section
variable {call : CallF} {n : Nat} {tm : Tm} {rs : Rs}
/-- An array at a path of at most one step: may it not be written, and its content. -/
def lkA (q : Path) (pv : Nat) (R : Option Root) : Option (Nat × Bool × Els) := R.bind fun R => R.arr q pv
theorem look_lkA {r : Nat} {q : Path} {pv : Nat} : look rs r q pv = (rs r).bind fun R => (lkA q pv (rs r)).map fun x => (R, x) := by
  simp only [look, lkA]; cases rs r <;> rfl
theorem lkA_0 {pv sz pv' : Nat} {own : Bool} {xs : Els} : lkA [] pv (some ⟨own, sz, pv', xs⟩) = some (sz, !own, xs) := (rfl)
def lkC (ro : Bool) (v : Option AV) : Option (Nat × Bool × Els) := match v with
  | some (.deep _ bo sz ys) => some (sz, ro || bo, ys)
  | _ => none
theorem lkA_1 {pv sz i c : Nat} {own : Bool} {xs : Els} : lkA [(i, c)] pv (some ⟨own, sz, pv, xs⟩) = lkC (!own) (cellAt xs i c) := by
  simp only [lkA, Option.bind_some, Root.arr, ↓reduceIte, arrAt, lkC]
  cases cellAt xs i c with
  | none => rfl
  | some v => cases v <;> rfl
theorem lkC_d {ro p b : Bool} {sz : Nat} {ys : Els} : lkC ro (some (.deep p b sz ys)) = some (sz, ro || b, ys) := (rfl)

/-! ### Handed over -/
theorem i_call {f : Nat} {ms : List Bool} {args : List X} : evI call n tm rs (.call f ms args) = aCall call n rs f ms (args.map (·.ev tm)) := (rfl)
theorem i_callv {g : X} {ms : List Bool} {args : List X} {f : Nat} {caps : List AV} (h : g.ev tm = .fn f caps) : evI call n tm rs (.callv g ms args) = aCall call n rs f ms (args.map (·.ev tm) ++ caps) := by simp only [evI, h]
def dv1 (a : Option (AV × List Use)) (b : Option (List AV × List Use)) : Option (List AV × List Use) := a.bind fun a => b.map fun b => (a.1 :: b.1, a.2 ++ b.2)
theorem dvs_nil {ms : List Bool} : deepVs rs ms [] = some ([], []) := by cases ms <;> rfl
theorem dvs_cons {m : Bool} {ms : List Bool} {v : AV} {vs : List AV} : deepVs rs (m :: ms) (v :: vs) = dv1 (deepV rs m v) (deepVs rs ms vs) := (rfl)
theorem dvs_cons' {v : AV} {vs : List AV} : deepVs rs [] (v :: vs) = dv1 (deepV rs false v) (deepVs rs [] vs) := (rfl)
theorem dv1_c {v : AV} {a b : List Use} {vs : List AV} : dv1 (some (v, a)) (some (vs, b)) = some (v :: vs, a ++ b) := (rfl)
def dvA (f : Option Nat) (a : Option (List AV × List Use)) : Option (AV × List Use) := a.map fun a => (match f with | none => .agg a.1 | some f => .fn f a.1, a.2)
theorem dv_a {o : Bool} {cs : List AV} : deepV rs o (.agg cs) = dvA none (deepCs rs o cs) := (rfl)
theorem dv_f {o : Bool} {f : Nat} {cs : List AV} : deepV rs o (.fn f cs) = dvA (some f) (deepCs rs o cs) := (rfl)
theorem dvA_a {cs : List AV} {u : List Use} : dvA none (some (cs, u)) = some (.agg cs, u) := (rfl)
theorem dvA_f {f : Nat} {cs : List AV} {u : List Use} : dvA (some f) (some (cs, u)) = some (.fn f cs, u) := (rfl)
theorem dv_b {o x : Bool} : deepV rs o (.b x) = some (.b x, []) := (rfl)
theorem dv_i {o : Bool} {k : IntKind} {x : Int} : deepV rs o (.i k x) = some (.i k x, []) := (rfl)
theorem dv_s {o : Bool} {x : ByteArray} : deepV rs o (.s x) = some (.s x, []) := (rfl)
theorem dv_n {o : Bool} {sz : Nat} : deepV rs o (.nl sz) = some (.deep false (!o) sz [], [⟨o, true, none⟩]) := (rfl)
theorem dv_c {o : Bool} {r : Nat} {q : Path} {pv sz off len : Nat} : deepV rs o (.slc r q pv sz off len) = deepC rs o (.slc r q pv sz off len) := (rfl)
theorem dv_p {o : Bool} {r : Nat} {q : Path} {pv i c : Nat} : deepV rs o (.ptr r q pv i c) = deepC rs o (.ptr r q pv i c) := (rfl)
theorem dcs_nil {o : Bool} : deepCs rs o [] = some ([], []) := (rfl)
theorem dcs_cons {o : Bool} {v : AV} {vs : List AV} : deepCs rs o (v :: vs) = dv1 (deepC rs o v) (deepCs rs o vs) := (rfl)
theorem dc_b {o x : Bool} : deepC rs o (.b x) = some (.b x, []) := (rfl)
theorem dc_i {o : Bool} {k : IntKind} {x : Int} : deepC rs o (.i k x) = some (.i k x, []) := (rfl)
theorem dc_s {o : Bool} {x : ByteArray} : deepC rs o (.s x) = some (.s x, []) := (rfl)
theorem dc_n {o : Bool} {sz : Nat} : deepC rs o (.nl sz) = some (.deep false (!o) sz [], [⟨o, true, none⟩]) := (rfl)
def dcR (r : Nat) (q : Path) (sz off len : Nat) (a : Option (Nat × Bool × Els)) : Option (AV × List Use) := a.map fun a => (.deep false true sz (wnd a.2.2 off len), [⟨false, a.2.1, some (r, q)⟩])
theorem dc_r {r : Nat} {q : Path} {pv sz off len : Nat} : deepC rs false (.slc r q pv sz off len) = dcR r q sz off len (lkA q pv (rs r)) := by
  simp only [deepC, look_lkA, dcR]
  cases rs r with
  | none => rfl
  | some R => cases lkA q pv (some R) <;> rfl
theorem dcR_c {r : Nat} {q : Path} {sz off len s : Nat} {ro : Bool} {xs : Els} : dcR r q sz off len (some (s, ro, xs)) = some (.deep false true sz (wnd xs off len), [⟨false, ro, some (r, q)⟩]) := (rfl)
def dcO (r sz len : Nat) (R : Option Root) : Option (AV × List Use) := match R with
  | some R => if R.own = true ∧ len = R.xs.length then some (.deep false false sz R.xs, [⟨true, false, some (r, [])⟩]) else none
  | none => none
theorem dc_o {r pv sz len : Nat} : deepC rs true (.slc r [] pv sz 0 len) = dcO r sz len (rs r) := by
  simp only [deepC, look_lkA, dcO]
  cases rs r with
  | none => rfl
  | some R =>
    obtain ⟨o, s, p, x⟩ := R
    cases o <;> simp [lkA, Root.arr]
theorem dcO_c {r sz s pv : Nat} {α : Type} {e : α → List AV} {l : List α} : dcO r sz l.length (some ⟨true, s, pv, l.map e⟩) = some (.deep false false sz (l.map e), [⟨true, false, some (r, [])⟩]) := by simp [dcO]
theorem dcO_0 {r sz s pv : Nat} : dcO r sz 0 (some ⟨true, s, pv, []⟩) = some (.deep false false sz [], [⟨true, false, some (r, [])⟩]) := by simp [dcO]
def dcP (o : Bool) (r : Nat) (R : Option Root) : Option (AV × List Use) := match R with
  | some R => if R.xs.length = 1 then (if o then (if R.own = true then some (.deep true false R.sz R.xs, [⟨true, false, some (r, [])⟩]) else none) else some (.deep true true R.sz R.xs, [⟨false, !R.own, some (r, [])⟩])) else none
  | none => none
theorem dc_p {o : Bool} {r pv : Nat} : deepC rs o (.ptr r [] pv 0 0) = dcP o r (rs r) := by
  simp only [deepC, look_lkA, dcP]
  cases rs r with
  | none => rfl
  | some R =>
    obtain ⟨w, s, p, x⟩ := R
    cases w <;> cases o <;> simp [lkA, Root.arr]
theorem dcP_o {r sz pv : Nat} {el : List AV} : dcP true r (some ⟨true, sz, pv, [el]⟩) = some (.deep true false sz [el], [⟨true, false, some (r, [])⟩]) := by simp [dcP]
theorem dcP_r {r sz pv : Nat} {own : Bool} {el : List AV} : dcP false r (some ⟨own, sz, pv, [el]⟩) = some (.deep true true sz [el], [⟨false, !own, some (r, [])⟩]) := by simp [dcP]
/-- The rest of a call. -/
def ac1 (call : CallF) (n : Nat) (rs : Rs) (f : Nat) (a : Option (List AV × List Use)) : Option (AV × Rs) := a.bind fun (ds, us) => if okUses us then
      (call f ds).bind fun (res, back) =>
        if ((us.all fun u => u.own || u.ro) || (!res.any hasBor && !back.any borBack)) ∧ (enterVs res n).2.length ≤ 16 ∧ back.length = us.length then
          (putBack rs us back).map fun rs' =>
            let a := enterVs res n
            (tupOf a.1, addRoots rs' n a.2)
        else none
    else none
theorem ac_1 {f : Nat} {ms : List Bool} {vs : List AV} : aCall call n rs f ms vs = ac1 call n rs f (deepVs rs ms vs) := (rfl)
def ac2 (n : Nat) (rs : Rs) (us : List Use) (a : Option Out) : Option (AV × Rs) := a.bind fun (res, back) =>
        if ((us.all fun u => u.own || u.ro) || (!res.any hasBor && !back.any borBack)) ∧ (enterVs res n).2.length ≤ 16 ∧ back.length = us.length then
          (putBack rs us back).map fun rs' =>
            let a := enterVs res n
            (tupOf a.1, addRoots rs' n a.2)
        else none
theorem ac1_c {f : Nat} {ds : List AV} {us : List Use} (h : okUses us = true) : ac1 call n rs f (some (ds, us)) = ac2 n rs us (call f ds) := by
  simp only [ac1, Option.bind_some, h, ↓reduceIte, ac2]
def ac3 (n : Nat) (a : Option Rs) (e : List AV × List Root) : Option (AV × Rs) := a.map fun rs' => (tupOf e.1, addRoots rs' n e.2)
/-- Whether what was handed over may go on being used. -/
def usOk (us : List Use) : Bool := us.all fun u => u.own || u.ro
def bkOk (res : List AV) (back : List (Option Els)) : Bool := !res.any hasBor && !back.any borBack
theorem ac2_c {us : List Use} {res : List AV} {back : List (Option Els)} (h : (usOk us || bkOk res back) = true) (h2 : decide ((enterVs res n).2.length ≤ 16) = true) (h3 : (back.length == us.length) = true) :
    ac2 n rs us (some (res, back)) = ac3 n (putBack rs us back) (enterVs res n) := by
  simp only [ac2, Option.bind_some]
  rw [if_pos ⟨h, by simpa using h2, by simpa using h3⟩]
  rfl
theorem ac3_c {vs : List AV} {l : List Root} : ac3 n (some rs) (vs, l) = some (tupOf vs, addRoots rs n l) := (rfl)
theorem tup_1 {v : AV} : tupOf [v] = v := (rfl)
theorem tup_0 : tupOf [] = .tup [] := (rfl)
theorem tup_2 {a b : AV} {l : List AV} : tupOf (a :: b :: l) = .tup (a :: b :: l) := (rfl)
theorem add_nil : addRoots rs n [] = rs := (rfl)
theorem add_cons {R : Root} {l : List Root} {m : List (Nat × Option Root)} : addRoots (rsL m) n (R :: l) = addRoots (rsL ((n, some R) :: m)) (n + 1) l := (rfl)
theorem pb_nil : putBack rs [] [] = some rs := (rfl)
theorem pb_ro {ro : Bool} {at' : Option (Nat × Path)} {us : List Use} {b : Option Els} {bs : List (Option Els)} : putBack rs (⟨false, ro, at'⟩ :: us) (b :: bs) = putBack rs us bs := (rfl)
theorem pb_at {ro : Bool} {us : List Use} {b : Option Els} {bs : List (Option Els)} : putBack rs (⟨true, ro, none⟩ :: us) (b :: bs) = putBack rs us bs := (rfl)
theorem pb_gone {ro : Bool} {r : Nat} {q : Path} {us : List Use} {bs : List (Option Els)} {m : List (Nat × Option Root)} : putBack (rsL m) (⟨true, ro, some (r, q)⟩ :: us) (none :: bs) = putBack (rsL ((r, none) :: m)) us bs := (rfl)
def pbR (r : Nat) (ys : Els) (us : List Use) (bs : List (Option Els)) (R : Option Root) (rs : Rs) : Option Rs := match R with
  | some R => putBack (up' rs r (some { R with pv := R.pv + 1, xs := ys })) us bs
  | none => none
theorem pb_own {ro : Bool} {r : Nat} {q : Path} {us : List Use} {ys : Els} {bs : List (Option Els)} : putBack rs (⟨true, ro, some (r, q)⟩ :: us) (some ys :: bs) = pbR r ys us bs (rs r) rs := by
  simp only [putBack, pbR, ↓reduceIte]; cases rs r <;> rfl
theorem pbR_c {r sz pv : Nat} {own : Bool} {xs ys : Els} {us : List Use} {bs : List (Option Els)} {m : List (Nat × Option Root)} : pbR r ys us bs (some ⟨own, sz, pv, xs⟩) (rsL m) = putBack (rsL ((r, some ⟨own, sz, pv + 1, ys⟩) :: m)) us bs := (rfl)
def ev1 (a : AV × List Root) (b : Nat → List AV × List Root) (n : Nat) : List AV × List Root := (a.1 :: (b (n + a.2.length)).1, a.2 ++ (b (n + a.2.length)).2)
theorem evs_nil : enterVs [] n = ([], []) := (rfl)
theorem evs_b {x : Bool} {vs : List AV} : enterVs (.b x :: vs) n = (.b x :: (enterVs vs n).1, (enterVs vs n).2) := (rfl)
theorem evs_i {k : IntKind} {x : Int} {vs : List AV} : enterVs (.i k x :: vs) n = (.i k x :: (enterVs vs n).1, (enterVs vs n).2) := (rfl)
theorem evs_s {x : ByteArray} {vs : List AV} : enterVs (.s x :: vs) n = (.s x :: (enterVs vs n).1, (enterVs vs n).2) := (rfl)
theorem evs_d {b : Bool} {sz : Nat} {xs : Els} {vs : List AV} : enterVs (.deep false b sz xs :: vs) n = (.slc n [] 0 sz 0 xs.length :: (enterVs vs (n + 1)).1, ⟨!b, sz, 0, xs⟩ :: (enterVs vs (n + 1)).2) := (rfl)
theorem evs_p {b : Bool} {sz : Nat} {xs : Els} {vs : List AV} : enterVs (.deep true b sz xs :: vs) n = (.ptr n [] 0 0 0 :: (enterVs vs (n + 1)).1, ⟨!b, sz, 0, xs⟩ :: (enterVs vs (n + 1)).2) := (rfl)
theorem evs_a {cs vs : List AV} : enterVs (.agg cs :: vs) n = (.agg (enterCs cs n).1 :: (enterVs vs (n + (enterCs cs n).2.length)).1, (enterCs cs n).2 ++ (enterVs vs (n + (enterCs cs n).2.length)).2) := (rfl)
theorem evs_f {f : Nat} {cs vs : List AV} : enterVs (.fn f cs :: vs) n = (.fn f (enterCs cs n).1 :: (enterVs vs (n + (enterCs cs n).2.length)).1, (enterCs cs n).2 ++ (enterVs vs (n + (enterCs cs n).2.length)).2) := (rfl)
theorem ecs_nil : enterCs [] n = ([], []) := (rfl)
theorem ecs_b {x : Bool} {vs : List AV} : enterCs (.b x :: vs) n = (.b x :: (enterCs vs n).1, (enterCs vs n).2) := (rfl)
theorem ecs_i {k : IntKind} {x : Int} {vs : List AV} : enterCs (.i k x :: vs) n = (.i k x :: (enterCs vs n).1, (enterCs vs n).2) := (rfl)
theorem ecs_s {x : ByteArray} {vs : List AV} : enterCs (.s x :: vs) n = (.s x :: (enterCs vs n).1, (enterCs vs n).2) := (rfl)
theorem ecs_d {b : Bool} {sz : Nat} {xs : Els} {vs : List AV} : enterCs (.deep false b sz xs :: vs) n = (.slc n [] 0 sz 0 xs.length :: (enterCs vs (n + 1)).1, ⟨!b, sz, 0, xs⟩ :: (enterCs vs (n + 1)).2) := (rfl)
theorem ou_nil : okUses [] = true := (rfl)
def ouP (u v : Use) : Bool := !(u.own || v.own) || u.at'.isNone || v.at'.isNone || decide (u.root ≠ v.root)
def ouA (u : Use) : List Use → Bool
  | [] => true
  | v :: us => ouP u v && ouA u us
theorem ou_cons {u : Use} {us : List Use} : okUses (u :: us) = (ouA u us && okUses us) := by
  have : ∀ us : List Use, (us.all fun v => !(u.own || v.own) || u.at'.isNone || v.at'.isNone || decide (u.root ≠ v.root)) = ouA u us := fun us => by
    induction us with
    | nil => rfl
    | cons v us ih => simp only [List.all_cons, ih]; rfl
  simp only [okUses, this]
theorem oa_nil {u : Use} : ouA u [] = true := (rfl)
theorem oa_cons {u v : Use} {us : List Use} : ouA u (v :: us) = (ouP u v && ouA u us) := (rfl)
theorem op_rr {a b : Bool} {x y : Option (Nat × Path)} : ouP ⟨false, a, x⟩ ⟨false, b, y⟩ = true := (rfl)
theorem op_n1 {o p a b : Bool} {y : Option (Nat × Path)} : ouP ⟨o, a, none⟩ ⟨p, b, y⟩ = true := by simp [ouP]
theorem op_n2 {o p a b : Bool} {x : Option (Nat × Path)} : ouP ⟨o, a, x⟩ ⟨p, b, none⟩ = true := by simp [ouP]
theorem op_oo {o p a b : Bool} {r r' : Nat} {q q' : Path} (h : decide (r ≠ r') = true) : ouP ⟨o, a, some (r, q)⟩ ⟨p, b, some (r', q')⟩ = true := by
  have h' : r ≠ r' := by simpa using h
  have h'' : (Use.root ⟨o, a, some (r, q)⟩) ≠ (Use.root ⟨p, b, some (r', q')⟩) := by simpa [Use.root] using h'
  simp [ouP, h'']
theorem us_nil : usOk [] = true := (rfl)
theorem us_cons {o ro : Bool} {a : Option (Nat × Path)} {us : List Use} : usOk (⟨o, ro, a⟩ :: us) = ((o || ro) && usOk us) := (rfl)
def bkR (res : List AV) : Bool := res.any hasBor
def bkB (bs : List (Option Els)) : Bool := bs.any borBack
theorem bk_c {res : List AV} {back : List (Option Els)} : bkOk res back = (!bkR res && !bkB back) := (rfl)
theorem br_nil : bkR [] = false := (rfl)
theorem br_cons {v : AV} {vs : List AV} : bkR (v :: vs) = (hasBor v || bkR vs) := (rfl)
theorem bb_nil : bkB [] = false := (rfl)
theorem bb_n {bs : List (Option Els)} : bkB (none :: bs) = bkB bs := (rfl)
theorem bb_s {ys : Els} {bs : List (Option Els)} : bkB (some ys :: bs) = (borIn 6 ys || bkB bs) := (rfl)
theorem hb_b {x : Bool} : hasBor (.b x) = false := (rfl)
theorem hb_i {k : IntKind} {x : Int} : hasBor (.i k x) = false := (rfl)
theorem hb_s {x : ByteArray} : hasBor (.s x) = false := (rfl)
theorem hb_d {p b : Bool} {sz : Nat} {xs : Els} : hasBor (.deep p b sz xs) = (b || borIn 6 xs) := (rfl)
def hbA (cs : List AV) : Bool := cs.any hasBorC
theorem hb_a {cs : List AV} : hasBor (.agg cs) = hbA cs := (rfl)
theorem ha_nil : hbA [] = false := (rfl)
theorem ha_b {x : Bool} {cs : List AV} : hbA (.b x :: cs) = hbA cs := (rfl)
theorem ha_i {k : IntKind} {x : Int} {cs : List AV} : hbA (.i k x :: cs) = hbA cs := (rfl)
theorem ha_s {x : ByteArray} {cs : List AV} : hbA (.s x :: cs) = hbA cs := (rfl)
theorem ha_d {p b : Bool} {sz : Nat} {xs : Els} {cs : List AV} : hbA (.deep p b sz xs :: cs) = ((b || borIn 6 xs) || hbA cs) := (rfl)
theorem bor_nil {k : Nat} : borIn (k + 1) [] = false := (rfl)
def borE (k : Nat) (el : List AV) : Bool := el.any fun | .deep _ bo _ ys => bo || borIn k ys | _ => false
theorem bor_cons {k : Nat} {el : List AV} {xs : Els} : borIn (k + 1) (el :: xs) = (borE k el || borIn (k + 1) xs) := (rfl)
theorem be_nil {k : Nat} : borE k [] = false := (rfl)
theorem be_b {k : Nat} {x : Bool} {cs : List AV} : borE k (.b x :: cs) = borE k cs := (rfl)
theorem be_i {k : Nat} {q : IntKind} {x : Int} {cs : List AV} : borE k (.i q x :: cs) = borE k cs := (rfl)
theorem be_s {k : Nat} {x : ByteArray} {cs : List AV} : borE k (.s x :: cs) = borE k cs := (rfl)
theorem be_d {k : Nat} {p b : Bool} {sz : Nat} {xs : Els} {cs : List AV} : borE k (.deep p b sz xs :: cs) = ((b || borIn k xs) || borE k cs) := (rfl)
theorem bor_map {α : Type} {k : Nat} {e : α → List AV} (h : ∀ x, borE k (e x) = false) : ∀ l : List α, borIn (k + 1) (l.map e) = false
  | [] => rfl
  | x :: l => by rw [List.map_cons, bor_cons, h x, bor_map h l]; rfl
theorem bor_I {k : Nat} {l : List Int} : borIn (k + 1) (l.map eI) = false := bor_map (fun _ => rfl) l
theorem bor_8 {k : Nat} {l : List Int} : borIn (k + 1) (l.map e8) = false := bor_map (fun _ => rfl) l
theorem bor_B {k : Nat} {l : List Bool} : borIn (k + 1) (l.map eB) = false := bor_map (fun _ => rfl) l
theorem bor_S {k : Nat} {l : List ByteArray} : borIn (k + 1) (l.map eS) = false := bor_map (fun _ => rfl) l
/-! ### Rows -/
theorem dps_map {α : Type} {e : α → List AV} (h : ∀ x, anyDeep (e x) = false) : ∀ l : List α, anyDeeps (l.map e) = false
  | [] => rfl
  | x :: l => by have := dps_map h l; simp only [anyDeeps, List.map_cons, List.any_cons, h x, Bool.false_or] at this ⊢; exact this
theorem dps_I {l : List Int} : anyDeeps (l.map eI) = false := dps_map (fun _ => rfl) l
theorem dps_8 {l : List Int} : anyDeeps (l.map e8) = false := dps_map (fun _ => rfl) l
theorem dps_B {l : List Bool} : anyDeeps (l.map eB) = false := dps_map (fun _ => rfl) l
theorem dps_S {l : List ByteArray} : anyDeeps (l.map eS) = false := dps_map (fun _ => rfl) l
theorem dps_nil : anyDeeps [] = false := (rfl)
def gSrc (ro : Bool) (q : Path) (r : Nat) (w : Els) (d : Bool) : Option (Els × List Nat) := if d then (if ro then some (w.map (·.map toBor), []) else match q with
            | [] => some (w, [r])
            | _ :: _ => none) else some (w, [])
theorem gs_f {ro : Bool} {q : Path} {r : Nat} {w : Els} : gSrc ro q r w false = some (w, []) := (rfl)
theorem gs_r {q : Path} {r : Nat} {w : Els} : gSrc true q r w true = some (w.map (·.map toBor), []) := (rfl)
theorem gs_o {r : Nat} {w : Els} : gSrc false [] r w true = some (w, [r]) := (rfl)
def gSrcA (sz sz' r : Nat) (q : Path) (off len : Nat) (a : Option (Nat × Bool × Els)) : Option (Els × List Nat) := match a with
  | some a => if sz' = sz then gSrc a.2.1 q r (wnd a.2.2 off len) (anyDeeps (wnd a.2.2 off len)) else none
  | none => none
theorem src_r {sz r : Nat} {q : Path} {pv sz' off len : Nat} : srcOf rs sz (.slc r q pv sz' off len) = gSrcA sz sz' r q off len (lkA q pv (rs r)) := by
  simp only [srcOf, look_lkA, gSrcA]
  cases rs r with
  | none => rfl
  | some R => cases lkA q pv (some R) <;> rfl
theorem srcA_c {sz r s : Nat} {q : Path} {off len : Nat} {ro : Bool} {xs : Els} : gSrcA sz sz r q off len (some (s, ro, xs)) = gSrc ro q r (wnd xs off len) (anyDeeps (wnd xs off len)) := by simp [gSrcA]
theorem src_n {sz s : Nat} : srcOf rs sz (.nl s) = some ([], []) := (rfl)
def u8s (s : ByteArray) : List Int := s.toList.map fun u => ((u.toNat : Nat) : Int)
theorem src_s {x : ByteArray} : srcOf rs 1 (.s x) = some ((u8s x).map e8, []) := by simp [srcOf, u8s, e8, Function.comp_def]
def fBas (pre post : Els) (rs : Rs) (r0 : Option Nat) : Option (Els × Els × Rs × Option Nat) := some (pre, post, rs, r0)
theorem bas_n {sz s : Nat} : baseOf rs sz (.nl s) = fBas [] [] rs none := (rfl)
def basR (sz sz' r off len : Nat) (R : Option Root) (rs : Rs) : Option (Els × Els × Rs × Option Nat) := match R with
  | some R => if sz' = sz ∧ R.own = true then fBas (wnd R.xs off len) (R.xs.drop (off + len)) (up' rs r none) (some r) else none
  | none => none
theorem bas_r {sz r pv sz' off len : Nat} : baseOf rs sz (.slc r [] pv sz' off len) = basR sz sz' r off len (rs r) rs := by
  simp only [baseOf, look_lkA, basR]
  cases rs r with
  | none => rfl
  | some R =>
    obtain ⟨o, s, p, x⟩ := R
    cases o <;> simp [lkA, Root.arr, unsnoc, fBas]
theorem basR_c {sz r off len s pv : Nat} {xs : Els} {m : List (Nat × Option Root)} : basR sz sz r off len (some ⟨true, s, pv, xs⟩) (rsL m) = fBas (wnd xs off len) (xs.drop (off + len)) (rsL ((r, none) :: m)) (some r) := by simp [basR, rs_up]
/-- A row in a cell of a root. -/
def basP (sz sz' r off len i c : Nat) (R : Root) (v : Option (Nat × Bool × Els)) (rs : Rs) : Option (Els × Els × Rs × Option Nat) := match v with
  | some (_, false, ys) => if sz' = sz then fBas (wnd ys off len) (ys.drop (off + len)) (up' rs r (some { R with xs := setEl R.xs i c [.undef] })) (some r) else none
  | _ => none
def basQ (sz sz' r off len i c pv : Nat) (R : Option Root) (rs : Rs) : Option (Els × Els × Rs × Option Nat) := match R with
  | some R => basP sz sz' r off len i c R (lkA [(i, c)] pv (some R)) rs
  | none => none
theorem bas_p {sz r pv sz' off len i c : Nat} : baseOf rs sz (.slc r [(i, c)] pv sz' off len) = basQ sz sz' r off len i c pv (rs r) rs := by
  simp only [baseOf, look_lkA, basQ, basP]
  cases rs r with
  | none => rfl
  | some R =>
    simp only [Option.bind_some]
    cases lkA [(i, c)] pv (some R) with
    | none => rfl
    | some a => obtain ⟨s, ro, ys⟩ := a; cases ro <;> simp [unsnoc, fBas, dropAt, modArr]
theorem basQ_c {sz sz' r off len i c pv s p : Nat} {own : Bool} {xs : Els} : basQ sz sz' r off len i c pv (some ⟨own, s, p, xs⟩) rs = basP sz sz' r off len i c ⟨own, s, p, xs⟩ (lkA [(i, c)] pv (some ⟨own, s, p, xs⟩)) rs := (rfl)
theorem basP_c {sz r off len i c s s' p : Nat} {own : Bool} {xs ys : Els} {m : List (Nat × Option Root)} : basP sz sz r off len i c ⟨own, s, p, xs⟩ (some (s', false, ys)) (rsL m) = fBas (wnd ys off len) (ys.drop (off + len)) (rsL ((r, some ⟨own, s, p, setEl xs i c [.undef]⟩) :: m)) (some r) := by simp [basP, rs_up]
def fApp (n sz by' : Nat) (a : Option (Els × List Nat)) (b : Option (Els × Els × Rs × Option Nat)) : Option (AV × Rs) := a.bind fun (ys, asx) => b.bind fun (pre, post, rs', r0) =>
        if (pre.length + ys.length) * by' ≤ 140737488355328 ∧ (∀ r ∈ asx, some r ≠ r0) ∧ asx.Nodup then
          some (.slc n [] 0 sz 0 (pre.length + ys.length), up' (kill rs' asx) n (some ⟨true, sz, 0, pre ++ ys ++ post.drop ys.length⟩))
        else none
theorem i_app {sz by' : Nat} {x y : X} : evI call n tm rs (.app sz by' x y) = fApp n sz by' (srcOf rs sz (y.ev tm)) (baseOf rs sz (x.ev tm)) := (rfl)
/-- Content that is made out of literal cells; the printed text says of which type it is. -/
def litX (xs : Els) : Els := xs
theorem app_t {sz by' : Nat} {α : Type} {e : α → List AV} {a b : List α} {r0 : Option Nat} {m : List (Nat × Option Root)} (h : (a.length + b.length) * by' ≤ 140737488355328) :
    fApp n sz by' (some (b.map e, [])) (fBas (a.map e) [] (rsL m) r0) = some (.slc n [] 0 sz 0 (a ++ b).length, rsL ((n, some ⟨true, sz, 0, (a ++ b).map e⟩) :: m)) := by
  simp [fApp, fBas, h, kill_nil', rs_up]
theorem app_0 {sz by' : Nat} {α : Type} {e : α → List AV} {b : List α} {r0 : Option Nat} {m : List (Nat × Option Root)} (h : b.length * by' ≤ 140737488355328) :
    fApp n sz by' (some (b.map e, [])) (fBas [] [] (rsL m) r0) = some (.slc n [] 0 sz 0 b.length, rsL ((n, some ⟨true, sz, 0, b.map e⟩) :: m)) := by
  simp [fApp, fBas, h, kill_nil', rs_up]
theorem app_00 {sz by' : Nat} {r0 : Option Nat} {m : List (Nat × Option Root)} :
    fApp n sz by' (some ([], [])) (fBas [] [] (rsL m) r0) = some (.slc n [] 0 sz 0 0, rsL ((n, some ⟨true, sz, 0, []⟩) :: m)) := by
  simp [fApp, fBas, kill_nil', rs_up]
theorem app_n {sz by' : Nat} {α : Type} {e : α → List AV} {a : List α} {r0 : Option Nat} {m : List (Nat × Option Root)} (h : a.length * by' ≤ 140737488355328) :
    fApp n sz by' (some ([], [])) (fBas (a.map e) [] (rsL m) r0) = some (.slc n [] 0 sz 0 a.length, rsL ((n, some ⟨true, sz, 0, a.map e⟩) :: m)) := by
  simp [fApp, fBas, h, kill_nil', rs_up]
/-- With the roots that move along. -/
theorem app_m {sz by' : Nat} {α : Type} {e : α → List AV} {a b : List α} {r r0 : Nat} {m : List (Nat × Option Root)} (h : (a.length + b.length) * by' ≤ 140737488355328) (hr : decide (r ≠ r0) = true) :
    fApp n sz by' (some (b.map e, [r])) (fBas (a.map e) [] (rsL m) (some r0)) = some (.slc n [] 0 sz 0 (a ++ b).length, rsL ((n, some ⟨true, sz, 0, (a ++ b).map e⟩) :: (r, none) :: m)) := by
  have hr' : r ≠ r0 := by simpa using hr
  simp [fApp, fBas, h, kill_nil', rs_up, kill_cons', hr']
theorem app_m0 {sz by' : Nat} {α : Type} {e : α → List AV} {b : List α} {r r0 : Nat} {m : List (Nat × Option Root)} (h : b.length * by' ≤ 140737488355328) (hr : decide (r ≠ r0) = true) :
    fApp n sz by' (some (b.map e, [r])) (fBas [] [] (rsL m) (some r0)) = some (.slc n [] 0 sz 0 b.length, rsL ((n, some ⟨true, sz, 0, b.map e⟩) :: (r, none) :: m)) := by
  have hr' : r ≠ r0 := by simpa using hr
  simp [fApp, fBas, h, kill_nil', rs_up, kill_cons', hr']
theorem app_mn {sz by' : Nat} {α : Type} {e : α → List AV} {b : List α} {r : Nat} {m : List (Nat × Option Root)} (h : b.length * by' ≤ 140737488355328) :
    fApp n sz by' (some (b.map e, [r])) (fBas [] [] (rsL m) none) = some (.slc n [] 0 sz 0 b.length, rsL ((n, some ⟨true, sz, 0, b.map e⟩) :: (r, none) :: m)) := by
  simp [fApp, fBas, h, kill_nil', rs_up, kill_cons']
theorem drop_full {α : Type} {e : α → List AV} {l : List α} : (l.map e).drop (0 + l.length) = [] := by rw [Nat.zero_add]; exact List.drop_eq_nil_of_le (by simp)
theorem drop_nil' {k : Nat} : ([] : Els).drop k = [] := by simp
def fLit (n sz len : Nat) (a : Option (Els × List Nat)) (rs : Rs) : Option (AV × Rs) := a.bind fun (xs, asx) =>
      if asx.Nodup then some (.slc n [] 0 sz 0 len, up' (kill rs asx) n (some ⟨true, sz, 0, litX xs⟩)) else none
theorem i_lit {sz len : Nat} {z : List AV} {ps : List (Nat × X)} : evI call n tm rs (.lit sz len z ps) = fLit n sz len (evI.go tm rs ps (List.replicate len z) []) rs := (rfl)
def gl1 (tm : Tm) (rs : Rs) (j : Nat) (a : Option (List AV × List Nat)) (rest : List (Nat × X)) (xs : Els) (asx : List Nat) : Option (Els × List Nat) := a.bind fun (vs, as') =>
      if (xs[j]?).map (·.length) = some vs.length then evI.go tm rs rest (xs.set j vs) (asx ++ as') else none
theorem go_nil {xs : Els} {asx : List Nat} : evI.go tm rs [] xs asx = some (xs, asx) := (rfl)
theorem go_cons {j : Nat} {x : X} {rest : List (Nat × X)} {xs : Els} {asx : List Nat} : evI.go tm rs ((j, x) :: rest) xs asx = gl1 tm rs j (sinks rs (x.ev tm).cells) rest xs asx := (rfl)
theorem gl1_c {j : Nat} {vs : List AV} {as' : List Nat} {rest : List (Nat × X)} {xs : Els} {asx : List Nat} (h : ((xs.getD j []).length == vs.length && decide (j < xs.length)) = true) : gl1 tm rs j (some (vs, as')) rest xs asx = evI.go tm rs rest (xs.set j vs) (asx ++ as') := by
  simp only [Bool.and_eq_true, beq_iff_eq, decide_eq_true_eq] at h
  obtain ⟨h1, h2⟩ := h
  simp only [gl1, Option.bind_some]
  rw [if_pos]
  rw [List.getElem?_eq_getElem h2, Option.map_some, ← h1, List.getD_eq_getElem?_getD, List.getElem?_eq_getElem h2]; rfl
theorem lit_c {sz len : Nat} {xs : Els} {asx : List Nat} {m : List (Nat × Option Root)} (h : decide asx.Nodup = true) : fLit n sz len (some (xs, asx)) (rsL m) = some (.slc n [] 0 sz 0 len, up' (kill (rsL m) asx) n (some ⟨true, sz, 0, litX xs⟩)) := by
  have h' : asx.Nodup := by simpa using h
  simp [fLit, h']
theorem rep_0 {z : List AV} : List.replicate 0 z = [] := (rfl)
theorem rep_1 {z : List AV} : List.replicate 1 z = [z] := (rfl)
theorem rep_2 {z : List AV} : List.replicate 2 z = [z, z] := (rfl)
theorem rep_3 {z : List AV} : List.replicate 3 z = [z, z, z] := (rfl)
theorem rep_4 {z : List AV} : List.replicate 4 z = [z, z, z, z] := (rfl)
theorem litX_0 : litX [] = [] := (rfl)
theorem litX_I1 {a : Int} : litX [[.i .i64 a]] = List.map eI [a] := (rfl)
theorem litX_81 {a : Int} : litX [[.i .u8 a]] = List.map e8 [a] := (rfl)
theorem litX_82 {a b : Int} : litX [[.i .u8 a], [.i .u8 b]] = List.map e8 [a, b] := (rfl)
theorem litX_S1 {a : ByteArray} : litX [[.s a]] = List.map eS [a] := (rfl)
theorem litX_I2 {a b : Int} : litX [[.i .i64 a], [.i .i64 b]] = List.map eI [a, b] := (rfl)
theorem litX_I3 {a b c : Int} : litX [[.i .i64 a], [.i .i64 b], [.i .i64 c]] = List.map eI [a, b, c] := (rfl)
theorem mks_t {sz by' : Nat} {α : Type} {e : α → List AV} {z : α} {k : IntKind} {m : Int} {l : List (Nat × Option Root)} {zs : List AV} (hz : e z = zs) (h1 : 0 ≤ m) (h2 : m * by' ≤ 140737488355328) :
    fMks n sz by' zs (.i k m) (rsL l) = some (.slc n [] 0 sz 0 (List.replicate m.toNat z).length, rsL ((n, some ⟨true, sz, 0, (List.replicate m.toNat z).map e⟩) :: l)) := by
  subst hz; rw [mks_c h1 h2, List.length_replicate, List.map_replicate]
theorem mks_I {sz by' : Nat} {k : IntKind} {m : Int} {l : List (Nat × Option Root)} (h1 : 0 ≤ m) (h2 : m * by' ≤ 140737488355328) :
    fMks n sz by' [.i .i64 0] (.i k m) (rsL l) = some (.slc n [] 0 sz 0 (List.replicate m.toNat (0 : Int)).length, rsL ((n, some ⟨true, sz, 0, (List.replicate m.toNat (0 : Int)).map eI⟩) :: l)) := mks_t (e := eI) rfl h1 h2
theorem mks_B {sz by' : Nat} {k : IntKind} {m : Int} {l : List (Nat × Option Root)} (h1 : 0 ≤ m) (h2 : m * by' ≤ 140737488355328) :
    fMks n sz by' [.b false] (.i k m) (rsL l) = some (.slc n [] 0 sz 0 (List.replicate m.toNat false).length, rsL ((n, some ⟨true, sz, 0, (List.replicate m.toNat false).map eB⟩) :: l)) := mks_t (e := eB) rfl h1 h2
/-! ### Bytes and texts -/
def bytesOf (l : List Int) : ByteArray := ⟨(l.map fun n => UInt8.ofNat n.toNat).toArray⟩
theorem byteList_e {l : List Int} : byteList (l.map e8) = some (l.map fun n => UInt8.ofNat n.toNat) := by
  induction l with
  | nil => rfl
  | cons x l ih => simp only [List.map_cons, e8, byteList]; rw [show byteList (l.map e8) = _ from ih]; rfl
def fBts (x : AV) (a : Option (Nat × Bool × Els)) (rs : Rs) : Option (AV × Rs) := match x, a with
    | .nl _, _ => some (.s .empty, rs)
    | .slc r q pv sz off len, some a => if sz = 1 then bts2 (byteList (wnd a.2.2 off len)) rs else none
    | _, _ => none
where bts2 (l : Option (List UInt8)) (rs : Rs) : Option (AV × Rs) := l.map fun l => (.s ⟨l.toArray⟩, rs)
def rtOf : AV → Path × Nat × Nat
  | .slc r q pv _ _ _ => (q, pv, r)
  | _ => ([], 0, 0)
theorem i_bts {x : X} : evI call n tm rs (.bts x) = fBts (x.ev tm) (lkA (rtOf (x.ev tm)).1 (rtOf (x.ev tm)).2.1 (rs (rtOf (x.ev tm)).2.2)) rs := by
  simp only [evI, look_lkA, fBts]
  cases x.ev tm <;> try rfl
  rename_i r q pv sz off len
  simp only [rtOf]
  cases rs r with
  | none => rfl
  | some R => cases lkA q pv (some R) <;> rfl
theorem rt_c {r : Nat} {q : Path} {pv sz off len : Nat} : rtOf (.slc r q pv sz off len) = (q, pv, r) := (rfl)
theorem bts_c {r : Nat} {q : Path} {pv off len s : Nat} {ro : Bool} {xs : Els} : fBts (.slc r q pv 1 off len) (some (s, ro, xs)) rs = fBts.bts2 (byteList (wnd xs off len)) rs := (rfl)
theorem bts2_c {l : List Int} : fBts.bts2 (byteList (l.map e8)) rs = some (.s (bytesOf l), rs) := by simp only [byteList_e, fBts.bts2, bytesOf, Option.map_some]
theorem bts2_0 : fBts.bts2 (byteList []) rs = some (.s (bytesOf []), rs) := (rfl)
/-! ### Parts of rows -/
def fSlR (sz0 : Nat) (x : AV) (lo hi : Option AV) (rs : Rs) : Option (AV × Rs) := match x with
    | .slc r q pv sz off len => if sz = sz0 then (fSlS.bndv len hi len).bind fun h => (fSlS.bndv h lo 0).map fun l => (.slc r q pv sz (off + l) (h - l), rs) else none
    | .nl sz => (fSlS.bndv 0 hi 0).bind fun h => (fSlS.bndv h lo 0).map fun _ => (.nl sz, rs)
    | _ => none
theorem i_slR {sz0 : Nat} {x : X} {lo hi : Option X} : evI call n tm rs (.slR sz0 x lo hi) = fSlR sz0 (x.ev tm) (lo.map (·.ev tm)) (hi.map (·.ev tm)) rs := by
  simp only [evI, fSlR, bnd_v]
  cases x.ev tm <;> rfl
theorem slR_l {r : Nat} {q : Path} {pv sz off len : Nat} {k : IntKind} {l : Int} (h1 : 0 ≤ l) (h2 : l ≤ (len : Int)) : fSlR sz (.slc r q pv sz off len) (some (.i k l)) none rs = some (.slc r q pv sz (off + l.toNat) (len - l.toNat), rs) := by
  simp [fSlR, fSlS.bndv, h1, h2]
theorem slR_h {r : Nat} {q : Path} {pv sz off len : Nat} {k : IntKind} {h : Int} (h1 : 0 ≤ h) (h2 : h ≤ (len : Int)) : fSlR sz (.slc r q pv sz off len) none (some (.i k h)) rs = some (.slc r q pv sz off h.toNat, rs) := by
  simp [fSlR, fSlS.bndv, h1, h2]
theorem slR_lh {r : Nat} {q : Path} {pv sz off len : Nat} {k k' : IntKind} {l h : Int} (h0 : 0 ≤ l) (h1 : l ≤ h) (h2 : h ≤ (len : Int)) : fSlR sz (.slc r q pv sz off len) (some (.i k l)) (some (.i k' h)) rs = some (.slc r q pv sz (off + l.toNat) (h.toNat - l.toNat), rs) := by
  have e : 0 ≤ h := by omega
  have e2 : l ≤ ((h.toNat : Nat) : Int) := by omega
  simp only [fSlR, fSlS.bndv, ↓reduceIte, if_pos (show 0 ≤ h ∧ h ≤ (len : Int) from ⟨e, h2⟩), Option.bind_some, if_pos (show 0 ≤ l ∧ l ≤ ((h.toNat : Nat) : Int) from ⟨h0, e2⟩), Option.map_some]
theorem slR_n {r : Nat} {q : Path} {pv sz off len : Nat} : fSlR sz (.slc r q pv sz off len) none none rs = some (.slc r q pv sz off len, rs) := by
  simp [fSlR, fSlS.bndv]
/-! ### Function values -/
theorem i_mkfn {f : Nat} {caps : List X} (h : ((caps.map (·.ev tm)).all isCell) = true) : evI call n tm rs (.mkfn f caps) = some (.fn f (caps.map (·.ev tm)), rs) := by simp only [evI, h, ↓reduceIte]
end

/-! ### The end -/
def bks (rs : Rs) (us : List Nat) : Nat → List Bool → List (Option Els)
  | _, [] => []
  | n, o :: os => (if o then (if n ∈ us then none else (rs n).map Root.xs) else none) :: bks rs us (n + 1) os
theorem backs_bks {rs : Rs} {us : List Nat} : ∀ (l : List Root) (n : Nat), backs rs us n l = bks rs us n (l.map Root.own)
  | [], _ => rfl
  | R :: l, n => by simp only [backs, List.map_cons, bks, backs_bks l (n + 1)]
def lvO (ow : List Bool) (rs : Rs) (a : Option (List AV × List Nat)) : Option Out := match a with
  | some a => if a.2.Nodup then some (a.1, bks rs a.2 0 ow) else none
  | none => none
def eF2 (ow : List Bool) (p : Option (List AV × Rs)) : Option Out := match p with
  | some p => lvO ow p.2 (outVs p.2 p.1)
  | none => none
def eF1 (ow : List Bool) (nx : Nat) (rs : Rs) (vs : Option (List AV)) : Option Out := match vs with
  | some vs => eF2 ow (splitVs nx rs vs)
  | none => none
def Qf (res : List Res) (ow : List Bool) (out : Out) : Pst := fun e st => match e with
  | .exit _ => False
  | _ => eF1 ow st.nx st.rs (resVals st res) = some out
theorem Qf_r {res : List Res} {ow : List Bool} {out : Out} {tm : Tm} {rs : Rs} {nx : Nat} : Qf res ow out .ret ⟨tm, rs, nx⟩ = (eF1 ow nx rs (resVals ⟨tm, rs, nx⟩ res) = some out) := (rfl)
theorem Qf_n {res : List Res} {ow : List Bool} {out : Out} {tm : Tm} {rs : Rs} {nx : Nat} : Qf res ow out .normal ⟨tm, rs, nx⟩ = (eF1 ow nx rs (resVals ⟨tm, rs, nx⟩ res) = some out) := (rfl)
section
variable {rs : Rs} {n : Nat}
theorem eF1_c {ow : List Bool} {nx : Nat} {vs : List AV} : eF1 ow nx rs (some vs) = eF2 ow (splitVs nx rs vs) := (rfl)
theorem eF2_c {ow : List Bool} {vs : List AV} : eF2 ow (some (vs, rs)) = lvO ow rs (outVs rs vs) := (rfl)
theorem lvO_c {ow : List Bool} {vs : List AV} {us : List Nat} (h : decide us.Nodup = true) : lvO ow rs (some (vs, us)) = some (vs, bks rs us 0 ow) := by
  have h' : us.Nodup := by simpa using h
  simp [lvO, h']
theorem bks_nil {us : List Nat} : bks rs us n [] = [] := (rfl)
theorem bks_f {us : List Nat} {os : List Bool} : bks rs us n (false :: os) = none :: bks rs us (n + 1) os := (rfl)
def bkX (c : Bool) (R : Option Root) : Option Els := if c then none else R.map Root.xs
theorem bks_t {us : List Nat} {os : List Bool} : bks rs us n (true :: os) = bkX (us.contains n) (rs n) :: bks rs us (n + 1) os := by
  simp only [bks, bkX, ↓reduceIte, List.contains_iff_mem]
theorem bkX_t {R : Option Root} : bkX true R = none := (rfl)
theorem bkX_f {sz pv : Nat} {own : Bool} {xs : Els} : bkX false (some ⟨own, sz, pv, xs⟩) = some xs := (rfl)
def rv1 (v : AV) (a : Option (List AV)) : Option (List AV) := a.map (v :: ·)
theorem rv_nil {st : St} : resVals st [] = some [] := (rfl)
theorem rv_t {tm : Tm} {nx t : Nat} {l : List Res} : resVals ⟨tm, rs, nx⟩ (.t t :: l) = rv1 (tm t) (resVals ⟨tm, rs, nx⟩ l) := (rfl)
theorem rv1_c {v : AV} {vs : List AV} : rv1 v (some vs) = some (v :: vs) := (rfl)
def rv2 (v : Option (AV × Rs)) (a : Option (List AV)) : Option (List AV) := v.bind fun v => a.map (v.1 :: ·)
theorem rv_c {tm : Tm} {nx a : Nat} {k : Option Nat} {l : List Res} : resVals ⟨tm, rs, nx⟩ (.cell a k :: l) = rv2 (fLoad k (tm a) rs) (resVals ⟨tm, rs, nx⟩ l) := by
  simp only [resVals, resVal, rv2]
  have : evI (fun _ _ => none) 0 tm rs (.load k (.t a)) = fLoad k (tm a) rs := rfl
  rw [this]
  cases fLoad k (tm a) rs <;> rfl
theorem rv2_c {v : AV} {rs' : Rs} {vs : List AV} : rv2 (some (v, rs')) (some vs) = some (v :: vs) := (rfl)
def sv1 (v : AV) (p : Option (List AV × Rs)) : Option (List AV × Rs) := p.map fun p => (v :: p.1, p.2)
theorem sv_nil : splitVs n rs [] = some ([], rs) := (rfl)
theorem sv_b {x : Bool} {vs : List AV} : splitVs n rs (.b x :: vs) = sv1 (.b x) (splitVs (n + 16) rs vs) := (rfl)
theorem sv_i {k : IntKind} {x : Int} {vs : List AV} : splitVs n rs (.i k x :: vs) = sv1 (.i k x) (splitVs (n + 16) rs vs) := (rfl)
theorem sv_s {x : ByteArray} {vs : List AV} : splitVs n rs (.s x :: vs) = sv1 (.s x) (splitVs (n + 16) rs vs) := (rfl)
theorem sv_n {k : Nat} {vs : List AV} : splitVs n rs (.nl k :: vs) = sv1 (.nl k) (splitVs (n + 16) rs vs) := (rfl)
theorem sv_r {r pv sz off len : Nat} {vs : List AV} : splitVs n rs (.slc r [] pv sz off len :: vs) = sv1 (.slc r [] pv sz off len) (splitVs (n + 16) rs vs) := (rfl)
theorem sv1_c {v : AV} {vs : List AV} : sv1 v (some (vs, rs)) = some (v :: vs, rs) := (rfl)
/-- A row in a cell is taken out. -/
def spQ (n r i c sz off len : Nat) (pv : Nat) (a : Option (Nat × Bool × Els)) (R : Option Root) (rs : Rs) : AV × Rs := match R, a with
  | some R, some (s, false, ys) => (.slc n [] 0 sz off len, up' (up' rs r (some { R with xs := setEl R.xs i c [.undef] })) n (some ⟨true, s, 0, ys⟩))
  | _, _ => (.slc r [(i, c)] pv sz off len, rs)
theorem spC_p {r pv sz off len i c : Nat} : (splitC n rs (.slc r [(i, c)] pv sz off len)).1 = (spQ n r i c sz off len pv (lkA [(i, c)] pv (rs r)) (rs r) rs).1 ∧ (splitC n rs (.slc r [(i, c)] pv sz off len)).2.1 = (spQ n r i c sz off len pv (lkA [(i, c)] pv (rs r)) (rs r) rs).2 := by
  simp only [splitC, unsnoc, look_lkA, spQ]
  cases rs r with
  | none => exact ⟨rfl, rfl⟩
  | some R =>
    simp only [Option.bind_some]
    cases lkA [(i, c)] pv (some R) with
    | none => exact ⟨rfl, rfl⟩
    | some a => obtain ⟨s, ro, ys⟩ := a; cases ro <;> exact ⟨rfl, rfl⟩
def sv2 (a : AV × Rs) (n : Nat) (vs : List AV) : Option (List AV × Rs) := sv1 a.1 (splitVs (n + 16) a.2 vs)
theorem sv_p {r pv sz off len i c : Nat} {vs : List AV} : splitVs n rs (.slc r [(i, c)] pv sz off len :: vs) = sv2 (spQ n r i c sz off len pv (lkA [(i, c)] pv (rs r)) (rs r) rs) n vs := by
  have h := spC_p (n := n) (rs := rs) (r := r) (pv := pv) (sz := sz) (off := off) (len := len) (i := i) (c := c)
  simp only [splitVs, splitV, Option.bind_some, sv2, ← h.1, ← h.2]
  cases splitVs (n + 16) _ vs <;> rfl
theorem spQ_o {r pv sz off len i c s s' p : Nat} {own : Bool} {xs ys : Els} {m : List (Nat × Option Root)} : spQ n r i c sz off len pv (some (s, false, ys)) (some ⟨own, s', p, xs⟩) (rsL m) = (.slc n [] 0 sz off len, rsL ((n, some ⟨true, s, 0, ys⟩) :: (r, some ⟨own, s', p, setEl xs i c [.undef]⟩) :: m)) := (rfl)
theorem spQ_r {r pv sz off len i c s : Nat} {R : Option Root} {ys : Els} : spQ n r i c sz off len pv (some (s, true, ys)) R rs = (.slc r [(i, c)] pv sz off len, rs) := by cases R <;> rfl
theorem sv2_c {v : AV} {vs : List AV} : sv2 (v, rs) n vs = sv1 v (splitVs (n + 16) rs vs) := (rfl)
def svA (a : List AV × Rs) (n : Nat) (vs : List AV) : Option (List AV × Rs) := sv1 (.agg a.1) (splitVs (n + 16) a.2 vs)
def spL (n : Nat) (rs : Rs) : List AV → List AV × Rs
  | [] => ([], rs)
  | v :: vs => let a := splitC n rs v; let b := spL (n + 1) a.2.1 vs; (a.1 :: b.1, b.2)
theorem spL_eq : ∀ (cs : List AV) (n : Nat) (rs : Rs), (splitCs n rs cs).1 = (spL n rs cs).1 ∧ (splitCs n rs cs).2.1 = (spL n rs cs).2
  | [], _, _ => ⟨rfl, rfl⟩
  | v :: vs, n, rs => by
    have h := spL_eq vs (n + 1) (splitC n rs v).2.1
    simp only [splitCs, spL, h.1, h.2, and_self]
theorem sv_a {cs vs : List AV} (h : decide (cs.length ≤ 16) = true) : splitVs n rs (.agg cs :: vs) = svA (spL n rs cs) n vs := by
  have h' : cs.length ≤ 16 := by simpa using h
  have e := spL_eq cs n rs
  simp only [splitVs, splitV, if_pos h', Option.bind_some, svA, ← e.1, ← e.2]
  cases splitVs (n + 16) _ vs <;> rfl
theorem svA_c {cs vs : List AV} : svA (cs, rs) n vs = sv1 (.agg cs) (splitVs (n + 16) rs vs) := (rfl)
def pcons (v : AV) (p : List AV × Rs) : List AV × Rs := (v :: p.1, p.2)
theorem pcons_c {v : AV} {vs : List AV} : pcons v (vs, rs) = (v :: vs, rs) := (rfl)
theorem spl_nil : spL n rs [] = ([], rs) := (rfl)
theorem spl_b {x : Bool} {vs : List AV} : spL n rs (.b x :: vs) = pcons (.b x) (spL (n + 1) rs vs) := (rfl)
theorem spl_i {k : IntKind} {x : Int} {vs : List AV} : spL n rs (.i k x :: vs) = pcons (.i k x) (spL (n + 1) rs vs) := (rfl)
theorem spl_s {x : ByteArray} {vs : List AV} : spL n rs (.s x :: vs) = pcons (.s x) (spL (n + 1) rs vs) := (rfl)
theorem spl_n {k : Nat} {vs : List AV} : spL n rs (.nl k :: vs) = pcons (.nl k) (spL (n + 1) rs vs) := (rfl)
theorem spl_r {r pv sz off len : Nat} {vs : List AV} : spL n rs (.slc r [] pv sz off len :: vs) = pcons (.slc r [] pv sz off len) (spL (n + 1) rs vs) := (rfl)
def spl2 (a : AV × Rs) (n : Nat) (vs : List AV) : List AV × Rs := pcons a.1 (spL (n + 1) a.2 vs)
theorem spl_p {r pv sz off len i c : Nat} {vs : List AV} : spL n rs (.slc r [(i, c)] pv sz off len :: vs) = spl2 (spQ n r i c sz off len pv (lkA [(i, c)] pv (rs r)) (rs r) rs) n vs := by
  have h := spC_p (n := n) (rs := rs) (r := r) (pv := pv) (sz := sz) (off := off) (len := len) (i := i) (c := c)
  simp only [spL, spl2, ← h.1, ← h.2]; rfl
theorem spl2_c {v : AV} {vs : List AV} : spl2 (v, rs) n vs = pcons v (spL (n + 1) rs vs) := (rfl)
def ov1 (a : Option (AV × List Nat)) (b : Option (List AV × List Nat)) : Option (List AV × List Nat) := a.bind fun a => b.map fun b => (a.1 :: b.1, a.2 ++ b.2)
theorem ov_nil : outVs rs [] = some ([], []) := (rfl)
theorem ov_cons {v : AV} {vs : List AV} : outVs rs (v :: vs) = ov1 (outV rs v) (outVs rs vs) := (rfl)
theorem ov1_c {v : AV} {a b : List Nat} {vs : List AV} : ov1 (some (v, a)) (some (vs, b)) = some (v :: vs, a ++ b) := (rfl)
def ovA (a : Option (List AV × List Nat)) : Option (AV × List Nat) := a.map fun a => (.agg a.1, a.2)
theorem ov_a {cs : List AV} : outV rs (.agg cs) = ovA (outCs rs cs) := (rfl)
theorem ovA_c {cs : List AV} {a : List Nat} : ovA (some (cs, a)) = some (.agg cs, a) := (rfl)
theorem ov_b {x : Bool} : outV rs (.b x) = some (.b x, []) := (rfl)
theorem ov_i {k : IntKind} {x : Int} : outV rs (.i k x) = some (.i k x, []) := (rfl)
theorem ov_s {x : ByteArray} : outV rs (.s x) = some (.s x, []) := (rfl)
theorem ov_n {sz : Nat} : outV rs (.nl sz) = some (.deep false false sz [], []) := (rfl)
theorem ov_c {r : Nat} {q : Path} {pv sz off len : Nat} : outV rs (.slc r q pv sz off len) = outC rs (.slc r q pv sz off len) := (rfl)
theorem ov_p {r : Nat} {q : Path} {pv i c : Nat} : outV rs (.ptr r q pv i c) = outC rs (.ptr r q pv i c) := (rfl)
theorem oc_nil : outCs rs [] = some ([], []) := (rfl)
theorem oc_cons {v : AV} {vs : List AV} : outCs rs (v :: vs) = ov1 (outC rs v) (outCs rs vs) := (rfl)
theorem oc_b {x : Bool} : outC rs (.b x) = some (.b x, []) := (rfl)
theorem oc_i {k : IntKind} {x : Int} : outC rs (.i k x) = some (.i k x, []) := (rfl)
theorem oc_s {x : ByteArray} : outC rs (.s x) = some (.s x, []) := (rfl)
theorem oc_n {sz : Nat} : outC rs (.nl sz) = some (.deep false false sz [], []) := (rfl)
def ocR (r sz off len : Nat) (a : Option (Nat × Bool × Els)) : Option (AV × List Nat) := match a with
  | some (_, true, ys) => some (.deep false true sz (wnd ys off len), [])
  | some (_, false, ys) => some (.deep false false sz (wnd ys off len), [r])
  | none => none
theorem oc_r {r : Nat} {q : Path} {pv sz off len : Nat} : outC rs (.slc r q pv sz off len) = ocR r sz off len (lkA q pv (rs r)) := by
  simp only [outC, look_lkA, ocR]
  cases rs r with
  | none => rfl
  | some R =>
    simp only [Option.bind_some]
    cases lkA q pv (some R) with
    | none => rfl
    | some a => obtain ⟨s, ro, ys⟩ := a; cases ro <;> rfl
theorem ocR_r {r sz off len s : Nat} {ys : Els} : ocR r sz off len (some (s, true, ys)) = some (.deep false true sz (wnd ys off len), []) := (rfl)
theorem ocR_o {r sz off len s : Nat} {ys : Els} : ocR r sz off len (some (s, false, ys)) = some (.deep false false sz (wnd ys off len), [r]) := (rfl)
def ocP (r : Nat) (R : Option Root) : Option (AV × List Nat) := match R with
  | some R => if R.xs.length = 1 then (if R.own then some (.deep true false R.sz R.xs, [r]) else some (.deep true true R.sz R.xs, [])) else none
  | none => none
theorem oc_p {r pv : Nat} : outC rs (.ptr r [] pv 0 0) = ocP r (rs r) := by
  simp only [outC, look_lkA, ocP]
  cases rs r with
  | none => rfl
  | some R => obtain ⟨o, s, p, x⟩ := R; cases o <;> simp [lkA, Root.arr]
theorem ocP_o {r sz pv : Nat} {el : List AV} : ocP r (some ⟨true, sz, pv, [el]⟩) = some (.deep true false sz [el], [r]) := (rfl)
end
theorem callW_fn' {E : Env} {f : Nat} {F : Fn} {ds : List AV} {out : Out} {tm : Tm} {rs : Rs} {nx : Nat} {ow : List Bool} (h0 : E.ext f = none) (hF : E.fns f = some F) (hs : (⟨tmOf (tmA 0 (enterVs ds 0).1), rsL (rsA 0 ((enterVs ds 0).2.map some)), (enterVs ds 0).2.length⟩ : St) = ⟨tm, rs, nx⟩) (hw : (enterVs ds 0).2.map Root.own = ow) (hm : nx ≤ F.m) (h : W E F.body ⟨tm, rs, nx⟩ (Qf F.res ow out)) : callW E f ds = some out := by
  refine callW_fn h0 hF ?_ ?_
  · injection hs with _ _ h3; rw [h3]; exact hm
  · rw [start_eq, hs]
    refine W_pm (fun e st hq => ?_) h
    have key : eF1 ow st.nx st.rs (resVals st F.res) = some out → ((resVals st F.res).bind fun vs => (splitVs st.nx st.rs vs).bind fun p => leave (enterVs ds 0).2 p.2 p.1) = some out := fun h => by
      simp only [eF1] at h
      split at h
      · rename_i vs hv
        rw [hv, Option.bind_some]
        simp only [eF2] at h
        split at h
        · rename_i p hp
          rw [hp, Option.bind_some]
          simp only [lvO] at h
          split at h
          · rename_i a ha
            simp only [leave, ha, Option.bind_some]
            split at h
            · rename_i hn
              rw [if_pos hn, backs_bks, hw]; exact h
            · cases h
          · cases h
        · cases h
      · cases h
    cases e with
    | normal => exact key hq
    | ret => exact key hq
    | exit i => exact hq.elim
end Go.Proofs.Ythccagmifnipdaa.V
end YthccagmifnipdaaWJ
section YthccagmifnipdaaWK
namespace Go.Proofs.Ythccagmifnipdaa.V
open Go Go.RowKit
set_option linter.unusedVariables false
def kpL : List Nat → Tm → List (Nat × AV)
  | [], _ => []
  | t :: l, tm => (t, tm t) :: kpL l tm
theorem kpL_nil {tm : Tm} : kpL [] tm = [] := (rfl)
theorem kpL_cons {t : Nat} {l : List Nat} {tm : Tm} : kpL (t :: l) tm = (t, tm t) :: kpL l tm := (rfl)
theorem kpL_eq (tm : Tm) : ∀ live : List Nat, live.map (fun t => (t, tm t)) = kpL live tm
  | [] => rfl
  | t :: l => by rw [List.map_cons, kpL_cons, kpL_eq tm l]
theorem Qk_nn {live : List Nat} {Q : Pst} {tm : Tm} {rs : Rs} {nx : Nat} : Qk live Q .normal ⟨tm, rs, nx⟩ = Q .normal ⟨tmOf (kpL live tm), rs, nx⟩ := by rw [Qk_n, kpL_eq]
def xsv (tm : Tm) : List X → List AV
  | [] => []
  | x :: l => x.ev tm :: xsv tm l
theorem xs_nil {tm : Tm} : xsv tm [] = [] := (rfl)
theorem xs_cons {tm : Tm} {x : X} {l : List X} : xsv tm (x :: l) = x.ev tm :: xsv tm l := (rfl)
theorem xs_eq {tm : Tm} : ∀ {l : List X}, l.map (·.ev tm) = xsv tm l
  | [] => rfl
  | x :: l => by rw [List.map_cons, xs_cons, xs_eq (l := l)]
def oX (tm : Tm) : Option X → Option AV
  | some x => some (x.ev tm)
  | none => none
theorem oX_s {tm : Tm} {x : X} : oX tm (some x) = some (x.ev tm) := (rfl)
theorem oX_n {tm : Tm} : oX tm none = none := (rfl)
theorem oX_eq {tm : Tm} {x : Option X} : x.map (·.ev tm) = oX tm x := by cases x <;> rfl
section
variable {call : CallF} {n : Nat} {tm : Tm} {rs : Rs}
theorem i_mm' {m : Bool} {x : X} {xs : List X} : evI call n tm rs (.mm m (x :: xs)) = fMm m (x.ev tm) (xsv tm xs) rs := by rw [i_mm, xs_eq]
theorem i_slS' {x : X} {lo hi : Option X} : evI call n tm rs (.slS x lo hi) = fSlS (x.ev tm) (oX tm lo) (oX tm hi) rs := by rw [i_slS, oX_eq, oX_eq]
theorem i_slR' {sz0 : Nat} {x : X} {lo hi : Option X} : evI call n tm rs (.slR sz0 x lo hi) = fSlR sz0 (x.ev tm) (oX tm lo) (oX tm hi) rs := by rw [i_slR, oX_eq, oX_eq]
theorem i_call' {f : Nat} {ms : List Bool} {args : List X} : evI call n tm rs (.call f ms args) = ac1 call n rs f (deepVs rs ms (xsv tm args)) := by rw [i_call, xs_eq]; rfl
theorem i_mkfn' {f : Nat} {caps : List X} (h : (xsv tm caps).all isCell = true) : evI call n tm rs (.mkfn f caps) = some (.fn f (xsv tm caps), rs) := by rw [← xs_eq] at h ⊢; exact i_mkfn h
theorem evOp_nos' {d : Option Nat} {g : Option (Nat × Bool)} {i : I} (h : wants tm g = some true) : evOp call n ⟨d, g, [], i⟩ (tm, rs) = (evI call n tm rs i).map fun p => (putT tm d p.1, p.2) := by
  simp only [evOp, h, Option.bind_some, ↓reduceIte, splitTs, List.length_nil, Nat.zero_le, regrafts_nil, ite_self]
def B0 (d : Option Nat) (tm : Tm) (r : Option (AV × Rs)) (k : Tm × Rs → Option (Tm × Rs)) : Option (Tm × Rs) := r.bind fun p => k (putT tm d p.1, p.2)
theorem ops_z {d : Option Nat} {i : I} {os : List Op'} {l : List (Nat × AV)} : evOps call n (oz d none [] i :: os) (tmOf l, rs) = B0 d (tmOf l) (evI call n (tmOf l) rs i) (evOps call (n + 80) os) := by
  simp only [evOps, oz, evOp_nos' (g := none) rfl, B0]
  cases evI call n (tmOf l) rs i <;> rfl
theorem B0_n {l : List (Nat × AV)} {v : AV} {rs : Rs} {k : Tm × Rs → Option (Tm × Rs)} : B0 none (tmOf l) (some (v, rs)) k = k (tmOf l, rs) := (rfl)
theorem B0_s {l : List (Nat × AV)} {d : Nat} {v : AV} {rs : Rs} {k : Tm × Rs → Option (Tm × Rs)} : B0 (some d) (tmOf l) (some (v, rs)) k = k (tmOf ((d, v) :: l), rs) := (rfl)
theorem cast_lit {k : Nat} : (Nat.cast (no_index (OfNat.ofNat k : Nat)) : Int) = OfNat.ofNat k := (rfl)
theorem cast_0 : ((0 : Nat) : Int) = 0 := (rfl)
theorem cast_1 : ((1 : Nat) : Int) = 1 := (rfl)
end
theorem W_sq' {E : Env} {m : Nat} {l : List Op'} {tm : Tm} {rs : Rs} {nx : Nat} {Q : Pst} (h : (m == l.length) = true) : W E (.draw (sq m) l) ⟨tm, rs, nx⟩ Q = OQ (evOps (callW E) nx l (tm, rs)) (nx + m * 80) Q := W_sq (by simpa using h)
theorem isC1_b {x : Bool} : isC1 (.b x) = true := (rfl)
theorem isC1_i {k : IntKind} {x : Int} : isC1 (.i k x) = true := (rfl)
theorem isC1_s {x : ByteArray} : isC1 (.s x) = true := (rfl)
theorem isC1_n {k : Nat} : isC1 (.nl k) = true := (rfl)
theorem isC1_c {r : Nat} {q : Path} {pv sz off len : Nat} : isC1 (.slc r q pv sz off len) = true := (rfl)
set_option linter.defProp false
theorem wnd_1 {α : Type} {e : α → List AV} {a : α} : wnd (List.map e [a]) 0 1 = List.map e [a] := (rfl)
theorem wnd_2 {α : Type} {e : α → List AV} {a b : α} : wnd (List.map e [a, b]) 0 2 = List.map e [a, b] := (rfl)
theorem wnd_3 {α : Type} {e : α → List AV} {a b c : α} : wnd (List.map e [a, b, c]) 0 3 = List.map e [a, b, c] := (rfl)
theorem gd_0 {x : List AV} {l : Els} : (x :: l).getD 0 [] = x := (rfl)
theorem gd_1 {x : List AV} {l : Els} {n : Nat} : (x :: l).getD (n + 1) [] = l.getD n [] := (rfl)
/-! ### Orders -/
def sTk (call : CallF) (n : Nat) (o : Option Op') (s : Tm × Rs) (k : Tm × Rs → Option (Tm × Rs)) : Option (Tm × Rs) := o.bind fun o => (evOp call n o s).bind k
open Classical in
noncomputable def both (a b : Option (Tm × Rs)) : Option (Tm × Rs) := a.bind fun r => if b = some r then some r else none
section
variable {call : CallF} {n : Nat} {l : List Op'} {s : Tm × Rs}
theorem sch_done : evSch call n l .done s = some s := (rfl)
theorem sch_nil {sc : Sched} : evSch call n l (tk [] sc) s = evSch call n l sc s := (rfl)
theorem sch_cons {k : Nat} {ks : List Nat} {sc : Sched} : evSch call n l (tk (k :: ks) sc) s = sTk call (n + k * 80) l[k]? s (evSch call n l (tk ks sc)) := (rfl)
theorem sch_alt {a b : Sched} : evSch call n l (.alt a b) s = both (evSch call n l a s) (evSch call n l b s) := by
  simp only [evSch, both]
theorem sTk_ops {o : Op'} {k : Tm × Rs → Option (Tm × Rs)} : sTk call n (some o) s k = (evOps call n [o] s).bind k := by
  simp only [sTk, Option.bind_some, evOps]
  cases evOp call n o s <;> rfl
end
def tmEqv : List Nat → Tm → Tm → Prop
  | [], _, _ => True
  | k :: ks, f, g => f k = g k ∧ tmEqv ks f g
def rsEqv : List Nat → Rs → Rs → Prop
  | [], _, _ => True
  | k :: ks, f, g => f k = g k ∧ rsEqv ks f g
def tks : List (Nat × AV) → List Nat → List Nat
  | [], r => r
  | (k, _) :: l, r => k :: tks l r
def rks : List (Nat × Option Root) → List Nat → List Nat
  | [], r => r
  | (k, _) :: l, r => k :: rks l r
theorem te_nil {f g : Tm} : tmEqv [] f g = True := (rfl)
theorem te_cons {k : Nat} {ks : List Nat} {f g : Tm} : tmEqv (k :: ks) f g = (f k = g k ∧ tmEqv ks f g) := (rfl)
theorem re_nil {f g : Rs} : rsEqv [] f g = True := (rfl)
theorem re_cons {k : Nat} {ks : List Nat} {f g : Rs} : rsEqv (k :: ks) f g = (f k = g k ∧ rsEqv ks f g) := (rfl)
theorem tks_nil {r : List Nat} : tks [] r = r := (rfl)
theorem tks_cons {k : Nat} {v : AV} {l : List (Nat × AV)} {r : List Nat} : tks ((k, v) :: l) r = k :: tks l r := (rfl)
theorem rks_nil {r : List Nat} : rks [] r = r := (rfl)
theorem rks_cons {k : Nat} {v : Option Root} {l : List (Nat × Option Root)} {r : List Nat} : rks ((k, v) :: l) r = k :: rks l r := (rfl)
theorem tmEqv_mem {f g : Tm} : ∀ {ks : List Nat}, tmEqv ks f g → ∀ k ∈ ks, f k = g k
  | [], _, k, h => by cases h
  | a :: ks, h, k, hk => by
    rcases List.mem_cons.1 hk with rfl | hk
    · exact h.1
    · exact tmEqv_mem h.2 k hk
theorem rsEqv_mem {f g : Rs} : ∀ {ks : List Nat}, rsEqv ks f g → ∀ k ∈ ks, f k = g k
  | [], _, k, h => by cases h
  | a :: ks, h, k, hk => by
    rcases List.mem_cons.1 hk with rfl | hk
    · exact h.1
    · exact rsEqv_mem h.2 k hk
theorem tks_mem {r : List Nat} {k : Nat} : ∀ {l : List (Nat × AV)}, k ∉ tks l r → tmOf l k = .undef ∧ k ∉ r
  | [], h => ⟨rfl, h⟩
  | (a, v) :: l, h => by
    simp only [tks, List.mem_cons, not_or] at h
    have := tks_mem (l := l) h.2
    exact ⟨by rw [tm_get, if_neg h.1]; exact this.1, this.2⟩
theorem rks_mem {r : List Nat} {k : Nat} : ∀ {l : List (Nat × Option Root)}, k ∉ rks l r → rsL l k = none ∧ k ∉ r
  | [], h => ⟨rfl, h⟩
  | (a, v) :: l, h => by
    simp only [rks, List.mem_cons, not_or] at h
    have := rks_mem (l := l) h.2
    exact ⟨by rw [rs_get, if_neg h.1]; exact this.1, this.2⟩
theorem both_c {l l' : List (Nat × AV)} {m m' : List (Nat × Option Root)} (h1 : tmEqv (tks l (tks l' [])) (tmOf l) (tmOf l')) (h2 : rsEqv (rks m (rks m' [])) (rsL m) (rsL m')) : both (some (tmOf l, rsL m)) (some (tmOf l', rsL m')) = some (tmOf l, rsL m) := by
  have e1 : tmOf l = tmOf l' := by
    funext k
    by_cases h : k ∈ tks l (tks l' [])
    · exact tmEqv_mem h1 k h
    · rw [(tks_mem h).1, (tks_mem (tks_mem h).2).1]
  have e2 : rsL m = rsL m' := by
    funext k
    by_cases h : k ∈ rks m (rks m' [])
    · exact rsEqv_mem h2 k h
    · rw [(rks_mem h).1, (rks_mem (rks_mem h).2).1]
  rw [← e1, ← e2]; simp [both]
theorem W_tk {E : Env} {ks : List Nat} {sc : Sched} {l : List Op'} {tm : Tm} {rs : Rs} {nx : Nat} {Q : Pst} : W E (.draw (tk ks sc) l) ⟨tm, rs, nx⟩ Q = OQ (evSch (callW E) nx l (tk ks sc) (tm, rs)) (nx + l.length * 80) Q := W_draw
/-! ### Taken out of their places -/
def spV (n : Nat) (rs : Rs) (v : AV) : Option (AV × Rs) := match v with
  | .agg cs => if cs.length ≤ 16 then some (.agg (spL n rs cs).1, (spL n rs cs).2) else none
  | v => some ((splitC n rs v).1, (splitC n rs v).2.1)
theorem splitV_spV {n : Nat} {rs : Rs} {v : AV} : (splitV n rs v).map (fun a => (a.1, a.2.1)) = spV n rs v := by
  cases v <;> try rfl
  rename_i cs
  simp only [splitV, spV]
  split
  · have := spL_eq cs n rs
    simp only [Option.map_some, this.1, this.2]
  · rfl
def spA (a : List AV × Rs) : Option (AV × Rs) := some (.agg a.1, a.2)
theorem spV_a {n : Nat} {rs : Rs} {cs : List AV} (h : decide (cs.length ≤ 16) = true) : spV n rs (.agg cs) = spA (spL n rs cs) := by
  have h' : cs.length ≤ 16 := by simpa using h
  simp only [spV, if_pos h', spA]
theorem spA_c {cs : List AV} {rs : Rs} : spA (cs, rs) = some (.agg cs, rs) := (rfl)
theorem spV_r {n r pv sz off len : Nat} {rs : Rs} : spV n rs (.slc r [] pv sz off len) = some (.slc r [] pv sz off len, rs) := (rfl)
theorem spV_n {n k : Nat} {rs : Rs} : spV n rs (.nl k) = some (.nl k, rs) := (rfl)
def spS (a : AV × Rs) : Option (AV × Rs) := some a
theorem spS_c {a : AV} {rs : Rs} : spS (a, rs) = some (a, rs) := (rfl)
theorem spV_p {n r pv sz off len i c : Nat} {rs : Rs} : spV n rs (.slc r [(i, c)] pv sz off len) = spS (spQ n r i c sz off len pv (lkA [(i, c)] pv (rs r)) (rs r) rs) := by
  have h := spC_p (n := n) (rs := rs) (r := r) (pv := pv) (sz := sz) (off := off) (len := len) (i := i) (c := c)
  simp only [spV, spS, h.1, h.2]
def Zs (call : CallF) (n : Nat) (d : Option Nat) (t : Nat) (i : I) (a : Option (AV × Rs)) (tm : Tm) (k : Tm × Rs → Option (Tm × Rs)) : Option (Tm × Rs) := match a with
  | some a => B0 d (up' tm t a.1) (evI call n (up' tm t a.1) a.2 i) k
  | none => none
theorem ops_s {call : CallF} {n t : Nat} {d : Option Nat} {i : I} {os : List Op'} {l : List (Nat × AV)} {rs : Rs} (h : i.isCall = false) : evOps call n (oz d none [t] i :: os) (tmOf l, rs) = Zs call n d t i (spV (n + 16) rs (tmOf l t)) (tmOf l) (evOps call (n + 80) os) := by
  rw [← splitV_spV]
  simp only [evOps, oz, evOp, wants, Option.bind_some, ↓reduceIte, List.length_cons, List.length_nil, splitTs, h, Nat.zero_add, show (1 ≤ 4) = True from eq_true (by decide), Bool.false_eq_true]
  cases splitV (n + 16) rs (tmOf l t) with
  | none => rfl
  | some a =>
    simp only [Option.bind_some, Option.map_some, Zs, B0]
    cases evI call n (up' (tmOf l) t a.1) a.2.1 i <;> rfl
theorem Zs_c {call : CallF} {n t : Nat} {d : Option Nat} {i : I} {v : AV} {m : List (Nat × Option Root)} {l : List (Nat × AV)} {k : Tm × Rs → Option (Tm × Rs)} : Zs call n d t i (some (v, rsL m)) (tmOf l) k = B0 d (tmOf ((t, v) :: l)) (evI call n (tmOf ((t, v) :: l)) (rsL m) i) k := (rfl)
theorem ic_store {n : Nat} {a v : X} : I.isCall (.store n a v) = false := (rfl)
theorem ic_box {n : Nat} {v : X} : I.isCall (.box n v) = false := (rfl)
theorem ic_lit {sz len : Nat} {z : List AV} {ps : List (Nat × X)} : I.isCall (.lit sz len z ps) = false := (rfl)
theorem ic_app {sz b : Nat} {x y : X} : I.isCall (.app sz b x y) = false := (rfl)
theorem R10 : type_of% (And.intro @sch_done <| And.intro @sch_nil <| And.intro @sch_cons <| And.intro @sch_alt <| And.intro @sTk_ops <| And.intro @te_nil <| And.intro @te_cons <| And.intro @re_nil <| And.intro @re_cons <| And.intro @tks_nil <| And.intro @tks_cons <| And.intro @rks_nil <| And.intro @rks_cons <| And.intro @both_c <| And.intro @W_tk <| And.intro @spV_a <| And.intro @spA_c <| And.intro @spV_r <| And.intro @spV_n <| And.intro @spS_c <| And.intro @spV_p <| And.intro @ops_s <| And.intro @Zs_c <| And.intro @ic_store <| And.intro @ic_box <| And.intro @ic_lit <| @ic_app) := And.intro @sch_done <| And.intro @sch_nil <| And.intro @sch_cons <| And.intro @sch_alt <| And.intro @sTk_ops <| And.intro @te_nil <| And.intro @te_cons <| And.intro @re_nil <| And.intro @re_cons <| And.intro @tks_nil <| And.intro @tks_cons <| And.intro @rks_nil <| And.intro @rks_cons <| And.intro @both_c <| And.intro @W_tk <| And.intro @spV_a <| And.intro @spA_c <| And.intro @spV_r <| And.intro @spV_n <| And.intro @spS_c <| And.intro @spV_p <| And.intro @ops_s <| And.intro @Zs_c <| And.intro @ic_store <| And.intro @ic_box <| And.intro @ic_lit <| @ic_app
theorem WC_mb {E : Env} {a b : C} {st : St} {Q : Pst} : WC E .mb a b st Q = (W E a st Q ∧ W E b st Q) := (rfl)
theorem wnd_len {α : Type} {e : α → List AV} {l : List α} {k : Nat} (h : k = l.length) : wnd (l.map e) 0 k = l.map e := by subst h; exact wnd_full
theorem drop_len {α : Type} {e : α → List AV} {l : List α} {k : Nat} (h : k = l.length) : (l.map e).drop (0 + k) = [] := by subst h; exact drop_full
theorem dcO_len {α : Type} {r sz s pv k : Nat} {e : α → List AV} {l : List α} (h : k = l.length) : dcO r sz k (some ⟨true, s, pv, l.map e⟩) = some (.deep false false sz (l.map e), [⟨true, false, some (r, [])⟩]) := by subst h; exact dcO_c
def skP (sz off len : Nat) (a : Option (Nat × Bool × Els)) : Option (AV × List Nat) := match a with
  | some (_, true, ys) => some (.deep false true sz (wnd ys off len), [])
  | _ => none
theorem sink_p {rs : Rs} {r pv sz off len i c : Nat} : sink rs (.slc r [(i, c)] pv sz off len) = skP sz off len (lkA [(i, c)] pv (rs r)) := by
  simp only [sink, look_lkA, skP]
  cases rs r with
  | none => rfl
  | some R =>
    simp only [Option.bind_some]
    cases lkA [(i, c)] pv (some R) with
    | none => rfl
    | some a => obtain ⟨s, ro, ys⟩ := a; cases ro <;> rfl
theorem skP_c {sz off len s : Nat} {ys : Els} : skP sz off len (some (s, true, ys)) = some (.deep false true sz (wnd ys off len), []) := (rfl)
theorem R11 : type_of% (And.intro @WC_mb <| And.intro @wnd_len <| And.intro @drop_len <| And.intro @dcO_len <| And.intro @sink_p <| And.intro @skP_c @b_nil1) := And.intro @WC_mb <| And.intro @wnd_len <| And.intro @drop_len <| And.intro @dcO_len <| And.intro @sink_p <| And.intro @skP_c @b_nil1
theorem rep_5 {z : List AV} : List.replicate 5 z = [z, z, z, z, z] := (rfl)
theorem rep_6 {z : List AV} : List.replicate 6 z = [z, z, z, z, z, z] := (rfl)
theorem rep_7 {z : List AV} : List.replicate 7 z = [z, z, z, z, z, z, z] := (rfl)
theorem rep_8 {z : List AV} : List.replicate 8 z = [z, z, z, z, z, z, z, z] := (rfl)
theorem rep_9 {z : List AV} : List.replicate 9 z = [z, z, z, z, z, z, z, z, z] := (rfl)
theorem rep_10 {z : List AV} : List.replicate 10 z = [z, z, z, z, z, z, z, z, z, z] := (rfl)
theorem rep_11 {z : List AV} : List.replicate 11 z = [z, z, z, z, z, z, z, z, z, z, z] := (rfl)
theorem rep_12 {z : List AV} : List.replicate 12 z = [z, z, z, z, z, z, z, z, z, z, z, z] := (rfl)
theorem rep_13 {z : List AV} : List.replicate 13 z = [z, z, z, z, z, z, z, z, z, z, z, z, z] := (rfl)
theorem rep_14 {z : List AV} : List.replicate 14 z = [z, z, z, z, z, z, z, z, z, z, z, z, z, z] := (rfl)
theorem rep_15 {z : List AV} : List.replicate 15 z = [z, z, z, z, z, z, z, z, z, z, z, z, z, z, z] := (rfl)
theorem rep_16 {z : List AV} : List.replicate 16 z = [z, z, z, z, z, z, z, z, z, z, z, z, z, z, z, z] := (rfl)
theorem rep_17 {z : List AV} : List.replicate 17 z = [z, z, z, z, z, z, z, z, z, z, z, z, z, z, z, z, z] := (rfl)
theorem litX_I4 {a0 a1 a2 a3 : Int} : litX [[.i .i64 a0], [.i .i64 a1], [.i .i64 a2], [.i .i64 a3]] = List.map eI [a0, a1, a2, a3] := (rfl)
theorem litX_I5 {a0 a1 a2 a3 a4 : Int} : litX [[.i .i64 a0], [.i .i64 a1], [.i .i64 a2], [.i .i64 a3], [.i .i64 a4]] = List.map eI [a0, a1, a2, a3, a4] := (rfl)
theorem litX_I6 {a0 a1 a2 a3 a4 a5 : Int} : litX [[.i .i64 a0], [.i .i64 a1], [.i .i64 a2], [.i .i64 a3], [.i .i64 a4], [.i .i64 a5]] = List.map eI [a0, a1, a2, a3, a4, a5] := (rfl)
theorem litX_I7 {a0 a1 a2 a3 a4 a5 a6 : Int} : litX [[.i .i64 a0], [.i .i64 a1], [.i .i64 a2], [.i .i64 a3], [.i .i64 a4], [.i .i64 a5], [.i .i64 a6]] = List.map eI [a0, a1, a2, a3, a4, a5, a6] := (rfl)
theorem litX_I8 {a0 a1 a2 a3 a4 a5 a6 a7 : Int} : litX [[.i .i64 a0], [.i .i64 a1], [.i .i64 a2], [.i .i64 a3], [.i .i64 a4], [.i .i64 a5], [.i .i64 a6], [.i .i64 a7]] = List.map eI [a0, a1, a2, a3, a4, a5, a6, a7] := (rfl)
theorem litX_I9 {a0 a1 a2 a3 a4 a5 a6 a7 a8 : Int} : litX [[.i .i64 a0], [.i .i64 a1], [.i .i64 a2], [.i .i64 a3], [.i .i64 a4], [.i .i64 a5], [.i .i64 a6], [.i .i64 a7], [.i .i64 a8]] = List.map eI [a0, a1, a2, a3, a4, a5, a6, a7, a8] := (rfl)
theorem litX_I10 {a0 a1 a2 a3 a4 a5 a6 a7 a8 a9 : Int} : litX [[.i .i64 a0], [.i .i64 a1], [.i .i64 a2], [.i .i64 a3], [.i .i64 a4], [.i .i64 a5], [.i .i64 a6], [.i .i64 a7], [.i .i64 a8], [.i .i64 a9]] = List.map eI [a0, a1, a2, a3, a4, a5, a6, a7, a8, a9] := (rfl)
theorem litX_I11 {a0 a1 a2 a3 a4 a5 a6 a7 a8 a9 a10 : Int} : litX [[.i .i64 a0], [.i .i64 a1], [.i .i64 a2], [.i .i64 a3], [.i .i64 a4], [.i .i64 a5], [.i .i64 a6], [.i .i64 a7], [.i .i64 a8], [.i .i64 a9], [.i .i64 a10]] = List.map eI [a0, a1, a2, a3, a4, a5, a6, a7, a8, a9, a10] := (rfl)
theorem litX_I12 {a0 a1 a2 a3 a4 a5 a6 a7 a8 a9 a10 a11 : Int} : litX [[.i .i64 a0], [.i .i64 a1], [.i .i64 a2], [.i .i64 a3], [.i .i64 a4], [.i .i64 a5], [.i .i64 a6], [.i .i64 a7], [.i .i64 a8], [.i .i64 a9], [.i .i64 a10], [.i .i64 a11]] = List.map eI [a0, a1, a2, a3, a4, a5, a6, a7, a8, a9, a10, a11] := (rfl)
theorem litX_I13 {a0 a1 a2 a3 a4 a5 a6 a7 a8 a9 a10 a11 a12 : Int} : litX [[.i .i64 a0], [.i .i64 a1], [.i .i64 a2], [.i .i64 a3], [.i .i64 a4], [.i .i64 a5], [.i .i64 a6], [.i .i64 a7], [.i .i64 a8], [.i .i64 a9], [.i .i64 a10], [.i .i64 a11], [.i .i64 a12]] = List.map eI [a0, a1, a2, a3, a4, a5, a6, a7, a8, a9, a10, a11, a12] := (rfl)
theorem litX_I14 {a0 a1 a2 a3 a4 a5 a6 a7 a8 a9 a10 a11 a12 a13 : Int} : litX [[.i .i64 a0], [.i .i64 a1], [.i .i64 a2], [.i .i64 a3], [.i .i64 a4], [.i .i64 a5], [.i .i64 a6], [.i .i64 a7], [.i .i64 a8], [.i .i64 a9], [.i .i64 a10], [.i .i64 a11], [.i .i64 a12], [.i .i64 a13]] = List.map eI [a0, a1, a2, a3, a4, a5, a6, a7, a8, a9, a10, a11, a12, a13] := (rfl)
theorem litX_I15 {a0 a1 a2 a3 a4 a5 a6 a7 a8 a9 a10 a11 a12 a13 a14 : Int} : litX [[.i .i64 a0], [.i .i64 a1], [.i .i64 a2], [.i .i64 a3], [.i .i64 a4], [.i .i64 a5], [.i .i64 a6], [.i .i64 a7], [.i .i64 a8], [.i .i64 a9], [.i .i64 a10], [.i .i64 a11], [.i .i64 a12], [.i .i64 a13], [.i .i64 a14]] = List.map eI [a0, a1, a2, a3, a4, a5, a6, a7, a8, a9, a10, a11, a12, a13, a14] := (rfl)
theorem litX_I16 {a0 a1 a2 a3 a4 a5 a6 a7 a8 a9 a10 a11 a12 a13 a14 a15 : Int} : litX [[.i .i64 a0], [.i .i64 a1], [.i .i64 a2], [.i .i64 a3], [.i .i64 a4], [.i .i64 a5], [.i .i64 a6], [.i .i64 a7], [.i .i64 a8], [.i .i64 a9], [.i .i64 a10], [.i .i64 a11], [.i .i64 a12], [.i .i64 a13], [.i .i64 a14], [.i .i64 a15]] = List.map eI [a0, a1, a2, a3, a4, a5, a6, a7, a8, a9, a10, a11, a12, a13, a14, a15] := (rfl)
theorem litX_I17 {a0 a1 a2 a3 a4 a5 a6 a7 a8 a9 a10 a11 a12 a13 a14 a15 a16 : Int} : litX [[.i .i64 a0], [.i .i64 a1], [.i .i64 a2], [.i .i64 a3], [.i .i64 a4], [.i .i64 a5], [.i .i64 a6], [.i .i64 a7], [.i .i64 a8], [.i .i64 a9], [.i .i64 a10], [.i .i64 a11], [.i .i64 a12], [.i .i64 a13], [.i .i64 a14], [.i .i64 a15], [.i .i64 a16]] = List.map eI [a0, a1, a2, a3, a4, a5, a6, a7, a8, a9, a10, a11, a12, a13, a14, a15, a16] := (rfl)
theorem litX_S2 {a0 a1 : ByteArray} : litX [[.s a0], [.s a1]] = List.map eS [a0, a1] := (rfl)
theorem litX_S3 {a0 a1 a2 : ByteArray} : litX [[.s a0], [.s a1], [.s a2]] = List.map eS [a0, a1, a2] := (rfl)
theorem litX_S4 {a0 a1 a2 a3 : ByteArray} : litX [[.s a0], [.s a1], [.s a2], [.s a3]] = List.map eS [a0, a1, a2, a3] := (rfl)
theorem litX_S5 {a0 a1 a2 a3 a4 : ByteArray} : litX [[.s a0], [.s a1], [.s a2], [.s a3], [.s a4]] = List.map eS [a0, a1, a2, a3, a4] := (rfl)
theorem litX_S6 {a0 a1 a2 a3 a4 a5 : ByteArray} : litX [[.s a0], [.s a1], [.s a2], [.s a3], [.s a4], [.s a5]] = List.map eS [a0, a1, a2, a3, a4, a5] := (rfl)
theorem litX_S7 {a0 a1 a2 a3 a4 a5 a6 : ByteArray} : litX [[.s a0], [.s a1], [.s a2], [.s a3], [.s a4], [.s a5], [.s a6]] = List.map eS [a0, a1, a2, a3, a4, a5, a6] := (rfl)
theorem litX_S8 {a0 a1 a2 a3 a4 a5 a6 a7 : ByteArray} : litX [[.s a0], [.s a1], [.s a2], [.s a3], [.s a4], [.s a5], [.s a6], [.s a7]] = List.map eS [a0, a1, a2, a3, a4, a5, a6, a7] := (rfl)
theorem litX_S9 {a0 a1 a2 a3 a4 a5 a6 a7 a8 : ByteArray} : litX [[.s a0], [.s a1], [.s a2], [.s a3], [.s a4], [.s a5], [.s a6], [.s a7], [.s a8]] = List.map eS [a0, a1, a2, a3, a4, a5, a6, a7, a8] := (rfl)
theorem litX_S10 {a0 a1 a2 a3 a4 a5 a6 a7 a8 a9 : ByteArray} : litX [[.s a0], [.s a1], [.s a2], [.s a3], [.s a4], [.s a5], [.s a6], [.s a7], [.s a8], [.s a9]] = List.map eS [a0, a1, a2, a3, a4, a5, a6, a7, a8, a9] := (rfl)
theorem litX_S11 {a0 a1 a2 a3 a4 a5 a6 a7 a8 a9 a10 : ByteArray} : litX [[.s a0], [.s a1], [.s a2], [.s a3], [.s a4], [.s a5], [.s a6], [.s a7], [.s a8], [.s a9], [.s a10]] = List.map eS [a0, a1, a2, a3, a4, a5, a6, a7, a8, a9, a10] := (rfl)
theorem litX_S12 {a0 a1 a2 a3 a4 a5 a6 a7 a8 a9 a10 a11 : ByteArray} : litX [[.s a0], [.s a1], [.s a2], [.s a3], [.s a4], [.s a5], [.s a6], [.s a7], [.s a8], [.s a9], [.s a10], [.s a11]] = List.map eS [a0, a1, a2, a3, a4, a5, a6, a7, a8, a9, a10, a11] := (rfl)
theorem litX_S13 {a0 a1 a2 a3 a4 a5 a6 a7 a8 a9 a10 a11 a12 : ByteArray} : litX [[.s a0], [.s a1], [.s a2], [.s a3], [.s a4], [.s a5], [.s a6], [.s a7], [.s a8], [.s a9], [.s a10], [.s a11], [.s a12]] = List.map eS [a0, a1, a2, a3, a4, a5, a6, a7, a8, a9, a10, a11, a12] := (rfl)
theorem litX_S14 {a0 a1 a2 a3 a4 a5 a6 a7 a8 a9 a10 a11 a12 a13 : ByteArray} : litX [[.s a0], [.s a1], [.s a2], [.s a3], [.s a4], [.s a5], [.s a6], [.s a7], [.s a8], [.s a9], [.s a10], [.s a11], [.s a12], [.s a13]] = List.map eS [a0, a1, a2, a3, a4, a5, a6, a7, a8, a9, a10, a11, a12, a13] := (rfl)
theorem litX_S15 {a0 a1 a2 a3 a4 a5 a6 a7 a8 a9 a10 a11 a12 a13 a14 : ByteArray} : litX [[.s a0], [.s a1], [.s a2], [.s a3], [.s a4], [.s a5], [.s a6], [.s a7], [.s a8], [.s a9], [.s a10], [.s a11], [.s a12], [.s a13], [.s a14]] = List.map eS [a0, a1, a2, a3, a4, a5, a6, a7, a8, a9, a10, a11, a12, a13, a14] := (rfl)
theorem litX_S16 {a0 a1 a2 a3 a4 a5 a6 a7 a8 a9 a10 a11 a12 a13 a14 a15 : ByteArray} : litX [[.s a0], [.s a1], [.s a2], [.s a3], [.s a4], [.s a5], [.s a6], [.s a7], [.s a8], [.s a9], [.s a10], [.s a11], [.s a12], [.s a13], [.s a14], [.s a15]] = List.map eS [a0, a1, a2, a3, a4, a5, a6, a7, a8, a9, a10, a11, a12, a13, a14, a15] := (rfl)
theorem R12 : type_of% (And.intro @rep_5 <| And.intro @rep_6 <| And.intro @rep_7 <| And.intro @rep_8 <| And.intro @rep_9 <| And.intro @rep_10 <| And.intro @rep_11 <| And.intro @rep_12 <| And.intro @rep_13 <| And.intro @rep_14 <| And.intro @rep_15 <| And.intro @rep_16 <| And.intro @rep_17 <| And.intro @litX_I4 <| And.intro @litX_I5 <| And.intro @litX_I6 <| And.intro @litX_I7 <| And.intro @litX_I8 <| And.intro @litX_I9 <| And.intro @litX_I10 <| And.intro @litX_I11 <| And.intro @litX_I12 <| And.intro @litX_I13 <| And.intro @litX_I14 <| And.intro @litX_I15 <| And.intro @litX_I16 <| And.intro @litX_I17 <| And.intro @litX_S2 <| And.intro @litX_S3 <| And.intro @litX_S4 <| And.intro @litX_S5 <| And.intro @litX_S6 <| And.intro @litX_S7 <| And.intro @litX_S8 <| And.intro @litX_S9 <| And.intro @litX_S10 <| And.intro @litX_S11 <| And.intro @litX_S12 <| And.intro @litX_S13 <| And.intro @litX_S14 <| And.intro @litX_S15 <| @litX_S16) := And.intro @rep_5 <| And.intro @rep_6 <| And.intro @rep_7 <| And.intro @rep_8 <| And.intro @rep_9 <| And.intro @rep_10 <| And.intro @rep_11 <| And.intro @rep_12 <| And.intro @rep_13 <| And.intro @rep_14 <| And.intro @rep_15 <| And.intro @rep_16 <| And.intro @rep_17 <| And.intro @litX_I4 <| And.intro @litX_I5 <| And.intro @litX_I6 <| And.intro @litX_I7 <| And.intro @litX_I8 <| And.intro @litX_I9 <| And.intro @litX_I10 <| And.intro @litX_I11 <| And.intro @litX_I12 <| And.intro @litX_I13 <| And.intro @litX_I14 <| And.intro @litX_I15 <| And.intro @litX_I16 <| And.intro @litX_I17 <| And.intro @litX_S2 <| And.intro @litX_S3 <| And.intro @litX_S4 <| And.intro @litX_S5 <| And.intro @litX_S6 <| And.intro @litX_S7 <| And.intro @litX_S8 <| And.intro @litX_S9 <| And.intro @litX_S10 <| And.intro @litX_S11 <| And.intro @litX_S12 <| And.intro @litX_S13 <| And.intro @litX_S14 <| And.intro @litX_S15 <| @litX_S16
theorem nd_0 : decide ([] : List Nat).Nodup = true := (rfl)
theorem nd_1 {a : Nat} : decide [a].Nodup = true := by simp
theorem nd_2 {a b : Nat} (h : decide (a ≠ b) = true) : decide [a, b].Nodup = true := by simpa using h
theorem nd_3 {a b c : Nat} (h : decide (a ≠ b) = true) (h2 : decide (a ≠ c) = true) (h3 : decide (b ≠ c) = true) : decide [a, b, c].Nodup = true := by simp_all
theorem ct_0 {a : Nat} : ([] : List Nat).contains a = false := (rfl)
theorem ct_1 {a b : Nat} {l : List Nat} : (b :: l).contains a = (a == b || l.contains a) := (rfl)
theorem R9 : type_of% (And.intro @cast_lit <| And.intro @gd_0 <| And.intro @gd_1 <| And.intro @wnd_1 <| And.intro @wnd_2 <| And.intro @wnd_3 <| And.intro @nd_0 <| And.intro @nd_1 <| And.intro @nd_2 <| And.intro @nd_3 <| And.intro @ct_0 <| @ct_1) := And.intro @cast_lit <| And.intro @gd_0 <| And.intro @gd_1 <| And.intro @wnd_1 <| And.intro @wnd_2 <| And.intro @wnd_3 <| And.intro @nd_0 <| And.intro @nd_1 <| And.intro @nd_2 <| And.intro @nd_3 <| And.intro @ct_0 <| @ct_1
theorem R0 : type_of% (And.intro @W_kp <| And.intro @W_seq <| And.intro @W_blk <| And.intro @W_skip <| And.intro @W_exit <| And.intro @W_ret <| And.intro @W_jn <| And.intro @W_cond <| And.intro @WC_t <| And.intro @WC_f <| And.intro @W_ops' <| And.intro @ops_nil <| And.intro @ops_o <| And.intro @ops_g1 <| And.intro @ops_g0 <| And.intro @ops_gt <| And.intro @B1_some <| And.intro @Q_some <| And.intro @Qk_e <| And.intro @Qk_r <| And.intro @Qs_n <| And.intro @Qs_e <| And.intro @Qs_r <| And.intro @Qb_n <| And.intro @Qb_e <| And.intro @Qb_r <| And.intro @Ql_n <| And.intro @Ql_e <| And.intro @Ql_r <| And.intro @Qj_n <| And.intro @Qj_e <| And.intro @Qj_r <| And.intro @tm_get <| And.intro @tm_nil <| And.intro @rs_get <| And.intro @rs_nil <| And.intro @tm_up <| And.intro @rs_up <| And.intro @x_t <| And.intro @x_k <| And.intro @i_mv <| And.intro @i_pick <| And.intro @pick_t <| And.intro @pick_f <| And.intro @i_bin <| And.intro @b_add <| And.intro @b_sub <| And.intro @b_mul <| And.intro @b_lss <| @b_leq) := And.intro @W_kp <| And.intro @W_seq <| And.intro @W_blk <| And.intro @W_skip <| And.intro @W_exit <| And.intro @W_ret <| And.intro @W_jn <| And.intro @W_cond <| And.intro @WC_t <| And.intro @WC_f <| And.intro @W_ops' <| And.intro @ops_nil <| And.intro @ops_o <| And.intro @ops_g1 <| And.intro @ops_g0 <| And.intro @ops_gt <| And.intro @B1_some <| And.intro @Q_some <| And.intro @Qk_e <| And.intro @Qk_r <| And.intro @Qs_n <| And.intro @Qs_e <| And.intro @Qs_r <| And.intro @Qb_n <| And.intro @Qb_e <| And.intro @Qb_r <| And.intro @Ql_n <| And.intro @Ql_e <| And.intro @Ql_r <| And.intro @Qj_n <| And.intro @Qj_e <| And.intro @Qj_r <| And.intro @tm_get <| And.intro @tm_nil <| And.intro @rs_get <| And.intro @rs_nil <| And.intro @tm_up <| And.intro @rs_up <| And.intro @x_t <| And.intro @x_k <| And.intro @i_mv <| And.intro @i_pick <| And.intro @pick_t <| And.intro @pick_f <| And.intro @i_bin <| And.intro @b_add <| And.intro @b_sub <| And.intro @b_mul <| And.intro @b_lss <| @b_leq
theorem R1 : type_of% (And.intro @b_gtr <| And.intro @b_geq <| And.intro @b_eql <| And.intro @b_neq <| And.intro @b_and <| And.intro @b_or <| And.intro @b_xor <| And.intro @b_shl <| And.intro @b_shr <| And.intro @b_quo <| And.intro @b_rem <| And.intro @b_eqb <| And.intro @b_neb <| And.intro @b_eqs <| And.intro @b_nes <| And.intro @b_cat <| And.intro @b_nil0 <| And.intro @wrap_i64 <| And.intro @wrap_u8 <| And.intro @i_un <| And.intro @un_not <| And.intro @un_neg <| And.intro @i_conv <| And.intro @conv_c <| And.intro @i_nilc <| And.intro @nilc_p <| And.intro @nilc_f <| And.intro @mm_nil <| And.intro @mm_x <| And.intro @mm_n <| And.intro @i_idxS <| And.intro @idxS_c <| And.intro @slS_l <| And.intro @slS_h <| And.intro @slS_lh <| And.intro @i_eqA <| And.intro @eqA_c <| And.intro @eqA_t <| And.intro @eqA_f <| And.intro @ec_nil <| And.intro @ec_0 <| And.intro @ec_1 <| And.intro @ec_2 <| And.intro @i_build <| And.intro @bld_nil <| And.intro @bld_cons <| And.intro @bld_1 <| And.intro @bld_a <| And.intro @put_nil <| @put_cons) := And.intro @b_gtr <| And.intro @b_geq <| And.intro @b_eql <| And.intro @b_neq <| And.intro @b_and <| And.intro @b_or <| And.intro @b_xor <| And.intro @b_shl <| And.intro @b_shr <| And.intro @b_quo <| And.intro @b_rem <| And.intro @b_eqb <| And.intro @b_neb <| And.intro @b_eqs <| And.intro @b_nes <| And.intro @b_cat <| And.intro @b_nil0 <| And.intro @wrap_i64 <| And.intro @wrap_u8 <| And.intro @i_un <| And.intro @un_not <| And.intro @un_neg <| And.intro @i_conv <| And.intro @conv_c <| And.intro @i_nilc <| And.intro @nilc_p <| And.intro @nilc_f <| And.intro @mm_nil <| And.intro @mm_x <| And.intro @mm_n <| And.intro @i_idxS <| And.intro @idxS_c <| And.intro @slS_l <| And.intro @slS_h <| And.intro @slS_lh <| And.intro @i_eqA <| And.intro @eqA_c <| And.intro @eqA_t <| And.intro @eqA_f <| And.intro @ec_nil <| And.intro @ec_0 <| And.intro @ec_1 <| And.intro @ec_2 <| And.intro @i_build <| And.intro @bld_nil <| And.intro @bld_cons <| And.intro @bld_1 <| And.intro @bld_a <| And.intro @put_nil <| @put_cons
theorem R2 : type_of% (And.intro @i_field <| And.intro @field_1 <| And.intro @field_n <| And.intro @oSome_c <| And.intro @i_ext <| And.intro @ext_c <| And.intro @i_len <| And.intro @len_c <| And.intro @len_n <| And.intro @len_s <| And.intro @i_iaddr <| And.intro @iaddr_c <| And.intro @i_faddr <| And.intro @faddr_c <| And.intro @i_load <| And.intro @load_c <| And.intro @lkLoad_some <| And.intro @load_1 <| And.intro @liftO_c <| And.intro @load_n <| And.intro @lifts_nil <| And.intro @lifts_cons <| And.intro @lift_i <| And.intro @lift_b <| And.intro @lift_s <| And.intro @lift_d <| And.intro @lift_p <| And.intro @load_p <| And.intro @lkP_some <| And.intro @lkD_some <| And.intro @cell_0 <| And.intro @sinks_nil <| And.intro @sinks_cons <| And.intro @sk1_c <| And.intro @sk2_c <| And.intro @sink_b <| And.intro @sink_i <| And.intro @sink_s <| And.intro @sink_nl <| And.intro @sink_r <| And.intro @skR_o <| And.intro @skR_r <| And.intro @cells_a <| And.intro @cells_b <| And.intro @cells_i <| And.intro @cells_s <| And.intro @cells_n <| And.intro @cells_c <| And.intro @i_box <| @box_c) := And.intro @i_field <| And.intro @field_1 <| And.intro @field_n <| And.intro @oSome_c <| And.intro @i_ext <| And.intro @ext_c <| And.intro @i_len <| And.intro @len_c <| And.intro @len_n <| And.intro @len_s <| And.intro @i_iaddr <| And.intro @iaddr_c <| And.intro @i_faddr <| And.intro @faddr_c <| And.intro @i_load <| And.intro @load_c <| And.intro @lkLoad_some <| And.intro @load_1 <| And.intro @liftO_c <| And.intro @load_n <| And.intro @lifts_nil <| And.intro @lifts_cons <| And.intro @lift_i <| And.intro @lift_b <| And.intro @lift_s <| And.intro @lift_d <| And.intro @lift_p <| And.intro @load_p <| And.intro @lkP_some <| And.intro @lkD_some <| And.intro @cell_0 <| And.intro @sinks_nil <| And.intro @sinks_cons <| And.intro @sk1_c <| And.intro @sk2_c <| And.intro @sink_b <| And.intro @sink_i <| And.intro @sink_s <| And.intro @sink_nl <| And.intro @sink_r <| And.intro @skR_o <| And.intro @skR_r <| And.intro @cells_a <| And.intro @cells_b <| And.intro @cells_i <| And.intro @cells_s <| And.intro @cells_n <| And.intro @cells_c <| And.intro @i_box <| @box_c
theorem R3 : type_of% (And.intro @i_alloc <| And.intro @i_store <| And.intro @sto_r <| And.intro @stR_o <| And.intro @stE_n <| And.intro @stE_d <| And.intro @set_0 <| And.intro @d_b <| And.intro @d_i <| And.intro @d_s <| And.intro @d_d <| And.intro @d_nil <| And.intro @i_mks <| And.intro @mks_I <| And.intro @mks_B <| And.intro @lkA_0 <| And.intro @lkA_1 <| And.intro @lkC_d <| And.intro @dvs_nil <| And.intro @dvs_cons <| And.intro @dvs_cons' <| And.intro @dv1_c <| And.intro @dv_a <| And.intro @dv_f <| And.intro @dvA_a <| And.intro @dvA_f <| And.intro @dv_b <| And.intro @dv_i <| And.intro @dv_s <| And.intro @dv_n <| And.intro @dv_c <| And.intro @dv_p <| And.intro @dcs_nil <| And.intro @dcs_cons <| And.intro @dc_b <| And.intro @dc_i <| And.intro @dc_s <| And.intro @dc_n <| And.intro @dc_r <| And.intro @dcR_c <| And.intro @dc_o <| And.intro @dcO_c <| And.intro @dcO_0 <| And.intro @dc_p <| And.intro @dcP_o <| And.intro @dcP_r <| And.intro @ac1_c <| And.intro @ac2_c <| And.intro @ac3_c <| @tup_0) := And.intro @i_alloc <| And.intro @i_store <| And.intro @sto_r <| And.intro @stR_o <| And.intro @stE_n <| And.intro @stE_d <| And.intro @set_0 <| And.intro @d_b <| And.intro @d_i <| And.intro @d_s <| And.intro @d_d <| And.intro @d_nil <| And.intro @i_mks <| And.intro @mks_I <| And.intro @mks_B <| And.intro @lkA_0 <| And.intro @lkA_1 <| And.intro @lkC_d <| And.intro @dvs_nil <| And.intro @dvs_cons <| And.intro @dvs_cons' <| And.intro @dv1_c <| And.intro @dv_a <| And.intro @dv_f <| And.intro @dvA_a <| And.intro @dvA_f <| And.intro @dv_b <| And.intro @dv_i <| And.intro @dv_s <| And.intro @dv_n <| And.intro @dv_c <| And.intro @dv_p <| And.intro @dcs_nil <| And.intro @dcs_cons <| And.intro @dc_b <| And.intro @dc_i <| And.intro @dc_s <| And.intro @dc_n <| And.intro @dc_r <| And.intro @dcR_c <| And.intro @dc_o <| And.intro @dcO_c <| And.intro @dcO_0 <| And.intro @dc_p <| And.intro @dcP_o <| And.intro @dcP_r <| And.intro @ac1_c <| And.intro @ac2_c <| And.intro @ac3_c <| @tup_0
theorem R4 : type_of% (And.intro @tup_1 <| And.intro @tup_2 <| And.intro @add_nil <| And.intro @add_cons <| And.intro @pb_nil <| And.intro @pb_ro <| And.intro @pb_at <| And.intro @pb_gone <| And.intro @pb_own <| And.intro @pbR_c <| And.intro @evs_nil <| And.intro @evs_b <| And.intro @evs_i <| And.intro @evs_s <| And.intro @evs_d <| And.intro @evs_p <| And.intro @evs_a <| And.intro @evs_f <| And.intro @ecs_nil <| And.intro @ecs_b <| And.intro @ecs_i <| And.intro @ecs_s <| And.intro @ecs_d <| And.intro @ou_nil <| And.intro @ou_cons <| And.intro @oa_nil <| And.intro @oa_cons <| And.intro @op_rr <| And.intro @op_n1 <| And.intro @op_n2 <| And.intro @op_oo <| And.intro @us_nil <| And.intro @us_cons <| And.intro @bk_c <| And.intro @br_nil <| And.intro @br_cons <| And.intro @bb_nil <| And.intro @bb_n <| And.intro @bb_s <| And.intro @hb_b <| And.intro @hb_i <| And.intro @hb_s <| And.intro @hb_d <| And.intro @hb_a <| And.intro @ha_nil <| And.intro @ha_b <| And.intro @ha_i <| And.intro @ha_s <| And.intro @ha_d <| @bor_nil) := And.intro @tup_1 <| And.intro @tup_2 <| And.intro @add_nil <| And.intro @add_cons <| And.intro @pb_nil <| And.intro @pb_ro <| And.intro @pb_at <| And.intro @pb_gone <| And.intro @pb_own <| And.intro @pbR_c <| And.intro @evs_nil <| And.intro @evs_b <| And.intro @evs_i <| And.intro @evs_s <| And.intro @evs_d <| And.intro @evs_p <| And.intro @evs_a <| And.intro @evs_f <| And.intro @ecs_nil <| And.intro @ecs_b <| And.intro @ecs_i <| And.intro @ecs_s <| And.intro @ecs_d <| And.intro @ou_nil <| And.intro @ou_cons <| And.intro @oa_nil <| And.intro @oa_cons <| And.intro @op_rr <| And.intro @op_n1 <| And.intro @op_n2 <| And.intro @op_oo <| And.intro @us_nil <| And.intro @us_cons <| And.intro @bk_c <| And.intro @br_nil <| And.intro @br_cons <| And.intro @bb_nil <| And.intro @bb_n <| And.intro @bb_s <| And.intro @hb_b <| And.intro @hb_i <| And.intro @hb_s <| And.intro @hb_d <| And.intro @hb_a <| And.intro @ha_nil <| And.intro @ha_b <| And.intro @ha_i <| And.intro @ha_s <| And.intro @ha_d <| @bor_nil
theorem R5 : type_of% (And.intro @bor_cons <| And.intro @be_nil <| And.intro @be_b <| And.intro @be_i <| And.intro @be_s <| And.intro @be_d <| And.intro @bor_I <| And.intro @bor_8 <| And.intro @bor_B <| And.intro @bor_S <| And.intro @dps_I <| And.intro @dps_8 <| And.intro @dps_B <| And.intro @dps_S <| And.intro @dps_nil <| And.intro @gs_f <| And.intro @gs_r <| And.intro @gs_o <| And.intro @src_r <| And.intro @srcA_c <| And.intro @src_n <| And.intro @src_s <| And.intro @bas_n <| And.intro @bas_r <| And.intro @basR_c <| And.intro @bas_p <| And.intro @basQ_c <| And.intro @basP_c <| And.intro @i_app <| And.intro @app_t <| And.intro @app_0 <| And.intro @app_00 <| And.intro @app_n <| And.intro @app_m <| And.intro @app_m0 <| And.intro @app_mn <| And.intro @drop_full <| And.intro @drop_nil' <| And.intro @i_lit <| And.intro @go_nil <| And.intro @go_cons <| And.intro @gl1_c <| And.intro @lit_c <| And.intro @rep_0 <| And.intro @rep_1 <| And.intro @rep_2 <| And.intro @rep_3 <| And.intro @rep_4 <| And.intro @litX_0 <| @litX_I1) := And.intro @bor_cons <| And.intro @be_nil <| And.intro @be_b <| And.intro @be_i <| And.intro @be_s <| And.intro @be_d <| And.intro @bor_I <| And.intro @bor_8 <| And.intro @bor_B <| And.intro @bor_S <| And.intro @dps_I <| And.intro @dps_8 <| And.intro @dps_B <| And.intro @dps_S <| And.intro @dps_nil <| And.intro @gs_f <| And.intro @gs_r <| And.intro @gs_o <| And.intro @src_r <| And.intro @srcA_c <| And.intro @src_n <| And.intro @src_s <| And.intro @bas_n <| And.intro @bas_r <| And.intro @basR_c <| And.intro @bas_p <| And.intro @basQ_c <| And.intro @basP_c <| And.intro @i_app <| And.intro @app_t <| And.intro @app_0 <| And.intro @app_00 <| And.intro @app_n <| And.intro @app_m <| And.intro @app_m0 <| And.intro @app_mn <| And.intro @drop_full <| And.intro @drop_nil' <| And.intro @i_lit <| And.intro @go_nil <| And.intro @go_cons <| And.intro @gl1_c <| And.intro @lit_c <| And.intro @rep_0 <| And.intro @rep_1 <| And.intro @rep_2 <| And.intro @rep_3 <| And.intro @rep_4 <| And.intro @litX_0 <| @litX_I1
theorem R6 : type_of% (And.intro @litX_81 <| And.intro @litX_82 <| And.intro @litX_S1 <| And.intro @litX_I2 <| And.intro @litX_I3 <| And.intro @i_bts <| And.intro @rt_c <| And.intro @bts_c <| And.intro @bts2_c <| And.intro @bts2_0 <| And.intro @slR_l <| And.intro @slR_h <| And.intro @slR_lh <| And.intro @slR_n <| And.intro @wnd_full <| And.intro @wnd_nil <| And.intro @len_map <| And.intro @kill_nil' <| And.intro @kill_cons' <| And.intro @Qf_r <| And.intro @Qf_n <| And.intro @eF1_c <| And.intro @eF2_c <| And.intro @lvO_c <| And.intro @bks_nil <| And.intro @bks_f <| And.intro @bks_t <| And.intro @bkX_t <| And.intro @bkX_f <| And.intro @rv_nil <| And.intro @rv_t <| And.intro @rv1_c <| And.intro @rv_c <| And.intro @rv2_c <| And.intro @sv_nil <| And.intro @sv_b <| And.intro @sv_i <| And.intro @sv_s <| And.intro @sv_n <| And.intro @sv_r <| And.intro @sv1_c <| And.intro @sv_p <| And.intro @spQ_o <| And.intro @spQ_r <| And.intro @sv2_c <| And.intro @sv_a <| And.intro @svA_c <| And.intro @pcons_c <| And.intro @spl_nil <| @spl_b) := And.intro @litX_81 <| And.intro @litX_82 <| And.intro @litX_S1 <| And.intro @litX_I2 <| And.intro @litX_I3 <| And.intro @i_bts <| And.intro @rt_c <| And.intro @bts_c <| And.intro @bts2_c <| And.intro @bts2_0 <| And.intro @slR_l <| And.intro @slR_h <| And.intro @slR_lh <| And.intro @slR_n <| And.intro @wnd_full <| And.intro @wnd_nil <| And.intro @len_map <| And.intro @kill_nil' <| And.intro @kill_cons' <| And.intro @Qf_r <| And.intro @Qf_n <| And.intro @eF1_c <| And.intro @eF2_c <| And.intro @lvO_c <| And.intro @bks_nil <| And.intro @bks_f <| And.intro @bks_t <| And.intro @bkX_t <| And.intro @bkX_f <| And.intro @rv_nil <| And.intro @rv_t <| And.intro @rv1_c <| And.intro @rv_c <| And.intro @rv2_c <| And.intro @sv_nil <| And.intro @sv_b <| And.intro @sv_i <| And.intro @sv_s <| And.intro @sv_n <| And.intro @sv_r <| And.intro @sv1_c <| And.intro @sv_p <| And.intro @spQ_o <| And.intro @spQ_r <| And.intro @sv2_c <| And.intro @sv_a <| And.intro @svA_c <| And.intro @pcons_c <| And.intro @spl_nil <| @spl_b
theorem R7 : type_of% (And.intro @spl_i <| And.intro @spl_s <| And.intro @spl_n <| And.intro @spl_r <| And.intro @spl_p <| And.intro @spl2_c <| And.intro @ov_nil <| And.intro @ov_cons <| And.intro @ov1_c <| And.intro @ov_a <| And.intro @ovA_c <| And.intro @ov_b <| And.intro @ov_i <| And.intro @ov_s <| And.intro @ov_n <| And.intro @ov_c <| And.intro @ov_p <| And.intro @oc_nil <| And.intro @oc_cons <| And.intro @oc_b <| And.intro @oc_i <| And.intro @oc_s <| And.intro @oc_n <| And.intro @oc_r <| And.intro @ocR_r <| And.intro @ocR_o <| And.intro @oc_p <| And.intro @ocP_o <| And.intro @Qk_nn <| And.intro @kpL_nil <| And.intro @kpL_cons <| And.intro @xs_nil <| And.intro @xs_cons <| And.intro @oX_s <| And.intro @oX_n <| And.intro @i_mm' <| And.intro @i_slS' <| And.intro @i_slR' <| And.intro @i_call' <| And.intro @i_mkfn' <| And.intro @ops_z <| And.intro @B0_n <| And.intro @B0_s <| And.intro @W_sq' <| And.intro @isC1_b <| And.intro @isC1_i <| And.intro @isC1_s <| And.intro @isC1_n <| And.intro @isC1_c <| @cast_0) := And.intro @spl_i <| And.intro @spl_s <| And.intro @spl_n <| And.intro @spl_r <| And.intro @spl_p <| And.intro @spl2_c <| And.intro @ov_nil <| And.intro @ov_cons <| And.intro @ov1_c <| And.intro @ov_a <| And.intro @ovA_c <| And.intro @ov_b <| And.intro @ov_i <| And.intro @ov_s <| And.intro @ov_n <| And.intro @ov_c <| And.intro @ov_p <| And.intro @oc_nil <| And.intro @oc_cons <| And.intro @oc_b <| And.intro @oc_i <| And.intro @oc_s <| And.intro @oc_n <| And.intro @oc_r <| And.intro @ocR_r <| And.intro @ocR_o <| And.intro @oc_p <| And.intro @ocP_o <| And.intro @Qk_nn <| And.intro @kpL_nil <| And.intro @kpL_cons <| And.intro @xs_nil <| And.intro @xs_cons <| And.intro @oX_s <| And.intro @oX_n <| And.intro @i_mm' <| And.intro @i_slS' <| And.intro @i_slR' <| And.intro @i_call' <| And.intro @i_mkfn' <| And.intro @ops_z <| And.intro @B0_n <| And.intro @B0_s <| And.intro @W_sq' <| And.intro @isC1_b <| And.intro @isC1_i <| And.intro @isC1_s <| And.intro @isC1_n <| And.intro @isC1_c <| @cast_0
theorem R8 : type_of% (And.intro @cast_1 <| And.intro @List.getElem?_cons_zero.{0} <| And.intro @List.getElem?_cons_succ.{0} <| And.intro @List.getElem?_nil.{0} <| And.intro @List.length_cons.{0} <| And.intro @List.length_nil.{0} <| And.intro @List.length_set.{0} <| And.intro @List.set_cons_zero.{0} <| And.intro @List.set_cons_succ.{0} <| And.intro @List.take_succ_cons.{0} <| And.intro @List.take_zero.{0} <| And.intro @List.take_nil.{0} <| And.intro @List.drop_succ_cons.{0} <| And.intro @List.drop_zero.{0} <| And.intro @List.drop_nil.{0} <| And.intro @List.nil_append.{0} <| And.intro @List.cons_append.{0} <| And.intro @List.append_nil.{0} <| And.intro @Option.map_some.{0, 0} <| And.intro @Option.map_none.{0, 0} <| And.intro @Option.bind_some.{0, 0} <| And.intro @Option.some.injEq.{0} <| And.intro @Bool.not_true <| And.intro @Bool.not_false <| And.intro @Bool.and_true <| And.intro @Bool.true_and <| And.intro @Bool.or_true <| And.intro @Bool.true_or <| And.intro @Bool.or_false <| And.intro @Bool.false_or <| And.intro @Bool.false_and <| And.intro @Bool.and_false <| And.intro @Bool.not_not <| And.intro @decide_true <| @decide_false) := And.intro @cast_1 <| And.intro @List.getElem?_cons_zero.{0} <| And.intro @List.getElem?_cons_succ.{0} <| And.intro @List.getElem?_nil.{0} <| And.intro @List.length_cons.{0} <| And.intro @List.length_nil.{0} <| And.intro @List.length_set.{0} <| And.intro @List.set_cons_zero.{0} <| And.intro @List.set_cons_succ.{0} <| And.intro @List.take_succ_cons.{0} <| And.intro @List.take_zero.{0} <| And.intro @List.take_nil.{0} <| And.intro @List.drop_succ_cons.{0} <| And.intro @List.drop_zero.{0} <| And.intro @List.drop_nil.{0} <| And.intro @List.nil_append.{0} <| And.intro @List.cons_append.{0} <| And.intro @List.append_nil.{0} <| And.intro @Option.map_some.{0, 0} <| And.intro @Option.map_none.{0, 0} <| And.intro @Option.bind_some.{0, 0} <| And.intro @Option.some.injEq.{0} <| And.intro @Bool.not_true <| And.intro @Bool.not_false <| And.intro @Bool.and_true <| And.intro @Bool.true_and <| And.intro @Bool.or_true <| And.intro @Bool.true_or <| And.intro @Bool.or_false <| And.intro @Bool.false_or <| And.intro @Bool.false_and <| And.intro @Bool.and_false <| And.intro @Bool.not_not <| And.intro @decide_true <| @decide_false
theorem tmA_nil {n : Nat} : tmA n [] = [] := (rfl)
theorem tmA_cons {n : Nat} {v : AV} {l : List AV} : tmA n (v :: l) = (n, v) :: tmA (n + 1) l := (rfl)
theorem tmA_z {v : AV} {l : List AV} : tmA 0 (v :: l) = (0, v) :: tmA 1 l := (rfl)
theorem rsA_nil {n : Nat} : rsA n [] = [] := (rfl)
theorem rsA_cons {n : Nat} {v : Option Root} {l : List (Option Root)} : rsA n (v :: l) = (n, v) :: rsA (n + 1) l := (rfl)
theorem rsA_z {v : Option Root} {l : List (Option Root)} : rsA 0 (v :: l) = (0, v) :: rsA 1 l := (rfl)
theorem own_c {o : Bool} {s p : Nat} {x : Els} : Root.own ⟨o, s, p, x⟩ = o := (rfl)
theorem SN : type_of% (And.intro @evs_nil <| And.intro @evs_b <| And.intro @evs_i <| And.intro @evs_s <| And.intro @evs_d <| And.intro @evs_p <| And.intro @evs_a <| And.intro @evs_f <| And.intro @ecs_nil <| And.intro @ecs_b <| And.intro @ecs_i <| And.intro @ecs_s <| And.intro @ecs_d <| And.intro @len_map <| And.intro @List.map_cons.{0, 0} <| And.intro @List.map_nil.{0, 0} <| And.intro @List.nil_append.{0} <| And.intro @List.cons_append.{0} <| And.intro @List.append_nil.{0} <| And.intro @List.length_cons.{0} <| And.intro @List.length_nil.{0} <| And.intro @Bool.not_true <| And.intro @Bool.not_false <| And.intro @Nat.zero_add <| And.intro @tmA_nil <| And.intro @tmA_cons <| And.intro @rsA_nil <| And.intro @rsA_cons <| @own_c) := And.intro @evs_nil <| And.intro @evs_b <| And.intro @evs_i <| And.intro @evs_s <| And.intro @evs_d <| And.intro @evs_p <| And.intro @evs_a <| And.intro @evs_f <| And.intro @ecs_nil <| And.intro @ecs_b <| And.intro @ecs_i <| And.intro @ecs_s <| And.intro @ecs_d <| And.intro @len_map <| And.intro @List.map_cons.{0, 0} <| And.intro @List.map_nil.{0, 0} <| And.intro @List.nil_append.{0} <| And.intro @List.cons_append.{0} <| And.intro @List.append_nil.{0} <| And.intro @List.length_cons.{0} <| And.intro @List.length_nil.{0} <| And.intro @Bool.not_true <| And.intro @Bool.not_false <| And.intro @Nat.zero_add <| And.intro @tmA_nil <| And.intro @tmA_cons <| And.intro @rsA_nil <| And.intro @rsA_cons <| @own_c
theorem RN : type_of% (And.intro R0 <| And.intro R1 <| And.intro R2 <| And.intro R3 <| And.intro R4 <| And.intro R5 <| And.intro R6 <| And.intro R7 <| And.intro R8 <| And.intro R9 <| And.intro R10 <| And.intro R11 R12) := And.intro R0 <| And.intro R1 <| And.intro R2 <| And.intro R3 <| And.intro R4 <| And.intro R5 <| And.intro R6 <| And.intro R7 <| And.intro R8 <| And.intro R9 <| And.intro R10 <| And.intro R11 R12
end Go.Proofs.Ythccagmifnipdaa.V
end YthccagmifnipdaaWK
section YthccagmifnipdaaWO
namespace Go.Proofs.Ythccagmifnipdaa.V
open Go
set_option linter.unusedVariables false

/-- A cell that holds this. -/
def CellT (w : World) (av : AV) (v : Value) (G : Gh) : Prop := match av with
  | .deep p bo sz ys => HdR w (G []) p sz ys.length v ∧ TreeR w true sz G ys
  | .undef => False
  | av => CellR w (fun _ => none) av v
def CellsT (w : World) (avs : List AV) (cs : List Value) : Prop := avs.length = cs.length ∧ ∀ (c : Nat) av v, avs[c]? = some av → cs[c]? = some v → v.oneCell' = true ∧ ∃ G, CellT w av v G
theorem CellsT.append {w : World} {a b : List AV} {cs ds : List Value} (h : CellsT w a cs) (h' : CellsT w b ds) : CellsT w (a ++ b) (cs ++ ds) := by
  refine ⟨by simp [h.1, h'.1], fun c av v h1 h2 => ?_⟩
  by_cases hc : c < a.length
  · rw [List.getElem?_append_left hc] at h1
    rw [List.getElem?_append_left (by rw [← h.1]; exact hc)] at h2
    exact h.2 c av v h1 h2
  · rw [List.getElem?_append_right (by omega)] at h1
    rw [List.getElem?_append_right (by rw [← h.1]; omega), ← h.1] at h2
    exact h'.2 _ av v h1 h2
theorem CellT.cellR {w : World} {B : Gh} {av : AV} {v : Value} {G : Gh} (h : CellT w av v G) (hB : B [] = G []) : CellR w B av v := by
  cases av with
  | deep p bo sz ys => simp only [CellR, hB]; exact h.1
  | undef => exact h.elim
  | _ => first | exact h | exact (show False from h).elim

/-- A row of such elements. -/
theorem tree_of {w : World} {sz b o n : Nat} {xs : Els} {cs : Nat → List Value} (hn : xs.length = n) (hsz : ∀ (i : Nat) el, xs[i]? = some el → el.length = sz)
    (hc : ∀ (i : Nat) el, xs[i]? = some el → CellsT w el (cs i)) {cur : Array Value} (hb : Blk w b true cur) (hcur : ∀ i, i < n → ∀ (c : Nat) v, (cs i)[c]? = some v → cur[o + i * sz + c]? = some v) :
    ∃ G : Gh, G [] = some (b, o) ∧ TreeR w true sz G xs := by
  have hG : ∀ i c, ∃ G : Gh, ∀ av v, cellAt xs i c = some av → (cs i)[c]? = some v → v.oneCell' = true ∧ CellT w av v G := fun i c => by
    cases h1 : cellAt xs i c with
    | none => exact ⟨fun _ => none, fun av v h => by cases h⟩
    | some av =>
      cases h2 : (cs i)[c]? with
      | none => exact ⟨fun _ => none, fun av v _ h => by cases h⟩
      | some v =>
        obtain ⟨el, e1, e2⟩ := cellAt_some h1
        obtain ⟨h3, G, h4⟩ := (hc i el e1).2 c av v e2 h2
        refine ⟨G, fun av' v' e e' => ?_⟩
        injection e with e; injection e' with e'
        subst e; subst e'; exact ⟨h3, h4⟩
  let Gs : Nat → Nat → Gh := fun i c => Classical.choose (hG i c)
  have hGs : ∀ i c av v, cellAt xs i c = some av → (cs i)[c]? = some v → v.oneCell' = true ∧ CellT w av v (Gs i c) := fun i c => Classical.choose_spec (hG i c)
  have hval : ∀ i c av, cellAt xs i c = some av → ∃ v, (cs i)[c]? = some v ∧ i < n := fun i c av h => by
    obtain ⟨el, e1, e2⟩ := cellAt_some h
    have hl := (hc i el e1).1
    have hlt := (List.getElem?_eq_some_iff.1 e2).1
    exact ⟨_, List.getElem?_eq_getElem (by rw [← hl]; exact hlt), by have := (List.getElem?_eq_some_iff.1 e1).1; omega⟩
  let G : Gh := fun p => match p with | [] => some (b, o) | (i, c) :: q => Gs i c q
  refine ⟨G, rfl, TreeR.mk' ⟨hsz, ?_⟩ fun i c p bo sz' ys h => ?_⟩
  · show ∃ cur, Blk w b true cur ∧ _
    refine ⟨cur, hb, fun i c cell h => ?_⟩
    obtain ⟨v, h1, h2⟩ := hval i c cell h
    obtain ⟨h3, h4⟩ := hGs i c cell v h h1
    exact ⟨v, hcur i h2 c v h1, h3, h4.cellR rfl⟩
  · obtain ⟨v, h1, h2⟩ := hval i c _ h
    exact (hGs i c _ v h h1).2.2

def OpV (P : Program) (t : TypeId) {α : Type} (e : α → List AV) (Q : α → Prop) : Prop :=
  ∀ {H : Type} (enc : TypeId × Value → H) (W : World) (fuel : Nat) (cs : List Value) (x : DataW H × List MemPlace),
    DataW.trod enc P W 0 (fun _ => true) true fuel t cs = some x → ∃ a, CellsT W (e a) cs ∧ Q a

theorem cells_one {w : World} {av : AV} {v : Value} (h1 : v.oneCell' = true) {G : Gh} (h : CellT w av v G) : CellsT w [av] [v] :=
  ⟨rfl, fun c av' v' e1 e2 => by
    cases c with
    | zero => simp only [List.getElem?_cons_zero, Option.some.injEq] at e1 e2; subst e1; subst e2; exact ⟨h1, G, h⟩
    | succ c => simp at e1⟩

theorem opv_int {P : Program} {t : TypeId} {k : IntKind} (hu : P.underlying t = some (.int k)) : OpV P t (fun n : Int => [.i k n]) (fun n => (Lit.int k n).wf = true) := by
  intro H enc W fuel cs x h
  obtain ⟨n, rfl, _, hw⟩ := DataW.trod_int hu h
  exact ⟨n, cells_one rfl (G := fun _ => none) (by simp [CellT, CellR]), hw⟩
def I64 (n : Int) : Prop := -9223372036854775808 ≤ n ∧ n ≤ 9223372036854775807
theorem opv_i64 {P : Program} {t : TypeId} (hu : P.underlying t = some (.int .i64)) : OpV P t eI I64 := by
  intro H enc W fuel cs x h
  obtain ⟨n, hn, hw⟩ := opv_int hu enc W fuel cs x h
  refine ⟨n, hn, ?_⟩
  simp [Lit.wf, IntKind.min, IntKind.max, IntKind.bits, IntKind.signed] at hw
  unfold I64
  omega
theorem opv_u8 {P : Program} {t : TypeId} (hu : P.underlying t = some (.int .u8)) : OpV P t e8 (fun n => (Lit.int .u8 n).wf = true) := opv_int hu
theorem opv_bool {P : Program} {t : TypeId} (hu : P.underlying t = some .bool) : OpV P t eB (fun _ => True) := by
  intro H enc W fuel cs x h
  obtain ⟨n, rfl, _⟩ := DataW.trod_bool hu h
  exact ⟨n, cells_one rfl (G := fun _ => none) (by simp [CellT, CellR]), trivial⟩
theorem opv_string {P : Program} {t : TypeId} (hu : P.underlying t = some .string) : OpV P t eS (fun s => s.size ≤ maxLen) := by
  intro H enc W fuel cs x h
  obtain ⟨s, rfl, _, hs⟩ := DataW.trod_string hu h
  exact ⟨s, cells_one rfl (G := fun _ => none) (by simp [CellT, CellR]), hs⟩

theorem forall_list {α : Type} {n : Nat} {p : Nat → α → Prop} (h : ∀ i, i < n → ∃ x, p i x) : ∃ l : List α, l.length = n ∧ ∀ (i : Nat) x, l[i]? = some x → p i x := by
  induction n with
  | zero => exact ⟨[], rfl, fun i x hx => by simp at hx⟩
  | succ n ih =>
    obtain ⟨l, hl, hp⟩ := ih (fun i hi => h i (Nat.lt_succ_of_lt hi))
    obtain ⟨x, hx⟩ := h n (Nat.lt_succ_self n)
    refine ⟨l ++ [x], by simp [hl], fun i y hy => ?_⟩
    rcases Nat.lt_or_ge i n with hi | hi
    · rw [List.getElem?_append_left (by omega)] at hy
      exact hp i y hy
    · rw [List.getElem?_append_right (by omega)] at hy
      have hi' : i = n := by
        rcases Nat.lt_or_ge n i with h1 | h1
        · rw [List.getElem?_eq_none (by simp; omega)] at hy
          cases hy
        · omega
      subst hi'
      rw [hl, Nat.sub_self] at hy
      simp at hy
      subst hy
      exact hx

theorem opv_slice {P : Program} {t e : TypeId} {α : Type} {en : α → List AV} {Q : α → Prop} {sz : Nat} {bo : Bool} (hu : P.underlying t = some (.slice e)) (hc : P.cellsOf e = sz) (hz : 0 < sz) (hl : ∀ a, (en a).length = sz) (he : OpV P e en Q) :
    OpV P t (eL sz bo en) (fun xs => xs.length ≤ maxLen ∧ ∀ x ∈ xs, Q x) := by
  intro H enc W fuel cs x h
  rcases Go.Deep.open_slice hu h with ⟨rfl, _⟩ | ⟨a, len, cap, m, n, D, Pl, rfl, _, hlc, hm, hmm, _, hx⟩
  · refine ⟨[], cells_one rfl (G := fun _ => none) ?_, Nat.zero_le _, fun x hx => by cases hx⟩
    exact ⟨⟨rfl, none, rfl⟩, TreeR.mk' ⟨fun i el he => by simp at he, rfl⟩ (fun i c p bo sz' zs hc => by simp [cellAt] at hc)⟩
  · have hmm' : m = cap := by simpa using hmm
    subst hmm'
    rw [hc] at hx
    have hx' : ∀ i, i < m → ∃ cs', W.cells? 0 (a.add (i * sz)) sz = some cs' ∧ ∃ y, CellsT W (en y) cs' ∧ Q y := fun i hi => by
      obtain ⟨cs', h1, h2⟩ := hx i hi
      obtain ⟨y, h3, h4⟩ := he enc W n cs' _ h2
      exact ⟨cs', h1, y, h3, h4⟩
    let cs : Nat → List Value := fun i => if h : i < m then Classical.choose (hx' i h) else []
    have hcs : ∀ i, i < m → W.cells? 0 (a.add (i * sz)) sz = some (cs i) ∧ ∃ y, CellsT W (en y) (cs i) ∧ Q y := fun i h => by
      have := Classical.choose_spec (hx' i h)
      simp only [cs, dif_pos h]; exact this
    obtain ⟨l, hll, hp⟩ := forall_list (n := len) (p := fun i (y : α) => CellsT W (en y) (cs i) ∧ Q y) (fun i hi => (hcs i (by omega)).2)
    have hml : len ≤ maxLen := Nat.le_trans hlc hm
    refine ⟨l, ?_, by omega, fun x hx => ?_⟩
    · rcases Nat.eq_zero_or_pos m with h0 | h0
      · subst h0
        have : l = [] := List.length_eq_zero_iff.1 (by omega)
        subst this
        have : len = 0 := by omega
        subst this
        refine cells_one rfl (G := fun _ => none) ?_
        exact ⟨⟨rfl, some a, rfl⟩, TreeR.mk' ⟨fun i el he => by simp at he, rfl⟩ (fun i c p bo sz' zs hc => by simp [cellAt] at hc)⟩
      · -- the block
        have at' : ∀ i, i < m → ∀ c, c < sz → W.cell? ((a.add (i * sz)).add c) = (cs i)[c]? ∧ c < (cs i).length := fun i hi c hcz => by
          obtain ⟨_, h2, h3⟩ := World.cells?_some (hcs i hi).1
          exact ⟨h3 c hcz, by omega⟩
        obtain ⟨v0, hv0⟩ : ∃ v, W.cell? a = some v := by
          have h := at' 0 h0 0 hz
          have e0 : (a.add (0 * sz)).add 0 = a := by simp [Addr.add]
          rw [e0, List.getElem?_eq_getElem h.2] at h
          exact ⟨_, h.1⟩
        obtain ⟨b, o, spot⟩ := a
        have hsp : spot = none ∧ ∃ cur e fr, W.heap[b]? = some (.cells cur e fr) := by
          unfold World.cell? at hv0
          split at hv0
          · rename_i c e fr hh
            split at hv0
            · cases hv0
            · rename_i hs
              refine ⟨by cases spot with | none => rfl | some _ => simp at hs, c, e, fr, hh⟩
          · cases hv0
        obtain ⟨rfl, cur, ty, fr, hW⟩ := hsp
        have cell : ∀ k v, W.cell? ⟨b, k, none⟩ = some v → cur[k]? = some v := fun k v h => by
          unfold World.cell? at h
          simp only [hW] at h
          simpa using h
        have hcur : ∀ i, i < m → ∀ (c : Nat) v, (cs i)[c]? = some v → cur[o + i * sz + c]? = some v := fun i hi c v h => by
          have hcl : c < sz := by
            obtain ⟨_, h2, _⟩ := World.cells?_some (hcs i hi).1
            have := (List.getElem?_eq_some_iff.1 h).1
            omega
          have h1 := (at' i hi c hcl).1
          rw [h, Go.Deep.add_add] at h1
          refine cell _ v ?_
          rw [← h1]
          congr 1
          unfold Addr.add
          split
          · rename_i h9; rw [show o + i * sz + c = o by omega]
          · simp only [Addr.mk.injEq, and_true, true_and]; omega
        have hbig : Big W b (o + m * sz) := by
          refine ⟨cur, ty, fr, hW, ?_⟩
          obtain ⟨k, rfl⟩ : ∃ k, m = k + 1 := ⟨m - 1, by omega⟩
          have h1 := at' k (by omega) (sz - 1) (by omega)
          have h2 := hcur k (by omega) (sz - 1) _ (List.getElem?_eq_getElem h1.2)
          have h3 := (Array.getElem?_eq_some_iff.1 h2).1
          rw [Nat.succ_mul]; omega
        have hsz : ∀ (i : Nat) el, (l.map en)[i]? = some el → el.length = sz := fun i el h => by
          rw [List.getElem?_map] at h
          cases h2 : l[i]? with
          | none => rw [h2] at h; cases h
          | some y => rw [h2] at h; simp only [Option.map_some, Option.some.injEq] at h; rw [← h]; exact hl y
        obtain ⟨G, hG, hT⟩ := tree_of (w := W) (sz := sz) (b := b) (o := o) (n := len) (xs := l.map en) (cs := cs) (by simp [hll]) hsz (fun i el h => by
          rw [List.getElem?_map] at h
          cases h2 : l[i]? with
          | none => rw [h2] at h; cases h
          | some y => rw [h2] at h; simp only [Option.map_some, Option.some.injEq] at h; rw [← h]; exact (hp i y h2).1) (cur := cur) ⟨ty, fr, hW, fun h => by cases h⟩ (fun i hi => hcur i (by omega))
        refine cells_one rfl (G := G) ⟨?_, hT⟩
        rw [hG]
        exact ⟨m, by rw [List.length_map, hll], by rw [List.length_map, hll]; exact hlc, hbig⟩
    · obtain ⟨i, hi⟩ := List.getElem?_of_mem hx
      exact (hp i x hi).2

/-- The fields of a struct from cell o on. -/
def OpVs (P : Program) (fs : List Field) (o n : Nat) {α : Type} (e : α → List AV) (Q : α → Prop) : Prop :=
  ∀ {H : Type} (enc : TypeId × Value → H) (W : World) (fuel : Nat) (cs : List Value), cs.length = n →
    (∀ (i : Nat) (f : Field), fs[i]? = some f → ∃ y, DataW.trod enc P W 0 (fun _ => true) true fuel f.type ((cs.drop (f.offset - o)).take (P.cellsOf f.type)) = some y) → ∃ a, CellsT W (e a) cs ∧ Q a
theorem opvs_one {P : Program} {f : Field} {o n : Nat} {α : Type} {e : α → List AV} {Q : α → Prop} (ho : f.offset = o) (hc : P.cellsOf f.type = n) (h : OpV P f.type e Q) : OpVs P [f] o n e Q := by
  intro H enc W fuel cs hl hf
  obtain ⟨y, hy⟩ := hf 0 f rfl
  rw [ho, Nat.sub_self, List.drop_zero, hc, List.take_of_length_le (by omega)] at hy
  exact h enc W fuel cs y hy
theorem opvs_cons {P : Program} {f : Field} {fs : List Field} {o n k : Nat} {α β : Type} {e : α → List AV} {Q : α → Prop} {e' : β → List AV} {Q' : β → Prop} (ho : f.offset = o) (hc : P.cellsOf f.type = n) (h : OpV P f.type e Q)
    (hs : fs.all (fun g => decide (o + n ≤ g.offset)) = true) (h' : OpVs P fs (o + n) k e' Q') : OpVs P (f :: fs) o (n + k) (fun x : α × β => e x.1 ++ e' x.2) (fun x => Q x.1 ∧ Q' x.2) := by
  intro H enc W fuel cs hl hf
  obtain ⟨y, hy⟩ := hf 0 f rfl
  rw [ho, Nat.sub_self, List.drop_zero, hc] at hy
  obtain ⟨a, ha, hq⟩ := h enc W fuel _ y hy
  obtain ⟨b, hb, hq'⟩ := h' enc W fuel (cs.drop n) (by rw [List.length_drop]; omega) (fun i g hg => by
    obtain ⟨z, hz⟩ := hf (i + 1) g hg
    have hle : o + n ≤ g.offset := of_decide_eq_true (List.all_eq_true.1 hs g (List.mem_of_getElem? hg))
    refine ⟨z, ?_⟩
    rw [List.drop_drop, show n + (g.offset - (o + n)) = g.offset - o by omega]
    exact hz)
  refine ⟨(a, b), ?_, hq, hq'⟩
  have := ha.append hb
  rwa [List.take_append_drop] at this
theorem opv_struct {P : Program} {t : TypeId} {fs : Array Field} {n : Nat} {α β : Type} {e : α → List AV} {Q : α → Prop} (g : α → β) (f : β → α) {e' : β → List AV} (hg : ∀ x, f (g x) = x) (he : ∀ x, e' x = e (f x)) (hu : P.underlying t = some (.struct fs)) (hc : P.cellsOf t = n)
    (h : OpVs P fs.toList 0 n e Q) : OpV P t e' (fun x => Q (f x)) := by
  intro H enc W fuel cs x hx
  obtain ⟨xs, k, _, _, hlen, hsz, hfs⟩ := DataW.trod_struct hu hx
  obtain ⟨a, ha, hq⟩ := h enc W k cs (by rw [hlen, hc]) (fun i fd hi => by
    have hi' : fs[i]? = some fd := by simpa using hi
    have hlt : i < xs.length := by
      rw [hsz]
      rcases Nat.lt_or_ge i fs.size with h3 | h3
      · exact h3
      · rw [Array.getElem?_eq_none h3] at hi'
        cases hi'
    have := hfs i fd hi'
    rw [List.getElem?_eq_getElem hlt] at this
    exact ⟨_, by rw [Nat.sub_zero]; exact this⟩)
  refine ⟨g a, ?_, ?_⟩
  · rw [he, hg]; exact ha
  · show Q (f (g a)); rw [hg]; exact hq

/-! ### Arguments -/
/-- What is handed over, and that nothing of it may be written. -/
def ArgV (w : World) (av : AV) (v : Value) : Prop := (∃ gs, HV w av v gs) ∧ (rtsVs [av]).all (fun R => !R.own) = true
theorem hc_of {w : World} {av : AV} {v : Value} {G : Gh} (h : CellT w av v G) (hb : ∀ p bo sz ys, av = .deep p bo sz ys → bo = true) : ∃ gs, HC w av v gs := by
  unfold CellT at h
  split at h
  · rename_i p bo sz ys
    obtain rfl := hb _ _ _ _ rfl
    exact ⟨[G], G, rfl, h.1, h.2⟩
  · exact h.elim
  · rename_i h1 h2
    refine ⟨[], ?_⟩
    unfold HC
    split
    · exact absurd rfl (h1 _ _ _ _)
    · exact absurd rfl h2
    · exact ⟨rfl, h⟩
theorem hcs_of {w : World} : ∀ {avs : List AV} {cs : List Value}, CellsT w avs cs → (∀ av ∈ avs, ∀ p bo sz ys, av = .deep p bo sz ys → bo = true) → ∃ gs, HCs w avs cs gs
  | [], cs, h, _ => by
    have : cs = [] := List.length_eq_zero_iff.1 h.1.symm
    subst this
    exact ⟨[], rfl, rfl⟩
  | av :: avs, cs, h, hb => by
    cases cs with
    | nil => simp [CellsT] at h
    | cons v cs =>
      obtain ⟨_, G, hG⟩ := h.2 0 av v rfl rfl
      obtain ⟨g1, h1⟩ := hc_of hG (hb av (List.mem_cons_self ..))
      obtain ⟨g2, h2⟩ := hcs_of (avs := avs) (cs := cs) ⟨by have := h.1; simpa using this, fun c a u e1 e2 => h.2 (c + 1) a u e1 e2⟩ (fun a ha => hb a (List.mem_cons_of_mem _ ha))
      exact ⟨g1 ++ g2, v, cs, g1, g2, rfl, rfl, h1, h2⟩

theorem argv_slice {P : Program} {t : TypeId} {α : Type} {en : α → List AV} {sz : Nat} {Q : List α → Prop} (h : OpV P t (eL sz true en) Q) {H : Type} {enc : TypeId × Value → H} {W : World} {v : Value} {x : DataW H} {ps : List MemPlace} {e : TypeId} (hu : P.underlying t = some (.slice e)) {r : Reach} {b0 : Nat}
    (hv : Value.okWide P W r b0 t v) (hf : DataW.Trod enc P W 0 (fun _ => true) true t v x ps) : ∃ l : List α, (∃ gs, HV W (.deep false true sz (l.map en)) v gs) ∧ Q l := by
  obtain ⟨a, len, cap, rfl⟩ := Go.WideShapes.okWide_slice hu hv
  obtain ⟨fuel, hf⟩ := hf
  obtain ⟨l, hC, hq⟩ := h enc W fuel _ _ hf
  obtain ⟨_, G, hG⟩ := hC.2 0 _ _ rfl rfl
  exact ⟨l, hc_of hG (fun _ _ _ _ e => by injection e with _ e; exact e.symm), hq⟩
theorem argv_int {P : Program} {t : TypeId} {H : Type} {enc : TypeId × Value → H} {W : World} {v : Value} {x : DataW H} {ps : List MemPlace} (hu : P.underlying t = some (.int .i64)) {r : Reach} {b0 : Nat}
    (hv : Value.okWide P W r b0 t v) (hf : DataW.Trod enc P W 0 (fun _ => true) true t v x ps) : ∃ n : Int, (∃ gs, HV W (.i .i64 n) v gs) ∧ I64 n := by
  obtain ⟨n, rfl⟩ := Go.WideShapes.okWide_int hu hv
  obtain ⟨fuel, hf⟩ := hf
  obtain ⟨n', hC, hq⟩ := opv_i64 hu enc W fuel _ _ hf
  obtain ⟨_, G, hG⟩ := hC.2 0 _ _ rfl rfl
  refine ⟨n', hc_of hG (fun _ _ _ _ e => by cases e), hq⟩
theorem argv_struct {P : Program} {t : TypeId} {fs : Array Field} {α : Type} {e : α → List AV} {Q : α → Prop} (hu : P.underlying t = some (.struct fs)) (h : OpV P t e Q) (hb : ∀ a, ∀ av ∈ e a, ∀ p bo sz ys, av = .deep p bo sz ys → bo = true) {H : Type} {enc : TypeId × Value → H} {W : World} {r : Reach} {b0 : Nat} {v : Value}
    {x : DataW H} {ps : List MemPlace} (hv : Value.okWide P W r b0 t v) (hf : DataW.Trod enc P W 0 (fun _ => true) true t v x ps) : ∃ a : α, (∃ gs, HV W (.agg (e a)) v gs) ∧ Q a := by
  obtain ⟨cs, rfl, _⟩ := Go.WideShapes.okWide_struct hu hv
  obtain ⟨fuel, hf⟩ := hf
  obtain ⟨a, hC, hq⟩ := h enc W fuel _ _ hf
  obtain ⟨gs, hg⟩ := hcs_of hC (hb a)
  exact ⟨a, ⟨gs, cs, rfl, by simpa [Value.cells] using hg⟩, hq⟩

theorem hvs_nil {w : World} : HVs w [] [] [] := ⟨rfl, rfl⟩
theorem hvs_cons {w : World} {av : AV} {v : Value} {g : List Gh} {avs : List AV} {vs : List Value} {gs : List Gh} (h : HV w av v g) (h' : HVs w avs vs gs) : HVs w (av :: avs) (v :: vs) (g ++ gs) := ⟨v, vs, g, gs, rfl, rfl, h, h'⟩

/-- A call of a law, as the evaluator tells it. -/
theorem law_calls {P : Program} {f : Nat} {ds : List AV} {r : Bool} {bs : List (Option Els)} (h : Ctr P f ds ([.b r], bs)) (hro : (rtsVs ds).all (fun R => !R.own) = true) {W : World} {args : List Value} {gs : List Gh} (hv : HVs W ds args gs) :
    Calls P f args.toArray W fun e w' => e = .returned (.bool r) ∧ Go.RowKit.Below W.heap.size W w' := by
  have hno : ∀ k ρ b, ¬ KOf (rtsVs ds) gs false k ρ b := fun k ρ b ⟨R, G, e1, e2, e3⟩ => by
    have := List.all_eq_true.1 hro R (List.mem_of_getElem? e1)
    obtain ⟨s, ys, o, h1, h2⟩ := e3
    have hr : R.own = false := by simpa using this
    rw [hr] at h1
    have := arrAt_ro ρ h1
    cases this
  have hrg := (enterVs_ok hv 0).1
  refine (h W (fun b => b < W.heap.size) args gs (fun b hb => hb) hv (fun k ρ b ⟨R, G, e1, e2, e3⟩ => ?_) (fun k ρ b hk => absurd hk (hno k ρ b)) (fun k ρ k' ρ' b hk => absurd hk (hno k ρ b))).mono ?_
  · obtain ⟨s, ys, o, h1, h2⟩ := e3
    rw [enterVs_rts ds 0] at hrg
    obtain ⟨G', e2', ht⟩ := hrg.2 k R e1
    rw [e2] at e2'; injection e2' with e2'; subst e2'
    have h3 := (ht ρ s _ ys h1).2
    have h4 : (G.from' ρ) [] = some (b, o) := by simpa [Gh.from'] using h2
    rw [h4] at h3
    obtain ⟨cur, ⟨ty, fr, h5, _⟩, _⟩ := h3
    rcases Nat.lt_or_ge b W.heap.size with h | h
    · exact h
    · rw [Array.getElem?_eq_none h] at h5; cases h5
  · rintro e w' ⟨v, vs, gs', gb, rfl, hp⟩
    have hres := hp.res
    obtain ⟨v1, vs1, g1, g2, e1, e2, h1, h2⟩ := hres
    obtain ⟨e3, e4⟩ := h2
    subst e3
    have hv1 : v1 = .bool r := by
      have : HC w' (.b r) v1 g1 := h1
      have := this.2
      simpa [CellR] using this
    refine ⟨by rw [hp.val, e1, hv1]; rfl, hp.os, hp.tape, hp.output, hp.size, fun k hk => hp.block k hk fun k' ρ hk' => hno _ _ _ hk'⟩
end Go.Proofs.Ythccagmifnipdaa.V
end YthccagmifnipdaaWO
section YthccagmifnipdaaL0
namespace Go.Proofs.Ythccagmifnipdaa.P
open Go Go.RowKit Go.Proofs.Ythccagmifnipdaa.V
set_option linter.unusedVariables false
set_option linter.unusedSimpArgs false
theorem ite_b {α : Type} {c : Bool} {a b : Option α} {r : α} (h : (if c = true then a else b) = some r) : c = true ∧ a = some r ∨ c = false ∧ b = some r := by cases c <;> simp_all
theorem ite_nn {α : Type} {c : Prop} [Decidable c] {a : Option α} {r : α} (h : (if c then none else a) = some r) : ¬c ∧ a = some r := by
  by_cases hc : c
  · rw [if_pos hc] at h; cases h
  · rw [if_neg hc] at h; exact ⟨hc, h⟩
def rd (xs : List Int) (i : Int) : Int := xs.getD i.toNat 0
def rdB (xs : List Bool) (i : Int) : Bool := xs.getD i.toNat false
def rdS (xs : List ByteArray) (i : Int) : ByteArray := xs.getD i.toNat ⟨#[]⟩
def rdL {α : Type} (xs : List (List α)) (i : Int) : List α := xs.getD i.toNat []
theorem W_loopc {E : Env} {L : C} {m : Nat} {live : List Nat} {c : C} {st : St} {Q : Pst} (h : L = .loop m live c) : W E L st Q = W E c (canon m live st) (Ql E L Q) := by subst h; exact W_loop
theorem gI  {l : List Int} {j : Int} (h1 : 0 ≤ j) (h2 : j < (l.length : Int)) : (l.map eI)[0 + j.toNat]? = some (eI (rd l j)) := get_e h1 h2
theorem gI_0 {l : List Int} (h2 : (0 : Int) < (l.length : Int)) : (l.map eI)[0]? = some (eI (rd l 0)) := by have := get_e (e := eI) (z := 0) (j := 0) (l := l) (by omega) h2; exact this
theorem gI_1 {l : List Int} (h2 : (1 : Int) < (l.length : Int)) : (l.map eI)[1]? = some (eI (rd l 1)) := by have := get_e (e := eI) (z := 0) (j := 1) (l := l) (by omega) h2; exact this
theorem gI_2 {l : List Int} (h2 : (2 : Int) < (l.length : Int)) : (l.map eI)[2]? = some (eI (rd l 2)) := by have := get_e (e := eI) (z := 0) (j := 2) (l := l) (by omega) h2; exact this
theorem g8  {l : List Int} {j : Int} (h1 : 0 ≤ j) (h2 : j < (l.length : Int)) : (l.map e8)[0 + j.toNat]? = some (e8 (rd l j)) := get_e h1 h2
theorem g8_0 {l : List Int} (h2 : (0 : Int) < (l.length : Int)) : (l.map e8)[0]? = some (e8 (rd l 0)) := by have := get_e (e := e8) (z := 0) (j := 0) (l := l) (by omega) h2; exact this
theorem g8_1 {l : List Int} (h2 : (1 : Int) < (l.length : Int)) : (l.map e8)[1]? = some (e8 (rd l 1)) := by have := get_e (e := e8) (z := 0) (j := 1) (l := l) (by omega) h2; exact this
theorem g8_2 {l : List Int} (h2 : (2 : Int) < (l.length : Int)) : (l.map e8)[2]? = some (e8 (rd l 2)) := by have := get_e (e := e8) (z := 0) (j := 2) (l := l) (by omega) h2; exact this
theorem gB  {l : List Bool} {j : Int} (h1 : 0 ≤ j) (h2 : j < (l.length : Int)) : (l.map eB)[0 + j.toNat]? = some (eB (rdB l j)) := get_e h1 h2
theorem gB_0 {l : List Bool} (h2 : (0 : Int) < (l.length : Int)) : (l.map eB)[0]? = some (eB (rdB l 0)) := by have := get_e (e := eB) (z := false) (j := 0) (l := l) (by omega) h2; exact this
theorem gB_1 {l : List Bool} (h2 : (1 : Int) < (l.length : Int)) : (l.map eB)[1]? = some (eB (rdB l 1)) := by have := get_e (e := eB) (z := false) (j := 1) (l := l) (by omega) h2; exact this
theorem gB_2 {l : List Bool} (h2 : (2 : Int) < (l.length : Int)) : (l.map eB)[2]? = some (eB (rdB l 2)) := by have := get_e (e := eB) (z := false) (j := 2) (l := l) (by omega) h2; exact this
theorem gS  {l : List ByteArray} {j : Int} (h1 : 0 ≤ j) (h2 : j < (l.length : Int)) : (l.map eS)[0 + j.toNat]? = some (eS (rdS l j)) := get_e h1 h2
theorem gS_0 {l : List ByteArray} (h2 : (0 : Int) < (l.length : Int)) : (l.map eS)[0]? = some (eS (rdS l 0)) := by have := get_e (e := eS) (z := ⟨#[]⟩) (j := 0) (l := l) (by omega) h2; exact this
theorem gS_1 {l : List ByteArray} (h2 : (1 : Int) < (l.length : Int)) : (l.map eS)[1]? = some (eS (rdS l 1)) := by have := get_e (e := eS) (z := ⟨#[]⟩) (j := 1) (l := l) (by omega) h2; exact this
theorem gS_2 {l : List ByteArray} (h2 : (2 : Int) < (l.length : Int)) : (l.map eS)[2]? = some (eS (rdS l 2)) := by have := get_e (e := eS) (z := ⟨#[]⟩) (j := 2) (l := l) (by omega) h2; exact this
theorem gL  {α : Type} {s : Nat} {b : Bool} {e : α → List AV} {l : List (List α)} {j : Int} (h1 : 0 ≤ j) (h2 : j < (l.length : Int)) : (l.map (eL s b e))[0 + j.toNat]? = some ((eL s b e) (rdL l j)) := get_e h1 h2
theorem gL_0 {α : Type} {s : Nat} {b : Bool} {e : α → List AV} {l : List (List α)} (h2 : (0 : Int) < (l.length : Int)) : (l.map (eL s b e))[0]? = some ((eL s b e) (rdL l 0)) := by have := get_e (e := (eL s b e)) (z := []) (j := 0) (l := l) (by omega) h2; exact this
theorem gL_1 {α : Type} {s : Nat} {b : Bool} {e : α → List AV} {l : List (List α)} (h2 : (1 : Int) < (l.length : Int)) : (l.map (eL s b e))[1]? = some ((eL s b e) (rdL l 1)) := by have := get_e (e := (eL s b e)) (z := []) (j := 1) (l := l) (by omega) h2; exact this
theorem gL_2 {α : Type} {s : Nat} {b : Bool} {e : α → List AV} {l : List (List α)} (h2 : (2 : Int) < (l.length : Int)) : (l.map (eL s b e))[2]? = some ((eL s b e) (rdL l 2)) := by have := get_e (e := (eL s b e)) (z := []) (j := 2) (l := l) (by omega) h2; exact this
theorem cI_0 {x : Int} : (eI x)[0]? = some (.i .i64 x) := (rfl)
theorem lI {x : Int} : (eI x).length = 1 := (rfl)
theorem c8_0 {x : Int} : (e8 x)[0]? = some (.i .u8 x) := (rfl)
theorem l8 {x : Int} : (e8 x).length = 1 := (rfl)
theorem cB_0 {x : Bool} : (eB x)[0]? = some (.b x) := (rfl)
theorem lB {x : Bool} : (eB x).length = 1 := (rfl)
theorem cS_0 {x : ByteArray} : (eS x)[0]? = some (.s x) := (rfl)
theorem lS {x : ByteArray} : (eS x).length = 1 := (rfl)
theorem cL_0 {α : Type} {s : Nat} {b : Bool} {e : α → List AV} {x : List α} : ((eL s b e) x)[0]? = some (.deep false b s (x.map e)) := (rfl)
theorem lL {α : Type} {s : Nat} {b : Bool} {e : α → List AV} {x : List α} : ((eL s b e) x).length = 1 := (rfl)
theorem sI {l : List Int} {j : Int} {v : Int} (h1 : 0 ≤ j) (h2 : j < (l.length : Int)) : setEl (l.map eI) (0 + j.toNat) 0 [.i .i64 v] = (l.set j.toNat v).map eI := set_e h1 h2 (getD_at (z := 0) h1 h2) rfl
theorem sI_0 {l : List Int} {v : Int} (h2 : (0 : Int) < (l.length : Int)) : setEl (l.map eI) 0 0 [.i .i64 v] = (l.set (0 : Int).toNat v).map eI := by have := set_e (e := eI) (c := 0) (vs := [.i .i64 v]) (Int.le_refl 0) h2 (getD_at (z := 0) (Int.le_refl 0) h2) (y := v) rfl; exact this
theorem s8 {l : List Int} {j : Int} {v : Int} (h1 : 0 ≤ j) (h2 : j < (l.length : Int)) : setEl (l.map e8) (0 + j.toNat) 0 [.i .u8 v] = (l.set j.toNat v).map e8 := set_e h1 h2 (getD_at (z := 0) h1 h2) rfl
theorem s8_0 {l : List Int} {v : Int} (h2 : (0 : Int) < (l.length : Int)) : setEl (l.map e8) 0 0 [.i .u8 v] = (l.set (0 : Int).toNat v).map e8 := by have := set_e (e := e8) (c := 0) (vs := [.i .u8 v]) (Int.le_refl 0) h2 (getD_at (z := 0) (Int.le_refl 0) h2) (y := v) rfl; exact this
theorem sB {l : List Bool} {j : Int} {v : Bool} (h1 : 0 ≤ j) (h2 : j < (l.length : Int)) : setEl (l.map eB) (0 + j.toNat) 0 [.b v] = (l.set j.toNat v).map eB := set_e h1 h2 (getD_at (z := false) h1 h2) rfl
theorem sB_0 {l : List Bool} {v : Bool} (h2 : (0 : Int) < (l.length : Int)) : setEl (l.map eB) 0 0 [.b v] = (l.set (0 : Int).toNat v).map eB := by have := set_e (e := eB) (c := 0) (vs := [.b v]) (Int.le_refl 0) h2 (getD_at (z := false) (Int.le_refl 0) h2) (y := v) rfl; exact this
theorem sS {l : List ByteArray} {j : Int} {v : ByteArray} (h1 : 0 ≤ j) (h2 : j < (l.length : Int)) : setEl (l.map eS) (0 + j.toNat) 0 [.s v] = (l.set j.toNat v).map eS := set_e h1 h2 (getD_at (z := ⟨#[]⟩) h1 h2) rfl
theorem sS_0 {l : List ByteArray} {v : ByteArray} (h2 : (0 : Int) < (l.length : Int)) : setEl (l.map eS) 0 0 [.s v] = (l.set (0 : Int).toNat v).map eS := by have := set_e (e := eS) (c := 0) (vs := [.s v]) (Int.le_refl 0) h2 (getD_at (z := ⟨#[]⟩) (Int.le_refl 0) h2) (y := v) rfl; exact this
theorem pL {α : Type} {s : Nat} {b : Bool} {e : α → List AV} {l : List (List α)} {j : Int} (h1 : 0 ≤ j) (h2 : j < (l.length : Int)) : cellAt (l.map (eL s b e)) (0 + j.toNat) 0 = some (.deep false b s ((rdL l j).map e)) := cell_e (gL h1 h2)
theorem pL_0 {α : Type} {s : Nat} {b : Bool} {e : α → List AV} {l : List (List α)} (h2 : (0 : Int) < (l.length : Int)) : cellAt (l.map (eL s b e)) 0 0 = some (.deep false b s ((rdL l 0).map e)) := cell_e (gL_0 h2)
theorem sL {α : Type} {s : Nat} {b : Bool} {e : α → List AV} {l : List (List α)} {v : List α} {j : Int} (h1 : 0 ≤ j) (h2 : j < (l.length : Int)) : setEl (l.map (eL s b e)) (0 + j.toNat) 0 [.deep false b s (v.map e)] = (l.set j.toNat v).map (eL s b e) := set_e h1 h2 (getD_at (z := []) h1 h2) rfl
theorem sL_0 {α : Type} {s : Nat} {b : Bool} {e : α → List AV} {l : List (List α)} {v : List α} (h2 : (0 : Int) < (l.length : Int)) : setEl (l.map (eL s b e)) 0 0 [.deep false b s (v.map e)] = (l.set (0 : Int).toNat v).map (eL s b e) := by have := set_e (e := eL s b e) (c := 0) (vs := [.deep false b s (v.map e)]) (Int.le_refl 0) h2 (getD_at (z := []) (Int.le_refl 0) h2) (y := v) rfl; exact this
/-! #### struct type 33 -/
structure S33 where
  f0 : Int
  f1 : Int
def z33 : S33 := ⟨(0 : Int), (0 : Int)⟩
def e33 (x : S33) : List AV := [.i .i64 x.f0, .i .i64 x.f1]
def rd_T33 (xs : List S33) (i : Int) : S33 := xs.getD i.toNat z33
theorem g33  {l : List S33} {j : Int} (h1 : 0 ≤ j) (h2 : j < (l.length : Int)) : (l.map e33)[0 + j.toNat]? = some (e33 (rd_T33 l j)) := get_e h1 h2
theorem g33_0 {l : List S33} (h2 : (0 : Int) < (l.length : Int)) : (l.map e33)[0]? = some (e33 (rd_T33 l 0)) := by have := get_e (e := e33) (z := z33) (j := 0) (l := l) (by omega) h2; exact this
theorem g33_1 {l : List S33} (h2 : (1 : Int) < (l.length : Int)) : (l.map e33)[1]? = some (e33 (rd_T33 l 1)) := by have := get_e (e := e33) (z := z33) (j := 1) (l := l) (by omega) h2; exact this
theorem g33_2 {l : List S33} (h2 : (2 : Int) < (l.length : Int)) : (l.map e33)[2]? = some (e33 (rd_T33 l 2)) := by have := get_e (e := e33) (z := z33) (j := 2) (l := l) (by omega) h2; exact this
theorem c33_0 {x : S33} : (e33 x)[0]? = some (.i .i64 x.f0) := (rfl)
theorem c33_1 {x : S33} : (e33 x)[1]? = some (.i .i64 x.f1) := (rfl)
theorem l33 {x : S33} : (e33 x).length = 2 := (rfl)
theorem w33 {x : S33} {r i pv : Nat} {q : Path} {rs : Rs} : lLoad (some 2) r q pv i 0 (some (e33 x)) rs = some (.agg [.i .i64 x.f0, .i .i64 x.f1], rs) := (rfl)
theorem s33_0 {l : List S33} {j : Int} {v0 : Int} (h1 : 0 ≤ j) (h2 : j < (l.length : Int)) : setEl (l.map e33) (0 + j.toNat) 0 [.i .i64 v0] = (l.set j.toNat (⟨v0, (rd_T33 l j).f1⟩ : S33)).map e33 := set_e h1 h2 (getD_at (z := z33) h1 h2) rfl
theorem s33_1 {l : List S33} {j : Int} {v1 : Int} (h1 : 0 ≤ j) (h2 : j < (l.length : Int)) : setEl (l.map e33) (0 + j.toNat) 1 [.i .i64 v1] = (l.set j.toNat (⟨(rd_T33 l j).f0, v1⟩ : S33)).map e33 := set_e h1 h2 (getD_at (z := z33) h1 h2) rfl
theorem s33 {l : List S33} {j : Int} {v0 : Int} {v1 : Int} (h1 : 0 ≤ j) (h2 : j < (l.length : Int)) : setEl (l.map e33) (0 + j.toNat) 0 [.i .i64 v0, .i .i64 v1] = (l.set j.toNat (⟨v0, v1⟩ : S33)).map e33 := set_e h1 h2 (getD_at (z := z33) h1 h2) rfl
theorem litX_33_1 {v0_0 : Int} {v0_1 : Int} : litX [[.i .i64 v0_0, .i .i64 v0_1]] = List.map e33 [(⟨v0_0, v0_1⟩ : S33)] := (rfl)
theorem litX_33_2 {v0_0 : Int} {v0_1 : Int} {v1_0 : Int} {v1_1 : Int} : litX [[.i .i64 v0_0, .i .i64 v0_1], [.i .i64 v1_0, .i .i64 v1_1]] = List.map e33 [(⟨v0_0, v0_1⟩ : S33), (⟨v1_0, v1_1⟩ : S33)] := (rfl)
theorem litX_33_3 {v0_0 : Int} {v0_1 : Int} {v1_0 : Int} {v1_1 : Int} {v2_0 : Int} {v2_1 : Int} : litX [[.i .i64 v0_0, .i .i64 v0_1], [.i .i64 v1_0, .i .i64 v1_1], [.i .i64 v2_0, .i .i64 v2_1]] = List.map e33 [(⟨v0_0, v0_1⟩ : S33), (⟨v1_0, v1_1⟩ : S33), (⟨v2_0, v2_1⟩ : S33)] := (rfl)
theorem m33 {n sz by' : Nat} {k : IntKind} {m : Int} {l : List (Nat × Option Root)} (h1 : 0 ≤ m) (h2 : m * by' ≤ 140737488355328) : fMks n sz by' [.i .i64 0, .i .i64 0] (.i k m) (rsL l) = some (.slc n [] 0 sz 0 (List.replicate m.toNat z33).length, rsL ((n, some ⟨true, sz, 0, (List.replicate m.toNat z33).map e33⟩) :: l)) := mks_t (e := e33) rfl h1 h2
theorem bor33 {k : Nat} {l : List S33} : borIn (k + 1) (l.map e33) = false := bor_map (fun _ => rfl) l
theorem dps33 {l : List S33} : anyDeeps (l.map e33) = false := dps_map (fun _ => rfl) l
set_option linter.defProp false
theorem TN0 : type_of% (And.intro @gI <| And.intro @gI_0 <| And.intro @gI_1 <| And.intro @gI_2 <| And.intro @g8 <| And.intro @g8_0 <| And.intro @g8_1 <| And.intro @g8_2 <| And.intro @gB <| And.intro @gB_0 <| And.intro @gB_1 <| And.intro @gB_2 <| And.intro @gS <| And.intro @gS_0 <| And.intro @gS_1 <| And.intro @gS_2 <| And.intro @gL <| And.intro @gL_0 <| And.intro @gL_1 <| And.intro @gL_2 <| And.intro @cI_0 <| And.intro @lI <| And.intro @c8_0 <| And.intro @l8 <| And.intro @cB_0 <| And.intro @lB <| And.intro @cS_0 <| And.intro @lS <| And.intro @cL_0 <| And.intro @lL <| And.intro @sI <| And.intro @sI_0 <| And.intro @s8 <| And.intro @s8_0 <| And.intro @sB <| And.intro @sB_0 <| And.intro @sS <| And.intro @sS_0 <| And.intro @pL <| And.intro @pL_0 <| And.intro @sL <| And.intro @sL_0 <| And.intro @g33 <| And.intro @g33_0 <| And.intro @g33_1 <| And.intro @g33_2 <| And.intro @c33_0 <| And.intro @c33_1 <| And.intro @l33 <| And.intro @w33 <| And.intro @s33_0 <| And.intro @s33_1 <| And.intro @s33 <| And.intro @bor33 <| @dps33) := And.intro @gI <| And.intro @gI_0 <| And.intro @gI_1 <| And.intro @gI_2 <| And.intro @g8 <| And.intro @g8_0 <| And.intro @g8_1 <| And.intro @g8_2 <| And.intro @gB <| And.intro @gB_0 <| And.intro @gB_1 <| And.intro @gB_2 <| And.intro @gS <| And.intro @gS_0 <| And.intro @gS_1 <| And.intro @gS_2 <| And.intro @gL <| And.intro @gL_0 <| And.intro @gL_1 <| And.intro @gL_2 <| And.intro @cI_0 <| And.intro @lI <| And.intro @c8_0 <| And.intro @l8 <| And.intro @cB_0 <| And.intro @lB <| And.intro @cS_0 <| And.intro @lS <| And.intro @cL_0 <| And.intro @lL <| And.intro @sI <| And.intro @sI_0 <| And.intro @s8 <| And.intro @s8_0 <| And.intro @sB <| And.intro @sB_0 <| And.intro @sS <| And.intro @sS_0 <| And.intro @pL <| And.intro @pL_0 <| And.intro @sL <| And.intro @sL_0 <| And.intro @g33 <| And.intro @g33_0 <| And.intro @g33_1 <| And.intro @g33_2 <| And.intro @c33_0 <| And.intro @c33_1 <| And.intro @l33 <| And.intro @w33 <| And.intro @s33_0 <| And.intro @s33_1 <| And.intro @s33 <| And.intro @bor33 <| @dps33
theorem TN : type_of% (And.intro RN TN0) := And.intro RN TN0
end Go.Proofs.Ythccagmifnipdaa.P
end YthccagmifnipdaaL0
section YthccagmifnipdaaLC
namespace Go.Proofs.Ythccagmifnipdaa.P
open Go Go.RowKit Go.Proofs.Ythccagmifnipdaa.V
set_option linter.unusedVariables false
set_option linter.unusedSimpArgs false
set_option linter.all false
set_option maxRecDepth 100000
def laws_big.B : C := (.seq (.kp [0] (.ops [o 2 (.mv (.k (.b false)))])) (.seq (.kp [2] (.ops [o 3 (.mv (.t 0)), o 4 (.len false (.t 3)), o 5 (.bin .gtr 0 (.t 4) (.k (.i .i64 1048576))), o 2 (.mv (.t 5))])) C.ret))
def laws_big.F : V.Fn := ⟨1, laws_big.B, [.t 2]⟩
def spec_l1New.c0 : C := (.seq (.kp [2] (.ops [o 28 (.mv (.t 0)), o 29 (.mv (.t 3)), o 30 (.build [.nl 1, .i .i64 0, .i .i64 0] [(0, 1, .t 28), (2, 1, .t 29)]), o 31 (.box 3 (.t 30)), o 2 (.mv (.t 31))])) C.ret)
def spec_l1New.d1 : C := (.seq (.seq (.kp [0, 3, 4, 15] (.ops [o 8 (.mv (.t 4)), o 9 (.mv (.t 0)), o 10 (.len false (.t 9)), o 11 (.bin .lss 0 (.t 8) (.t 10)), o 12 (.mv (.t 11)), og 13 12 true (.mv (.t 4)), og 14 12 true (.bin .lss 0 (.t 13) (.k (.i .i64 4000))), o 15 (.pick (.t 12) (.t 14) (.k (.b false)))])) (.cond (.t 15) C.skip (.exit 0))) (.seq (.blk 1 (.kp [0, 3, 4] (.ops [o 18 (.mv (.t 3)), o 19 (.bin .mul 0 (.t 18) (.k (.i .i64 131))), o 20 (.mv (.t 0)), o 21 (.mv (.t 4)), o 22 (.iaddr 1 (.t 20) (.t 21)), o 23 (.load none (.t 22)), o 24 (.conv .i64 (.t 23)), o 25 (.bin .add 0 (.t 19) (.t 24)), o 26 (.bin .add 0 (.t 25) (.k (.i .i64 7))), o 27 (.bin .and 0 (.t 26) (.k (.i .i64 1073741823))), o 3 (.mv (.t 27))]))) (.kp [0, 3, 4] (.ops [o 16 (.mv (.t 4)), o 17 (.bin .add 0 (.t 16) (.k (.i .i64 1))), o 4 (.mv (.t 17))]))))
def spec_l1New.c1 : C := .loop 1 [0, 3, 4] spec_l1New.d1
def spec_l1New.B : C := (.seq (.kp [0] (.ops [o 2 (.mv (.k (.undef)))])) (.seq (.kp [0, 3] (.ops [o 5 (.mv (.t 0)), o 6 (.len false (.t 5)), o 7 (.bin .add 0 (.k (.i .i64 10101)) (.t 6)), o 3 (.mv (.t 7))])) (.seq (.seq (.kp [0, 3, 4] (.ops [o 4 (.mv (.k (.i .i64 0)))])) (.blk 0 spec_l1New.c1)) spec_l1New.c0)))
def spec_l1New.F : V.Fn := ⟨1, spec_l1New.B, [.t 2]⟩
def spec_l1Byte.B : C := (.seq (.kp [0] (.ops [o 2 (.mv (.k (.i .i64 0)))])) (.seq (.kp [0] (.ops [o 4 (.mv (.t 0)), o 5 (.mv (.t 0)), o 6 (.nilc (.t 5)), o 7 (.faddr 2 (.t 6)), o 8 (.load none (.t 7)), o 9 (.bin .mul 0 (.t 8) (.k (.i .i64 6364136223846793005))), o 10 (.bin .add 0 (.t 9) (.k (.i .i64 1442695040888963407))), o 11 (.nilc (.t 4)), o 12 (.faddr 2 (.t 11)), oz none none [] (.store 1 (.t 12) (.t 10))])) (.seq (.kp [0, 3] (.draw (sq 13) [o 13 (.mv (.t 0)), o 14 (.nilc (.t 13)), o 15 (.faddr 2 (.t 14)), o 16 (.load none (.t 15)), o 17 (.bin .shr 0 (.t 16) (.k (.i .u64 33))), o 18 (.mv (.t 0)), o 19 (.nilc (.t 18)), o 20 (.faddr 2 (.t 19)), o 21 (.load none (.t 20)), o 22 (.bin .shr 0 (.t 21) (.k (.i .u64 45))), o 23 (.bin .xor 0 (.t 17) (.t 22)), o 24 (.bin .and 0 (.t 23) (.k (.i .i64 255))), o 3 (.mv (.t 24))])) (.seq (.seq (.kp [0, 3, 34] (.draw (sq 10) [o 25 (.mv (.t 0)), o 26 (.nilc (.t 25)), o 27 (.faddr 1 (.t 26)), o 28 (.load none (.t 27)), o 29 (.mv (.t 0)), o 30 (.nilc (.t 29)), o 31 (.faddr 0 (.t 30)), o 32 (.load none (.t 31)), o 33 (.len false (.t 32)), o 34 (.bin .lss 0 (.t 28) (.t 33))])) (.cond (.t 34) (.seq (.kp [0, 3] (.draw (sq 15) [o 35 (.mv (.t 3)), o 36 (.mv (.t 0)), o 37 (.nilc (.t 36)), o 38 (.faddr 0 (.t 37)), o 39 (.load none (.t 38)), o 40 (.mv (.t 0)), o 41 (.nilc (.t 40)), o 42 (.faddr 1 (.t 41)), o 43 (.load none (.t 42)), o 44 (.iaddr 1 (.t 39) (.t 43)), o 45 (.load none (.t 44)), o 46 (.conv .i64 (.t 45)), o 47 (.bin .add 0 (.t 35) (.t 46)), o 48 (.bin .and 0 (.t 47) (.k (.i .i64 255))), o 3 (.mv (.t 48))])) (.kp [3] (.ops [o 49 (.mv (.t 0)), o 50 (.mv (.t 0)), o 51 (.nilc (.t 50)), o 52 (.faddr 1 (.t 51)), o 53 (.load none (.t 52)), o 54 (.bin .add 0 (.t 53) (.k (.i .i64 1))), o 55 (.nilc (.t 49)), o 56 (.faddr 1 (.t 55)), oz none none [] (.store 1 (.t 56) (.t 54))]))) C.skip)) (.seq (.kp [2] (.ops [o 57 (.mv (.t 3)), o 2 (.mv (.t 57))])) C.ret)))))
def spec_l1Byte.F : V.Fn := ⟨1, spec_l1Byte.B, [.t 2]⟩
def spec_l1Below.B : C := (.seq (.kp [0, 1] (.ops [o 4 (.mv (.k (.i .i64 0)))])) (.seq (.seq (.kp [0, 1, 10] (.ops [o 9 (.mv (.t 1)), o 10 (.bin .leq 0 (.t 9) (.k (.i .i64 0)))])) (.cond (.t 10) (.seq (.kp [4] (.ops [o 4 (.mv (.k (.i .i64 0)))])) C.ret) C.skip)) (.seq (.seq (.kp [0, 1, 12] (.ops [o 11 (.mv (.t 1)), o 12 (.bin .leq 0 (.t 11) (.k (.i .i64 256)))])) (.cond (.t 12) (.seq (.kp [4] (.ops [o 13 (.mv (.t 0)), o 14 (.call 119 [true] [.t 13]), o 15 (.mv (.t 1)), o 16 (.bin .rem 0 (.t 14) (.t 15)), o 4 (.mv (.t 16))])) C.ret) C.skip)) (.seq (.kp [0, 1, 5] (.ops [o 17 (.mv (.t 0)), o 18 (.call 119 [true] [.t 17]), o 5 (.mv (.t 18))])) (.seq (.kp [0, 1, 5, 6] (.ops [o 19 (.mv (.t 0)), o 20 (.call 119 [true] [.t 19]), o 6 (.mv (.t 20))])) (.seq (.kp [0, 1, 5, 6, 7] (.ops [o 21 (.mv (.t 0)), o 22 (.call 119 [true] [.t 21]), o 7 (.mv (.t 22))])) (.seq (.kp [1, 5, 6, 7, 8] (.ops [o 23 (.mv (.t 0)), o 24 (.call 119 [true] [.t 23]), o 8 (.mv (.t 24))])) (.seq (.kp [4] (.ops [o 25 (.mv (.t 5)), o 26 (.bin .mul 0 (.t 25) (.k (.i .i64 16777216))), o 27 (.mv (.t 6)), o 28 (.bin .mul 0 (.t 27) (.k (.i .i64 65536))), o 29 (.bin .add 0 (.t 26) (.t 28)), o 30 (.mv (.t 7)), o 31 (.bin .mul 0 (.t 30) (.k (.i .i64 256))), o 32 (.bin .add 0 (.t 29) (.t 31)), o 33 (.mv (.t 8)), o 34 (.bin .add 0 (.t 32) (.t 33)), o 35 (.mv (.t 1)), o 36 (.bin .rem 0 (.t 34) (.t 35)), o 4 (.mv (.t 36))])) C.ret))))))))
def spec_l1Below.F : V.Fn := ⟨1, spec_l1Below.B, [.t 4]⟩
def spec_l2Label.B : C := (.seq (.kp [0] (.ops [o 2 (.mv (.k (.i .i64 0)))])) (.seq (.kp [2] (.ops [o 3 (.mv (.t 0)), o 4 (.call 79 [true, false] [.t 3, .k (.i .i64 4)]), o 2 (.mv (.t 4))])) C.ret))
def spec_l2Label.F : V.Fn := ⟨1, spec_l2Label.B, [.t 2]⟩
def spec_l1Once.B : C := (.seq (.kp [0, 1] (.ops [o 4 (.mv (.k (.b false)))])) (.seq (.kp [4] (.ops [o 5 (.mv (.t 0)), o 6 (.mv (.t 1)), o 7 (.call 79 [true, false] [.t 5, .t 6]), o 8 (.bin .eql 0 (.t 7) (.k (.i .i64 0))), o 4 (.mv (.t 8))])) C.ret))
def spec_l1Once.F : V.Fn := ⟨1, spec_l1Once.B, [.t 4]⟩
def spec_l3Tree.c0 : C := (.seq (.kp [4] (.ops [o 45 (.mv (.t 5)), o 4 (.mv (.t 45))])) C.ret)
def spec_l3Tree.d1 : C := (.seq (.seq (.kp [0, 5, 6, 17] (.ops [o 16 (.mv (.t 6)), o 17 (.bin .gtr 0 (.t 16) (.k (.i .i64 0)))])) (.cond (.t 17) C.skip (.exit 0))) (.seq (.blk 1 (.seq (.kp [0, 5, 6, 7] (.ops [o 20 (.mv (.t 5)), o 21 (.mv (.t 5)), o 22 (.len false (.t 21)), o 23 (.bin .sub 0 (.t 22) (.k (.i .i64 1))), o 24 (.iaddr 2 (.t 20) (.t 23)), o 25 (.faddr 1 (.t 24)), o 26 (.load none (.t 25)), o 7 (.mv (.t 26))])) (.seq (.kp [0, 5, 6, 7, 8] (.ops [o 27 (.mv (.t 0)), o 28 (.mv (.t 7)), o 29 (.bin .add 0 (.t 28) (.k (.i .i64 1))), o 30 (.call 79 [true, false] [.t 27, .t 29]), o 31 (.bin .add 0 (.k (.i .i64 1)) (.t 30)), o 8 (.mv (.t 31))])) (.seq (.seq (.kp [0, 5, 6, 7, 8, 33] (.ops [o 32 (.mv (.t 0)), o 33 (.call 84 [true, false] [.t 32, .k (.i .i64 2)])])) (.cond (.t 33) (.kp [0, 5, 6, 8] (.ops [o 34 (.mv (.t 7)), o 35 (.bin .add 0 (.t 34) (.k (.i .i64 1))), o 8 (.mv (.t 35))])) C.skip)) (.seq (.seq (.kp [0, 5, 6, 8, 37] (.ops [o 36 (.mv (.t 8)), o 37 (.bin .gtr 0 (.t 36) (.k (.i .i64 12)))])) (.cond (.t 37) (.kp [0, 5, 6, 8] (.ops [o 8 (.mv (.k (.i .i64 1)))])) C.skip)) (.kp [0, 5, 6] (.ops [o 38 (.mv (.t 5)), o 39 (.mv (.t 0)), o 40 (.call 83 [true] [.t 39]), o 41 (.mv (.t 8)), o 42 (.build [.i .i64 0, .i .i64 0] [(0, 1, .t 40), (1, 1, .t 41)]), o 43 (.lit 2 1 [.i .i64 0, .i .i64 0] [(0, .t 42)]), o 44 (.app 2 16 (.t 38) (.t 43)), o 5 (.mv (.t 44))]))))))) (.kp [0, 5, 6] (.ops [o 18 (.mv (.t 6)), o 19 (.bin .sub 0 (.t 18) (.k (.i .i64 1))), o 6 (.mv (.t 19))]))))
def spec_l3Tree.c1 : C := .loop 1 [0, 5, 6] spec_l3Tree.d1
def spec_l3Tree.B : C := (.seq (.kp [0, 1] (.ops [o 4 (.mv (.k (.nl 2)))])) (.seq (.kp [0, 1, 5] (.ops [o 9 (.mv (.t 0)), o 10 (.call 83 [true] [.t 9]), o 11 (.build [.i .i64 0, .i .i64 0] [(0, 1, .t 10)]), o 12 (.lit 2 1 [.i .i64 0, .i .i64 0] [(0, .t 11)]), o 5 (.mv (.t 12))])) (.seq (.seq (.kp [0, 5, 6] (.ops [o 13 (.mv (.t 0)), o 14 (.mv (.t 1)), o 15 (.call 79 [true, false] [.t 13, .t 14]), o 6 (.mv (.t 15))])) (.blk 0 spec_l3Tree.c1)) spec_l3Tree.c0)))
def spec_l3Tree.F : V.Fn := ⟨1, spec_l3Tree.B, [.t 4]⟩
def spec_l1PickInt.B : C := (.seq (.kp [0, 1] (.ops [o 4 (.mv (.k (.i .i64 0)))])) (.seq (.kp [4] (.ops [o 5 (.mv (.t 1)), o 6 (.mv (.t 0)), o 7 (.mv (.t 1)), o 8 (.len false (.t 7)), o 9 (.call 79 [true, false] [.t 6, .t 8]), o 10 (.iaddr 1 (.t 5) (.t 9)), o 11 (.load none (.t 10)), o 4 (.mv (.t 11))])) C.ret))
def spec_l1PickInt.F : V.Fn := ⟨2, spec_l1PickInt.B, [.t 4]⟩
def spec_l2Any.B : C := (.seq (.kp [0] (.ops [o 2 (.mv (.k (.i .i64 0)))])) (.seq (.kp [2] (.ops [o 3 (.mv (.t 0)), o 4 (.lit 1 7 [.i .i64 0] [(0, .k (.i .i64 0)), (1, .k (.i .i64 1)), (2, .k (.i .i64 2)), (3, .k (.i .i64 3)), (4, .k (.i .i64 5)), (5, .k (.i .i64 6)), (6, .k (.i .i64 (-1)))]), o 5 (.call 81 [true, true] [.t 3, .t 4]), o 2 (.mv (.t 5))])) C.ret))
def spec_l2Any.F : V.Fn := ⟨1, spec_l2Any.B, [.t 2]⟩
def spec_l3Any.c0 : C := (.seq (.kp [4] (.ops [o 71 (.mv (.t 5)), o 4 (.mv (.t 71))])) C.ret)
def spec_l3Any.d1 : C := (.seq (.seq (.kp [0, 5, 50] (.ops [o 45 (.mv (.t 5)), o 46 (.len false (.t 45)), o 47 (.mv (.t 0)), o 48 (.call 79 [true, false] [.t 47, .k (.i .i64 2)]), o 49 (.bin .add 0 (.k (.i .i64 24)) (.t 48)), o 50 (.bin .lss 0 (.t 46) (.t 49))])) (.cond (.t 50) C.skip (.exit 1))) (.blk 2 (.kp [0, 5] (.ops [o 51 (.mv (.t 5)), o 52 (.build [.i .i64 0, .i .i64 0] [(0, 1, .k (.i .i64 1)), (1, 1, .k (.i .i64 1))]), o 53 (.lit 2 1 [.i .i64 0, .i .i64 0] [(0, .t 52)]), o 54 (.app 2 16 (.t 51) (.t 53)), o 5 (.mv (.t 54))]))))
def spec_l3Any.c1 : C := .loop 1 [0, 5] spec_l3Any.d1
def spec_l3Any.d2 : C := (.seq (.seq (.kp [0, 5, 64] (.ops [o 59 (.mv (.t 5)), o 60 (.len false (.t 59)), o 61 (.mv (.t 0)), o 62 (.call 79 [true, false] [.t 61, .k (.i .i64 2)]), o 63 (.bin .add 0 (.k (.i .i64 13)) (.t 62)), o 64 (.bin .lss 0 (.t 60) (.t 63))])) (.cond (.t 64) C.skip (.exit 3))) (.blk 4 (.kp [0, 5] (.ops [o 65 (.mv (.t 5)), o 66 (.mv (.t 5)), o 67 (.len false (.t 66)), o 68 (.build [.i .i64 0, .i .i64 0] [(1, 1, .t 67)]), o 69 (.lit 2 1 [.i .i64 0, .i .i64 0] [(0, .t 68)]), o 70 (.app 2 16 (.t 65) (.t 69)), o 5 (.mv (.t 70))]))))
def spec_l3Any.c2 : C := .loop 1 [0, 5] spec_l3Any.d2
def spec_l3Any.B : C := (.seq (.kp [0, 1] (.ops [o 4 (.mv (.k (.nl 2)))])) (.seq (.kp [0, 5] (.ops [o 7 (.mv (.t 0)), o 8 (.mv (.t 1)), o 9 (.call 78 [true, false] [.t 7, .t 8]), o 5 (.mv (.t 9))])) (.seq (.kp [0, 5, 6] (.ops [o 10 (.mv (.t 0)), o 11 (.mv (.t 5)), o 12 (.len false (.t 11)), o 13 (.call 79 [true, false] [.t 10, .t 12]), o 6 (.mv (.t 13))])) (.seq (.seq (.kp [0, 5, 6, 15] (.ops [o 14 (.mv (.t 0)), o 15 (.call 79 [true, false] [.t 14, .k (.i .i64 18)])])) (.blk 0 (.seq (.kp [0, 5, 6, 15, 16] (.ops [o 17 (.bin .eql 0 (.t 15) (.k (.i .i64 0))), o 16 (.mv (.t 17))])) (.cond (.t 16) (.kp [5] (.ops [o 18 (.mv (.t 5)), o 19 (.mv (.t 6)), o 20 (.mv (.t 0)), o 21 (.call 80 [true] [.t 20]), o 22 (.iaddr 2 (.t 18) (.t 19)), o 23 (.faddr 0 (.t 22)), oz none none [] (.store 1 (.t 23) (.t 21))])) (.seq (.kp [0, 5, 6, 15, 24] (.ops [o 25 (.bin .eql 0 (.t 15) (.k (.i .i64 1))), o 24 (.mv (.t 25))])) (.cond (.t 24) (.kp [5] (.ops [o 26 (.mv (.t 5)), o 27 (.mv (.t 6)), o 28 (.mv (.t 0)), o 29 (.mv (.t 5)), o 30 (.mv (.t 6)), o 31 (.iaddr 2 (.t 29) (.t 30)), o 32 (.faddr 1 (.t 31)), o 33 (.load none (.t 32)), o 34 (.bin .add 0 (.t 33) (.k (.i .i64 1))), o 35 (.lit 1 5 [.i .i64 0] [(0, .k (.i .i64 (-1))), (1, .k (.i .i64 0)), (2, .k (.i .i64 1)), (3, .k (.i .i64 13)), (4, .t 34)]), o 36 (.call 81 [true, true] [.t 28, .t 35]), o 37 (.iaddr 2 (.t 26) (.t 27)), o 38 (.faddr 1 (.t 37)), oz none none [] (.store 1 (.t 38) (.t 36))])) (.seq (.kp [0, 5, 15, 39] (.ops [o 40 (.bin .eql 0 (.t 15) (.k (.i .i64 2))), o 39 (.mv (.t 40))])) (.cond (.t 39) (.seq (.kp [4] (.ops [o 41 (.mv (.t 5)), o 42 (.slR 2 (.t 41) (some (.k (.i .i64 1))) none), o 4 (.mv (.t 42))])) C.ret) (.seq (.kp [0, 5, 15, 43] (.ops [o 44 (.bin .eql 0 (.t 15) (.k (.i .i64 3))), o 43 (.mv (.t 44))])) (.cond (.t 43) (.blk 1 spec_l3Any.c1) (.seq (.kp [0, 5, 55] (.ops [o 56 (.bin .eql 0 (.t 15) (.k (.i .i64 4))), o 55 (.mv (.t 56))])) (.cond (.t 55) (.seq (.kp [0, 5] (.ops [o 57 (.build [.i .i64 0, .i .i64 0] []), o 58 (.lit 2 1 [.i .i64 0, .i .i64 0] [(0, .t 57)]), o 5 (.mv (.t 58))])) (.blk 3 spec_l3Any.c2)) C.skip)))))))))))) spec_l3Any.c0))))
def spec_l3Any.F : V.Fn := ⟨1, spec_l3Any.B, [.t 4]⟩
def spec_l3Copy.B : C := (.seq (.kp [0] (.ops [o 2 (.mv (.k (.nl 2)))])) (.seq (.kp [2] (.ops [o 3 (.lit 2 0 [.i .i64 0, .i .i64 0] []), o 4 (.mv (.t 0)), o 5 (.app 2 16 (.t 3) (.t 4)), o 2 (.mv (.t 5))])) C.ret))
def spec_l3Copy.F : V.Fn := ⟨1, spec_l3Copy.B, [.t 2]⟩
def spec_l1In.B : C := (.seq (.kp [0, 1, 2] (.ops [o 6 (.mv (.k (.b false)))])) (.seq (.kp [6] (.ops [o 7 (.mv (.t 0)), o 8 (.mv (.t 1)), o 9 (.bin .geq 0 (.t 7) (.t 8)), o 10 (.mv (.t 9)), og 11 10 true (.mv (.t 0)), og 12 10 true (.mv (.t 2)), og 13 10 true (.bin .leq 0 (.t 11) (.t 12)), o 14 (.pick (.t 10) (.t 13) (.k (.b false))), o 6 (.mv (.t 14))])) C.ret))
def spec_l1In.F : V.Fn := ⟨0, spec_l1In.B, [.t 6]⟩
def spec_LabelOk.B : C := (.seq (.kp [0] (.ops [o 2 (.mv (.k (.b false)))])) (.seq (.kp [2] (.ops [o 3 (.mv (.t 0)), o 4 (.call 90 [false, false, false] [.t 3, .k (.i .i64 0), .k (.i .i64 5)]), o 2 (.mv (.t 4))])) C.ret))
def spec_LabelOk.F : V.Fn := ⟨0, spec_LabelOk.B, [.t 2]⟩
def spec_TreeOk.c0 : C := (.seq (.kp [2] (.ops [o 56 (.mv (.t 0)), o 57 (.len false (.t 56)), o 58 (.call 90 [false, false, false] [.t 57, .k (.i .i64 1), .k (.i .i64 24)]), o 2 (.mv (.t 58))])) C.ret)
def spec_TreeOk.d1 : C := (.seq (.seq (.kp [0, 3, 7] (.ops [o 4 (.mv (.t 3)), o 5 (.mv (.t 0)), o 6 (.len false (.t 5)), o 7 (.bin .lss 0 (.t 4) (.t 6))])) (.cond (.t 7) C.skip (.exit 0))) (.seq (.blk 1 (.seq (.kp [0, 3, 55] (.draw (sq 46) [o 10 (.mv (.t 0)), o 11 (.mv (.t 3)), o 12 (.iaddr 2 (.t 10) (.t 11)), o 13 (.faddr 0 (.t 12)), o 14 (.load none (.t 13)), o 15 (.call 89 [false] [.t 14]), o 16 (.un .not (.t 15)), o 17 (.mv (.t 16)), og 18 17 false (.mv (.t 0)), og 19 17 false (.mv (.t 3)), og 20 17 false (.iaddr 2 (.t 18) (.t 19)), og 21 17 false (.faddr 1 (.t 20)), og 22 17 false (.load none (.t 21)), og 23 17 false (.call 90 [false, false, false] [.t 22, .k (.i .i64 0), .k (.i .i64 12)]), og 24 17 false (.un .not (.t 23)), o 25 (.pick (.t 17) (.k (.b true)) (.t 24)), o 26 (.mv (.t 25)), og 27 26 false (.mv (.t 0)), og 28 26 false (.mv (.t 3)), og 29 26 false (.iaddr 2 (.t 27) (.t 28)), og 30 26 false (.faddr 1 (.t 29)), og 31 26 false (.load none (.t 30)), og 32 26 false (.bin .eql 0 (.t 31) (.k (.i .i64 0))), og 33 26 false (.mv (.t 3)), og 34 26 false (.bin .eql 0 (.t 33) (.k (.i .i64 0))), og 35 26 false (.bin .neq 1 (.t 32) (.t 34)), o 36 (.pick (.t 26) (.k (.b true)) (.t 35)), o 37 (.mv (.t 36)), og 38 37 false (.mv (.t 3)), og 39 37 false (.bin .gtr 0 (.t 38) (.k (.i .i64 0))), og 40 37 false (.mv (.t 39)), og 41 40 true (.mv (.t 0)), og 42 40 true (.mv (.t 3)), og 43 40 true (.iaddr 2 (.t 41) (.t 42)), og 44 40 true (.faddr 1 (.t 43)), og 45 40 true (.load none (.t 44)), og 46 40 true (.mv (.t 0)), og 47 40 true (.mv (.t 3)), og 48 40 true (.bin .sub 0 (.t 47) (.k (.i .i64 1))), og 49 40 true (.iaddr 2 (.t 46) (.t 48)), og 50 40 true (.faddr 1 (.t 49)), og 51 40 true (.load none (.t 50)), og 52 40 true (.bin .add 0 (.t 51) (.k (.i .i64 1))), og 53 40 true (.bin .gtr 0 (.t 45) (.t 52)), og 54 37 false (.pick (.t 40) (.t 53) (.k (.b false))), o 55 (.pick (.t 37) (.k (.b true)) (.t 54))])) (.cond (.t 55) (.seq (.kp [2] (.ops [o 2 (.mv (.k (.b false)))])) C.ret) C.skip))) (.kp [0, 3] (.ops [o 8 (.mv (.t 3)), o 9 (.bin .add 0 (.t 8) (.k (.i .i64 1))), o 3 (.mv (.t 9))]))))
def spec_TreeOk.c1 : C := .loop 1 [0, 3] spec_TreeOk.d1
def spec_TreeOk.B : C := (.seq (.kp [0] (.ops [o 2 (.mv (.k (.b false)))])) (.seq (.seq (.kp [0, 3] (.ops [o 3 (.mv (.k (.i .i64 0)))])) (.blk 0 spec_TreeOk.c1)) spec_TreeOk.c0))
def spec_TreeOk.F : V.Fn := ⟨1, spec_TreeOk.B, [.t 2]⟩
def spec_l3Near.c0 : C := (.seq (.seq (.kp [0, 5, 74] (.ops [o 72 (.mv (.t 5)), o 73 (.call 41 [false] [.t 72]), o 74 (.un .not (.t 73))])) (.cond (.t 74) (.seq (.kp [4] (.ops [o 75 (.mv (.t 0)), o 76 (.call 78 [true, false] [.t 75, .k (.i .i64 8)]), o 4 (.mv (.t 76))])) C.ret) C.skip)) (.seq (.kp [4] (.ops [o 77 (.mv (.t 5)), o 4 (.mv (.t 77))])) C.ret))
def spec_l3Near.d1 : C := (.seq (.seq (.kp [0, 5, 6, 19] (.ops [o 13 (.mv (.t 6)), o 14 (.bin .gtr 0 (.t 13) (.k (.i .i64 0))), o 15 (.mv (.t 14)), og 16 15 true (.mv (.t 5)), og 17 15 true (.len false (.t 16)), og 18 15 true (.bin .gtr 0 (.t 17) (.k (.i .i64 0))), o 19 (.pick (.t 15) (.t 18) (.k (.b false)))])) (.cond (.t 19) C.skip (.exit 0))) (.seq (.blk 1 (.seq (.kp [0, 5, 6, 7] (.ops [o 22 (.mv (.t 0)), o 23 (.mv (.t 5)), o 24 (.len false (.t 23)), o 25 (.call 79 [true, false] [.t 22, .t 24]), o 7 (.mv (.t 25))])) (.seq (.kp [0, 5, 6, 7, 27] (.ops [o 26 (.mv (.t 0)), o 27 (.call 79 [true, false] [.t 26, .k (.i .i64 3)])])) (.blk 2 (.seq (.kp [0, 5, 6, 7, 27, 46] (.ops [o 47 (.bin .eql 0 (.t 27) (.k (.i .i64 0))), o 46 (.mv (.t 47))])) (.cond (.t 46) (.kp [0, 5, 6] (.ops [o 48 (.mv (.t 5)), o 49 (.mv (.t 7)), o 50 (.mv (.t 0)), o 51 (.call 83 [true] [.t 50]), o 52 (.iaddr 2 (.t 48) (.t 49)), o 53 (.faddr 0 (.t 52)), oz none none [] (.store 1 (.t 53) (.t 51))])) (.seq (.kp [0, 5, 6, 7, 54] (.ops [o 55 (.bin .eql 0 (.t 27) (.k (.i .i64 1))), o 54 (.mv (.t 55))])) (.cond (.t 54) (.seq (.kp [0, 5, 6, 7, 62] (.ops [o 56 (.mv (.t 7)), o 57 (.bin .gtr 0 (.t 56) (.k (.i .i64 0))), o 58 (.mv (.t 57)), og 59 58 true (.mv (.t 5)), og 60 58 true (.len false (.t 59)), og 61 58 true (.bin .gtr 0 (.t 60) (.k (.i .i64 1))), o 62 (.pick (.t 58) (.t 61) (.k (.b false)))])) (.cond (.t 62) (.kp [0, 5, 6] (.draw (tk [0, 1, 2, 4, 5, 6, 7, 3, 8, 9] .done) [o 63 (.mv (.t 5)), o 64 (.mv (.t 7)), o 65 (.slR 2 (.t 63) none (some (.t 64))), o 66 (.call 82 [false] [.t 65]), o 67 (.mv (.t 5)), o 68 (.mv (.t 7)), o 69 (.bin .add 0 (.t 68) (.k (.i .i64 1))), o 70 (.slR 2 (.t 67) (some (.t 69)) none), o 71 (.app 2 16 (.t 66) (.t 70)), o 5 (.mv (.t 71))])) C.skip)) (.kp [0, 5, 6] (.draw (tk [0, 2, 4, 5, 6, 7, 8, 9, 10] (.alt (tk [1] (.alt (tk [3, 11, 12, 13, 14, 15, 16, 17, 18] .done) (tk [11, 12, 3, 13, 14, 15, 16, 17, 18] .done))) (tk [11, 12, 1, 3, 13, 14, 15, 16, 17, 18] .done))) [o 28 (.mv (.t 5)), o 29 (.call 82 [false] [.t 28]), o 30 (.mv (.t 0)), o 31 (.call 83 [true] [.t 30]), o 32 (.mv (.t 0)), o 33 (.mv (.t 5)), o 34 (.mv (.t 5)), o 35 (.len false (.t 34)), o 36 (.bin .sub 0 (.t 35) (.k (.i .i64 1))), o 37 (.iaddr 2 (.t 33) (.t 36)), o 38 (.faddr 1 (.t 37)), o 39 (.load none (.t 38)), o 40 (.bin .add 0 (.t 39) (.k (.i .i64 1))), o 41 (.call 79 [true, false] [.t 32, .t 40]), o 42 (.bin .add 0 (.k (.i .i64 1)) (.t 41)), o 43 (.build [.i .i64 0, .i .i64 0] [(0, 1, .t 31), (1, 1, .t 42)]), o 44 (.lit 2 1 [.i .i64 0, .i .i64 0] [(0, .t 43)]), o 45 (.app 2 16 (.t 29) (.t 44)), o 5 (.mv (.t 45))])))))))))) (.kp [0, 5, 6] (.ops [o 20 (.mv (.t 6)), o 21 (.bin .sub 0 (.t 20) (.k (.i .i64 1))), o 6 (.mv (.t 21))]))))
def spec_l3Near.c1 : C := .loop 2 [0, 5, 6] spec_l3Near.d1
def spec_l3Near.B : C := (.seq (.kp [0, 1] (.ops [o 4 (.mv (.k (.nl 2)))])) (.seq (.kp [0, 5] (.ops [o 8 (.mv (.t 1)), o 9 (.call 82 [false] [.t 8]), o 5 (.mv (.t 9))])) (.seq (.seq (.kp [0, 5, 6] (.ops [o 10 (.mv (.t 0)), o 11 (.call 79 [true, false] [.t 10, .k (.i .i64 3)]), o 12 (.bin .add 0 (.k (.i .i64 1)) (.t 11)), o 6 (.mv (.t 12))])) (.blk 0 spec_l3Near.c1)) spec_l3Near.c0)))
def spec_l3Near.F : V.Fn := ⟨2, spec_l3Near.B, [.t 4]⟩
def spec_l29Named.c0 : C := (.seq (.seq (.kp [0, 5, 30] (.ops [o 29 (.mv (.t 0)), o 30 (.call 84 [true, false] [.t 29, .k (.i .i64 14)])])) (.cond (.t 30) (.seq (.kp [4] (.ops [o 31 (.mv (.t 0)), o 32 (.mv (.t 5)), o 33 (.call 85 [true, true] [.t 31, .t 32]), o 4 (.mv (.t 33))])) C.ret) C.skip)) (.seq (.kp [4] (.ops [o 34 (.mv (.t 5)), o 4 (.mv (.t 34))])) C.ret))
def spec_l29Named.d1 : C := (.seq (.seq (.kp [0, 5, 6, 17] (.ops [o 11 (.mv (.t 6)), o 12 (.bin .gtr 0 (.t 11) (.k (.i .i64 0))), o 13 (.mv (.t 12)), og 14 13 true (.mv (.t 5)), og 15 13 true (.len false (.t 14)), og 16 13 true (.bin .gtr 0 (.t 15) (.k (.i .i64 0))), o 17 (.pick (.t 13) (.t 16) (.k (.b false)))])) (.cond (.t 17) C.skip (.exit 0))) (.seq (.blk 1 (.kp [0, 5, 6] (.ops [o 20 (.mv (.t 5)), o 21 (.mv (.t 0)), o 22 (.mv (.t 5)), o 23 (.len false (.t 22)), o 24 (.call 79 [true, false] [.t 21, .t 23]), o 25 (.mv (.t 0)), o 26 (.call 83 [true] [.t 25]), o 27 (.iaddr 2 (.t 20) (.t 24)), o 28 (.faddr 0 (.t 27)), oz none none [] (.store 1 (.t 28) (.t 26))]))) (.kp [0, 5, 6] (.ops [o 18 (.mv (.t 6)), o 19 (.bin .sub 0 (.t 18) (.k (.i .i64 1))), o 6 (.mv (.t 19))]))))
def spec_l29Named.c1 : C := .loop 2 [0, 5, 6] spec_l29Named.d1
def spec_l29Named.B : C := (.seq (.kp [0, 1] (.ops [o 4 (.mv (.k (.nl 2)))])) (.seq (.kp [0, 5] (.ops [o 7 (.mv (.t 1)), o 8 (.call 82 [false] [.t 7]), o 5 (.mv (.t 8))])) (.seq (.seq (.kp [0, 5, 6] (.ops [o 9 (.mv (.t 0)), o 10 (.call 79 [true, false] [.t 9, .k (.i .i64 4)]), o 6 (.mv (.t 10))])) (.blk 0 spec_l29Named.c1)) spec_l29Named.c0)))
def spec_l29Named.F : V.Fn := ⟨2, spec_l29Named.B, [.t 4]⟩
def spec_DrawMergeLabels.B : C := (.seq (.kp [0] (.ops [o 2 (.mv (.k (.nl 2))), o 3 (.mv (.k (.nl 2))), o 4 (.mv (.k (.nl 2)))])) (.seq (.kp [5] (.ops [o 7 (.mv (.t 0)), o 8 (.call 36 [false] [.t 7]), o 5 (.mv (.t 8))])) (.seq (.kp [5, 6] (.ops [o 9 (.mv (.t 5)), o 10 (.call 37 [true, false] [.t 9, .k (.i .i64 9)]), o 6 (.mv (.t 10))])) (.seq (.kp [2, 3, 4] (.ops [o 11 (.mv (.t 6)), o 12 (.mv (.t 5)), o 13 (.mv (.t 6)), o 14 (.call 38 [true, true] [.t 12, .t 13]), o 15 (.mv (.t 5)), o 16 (.mv (.t 6)), o 17 (.call 38 [true, true] [.t 15, .t 16]), o 2 (.mv (.t 11)), o 3 (.mv (.t 14)), o 4 (.mv (.t 17))])) C.ret))))
def spec_DrawMergeLabels.F : V.Fn := ⟨1, spec_DrawMergeLabels.B, [.t 2, .t 3, .t 4]⟩
def impl_within.B : C := (.seq (.kp [0, 1, 2] (.ops [o 6 (.mv (.k (.b false)))])) (.seq (.kp [6] (.ops [o 7 (.mv (.t 1)), o 8 (.mv (.t 0)), o 9 (.bin .leq 0 (.t 7) (.t 8)), o 10 (.mv (.t 9)), og 11 10 true (.mv (.t 0)), og 12 10 true (.mv (.t 2)), og 13 10 true (.bin .leq 0 (.t 11) (.t 12)), o 14 (.pick (.t 10) (.t 13) (.k (.b false))), o 6 (.mv (.t 14))])) C.ret))
def impl_within.F : V.Fn := ⟨0, impl_within.B, [.t 6]⟩
def impl_LabelOk.B : C := (.seq (.kp [0] (.ops [o 2 (.mv (.k (.b false)))])) (.seq (.kp [2] (.ops [o 3 (.mv (.t 0)), o 4 (.call 120 [false, false, false] [.t 3, .k (.i .i64 0), .k (.i .i64 5)]), o 2 (.mv (.t 4))])) C.ret))
def impl_LabelOk.F : V.Fn := ⟨0, impl_LabelOk.B, [.t 2]⟩
def impl_depthOk.B : C := (.seq (.kp [0, 1] (.ops [o 4 (.mv (.k (.b false)))])) (.seq (.seq (.kp [0, 1, 6] (.ops [o 5 (.mv (.t 1)), o 6 (.bin .eql 0 (.t 5) (.k (.i .i64 0)))])) (.cond (.t 6) (.seq (.kp [4] (.ops [o 7 (.mv (.t 0)), o 8 (.iaddr 2 (.t 7) (.k (.i .i64 0))), o 9 (.faddr 1 (.t 8)), o 10 (.load none (.t 9)), o 11 (.bin .eql 0 (.t 10) (.k (.i .i64 0))), o 4 (.mv (.t 11))])) C.ret) C.skip)) (.seq (.kp [4] (.draw (sq 14) [o 12 (.mv (.t 0)), o 13 (.mv (.t 1)), o 14 (.iaddr 2 (.t 12) (.t 13)), o 15 (.faddr 1 (.t 14)), o 16 (.load none (.t 15)), o 17 (.mv (.t 0)), o 18 (.mv (.t 1)), o 19 (.bin .sub 0 (.t 18) (.k (.i .i64 1))), o 20 (.iaddr 2 (.t 17) (.t 19)), o 21 (.faddr 1 (.t 20)), o 22 (.load none (.t 21)), o 23 (.bin .add 0 (.t 22) (.k (.i .i64 1))), o 24 (.call 120 [false, false, false] [.t 16, .k (.i .i64 1), .t 23]), o 4 (.mv (.t 24))])) C.ret)))
def impl_depthOk.F : V.Fn := ⟨1, impl_depthOk.B, [.t 4]⟩
def impl_TreeOk.c0 : C := (.seq (.kp [2] (.ops [o 2 (.mv (.k (.b true)))])) C.ret)
def impl_TreeOk.d1 : C := (.seq (.kp [0, 9, 10, 11, 12] (.ops [o 12 (.bin .lss 0 (.t 11) (.t 10))])) (.seq (.cond (.t 12) C.skip (.exit 0)) (.seq (.blk 1 (.seq (.kp [0, 3, 4, 9, 10, 11] (.ops [o 13 (.mv (.t 11)), o 14 (.iaddr 2 (.t 9) (.t 11)), o 15 (.load (some 2) (.t 14)), o 4 (.alloc [.i .i64 0, .i .i64 0]), o 3 (.mv (.t 13)), oz none none [] (.store 2 (.t 4) (.t 15))])) (.seq (.kp [0, 9, 10, 11, 31] (.ops [o 16 (.faddr 0 (.t 4)), o 17 (.load none (.t 16)), o 18 (.call 121 [false] [.t 17]), o 19 (.un .not (.t 18)), o 20 (.mv (.t 19)), og 21 20 false (.faddr 1 (.t 4)), og 22 20 false (.load none (.t 21)), og 23 20 false (.call 120 [false, false, false] [.t 22, .k (.i .i64 0), .k (.i .i64 12)]), og 24 20 false (.un .not (.t 23)), o 25 (.pick (.t 20) (.k (.b true)) (.t 24)), o 26 (.mv (.t 25)), og 27 26 false (.mv (.t 0)), og 28 26 false (.mv (.t 3)), og 29 26 false (.call 122 [false, false] [.t 27, .t 28]), og 30 26 false (.un .not (.t 29)), o 31 (.pick (.t 26) (.k (.b true)) (.t 30))])) (.cond (.t 31) (.seq (.kp [2] (.ops [o 2 (.mv (.k (.b false)))])) C.ret) C.skip)))) (.kp [0, 9, 10, 11] (.ops [o 32 (.bin .add 0 (.t 11) (.k (.i .i64 1))), o 11 (.mv (.t 32))])))))
def impl_TreeOk.c1 : C := .loop 1 [0, 9, 10, 11] impl_TreeOk.d1
def impl_TreeOk.B : C := (.seq (.kp [0] (.ops [o 2 (.mv (.k (.b false)))])) (.seq (.seq (.kp [0, 8] (.ops [o 5 (.mv (.t 0)), o 6 (.len false (.t 5)), o 7 (.call 120 [false, false, false] [.t 6, .k (.i .i64 1), .k (.i .i64 24)]), o 8 (.un .not (.t 7))])) (.cond (.t 8) (.seq (.kp [2] (.ops [o 2 (.mv (.k (.b false)))])) C.ret) C.skip)) (.seq (.seq (.kp [0, 9, 10, 11] (.ops [o 9 (.mv (.t 0)), o 10 (.len false (.t 9)), o 11 (.mv (.k (.i .i64 0)))])) (.blk 0 impl_TreeOk.c1)) impl_TreeOk.c0)))
def impl_TreeOk.F : V.Fn := ⟨1, impl_TreeOk.B, [.t 2]⟩
def impl_Depths.c0 : C := (.seq (.kp [2] (.ops [o 19 (.mv (.t 3)), o 2 (.mv (.t 19))])) C.ret)
def impl_Depths.d1 : C := (.seq (.kp [3, 7, 8, 9, 10] (.ops [o 10 (.bin .lss 0 (.t 9) (.t 8))])) (.seq (.cond (.t 10) C.skip (.exit 0)) (.seq (.blk 1 (.seq (.kp [3, 5, 7, 8, 9] (.ops [o 11 (.iaddr 2 (.t 7) (.t 9)), o 12 (.load (some 2) (.t 11)), o 5 (.alloc [.i .i64 0, .i .i64 0]), oz none none [] (.store 2 (.t 5) (.t 12))])) (.kp [3, 7, 8, 9] (.ops [o 13 (.mv (.t 3)), o 14 (.faddr 1 (.t 5)), o 15 (.load none (.t 14)), o 16 (.lit 1 1 [.i .i64 0] [(0, .t 15)]), o 17 (.app 1 8 (.t 13) (.t 16)), o 3 (.mv (.t 17))])))) (.kp [3, 7, 8, 9] (.ops [o 18 (.bin .add 0 (.t 9) (.k (.i .i64 1))), o 9 (.mv (.t 18))])))))
def impl_Depths.c1 : C := .loop 1 [3, 7, 8, 9] impl_Depths.d1
def impl_Depths.B : C := (.seq (.kp [0] (.ops [o 2 (.mv (.k (.nl 1)))])) (.seq (.kp [0, 3] (.ops [o 6 (.lit 1 0 [.i .i64 0] []), o 3 (.mv (.t 6))])) (.seq (.seq (.kp [3, 7, 8, 9] (.ops [o 7 (.mv (.t 0)), o 8 (.len false (.t 7)), o 9 (.mv (.k (.i .i64 0)))])) (.blk 0 impl_Depths.c1)) impl_Depths.c0)))
def impl_Depths.F : V.Fn := ⟨1, impl_Depths.B, [.t 2]⟩
def slices_Equal_int_int.c0 : C := (.seq (.kp [4] (.ops [o 4 (.mv (.k (.b true)))])) C.ret)
def slices_Equal_int_int.d1 : C := (.seq (.kp [0, 1, 12, 13, 14] (.ops [o 14 (.bin .lss 0 (.t 13) (.t 12))])) (.seq (.cond (.t 14) C.skip (.exit 0)) (.seq (.blk 1 (.seq (.kp [0, 1, 5, 12, 13] (.ops [o 15 (.mv (.t 13)), o 5 (.mv (.t 15))])) (.seq (.kp [0, 1, 12, 13, 24] (.draw (sq 9) [o 16 (.mv (.t 0)), o 17 (.mv (.t 5)), o 18 (.iaddr 1 (.t 16) (.t 17)), o 19 (.load none (.t 18)), o 20 (.mv (.t 1)), o 21 (.mv (.t 5)), o 22 (.iaddr 1 (.t 20) (.t 21)), o 23 (.load none (.t 22)), o 24 (.bin .neq 0 (.t 19) (.t 23))])) (.cond (.t 24) (.seq (.kp [4] (.ops [o 4 (.mv (.k (.b false)))])) C.ret) C.skip)))) (.kp [0, 1, 12, 13] (.ops [o 25 (.bin .add 0 (.t 13) (.k (.i .i64 1))), o 13 (.mv (.t 25))])))))
def slices_Equal_int_int.c1 : C := .loop 2 [0, 1, 12, 13] slices_Equal_int_int.d1
def slices_Equal_int_int.B : C := (.seq (.kp [0, 1] (.ops [o 4 (.mv (.k (.b false)))])) (.seq (.seq (.kp [0, 1, 10] (.ops [o 6 (.mv (.t 0)), o 7 (.len false (.t 6)), o 8 (.mv (.t 1)), o 9 (.len false (.t 8)), o 10 (.bin .neq 0 (.t 7) (.t 9))])) (.cond (.t 10) (.seq (.kp [4] (.ops [o 4 (.mv (.k (.b false)))])) C.ret) C.skip)) (.seq (.seq (.kp [0, 1, 12, 13] (.ops [o 11 (.mv (.t 0)), o 12 (.len false (.t 11)), o 13 (.mv (.k (.i .i64 0)))])) (.blk 0 slices_Equal_int_int.c1)) slices_Equal_int_int.c0)))
def slices_Equal_int_int.F : V.Fn := ⟨2, slices_Equal_int_int.B, [.t 4]⟩
def impl_SameShape.B : C := (.seq (.kp [0, 1] (.ops [o 4 (.mv (.k (.b false)))])) (.seq (.kp [4] (.ops [o 5 (.mv (.t 0)), o 6 (.call 86 [false] [.t 5]), o 7 (.mv (.t 6)), og 8 7 true (.mv (.t 1)), og 9 7 true (.call 86 [false] [.t 8]), o 10 (.pick (.t 7) (.t 9) (.k (.b false))), o 11 (.mv (.t 10)), og 12 11 true (.mv (.t 0)), og 13 11 true (.call 88 [false] [.t 12]), og 14 11 true (.mv (.t 1)), og 15 11 true (.call 88 [false] [.t 14]), og 16 11 true (.call 87 [false, false] [.t 13, .t 15]), o 17 (.pick (.t 11) (.t 16) (.k (.b false))), o 4 (.mv (.t 17))])) C.ret))
def impl_SameShape.F : V.Fn := ⟨2, impl_SameShape.B, [.t 4]⟩
def slices_Clone_impl_Node_impl_Node.B : C := (.seq (.kp [0] (.ops [o 2 (.mv (.k (.nl 2)))])) (.seq (.seq (.kp [0, 4] (.ops [o 3 (.mv (.t 0)), o 4 (.bin .eql 2 (.t 3) (.k (.nl 2)))])) (.cond (.t 4) (.seq (.kp [2] (.ops [o 2 (.mv (.k (.nl 2)))])) C.ret) C.skip)) (.seq (.kp [2] (.ops [o 5 (.lit 2 0 [.i .i64 0, .i .i64 0] []), o 6 (.mv (.t 0)), o 7 (.app 2 16 (.t 5) (.t 6)), o 2 (.mv (.t 7))])) C.ret)))
def slices_Clone_impl_Node_impl_Node.F : V.Fn := ⟨1, slices_Clone_impl_Node_impl_Node.B, [.t 2]⟩
def impl_MergeLabels.c0 : C := (.seq (.kp [6, 7, 8] (.ops [o 71 (.mv (.t 9)), o 72 (.mv (.t 10)), o 6 (.mv (.t 71)), o 7 (.mv (.t 72)), o 8 (.mv (.k (.b true)))])) C.ret)
def impl_MergeLabels.d1 : C := (.seq (.kp [0, 1, 2, 9, 10, 31, 32, 33] (.ops [o 33 (.bin .lss 0 (.t 32) (.t 31))])) (.seq (.cond (.t 33) C.skip (.exit 0)) (.seq (.blk 1 (.seq (.kp [0, 1, 2, 9, 10, 11, 31, 32] (.ops [o 34 (.mv (.t 32)), o 11 (.mv (.t 34))])) (.seq (.kp [0, 1, 2, 9, 10, 11, 12, 13, 14, 31, 32] (.draw (sq 18) [o 35 (.mv (.t 1)), o 36 (.mv (.t 11)), o 37 (.iaddr 2 (.t 35) (.t 36)), o 38 (.faddr 0 (.t 37)), o 39 (.load none (.t 38)), o 40 (.mv (.t 2)), o 41 (.mv (.t 11)), o 42 (.iaddr 2 (.t 40) (.t 41)), o 43 (.faddr 0 (.t 42)), o 44 (.load none (.t 43)), o 45 (.mv (.t 0)), o 46 (.mv (.t 11)), o 47 (.iaddr 2 (.t 45) (.t 46)), o 48 (.faddr 0 (.t 47)), o 49 (.load none (.t 48)), o 12 (.mv (.t 39)), o 13 (.mv (.t 44)), o 14 (.mv (.t 49))])) (.seq (.kp [0, 1, 2, 9, 10, 11, 12, 13, 14, 31, 32, 52] (.ops [o 50 (.mv (.t 12)), o 51 (.mv (.t 14)), o 52 (.bin .eql 0 (.t 50) (.t 51))])) (.cond (.t 52) (.kp [0, 1, 2, 9, 10, 31, 32] (.ops [o 53 (.mv (.t 9)), o 54 (.mv (.t 11)), o 55 (.mv (.t 13)), o 56 (.iaddr 2 (.t 53) (.t 54)), o 57 (.faddr 0 (.t 56)), oz none none [] (.store 1 (.t 57) (.t 55))])) (.seq (.kp [0, 1, 2, 9, 10, 11, 31, 32, 65] (.ops [o 58 (.mv (.t 12)), o 59 (.mv (.t 13)), o 60 (.bin .neq 0 (.t 58) (.t 59)), o 61 (.mv (.t 60)), og 62 61 true (.mv (.t 13)), og 63 61 true (.mv (.t 14)), og 64 61 true (.bin .neq 0 (.t 62) (.t 63)), o 65 (.pick (.t 61) (.t 64) (.k (.b false)))])) (.cond (.t 65) (.kp [0, 1, 2, 9, 10, 31, 32] (.ops [o 66 (.mv (.t 10)), o 67 (.mv (.t 11)), o 68 (.lit 1 1 [.i .i64 0] [(0, .t 67)]), o 69 (.app 1 8 (.t 66) (.t 68)), o 10 (.mv (.t 69))])) C.skip))))))) (.kp [0, 1, 2, 9, 10, 31, 32] (.ops [o 70 (.bin .add 0 (.t 32) (.k (.i .i64 1))), o 32 (.mv (.t 70))])))))
def impl_MergeLabels.c1 : C := .loop 3 [0, 1, 2, 9, 10, 31, 32] impl_MergeLabels.d1
def impl_MergeLabels.B : C := (.seq (.kp [0, 1, 2] (.ops [o 6 (.mv (.k (.nl 2))), o 7 (.mv (.k (.nl 1))), o 8 (.mv (.k (.b false)))])) (.seq (.seq (.kp [0, 1, 2, 24] (.ops [o 15 (.mv (.t 0)), o 16 (.mv (.t 1)), o 17 (.call 39 [false, false] [.t 15, .t 16]), o 18 (.un .not (.t 17)), o 19 (.mv (.t 18)), og 20 19 false (.mv (.t 0)), og 21 19 false (.mv (.t 2)), og 22 19 false (.call 39 [false, false] [.t 20, .t 21]), og 23 19 false (.un .not (.t 22)), o 24 (.pick (.t 19) (.k (.b true)) (.t 23))])) (.cond (.t 24) (.seq (.kp [6, 7, 8] (.ops [o 25 (.lit 2 0 [.i .i64 0, .i .i64 0] []), o 26 (.lit 1 0 [.i .i64 0] []), o 6 (.mv (.t 25)), o 7 (.mv (.t 26)), o 8 (.mv (.k (.b false)))])) C.ret) C.skip)) (.seq (.kp [0, 1, 2, 9, 10] (.ops [o 27 (.mv (.t 1)), o 28 (.call 40 [false] [.t 27]), o 29 (.lit 1 0 [.i .i64 0] []), o 9 (.mv (.t 28)), o 10 (.mv (.t 29))])) (.seq (.seq (.kp [0, 1, 2, 9, 10, 31, 32] (.ops [o 30 (.mv (.t 0)), o 31 (.len false (.t 30)), o 32 (.mv (.k (.i .i64 0)))])) (.blk 0 impl_MergeLabels.c1)) impl_MergeLabels.c0))))
def impl_MergeLabels.F : V.Fn := ⟨3, impl_MergeLabels.B, [.t 6, .t 7, .t 8]⟩
def spec_Depths.c0 : C := (.seq (.kp [2] (.ops [o 20 (.mv (.t 3)), o 2 (.mv (.t 20))])) C.ret)
def spec_Depths.d1 : C := (.seq (.seq (.kp [0, 3, 4, 9] (.ops [o 6 (.mv (.t 4)), o 7 (.mv (.t 0)), o 8 (.len false (.t 7)), o 9 (.bin .lss 0 (.t 6) (.t 8))])) (.cond (.t 9) C.skip (.exit 0))) (.seq (.blk 1 (.kp [0, 3, 4] (.ops [o 12 (.mv (.t 3)), o 13 (.mv (.t 0)), o 14 (.mv (.t 4)), o 15 (.iaddr 2 (.t 13) (.t 14)), o 16 (.faddr 1 (.t 15)), o 17 (.load none (.t 16)), o 18 (.lit 1 1 [.i .i64 0] [(0, .t 17)]), o 19 (.app 1 8 (.t 12) (.t 18)), o 3 (.mv (.t 19))]))) (.kp [0, 3, 4] (.ops [o 10 (.mv (.t 4)), o 11 (.bin .add 0 (.t 10) (.k (.i .i64 1))), o 4 (.mv (.t 11))]))))
def spec_Depths.c1 : C := .loop 1 [0, 3, 4] spec_Depths.d1
def spec_Depths.B : C := (.seq (.kp [0] (.ops [o 2 (.mv (.k (.nl 1)))])) (.seq (.kp [0, 3] (.ops [o 5 (.lit 1 0 [.i .i64 0] []), o 3 (.mv (.t 5))])) (.seq (.seq (.kp [0, 3, 4] (.ops [o 4 (.mv (.k (.i .i64 0)))])) (.blk 0 spec_Depths.c1)) spec_Depths.c0)))
def spec_Depths.F : V.Fn := ⟨1, spec_Depths.B, [.t 2]⟩
def spec_l7Same.c0 : C := (.seq (.kp [4] (.ops [o 4 (.mv (.k (.b true)))])) C.ret)
def spec_l7Same.d1 : C := (.seq (.seq (.kp [0, 1, 5, 14] (.ops [o 11 (.mv (.t 5)), o 12 (.mv (.t 0)), o 13 (.len false (.t 12)), o 14 (.bin .lss 0 (.t 11) (.t 13))])) (.cond (.t 14) C.skip (.exit 0))) (.seq (.blk 1 (.seq (.kp [0, 1, 5, 25] (.draw (sq 9) [o 17 (.mv (.t 0)), o 18 (.mv (.t 5)), o 19 (.iaddr 1 (.t 17) (.t 18)), o 20 (.load none (.t 19)), o 21 (.mv (.t 1)), o 22 (.mv (.t 5)), o 23 (.iaddr 1 (.t 21) (.t 22)), o 24 (.load none (.t 23)), o 25 (.bin .neq 0 (.t 20) (.t 24))])) (.cond (.t 25) (.seq (.kp [4] (.ops [o 4 (.mv (.k (.b false)))])) C.ret) C.skip))) (.kp [0, 1, 5] (.ops [o 15 (.mv (.t 5)), o 16 (.bin .add 0 (.t 15) (.k (.i .i64 1))), o 5 (.mv (.t 16))]))))
def spec_l7Same.c1 : C := .loop 2 [0, 1, 5] spec_l7Same.d1
def spec_l7Same.B : C := (.seq (.kp [0, 1] (.ops [o 4 (.mv (.k (.b false)))])) (.seq (.seq (.kp [0, 1, 10] (.ops [o 6 (.mv (.t 0)), o 7 (.len false (.t 6)), o 8 (.mv (.t 1)), o 9 (.len false (.t 8)), o 10 (.bin .neq 0 (.t 7) (.t 9))])) (.cond (.t 10) (.seq (.kp [4] (.ops [o 4 (.mv (.k (.b false)))])) C.ret) C.skip)) (.seq (.seq (.kp [0, 1, 5] (.ops [o 5 (.mv (.k (.i .i64 0)))])) (.blk 0 spec_l7Same.c1)) spec_l7Same.c0)))
def spec_l7Same.F : V.Fn := ⟨2, spec_l7Same.B, [.t 4]⟩
def spec_SameShape.B : C := (.seq (.kp [0, 1] (.ops [o 4 (.mv (.k (.b false)))])) (.seq (.kp [4] (.ops [o 5 (.mv (.t 0)), o 6 (.call 41 [false] [.t 5]), o 7 (.mv (.t 6)), og 8 7 true (.mv (.t 1)), og 9 7 true (.call 41 [false] [.t 8]), o 10 (.pick (.t 7) (.t 9) (.k (.b false))), o 11 (.mv (.t 10)), og 12 11 true (.mv (.t 0)), og 13 11 true (.call 43 [false] [.t 12]), og 14 11 true (.mv (.t 1)), og 15 11 true (.call 43 [false] [.t 14]), og 16 11 true (.call 42 [false, false] [.t 13, .t 15]), o 17 (.pick (.t 11) (.t 16) (.k (.b false))), o 4 (.mv (.t 17))])) C.ret))
def spec_SameShape.F : V.Fn := ⟨2, spec_SameShape.B, [.t 4]⟩
def laws_sameInts.c0 : C := (.seq (.kp [4] (.ops [o 4 (.mv (.k (.b true)))])) C.ret)
def laws_sameInts.d1 : C := (.seq (.seq (.kp [0, 1, 5, 14] (.ops [o 11 (.mv (.t 5)), o 12 (.mv (.t 0)), o 13 (.len false (.t 12)), o 14 (.bin .lss 0 (.t 11) (.t 13))])) (.cond (.t 14) C.skip (.exit 0))) (.seq (.blk 1 (.seq (.kp [0, 1, 5, 25] (.draw (sq 9) [o 17 (.mv (.t 0)), o 18 (.mv (.t 5)), o 19 (.iaddr 1 (.t 17) (.t 18)), o 20 (.load none (.t 19)), o 21 (.mv (.t 1)), o 22 (.mv (.t 5)), o 23 (.iaddr 1 (.t 21) (.t 22)), o 24 (.load none (.t 23)), o 25 (.bin .neq 0 (.t 20) (.t 24))])) (.cond (.t 25) (.seq (.kp [4] (.ops [o 4 (.mv (.k (.b false)))])) C.ret) C.skip))) (.kp [0, 1, 5] (.ops [o 15 (.mv (.t 5)), o 16 (.bin .add 0 (.t 15) (.k (.i .i64 1))), o 5 (.mv (.t 16))]))))
def laws_sameInts.c1 : C := .loop 2 [0, 1, 5] laws_sameInts.d1
def laws_sameInts.B : C := (.seq (.kp [0, 1] (.ops [o 4 (.mv (.k (.b false)))])) (.seq (.seq (.kp [0, 1, 10] (.ops [o 6 (.mv (.t 0)), o 7 (.len false (.t 6)), o 8 (.mv (.t 1)), o 9 (.len false (.t 8)), o 10 (.bin .neq 0 (.t 7) (.t 9))])) (.cond (.t 10) (.seq (.kp [4] (.ops [o 4 (.mv (.k (.b false)))])) C.ret) C.skip)) (.seq (.seq (.kp [0, 1, 5] (.ops [o 5 (.mv (.k (.i .i64 0)))])) (.blk 0 laws_sameInts.c1)) laws_sameInts.c0)))
def laws_sameInts.F : V.Fn := ⟨2, laws_sameInts.B, [.t 4]⟩
def laws_has.c0 : C := (.seq (.kp [4] (.ops [o 4 (.mv (.k (.b false)))])) C.ret)
def laws_has.d1 : C := (.seq (.seq (.kp [0, 1, 5, 9] (.ops [o 6 (.mv (.t 5)), o 7 (.mv (.t 0)), o 8 (.len false (.t 7)), o 9 (.bin .lss 0 (.t 6) (.t 8))])) (.cond (.t 9) C.skip (.exit 0))) (.seq (.blk 1 (.seq (.kp [0, 1, 5, 17] (.ops [o 12 (.mv (.t 0)), o 13 (.mv (.t 5)), o 14 (.iaddr 1 (.t 12) (.t 13)), o 15 (.load none (.t 14)), o 16 (.mv (.t 1)), o 17 (.bin .eql 0 (.t 15) (.t 16))])) (.cond (.t 17) (.seq (.kp [4] (.ops [o 4 (.mv (.k (.b true)))])) C.ret) C.skip))) (.kp [0, 1, 5] (.ops [o 10 (.mv (.t 5)), o 11 (.bin .add 0 (.t 10) (.k (.i .i64 1))), o 5 (.mv (.t 11))]))))
def laws_has.c1 : C := .loop 1 [0, 1, 5] laws_has.d1
def laws_has.B : C := (.seq (.kp [0, 1] (.ops [o 4 (.mv (.k (.b false)))])) (.seq (.seq (.kp [0, 1, 5] (.ops [o 5 (.mv (.k (.i .i64 0)))])) (.blk 0 laws_has.c1)) laws_has.c0))
def laws_has.F : V.Fn := ⟨1, laws_has.B, [.t 4]⟩
def spec_SameTree.c0 : C := (.seq (.kp [4] (.ops [o 4 (.mv (.k (.b true)))])) C.ret)
def spec_SameTree.d1 : C := (.seq (.seq (.kp [0, 1, 5, 14] (.ops [o 11 (.mv (.t 5)), o 12 (.mv (.t 0)), o 13 (.len false (.t 12)), o 14 (.bin .lss 0 (.t 11) (.t 13))])) (.cond (.t 14) C.skip (.exit 0))) (.seq (.blk 1 (.seq (.kp [0, 1, 5, 25] (.draw (sq 9) [o 17 (.mv (.t 0)), o 18 (.mv (.t 5)), o 19 (.iaddr 2 (.t 17) (.t 18)), o 20 (.load (some 2) (.t 19)), o 21 (.mv (.t 1)), o 22 (.mv (.t 5)), o 23 (.iaddr 2 (.t 21) (.t 22)), o 24 (.load (some 2) (.t 23)), o 25 (.eqA true [0, 0] (.t 20) (.t 24))])) (.cond (.t 25) (.seq (.kp [4] (.ops [o 4 (.mv (.k (.b false)))])) C.ret) C.skip))) (.kp [0, 1, 5] (.ops [o 15 (.mv (.t 5)), o 16 (.bin .add 0 (.t 15) (.k (.i .i64 1))), o 5 (.mv (.t 16))]))))
def spec_SameTree.c1 : C := .loop 2 [0, 1, 5] spec_SameTree.d1
def spec_SameTree.B : C := (.seq (.kp [0, 1] (.ops [o 4 (.mv (.k (.b false)))])) (.seq (.seq (.kp [0, 1, 10] (.ops [o 6 (.mv (.t 0)), o 7 (.len false (.t 6)), o 8 (.mv (.t 1)), o 9 (.len false (.t 8)), o 10 (.bin .neq 0 (.t 7) (.t 9))])) (.cond (.t 10) (.seq (.kp [4] (.ops [o 4 (.mv (.k (.b false)))])) C.ret) C.skip)) (.seq (.seq (.kp [0, 1, 5] (.ops [o 5 (.mv (.k (.i .i64 0)))])) (.blk 0 spec_SameTree.c1)) spec_SameTree.c0)))
def spec_SameTree.F : V.Fn := ⟨2, spec_SameTree.B, [.t 4]⟩
def laws_FnMerged.c0 : C := (.seq (.kp [5, 14] (.ops [o 242 (.mv (.t 3)), o 243 (.mv (.t 3)), o 244 (.mv (.t 5)), o 245 (.call 9 [false, false, false] [.t 242, .t 243, .t 244]), o 241 (.mv (.t 245)), o 246 (.ext 0 (.t 241)), o 247 (.ext 1 (.t 241)), o 248 (.ext 2 (.t 241)), o 14 (.mv (.t 246)), o 15 (.mv (.t 247)), o 16 (.mv (.t 248))])) (.seq (.kp [2] (.ops [o 249 (.mv (.t 14)), o 250 (.mv (.t 5)), o 251 (.call 13 [false, false] [.t 249, .t 250]), o 2 (.mv (.t 251))])) C.ret))
def laws_FnMerged.d1 : C := (.seq (.seq (.kp [3, 4, 5, 6, 7, 9, 12, 75] (.ops [o 72 (.mv (.t 12)), o 73 (.mv (.t 3)), o 74 (.len false (.t 73)), o 75 (.bin .lss 0 (.t 72) (.t 74))])) (.cond (.t 75) C.skip (.exit 0))) (.seq (.blk 1 (.seq (.kp [3, 4, 5, 6, 7, 9, 12, 13] (.draw (sq 38) [o 78 (.mv (.t 4)), o 79 (.mv (.t 12)), o 80 (.iaddr 2 (.t 78) (.t 79)), o 81 (.faddr 0 (.t 80)), o 82 (.load none (.t 81)), o 83 (.mv (.t 3)), o 84 (.mv (.t 12)), o 85 (.iaddr 2 (.t 83) (.t 84)), o 86 (.faddr 0 (.t 85)), o 87 (.load none (.t 86)), o 88 (.bin .neq 0 (.t 82) (.t 87)), o 89 (.mv (.t 88)), og 90 89 true (.mv (.t 5)), og 91 89 true (.mv (.t 12)), og 92 89 true (.iaddr 2 (.t 90) (.t 91)), og 93 89 true (.faddr 0 (.t 92)), og 94 89 true (.load none (.t 93)), og 95 89 true (.mv (.t 3)), og 96 89 true (.mv (.t 12)), og 97 89 true (.iaddr 2 (.t 95) (.t 96)), og 98 89 true (.faddr 0 (.t 97)), og 99 89 true (.load none (.t 98)), og 100 89 true (.bin .neq 0 (.t 94) (.t 99)), o 101 (.pick (.t 89) (.t 100) (.k (.b false))), o 102 (.mv (.t 101)), og 103 102 true (.mv (.t 4)), og 104 102 true (.mv (.t 12)), og 105 102 true (.iaddr 2 (.t 103) (.t 104)), og 106 102 true (.faddr 0 (.t 105)), og 107 102 true (.load none (.t 106)), og 108 102 true (.mv (.t 5)), og 109 102 true (.mv (.t 12)), og 110 102 true (.iaddr 2 (.t 108) (.t 109)), og 111 102 true (.faddr 0 (.t 110)), og 112 102 true (.load none (.t 111)), og 113 102 true (.bin .neq 0 (.t 107) (.t 112)), o 114 (.pick (.t 102) (.t 113) (.k (.b false))), o 13 (.mv (.t 114))])) (.seq (.seq (.kp [3, 4, 5, 6, 7, 9, 12, 13, 186] (.draw (tk [0, 1, 2, 3, 4, 5, 6, 7, 8, 9, 10, 11, 12, 13, 14, 16, 15, 17, 18, 19, 20, 21, 22, 23, 24, 25, 26, 27, 28, 29, 30, 31, 32, 33, 34, 35, 36, 37, 38, 39, 40, 41, 42, 43, 44, 45, 46, 47, 48, 49, 50, 51, 52, 53, 54, 55, 56, 57, 58, 59, 60, 61, 62, 63, 64, 65, 66, 67, 68, 69, 70, 71] .done) [o 115 (.mv (.t 6)), o 116 (.len false (.t 115)), o 117 (.mv (.t 3)), o 118 (.len false (.t 117)), o 119 (.bin .neq 0 (.t 116) (.t 118)), o 120 (.mv (.t 119)), og 121 120 false (.mv (.t 9)), og 122 120 false (.len false (.t 121)), og 123 120 false (.mv (.t 3)), og 124 120 false (.len false (.t 123)), og 125 120 false (.bin .neq 0 (.t 122) (.t 124)), o 126 (.pick (.t 120) (.k (.b true)) (.t 125)), o 127 (.mv (.t 126)), og 128 127 false (.mv (.t 7)), og 129 127 false (.mv (.t 12)), og 130 127 false (.call 12 [false, false] [.t 128, .t 129]), og 131 127 false (.mv (.t 13)), og 132 127 false (.bin .neq 1 (.t 130) (.t 131)), o 133 (.pick (.t 127) (.k (.b true)) (.t 132)), o 134 (.mv (.t 133)), og 135 134 false (.mv (.t 6)), og 136 134 false (.mv (.t 12)), og 137 134 false (.iaddr 2 (.t 135) (.t 136)), og 138 134 false (.faddr 1 (.t 137)), og 139 134 false (.load none (.t 138)), og 140 134 false (.mv (.t 3)), og 141 134 false (.mv (.t 12)), og 142 134 false (.iaddr 2 (.t 140) (.t 141)), og 143 134 false (.faddr 1 (.t 142)), og 144 134 false (.load none (.t 143)), og 145 134 false (.bin .neq 0 (.t 139) (.t 144)), o 146 (.pick (.t 134) (.k (.b true)) (.t 145)), o 147 (.mv (.t 146)), og 148 147 false (.mv (.t 13)), og 149 147 false (.mv (.t 148)), og 150 149 true (.mv (.t 6)), og 151 149 true (.mv (.t 12)), og 152 149 true (.iaddr 2 (.t 150) (.t 151)), og 153 149 true (.load (some 2) (.t 152)), og 154 149 true (.mv (.t 4)), og 155 149 true (.mv (.t 12)), og 156 149 true (.iaddr 2 (.t 154) (.t 155)), og 157 149 true (.load (some 2) (.t 156)), og 158 149 true (.eqA true [0, 0] (.t 153) (.t 157)), og 159 149 true (.mv (.t 158)), og 160 159 false (.mv (.t 9)), og 161 159 false (.mv (.t 12)), og 162 159 false (.iaddr 2 (.t 160) (.t 161)), og 163 159 false (.load (some 2) (.t 162)), og 164 159 false (.mv (.t 5)), og 165 159 false (.mv (.t 12)), og 166 159 false (.iaddr 2 (.t 164) (.t 165)), og 167 159 false (.load (some 2) (.t 166)), og 168 159 false (.eqA true [0, 0] (.t 163) (.t 167)), og 169 149 true (.pick (.t 159) (.k (.b true)) (.t 168)), og 170 147 false (.pick (.t 149) (.t 169) (.k (.b false))), o 171 (.pick (.t 147) (.k (.b true)) (.t 170)), o 172 (.mv (.t 171)), og 173 172 false (.mv (.t 13)), og 174 172 false (.un .not (.t 173)), og 175 172 false (.mv (.t 174)), og 176 175 true (.mv (.t 6)), og 177 175 true (.mv (.t 12)), og 178 175 true (.iaddr 2 (.t 176) (.t 177)), og 179 175 true (.load (some 2) (.t 178)), og 180 175 true (.mv (.t 9)), og 181 175 true (.mv (.t 12)), og 182 175 true (.iaddr 2 (.t 180) (.t 181)), og 183 175 true (.load (some 2) (.t 182)), og 184 175 true (.eqA true [0, 0] (.t 179) (.t 183)), og 185 172 false (.pick (.t 175) (.t 184) (.k (.b false))), o 186 (.pick (.t 172) (.k (.b true)) (.t 185))])) (.cond (.t 186) (.seq (.kp [2] (.ops [o 2 (.mv (.k (.b false)))])) C.ret) C.skip)) (.seq (.kp [3, 4, 5, 6, 7, 9, 12, 240] (.draw (sq 54) [o 187 (.mv (.t 13)), o 188 (.un .not (.t 187)), o 189 (.mv (.t 188)), og 190 189 true (.mv (.t 4)), og 191 189 true (.mv (.t 12)), og 192 189 true (.iaddr 2 (.t 190) (.t 191)), og 193 189 true (.faddr 0 (.t 192)), og 194 189 true (.load none (.t 193)), og 195 189 true (.mv (.t 3)), og 196 189 true (.mv (.t 12)), og 197 189 true (.iaddr 2 (.t 195) (.t 196)), og 198 189 true (.faddr 0 (.t 197)), og 199 189 true (.load none (.t 198)), og 200 189 true (.bin .neq 0 (.t 194) (.t 199)), o 201 (.pick (.t 189) (.t 200) (.k (.b false))), o 202 (.mv (.t 201)), og 203 202 true (.mv (.t 6)), og 204 202 true (.mv (.t 12)), og 205 202 true (.iaddr 2 (.t 203) (.t 204)), og 206 202 true (.load (some 2) (.t 205)), og 207 202 true (.mv (.t 4)), og 208 202 true (.mv (.t 12)), og 209 202 true (.iaddr 2 (.t 207) (.t 208)), og 210 202 true (.load (some 2) (.t 209)), og 211 202 true (.eqA true [0, 0] (.t 206) (.t 210)), o 212 (.pick (.t 202) (.t 211) (.k (.b false))), o 213 (.mv (.t 212)), og 214 213 false (.mv (.t 13)), og 215 213 false (.un .not (.t 214)), og 216 213 false (.mv (.t 215)), og 217 216 true (.mv (.t 5)), og 218 216 true (.mv (.t 12)), og 219 216 true (.iaddr 2 (.t 217) (.t 218)), og 220 216 true (.faddr 0 (.t 219)), og 221 216 true (.load none (.t 220)), og 222 216 true (.mv (.t 3)), og 223 216 true (.mv (.t 12)), og 224 216 true (.iaddr 2 (.t 222) (.t 223)), og 225 216 true (.faddr 0 (.t 224)), og 226 216 true (.load none (.t 225)), og 227 216 true (.bin .neq 0 (.t 221) (.t 226)), og 228 213 false (.pick (.t 216) (.t 227) (.k (.b false))), og 229 213 false (.mv (.t 228)), og 230 229 true (.mv (.t 6)), og 231 229 true (.mv (.t 12)), og 232 229 true (.iaddr 2 (.t 230) (.t 231)), og 233 229 true (.load (some 2) (.t 232)), og 234 229 true (.mv (.t 5)), og 235 229 true (.mv (.t 12)), og 236 229 true (.iaddr 2 (.t 234) (.t 235)), og 237 229 true (.load (some 2) (.t 236)), og 238 229 true (.eqA true [0, 0] (.t 233) (.t 237)), og 239 213 false (.pick (.t 229) (.t 238) (.k (.b false))), o 240 (.pick (.t 213) (.k (.b true)) (.t 239))])) (.cond (.t 240) (.seq (.kp [2] (.ops [o 2 (.mv (.k (.b false)))])) C.ret) C.skip))))) (.kp [3, 4, 5, 6, 7, 9, 12] (.ops [o 76 (.mv (.t 12)), o 77 (.bin .add 0 (.t 76) (.k (.i .i64 1))), o 12 (.mv (.t 77))]))))
def laws_FnMerged.c1 : C := .loop 1 [3, 4, 5, 6, 7, 9, 12] laws_FnMerged.d1
def laws_FnMerged.B : C := (.seq (.kp [0] (.ops [o 2 (.mv (.k (.b false)))])) (.seq (.seq (.kp [0, 18] (.ops [o 17 (.mv (.t 0)), o 18 (.call 7 [false] [.t 17])])) (.cond (.t 18) (.seq (.kp [2] (.ops [o 2 (.mv (.k (.b true)))])) C.ret) C.skip)) (.seq (.kp [3, 4, 5] (.ops [o 20 (.mv (.t 0)), o 21 (.call 8 [false] [.t 20]), o 19 (.mv (.t 21)), o 22 (.ext 0 (.t 19)), o 23 (.ext 1 (.t 19)), o 24 (.ext 2 (.t 19)), o 3 (.mv (.t 22)), o 4 (.mv (.t 23)), o 5 (.mv (.t 24))])) (.seq (.kp [3, 4, 5, 6, 7, 8] (.ops [o 26 (.mv (.t 3)), o 27 (.mv (.t 4)), o 28 (.mv (.t 5)), o 29 (.call 9 [false, false, false] [.t 26, .t 27, .t 28]), o 25 (.mv (.t 29)), o 30 (.ext 0 (.t 25)), o 31 (.ext 1 (.t 25)), o 32 (.ext 2 (.t 25)), o 6 (.mv (.t 30)), o 7 (.mv (.t 31)), o 8 (.mv (.t 32))])) (.seq (.kp [3, 4, 5, 6, 7, 8, 9, 10, 11] (.ops [o 34 (.mv (.t 3)), o 35 (.mv (.t 5)), o 36 (.mv (.t 4)), o 37 (.call 9 [false, false, false] [.t 34, .t 35, .t 36]), o 33 (.mv (.t 37)), o 38 (.ext 0 (.t 33)), o 39 (.ext 1 (.t 33)), o 40 (.ext 2 (.t 33)), o 9 (.mv (.t 38)), o 10 (.mv (.t 39)), o 11 (.mv (.t 40))])) (.seq (.seq (.kp [3, 4, 5, 6, 7, 8, 9, 61] (.ops [o 41 (.mv (.t 8)), o 42 (.mv (.t 3)), o 43 (.mv (.t 4)), o 44 (.call 10 [false, false] [.t 42, .t 43]), o 45 (.mv (.t 44)), og 46 45 true (.mv (.t 3)), og 47 45 true (.mv (.t 5)), og 48 45 true (.call 10 [false, false] [.t 46, .t 47]), o 49 (.pick (.t 45) (.t 48) (.k (.b false))), o 50 (.bin .neq 1 (.t 41) (.t 49)), o 51 (.mv (.t 50)), og 52 51 false (.mv (.t 8)), og 53 51 false (.mv (.t 11)), og 54 51 false (.bin .neq 1 (.t 52) (.t 53)), o 55 (.pick (.t 51) (.k (.b true)) (.t 54)), o 56 (.mv (.t 55)), og 57 56 false (.mv (.t 7)), og 58 56 false (.mv (.t 10)), og 59 56 false (.call 11 [false, false] [.t 57, .t 58]), og 60 56 false (.un .not (.t 59)), o 61 (.pick (.t 56) (.k (.b true)) (.t 60))])) (.cond (.t 61) (.seq (.kp [2] (.ops [o 2 (.mv (.k (.b false)))])) C.ret) C.skip)) (.seq (.seq (.kp [3, 4, 5, 6, 7, 9, 63] (.ops [o 62 (.mv (.t 8)), o 63 (.un .not (.t 62))])) (.cond (.t 63) (.seq (.kp [2] (.ops [o 64 (.mv (.t 6)), o 65 (.len false (.t 64)), o 66 (.bin .eql 0 (.t 65) (.k (.i .i64 0))), o 67 (.mv (.t 66)), og 68 67 true (.mv (.t 7)), og 69 67 true (.len false (.t 68)), og 70 67 true (.bin .eql 0 (.t 69) (.k (.i .i64 0))), o 71 (.pick (.t 67) (.t 70) (.k (.b false))), o 2 (.mv (.t 71))])) C.ret) C.skip)) (.seq (.seq (.kp [3, 4, 5, 6, 7, 9, 12] (.ops [o 12 (.mv (.k (.i .i64 0)))])) (.blk 0 laws_FnMerged.c1)) laws_FnMerged.c0))))))))
def laws_FnMerged.F : V.Fn := ⟨1, laws_FnMerged.B, [.t 2]⟩
def tab : List (Nat × V.Fn) := [(7, laws_big.F), (36, spec_l1New.F), (119, spec_l1Byte.F), (79, spec_l1Below.F), (83, spec_l2Label.F), (84, spec_l1Once.F), (78, spec_l3Tree.F), (81, spec_l1PickInt.F), (80, spec_l2Any.F), (37, spec_l3Any.F), (82, spec_l3Copy.F), (90, spec_l1In.F), (89, spec_LabelOk.F), (41, spec_TreeOk.F), (85, spec_l3Near.F), (38, spec_l29Named.F), (8, spec_DrawMergeLabels.F), (120, impl_within.F), (121, impl_LabelOk.F), (122, impl_depthOk.F), (86, impl_TreeOk.F), (88, impl_Depths.F), (87, slices_Equal_int_int.F), (39, impl_SameShape.F), (40, slices_Clone_impl_Node_impl_Node.F), (9, impl_MergeLabels.F), (43, spec_Depths.F), (42, spec_l7Same.F), (10, spec_SameShape.F), (11, laws_sameInts.F), (12, laws_has.F), (13, spec_SameTree.F), (3, laws_FnMerged.F)]
def env : V.Env := ⟨fun f => tab.lookup f, fun _ => none⟩
end Go.Proofs.Ythccagmifnipdaa.P
end YthccagmifnipdaaLC
section YthccagmifnipdaaL7
namespace Go.Proofs.Ythccagmifnipdaa.P
open Go Go.RowKit Go.Proofs.Ythccagmifnipdaa.V
set_option linter.unusedVariables false
set_option linter.unusedSimpArgs false
set_option linter.all false
set_option maxRecDepth 100000
/-! ### laws_big: function 7 -/
def laws_big.f (l0 : List Int) : Option Bool := some (decide ((l0.length : Int) > 1048576))
set_option maxHeartbeats 4000000 in
theorem laws_big.link {l0 : List Int} {r : Bool} (H : laws_big.f l0 = some r) : callW env 7 [.deep false true 1 (l0.map e8)] = some ([.b r], [none]) := by
  unfold laws_big.f at H
  refine callW_fn' (F := laws_big.F) (tm := tmOf [(0, .slc 0 [] 0 1 0 l0.length)]) (rs := rsL [(0, some ⟨false, 1, 0, (l0.map e8)⟩)]) (nx := 1) (ow := [false]) rfl (by rfl) (by simp only [SN]) (by simp only [SN]) (by decide) ?_
  show W env laws_big.B _ (Qf [.t 2] [false] _)
  unfold laws_big.B
  injection H with H; subst H
  try simp only [TN, ↓reduceIte, Nat.reduceEqDiff, Nat.reduceAdd, Nat.reduceMul, Nat.reduceSub, Nat.reduceLeDiff, Nat.reduceLT, Nat.reduceBEq, Nat.reduceBNe, Int.reduceLE, Int.reduceLT, Int.reduceEq, Int.reduceToNat, ne_eq, not_false_eq_true, not_true_eq_false, reduceCtorEq, and_self, eq_self]
  try rfl
end Go.Proofs.Ythccagmifnipdaa.P
end YthccagmifnipdaaL7
section YthccagmifnipdaaL36
namespace Go.Proofs.Ythccagmifnipdaa.P
open Go Go.RowKit Go.Proofs.Ythccagmifnipdaa.V
set_option linter.unusedVariables false
set_option linter.unusedSimpArgs false
set_option linter.all false
set_option maxRecDepth 100000
/-! ### spec_l1New: function 36 -/
def spec_l1New.l0 : Nat → (List Int) → Int → Int → Option ((List Int) × Int × Int)
 | 0, _, _, _ => none
 | k + 1, l0, x3, x4 => if x4 < (l0.length : Int) then (if x4 < 4000 then (if 0 ≤ x4 then (spec_l1New.l0 k l0 (Go.bits .and .i64 (wrap64 ((wrap64 ((wrap64 (x3 * 131)) + (wrap64 (rd l0 x4)))) + 7)) 1073741823) (wrap64 (x4 + 1))) else none) else (some (l0, 0, x3))) else (some (l0, 0, x3))
def spec_l1New.f (k : Nat) (l0 : List Int) : Option ((List Int) × Int × Int) := spec_l1New.l0 k l0 (wrap64 (10101 + (l0.length : Int))) 0
def spec_l1New.P0 (k : Nat) : Prop := ∀ (l0 : List Int) (x3 : Int) (x4 : Int) (r : (List Int) × Int × Int), spec_l1New.l0 k l0 x3 x4 = some r → ∀ st, canon 1 [0, 3, 4] st = ⟨tmOf [(0, .slc 0 [] 0 1 0 l0.length), (3, .i .i64 x3), (4, .i .i64 x4)], rsL [(0, some ⟨false, 1, 0, (l0.map e8)⟩)], 1⟩ → W env spec_l1New.c1 st (Qb 0 (Qs env spec_l1New.c0 (Qf [.t 2] [false] ([.deep true false 3 [[.deep false true 1 (r.1.map e8), .i .i64 r.2.1, .i .i64 r.2.2]]], [none]))))
set_option maxHeartbeats 4000000 in
theorem spec_l1New.s0 (k : Nat) (ih : spec_l1New.P0 k) : spec_l1New.P0 (k + 1) := by
  intro l0 x3 x4 r H st hst
  rw [spec_l1New.l0] at H
  rw [W_loopc (show spec_l1New.c1 = C.loop 1 [0, 3, 4] spec_l1New.d1 from rfl), hst]
  unfold spec_l1New.d1
  try simp only [TN, ↓reduceIte, Nat.reduceEqDiff, Nat.reduceAdd, Nat.reduceMul, Nat.reduceSub, Nat.reduceLeDiff, Nat.reduceLT, Nat.reduceBEq, Nat.reduceBNe, Int.reduceLE, Int.reduceLT, Int.reduceEq, Int.reduceToNat, ne_eq, not_false_eq_true, not_true_eq_false, reduceCtorEq, and_self, eq_self, spec_l1New.c0]
  rcases ite_or H with ⟨h1, H⟩ | ⟨h1, H⟩
  · skip
    try simp only [TN, ↓reduceIte, Nat.reduceEqDiff, Nat.reduceAdd, Nat.reduceMul, Nat.reduceSub, Nat.reduceLeDiff, Nat.reduceLT, Nat.reduceBEq, Nat.reduceBNe, Int.reduceLE, Int.reduceLT, Int.reduceEq, Int.reduceToNat, ne_eq, not_false_eq_true, not_true_eq_false, reduceCtorEq, and_self, eq_self, spec_l1New.c0, h1]
    rcases ite_or H with ⟨h2, H⟩ | ⟨h2, H⟩
    · skip
      obtain ⟨h3, H⟩ := ite_no H
      try simp only [TN, ↓reduceIte, Nat.reduceEqDiff, Nat.reduceAdd, Nat.reduceMul, Nat.reduceSub, Nat.reduceLeDiff, Nat.reduceLT, Nat.reduceBEq, Nat.reduceBNe, Int.reduceLE, Int.reduceLT, Int.reduceEq, Int.reduceToNat, ne_eq, not_false_eq_true, not_true_eq_false, reduceCtorEq, and_self, eq_self, spec_l1New.c0, h1, h2, h3]
      refine ih _ _ _ _ H _ ?_
      first | (rw [canon_eq]; done) | (rw [canon_eq]; rfl) | (rw [canon_eq]; simp only [List.length_set, List.length_append, List.length_replicate]; rfl)
    · skip
      injection H with H; subst H
      try simp only [TN, ↓reduceIte, Nat.reduceEqDiff, Nat.reduceAdd, Nat.reduceMul, Nat.reduceSub, Nat.reduceLeDiff, Nat.reduceLT, Nat.reduceBEq, Nat.reduceBNe, Int.reduceLE, Int.reduceLT, Int.reduceEq, Int.reduceToNat, ne_eq, not_false_eq_true, not_true_eq_false, reduceCtorEq, and_self, eq_self, spec_l1New.c0, h1, h2]
      try rfl
  · skip
    injection H with H; subst H
    try simp only [TN, ↓reduceIte, Nat.reduceEqDiff, Nat.reduceAdd, Nat.reduceMul, Nat.reduceSub, Nat.reduceLeDiff, Nat.reduceLT, Nat.reduceBEq, Nat.reduceBNe, Int.reduceLE, Int.reduceLT, Int.reduceEq, Int.reduceToNat, ne_eq, not_false_eq_true, not_true_eq_false, reduceCtorEq, and_self, eq_self, spec_l1New.c0, h1]
    try rfl
theorem spec_l1New.w : ∀ k, spec_l1New.P0 k := by
  intro k
  induction k with
  | zero => exact by intro l0 x3 x4 r H; cases (show (none : Option ((List Int) × Int × Int)) = some r from H)
  | succ k ih => exact spec_l1New.s0 k ih
set_option maxHeartbeats 4000000 in
theorem spec_l1New.link {k : Nat} {l0 : List Int} {r : (List Int) × Int × Int} (H : spec_l1New.f k l0 = some r) : callW env 36 [.deep false true 1 (l0.map e8)] = some ([.deep true false 3 [[.deep false true 1 (r.1.map e8), .i .i64 r.2.1, .i .i64 r.2.2]]], [none]) := by
  unfold spec_l1New.f at H
  refine callW_fn' (F := spec_l1New.F) (tm := tmOf [(0, .slc 0 [] 0 1 0 l0.length)]) (rs := rsL [(0, some ⟨false, 1, 0, (l0.map e8)⟩)]) (nx := 1) (ow := [false]) rfl (by rfl) (by simp only [SN]) (by simp only [SN]) (by decide) ?_
  show W env spec_l1New.B _ (Qf [.t 2] [false] _)
  unfold spec_l1New.B
  try simp only [TN, ↓reduceIte, Nat.reduceEqDiff, Nat.reduceAdd, Nat.reduceMul, Nat.reduceSub, Nat.reduceLeDiff, Nat.reduceLT, Nat.reduceBEq, Nat.reduceBNe, Int.reduceLE, Int.reduceLT, Int.reduceEq, Int.reduceToNat, ne_eq, not_false_eq_true, not_true_eq_false, reduceCtorEq, and_self, eq_self, spec_l1New.c0]
  refine (spec_l1New.w k) _ _ _ _ H _ ?_
  first | (rw [canon_eq]; done) | (rw [canon_eq]; rfl) | (rw [canon_eq]; simp only [List.length_set, List.length_append, List.length_replicate]; rfl)
end Go.Proofs.Ythccagmifnipdaa.P
end YthccagmifnipdaaL36
section YthccagmifnipdaaL119
namespace Go.Proofs.Ythccagmifnipdaa.P
open Go Go.RowKit Go.Proofs.Ythccagmifnipdaa.V
set_option linter.unusedVariables false
set_option linter.unusedSimpArgs false
set_option linter.all false
set_option maxRecDepth 100000
/-! ### spec_l1Byte: function 119 -/
def spec_l1Byte.f (p0_0 : List Int) (p0_1 : Int) (p0_2 : Int) : Option (Int × Int × Int) := if p0_1 < (p0_0.length : Int) then (if 0 ≤ p0_1 then (some (Go.bits .and .i64 (wrap64 ((Go.bits .and .i64 (Go.bits .xor .i64 (shr .i64 (wrap64 ((wrap64 (p0_2 * 6364136223846793005)) + 1442695040888963407)) 33) (shr .i64 (wrap64 ((wrap64 (p0_2 * 6364136223846793005)) + 1442695040888963407)) 45)) 255) + (wrap64 (rd p0_0 p0_1)))) 255, wrap64 (p0_1 + 1), wrap64 ((wrap64 (p0_2 * 6364136223846793005)) + 1442695040888963407))) else none) else (some (Go.bits .and .i64 (Go.bits .xor .i64 (shr .i64 (wrap64 ((wrap64 (p0_2 * 6364136223846793005)) + 1442695040888963407)) 33) (shr .i64 (wrap64 ((wrap64 (p0_2 * 6364136223846793005)) + 1442695040888963407)) 45)) 255, p0_1, wrap64 ((wrap64 (p0_2 * 6364136223846793005)) + 1442695040888963407)))
set_option maxHeartbeats 4000000 in
theorem spec_l1Byte.link {p0_0 : List Int} {p0_1 : Int} {p0_2 : Int} {r : Int × Int × Int} (H : spec_l1Byte.f p0_0 p0_1 p0_2 = some r) : callW env 119 [.deep true false 3 [[.deep false true 1 (p0_0.map e8), .i .i64 p0_1, .i .i64 p0_2]]] = some ([.i .i64 r.1], [some [[.deep false true 1 (p0_0.map e8), .i .i64 r.2.1, .i .i64 r.2.2]]]) := by
  unfold spec_l1Byte.f at H
  refine callW_fn' (F := spec_l1Byte.F) (tm := tmOf [(0, .ptr 0 [] 0 0 0)]) (rs := rsL [(0, some ⟨true, 3, 0, [[.deep false true 1 (p0_0.map e8), .i .i64 p0_1, .i .i64 p0_2]]⟩)]) (nx := 1) (ow := [true]) rfl (by rfl) (by simp only [SN]) (by simp only [SN]) (by decide) ?_
  show W env spec_l1Byte.B _ (Qf [.t 2] [true] _)
  unfold spec_l1Byte.B
  try simp only [TN, ↓reduceIte, Nat.reduceEqDiff, Nat.reduceAdd, Nat.reduceMul, Nat.reduceSub, Nat.reduceLeDiff, Nat.reduceLT, Nat.reduceBEq, Nat.reduceBNe, Int.reduceLE, Int.reduceLT, Int.reduceEq, Int.reduceToNat, ne_eq, not_false_eq_true, not_true_eq_false, reduceCtorEq, and_self, eq_self]
  rcases ite_or H with ⟨h1, H⟩ | ⟨h1, H⟩
  · skip
    obtain ⟨h2, H⟩ := ite_no H
    injection H with H; subst H
    try simp only [TN, ↓reduceIte, Nat.reduceEqDiff, Nat.reduceAdd, Nat.reduceMul, Nat.reduceSub, Nat.reduceLeDiff, Nat.reduceLT, Nat.reduceBEq, Nat.reduceBNe, Int.reduceLE, Int.reduceLT, Int.reduceEq, Int.reduceToNat, ne_eq, not_false_eq_true, not_true_eq_false, reduceCtorEq, and_self, eq_self, h1, h2]
    try rfl
  · skip
    injection H with H; subst H
    try simp only [TN, ↓reduceIte, Nat.reduceEqDiff, Nat.reduceAdd, Nat.reduceMul, Nat.reduceSub, Nat.reduceLeDiff, Nat.reduceLT, Nat.reduceBEq, Nat.reduceBNe, Int.reduceLE, Int.reduceLT, Int.reduceEq, Int.reduceToNat, ne_eq, not_false_eq_true, not_true_eq_false, reduceCtorEq, and_self, eq_self, h1]
    try rfl
end Go.Proofs.Ythccagmifnipdaa.P
end YthccagmifnipdaaL119
section YthccagmifnipdaaL79
namespace Go.Proofs.Ythccagmifnipdaa.P
open Go Go.RowKit Go.Proofs.Ythccagmifnipdaa.V
set_option linter.unusedVariables false
set_option linter.unusedSimpArgs false
set_option linter.all false
set_option maxRecDepth 100000
/-! ### spec_l1Below: function 79 -/
def spec_l1Below.f (p0_0 : List Int) (p0_1 : Int) (p0_2 : Int) (a1 : Int) : Option (Int × Int × Int) := if a1 ≤ 0 then (some (0, p0_1, p0_2)) else (if a1 ≤ 256 then ((spec_l1Byte.f p0_0 p0_1 p0_2).bind fun bt1 => (if a1 = 0 then none else (some (Int.tmod bt1.1 a1, bt1.2.1, bt1.2.2)))) else ((spec_l1Byte.f p0_0 p0_1 p0_2).bind fun bt2 => ((spec_l1Byte.f p0_0 bt2.2.1 bt2.2.2).bind fun bt3 => ((spec_l1Byte.f p0_0 bt3.2.1 bt3.2.2).bind fun bt4 => ((spec_l1Byte.f p0_0 bt4.2.1 bt4.2.2).bind fun bt5 => (if a1 = 0 then none else (some (Int.tmod (wrap64 ((wrap64 ((wrap64 ((wrap64 (bt2.1 * 16777216)) + (wrap64 (bt3.1 * 65536)))) + (wrap64 (bt4.1 * 256)))) + bt5.1)) a1, bt5.2.1, bt5.2.2))))))))
set_option maxHeartbeats 4000000 in
theorem spec_l1Below.link {p0_0 : List Int} {p0_1 : Int} {p0_2 : Int} {a1 : Int} {r : Int × Int × Int} (H : spec_l1Below.f p0_0 p0_1 p0_2 a1 = some r) : callW env 79 [.deep true false 3 [[.deep false true 1 (p0_0.map e8), .i .i64 p0_1, .i .i64 p0_2]], .i .i64 a1] = some ([.i .i64 r.1], [some [[.deep false true 1 (p0_0.map e8), .i .i64 r.2.1, .i .i64 r.2.2]]]) := by
  unfold spec_l1Below.f at H
  refine callW_fn' (F := spec_l1Below.F) (tm := tmOf [(0, .ptr 0 [] 0 0 0), (1, .i .i64 a1)]) (rs := rsL [(0, some ⟨true, 3, 0, [[.deep false true 1 (p0_0.map e8), .i .i64 p0_1, .i .i64 p0_2]]⟩)]) (nx := 1) (ow := [true]) rfl (by rfl) (by simp only [SN]) (by simp only [SN]) (by decide) ?_
  show W env spec_l1Below.B _ (Qf [.t 4] [true] _)
  unfold spec_l1Below.B
  try simp only [TN, ↓reduceIte, Nat.reduceEqDiff, Nat.reduceAdd, Nat.reduceMul, Nat.reduceSub, Nat.reduceLeDiff, Nat.reduceLT, Nat.reduceBEq, Nat.reduceBNe, Int.reduceLE, Int.reduceLT, Int.reduceEq, Int.reduceToNat, ne_eq, not_false_eq_true, not_true_eq_false, reduceCtorEq, and_self, eq_self]
  rcases ite_or H with ⟨h1, H⟩ | ⟨h1, H⟩
  · skip
    injection H with H; subst H
    try simp only [TN, ↓reduceIte, Nat.reduceEqDiff, Nat.reduceAdd, Nat.reduceMul, Nat.reduceSub, Nat.reduceLeDiff, Nat.reduceLT, Nat.reduceBEq, Nat.reduceBNe, Int.reduceLE, Int.reduceLT, Int.reduceEq, Int.reduceToNat, ne_eq, not_false_eq_true, not_true_eq_false, reduceCtorEq, and_self, eq_self, h1]
    try rfl
  · skip
    try simp only [TN, ↓reduceIte, Nat.reduceEqDiff, Nat.reduceAdd, Nat.reduceMul, Nat.reduceSub, Nat.reduceLeDiff, Nat.reduceLT, Nat.reduceBEq, Nat.reduceBNe, Int.reduceLE, Int.reduceLT, Int.reduceEq, Int.reduceToNat, ne_eq, not_false_eq_true, not_true_eq_false, reduceCtorEq, and_self, eq_self, h1]
    rcases ite_or H with ⟨h2, H⟩ | ⟨h2, H⟩
    · skip
      obtain ⟨bt1, e3, H⟩ := bnd_some H
      have e3 := spec_l1Byte.link e3
      obtain ⟨h4, H⟩ := ite_nn H
      injection H with H; subst H
      try simp only [TN, ↓reduceIte, Nat.reduceEqDiff, Nat.reduceAdd, Nat.reduceMul, Nat.reduceSub, Nat.reduceLeDiff, Nat.reduceLT, Nat.reduceBEq, Nat.reduceBNe, Int.reduceLE, Int.reduceLT, Int.reduceEq, Int.reduceToNat, ne_eq, not_false_eq_true, not_true_eq_false, reduceCtorEq, and_self, eq_self, h1, h2, e3, h4]
      try rfl
    · skip
      obtain ⟨bt2, e5, H⟩ := bnd_some H
      have e5 := spec_l1Byte.link e5
      obtain ⟨bt3, e6, H⟩ := bnd_some H
      have e6 := spec_l1Byte.link e6
      obtain ⟨bt4, e7, H⟩ := bnd_some H
      have e7 := spec_l1Byte.link e7
      obtain ⟨bt5, e8, H⟩ := bnd_some H
      have e8 := spec_l1Byte.link e8
      obtain ⟨h9, H⟩ := ite_nn H
      injection H with H; subst H
      try simp only [TN, ↓reduceIte, Nat.reduceEqDiff, Nat.reduceAdd, Nat.reduceMul, Nat.reduceSub, Nat.reduceLeDiff, Nat.reduceLT, Nat.reduceBEq, Nat.reduceBNe, Int.reduceLE, Int.reduceLT, Int.reduceEq, Int.reduceToNat, ne_eq, not_false_eq_true, not_true_eq_false, reduceCtorEq, and_self, eq_self, h1, h2, e5, e6, e7, e8, h9]
      try rfl
end Go.Proofs.Ythccagmifnipdaa.P
end YthccagmifnipdaaL79
section YthccagmifnipdaaL83
namespace Go.Proofs.Ythccagmifnipdaa.P
open Go Go.RowKit Go.Proofs.Ythccagmifnipdaa.V
set_option linter.unusedVariables false
set_option linter.unusedSimpArgs false
set_option linter.all false
set_option maxRecDepth 100000
/-! ### spec_l2Label: function 83 -/
def spec_l2Label.f (p0_0 : List Int) (p0_1 : Int) (p0_2 : Int) : Option (Int × Int × Int) := (spec_l1Below.f p0_0 p0_1 p0_2 4).bind fun bt1 => (some (bt1.1, bt1.2.1, bt1.2.2))
set_option maxHeartbeats 4000000 in
theorem spec_l2Label.link {p0_0 : List Int} {p0_1 : Int} {p0_2 : Int} {r : Int × Int × Int} (H : spec_l2Label.f p0_0 p0_1 p0_2 = some r) : callW env 83 [.deep true false 3 [[.deep false true 1 (p0_0.map e8), .i .i64 p0_1, .i .i64 p0_2]]] = some ([.i .i64 r.1], [some [[.deep false true 1 (p0_0.map e8), .i .i64 r.2.1, .i .i64 r.2.2]]]) := by
  unfold spec_l2Label.f at H
  refine callW_fn' (F := spec_l2Label.F) (tm := tmOf [(0, .ptr 0 [] 0 0 0)]) (rs := rsL [(0, some ⟨true, 3, 0, [[.deep false true 1 (p0_0.map e8), .i .i64 p0_1, .i .i64 p0_2]]⟩)]) (nx := 1) (ow := [true]) rfl (by rfl) (by simp only [SN]) (by simp only [SN]) (by decide) ?_
  show W env spec_l2Label.B _ (Qf [.t 2] [true] _)
  unfold spec_l2Label.B
  obtain ⟨bt1, e1, H⟩ := bnd_some H
  have e1 := spec_l1Below.link e1
  injection H with H; subst H
  try simp only [TN, ↓reduceIte, Nat.reduceEqDiff, Nat.reduceAdd, Nat.reduceMul, Nat.reduceSub, Nat.reduceLeDiff, Nat.reduceLT, Nat.reduceBEq, Nat.reduceBNe, Int.reduceLE, Int.reduceLT, Int.reduceEq, Int.reduceToNat, ne_eq, not_false_eq_true, not_true_eq_false, reduceCtorEq, and_self, eq_self, e1]
  try rfl
end Go.Proofs.Ythccagmifnipdaa.P
end YthccagmifnipdaaL83
section YthccagmifnipdaaL84
namespace Go.Proofs.Ythccagmifnipdaa.P
open Go Go.RowKit Go.Proofs.Ythccagmifnipdaa.V
set_option linter.unusedVariables false
set_option linter.unusedSimpArgs false
set_option linter.all false
set_option maxRecDepth 100000
/-! ### spec_l1Once: function 84 -/
def spec_l1Once.f (p0_0 : List Int) (p0_1 : Int) (p0_2 : Int) (a1 : Int) : Option (Bool × Int × Int) := (spec_l1Below.f p0_0 p0_1 p0_2 a1).bind fun bt1 => (some ((bt1.1 == 0), bt1.2.1, bt1.2.2))
set_option maxHeartbeats 4000000 in
theorem spec_l1Once.link {p0_0 : List Int} {p0_1 : Int} {p0_2 : Int} {a1 : Int} {r : Bool × Int × Int} (H : spec_l1Once.f p0_0 p0_1 p0_2 a1 = some r) : callW env 84 [.deep true false 3 [[.deep false true 1 (p0_0.map e8), .i .i64 p0_1, .i .i64 p0_2]], .i .i64 a1] = some ([.b r.1], [some [[.deep false true 1 (p0_0.map e8), .i .i64 r.2.1, .i .i64 r.2.2]]]) := by
  unfold spec_l1Once.f at H
  refine callW_fn' (F := spec_l1Once.F) (tm := tmOf [(0, .ptr 0 [] 0 0 0), (1, .i .i64 a1)]) (rs := rsL [(0, some ⟨true, 3, 0, [[.deep false true 1 (p0_0.map e8), .i .i64 p0_1, .i .i64 p0_2]]⟩)]) (nx := 1) (ow := [true]) rfl (by rfl) (by simp only [SN]) (by simp only [SN]) (by decide) ?_
  show W env spec_l1Once.B _ (Qf [.t 4] [true] _)
  unfold spec_l1Once.B
  obtain ⟨bt1, e1, H⟩ := bnd_some H
  have e1 := spec_l1Below.link e1
  injection H with H; subst H
  try simp only [TN, ↓reduceIte, Nat.reduceEqDiff, Nat.reduceAdd, Nat.reduceMul, Nat.reduceSub, Nat.reduceLeDiff, Nat.reduceLT, Nat.reduceBEq, Nat.reduceBNe, Int.reduceLE, Int.reduceLT, Int.reduceEq, Int.reduceToNat, ne_eq, not_false_eq_true, not_true_eq_false, reduceCtorEq, and_self, eq_self, e1]
  try rfl
end Go.Proofs.Ythccagmifnipdaa.P
end YthccagmifnipdaaL84
section YthccagmifnipdaaL78
namespace Go.Proofs.Ythccagmifnipdaa.P
open Go Go.RowKit Go.Proofs.Ythccagmifnipdaa.V
set_option linter.unusedVariables false
set_option linter.unusedSimpArgs false
set_option linter.all false
set_option maxRecDepth 100000
/-! ### spec_l3Tree: function 78 -/
def spec_l3Tree.l0 : Nat → (List S33) → Int → (List Int) → Int → Int → Option ((List S33) × Int × Int)
 | 0, _, _, _, _, _ => none
 | k + 1, x5, x6, p0_0, c0_1, c0_2 => if x6 > 0 then (if 0 ≤ wrap64 ((x5.length : Int) - 1) then (if wrap64 ((x5.length : Int) - 1) < (x5.length : Int) then ((spec_l1Below.f p0_0 c0_1 c0_2 (wrap64 (((rd_T33 x5 (wrap64 ((x5.length : Int) - 1))).f1) + 1))).bind fun bt3 => ((spec_l1Once.f p0_0 bt3.2.1 bt3.2.2 2).bind fun bt4 => (if bt4.1 = true then (if (wrap64 (((rd_T33 x5 (wrap64 ((x5.length : Int) - 1))).f1) + 1)) > 12 then ((spec_l2Label.f p0_0 bt4.2.1 bt4.2.2).bind fun bt5 => (if x5.length < 8796093022208 then (spec_l3Tree.l0 k (x5 ++ ([(⟨bt5.1, 1⟩ : S33)])) (wrap64 (x6 - 1)) p0_0 bt5.2.1 bt5.2.2) else none)) else ((spec_l2Label.f p0_0 bt4.2.1 bt4.2.2).bind fun bt6 => (if x5.length < 8796093022208 then (spec_l3Tree.l0 k (x5 ++ ([(⟨bt6.1, wrap64 (((rd_T33 x5 (wrap64 ((x5.length : Int) - 1))).f1) + 1)⟩ : S33)])) (wrap64 (x6 - 1)) p0_0 bt6.2.1 bt6.2.2) else none))) else (if (wrap64 (1 + bt3.1)) > 12 then ((spec_l2Label.f p0_0 bt4.2.1 bt4.2.2).bind fun bt7 => (if x5.length < 8796093022208 then (spec_l3Tree.l0 k (x5 ++ ([(⟨bt7.1, 1⟩ : S33)])) (wrap64 (x6 - 1)) p0_0 bt7.2.1 bt7.2.2) else none)) else ((spec_l2Label.f p0_0 bt4.2.1 bt4.2.2).bind fun bt8 => (if x5.length < 8796093022208 then (spec_l3Tree.l0 k (x5 ++ ([(⟨bt8.1, wrap64 (1 + bt3.1)⟩ : S33)])) (wrap64 (x6 - 1)) p0_0 bt8.2.1 bt8.2.2) else none)))))) else none) else none) else (some (x5, c0_1, c0_2))
def spec_l3Tree.f (k : Nat) (p0_0 : List Int) (p0_1 : Int) (p0_2 : Int) (a1 : Int) : Option ((List S33) × Int × Int) := (spec_l2Label.f p0_0 p0_1 p0_2).bind fun bt1 => ((spec_l1Below.f p0_0 bt1.2.1 bt1.2.2 a1).bind fun bt2 => (spec_l3Tree.l0 k ([(⟨bt1.1, 0⟩ : S33)]) bt2.1 p0_0 bt2.2.1 bt2.2.2))
def spec_l3Tree.P0 (k : Nat) : Prop := ∀ (x5 : List S33) (x6 : Int) (p0_0 : List Int) (c0_1 : Int) (c0_2 : Int) (r : (List S33) × Int × Int), spec_l3Tree.l0 k x5 x6 p0_0 c0_1 c0_2 = some r → ∀ st, canon 1 [0, 5, 6] st = ⟨tmOf [(0, .ptr 0 [] 0 0 0), (5, .slc 1 [] 0 2 0 x5.length), (6, .i .i64 x6)], rsL [(0, some ⟨true, 3, 0, [[.deep false true 1 (p0_0.map e8), .i .i64 c0_1, .i .i64 c0_2]]⟩), (1, some ⟨true, 2, 0, (x5.map e33)⟩)], 2⟩ → W env spec_l3Tree.c1 st (Qb 0 (Qs env spec_l3Tree.c0 (Qf [.t 4] [true] ([.deep false false 2 (r.1.map e33)], [some [[.deep false true 1 (p0_0.map e8), .i .i64 r.2.1, .i .i64 r.2.2]]]))))
set_option maxHeartbeats 4000000 in
theorem spec_l3Tree.s0 (k : Nat) (ih : spec_l3Tree.P0 k) : spec_l3Tree.P0 (k + 1) := by
  intro x5 x6 p0_0 c0_1 c0_2 r H st hst
  rw [spec_l3Tree.l0] at H
  rw [W_loopc (show spec_l3Tree.c1 = C.loop 1 [0, 5, 6] spec_l3Tree.d1 from rfl), hst]
  unfold spec_l3Tree.d1
  try simp only [TN, ↓reduceIte, Nat.reduceEqDiff, Nat.reduceAdd, Nat.reduceMul, Nat.reduceSub, Nat.reduceLeDiff, Nat.reduceLT, Nat.reduceBEq, Nat.reduceBNe, Int.reduceLE, Int.reduceLT, Int.reduceEq, Int.reduceToNat, ne_eq, not_false_eq_true, not_true_eq_false, reduceCtorEq, and_self, eq_self, spec_l3Tree.c0]
  rcases ite_or H with ⟨h1, H⟩ | ⟨h1, H⟩
  · skip
    obtain ⟨h2, H⟩ := ite_no H
    obtain ⟨h3, H⟩ := ite_no H
    obtain ⟨bt3, e4, H⟩ := bnd_some H
    have e4 := spec_l1Below.link e4
    obtain ⟨bt4, e5, H⟩ := bnd_some H
    have e5 := spec_l1Once.link e5
    try simp only [TN, ↓reduceIte, Nat.reduceEqDiff, Nat.reduceAdd, Nat.reduceMul, Nat.reduceSub, Nat.reduceLeDiff, Nat.reduceLT, Nat.reduceBEq, Nat.reduceBNe, Int.reduceLE, Int.reduceLT, Int.reduceEq, Int.reduceToNat, ne_eq, not_false_eq_true, not_true_eq_false, reduceCtorEq, and_self, eq_self, spec_l3Tree.c0, h1, h2, h3, e4, e5]
    rcases ite_b H with ⟨h6, H⟩ | ⟨h6, H⟩
    · skip
      try simp only [TN, ↓reduceIte, Nat.reduceEqDiff, Nat.reduceAdd, Nat.reduceMul, Nat.reduceSub, Nat.reduceLeDiff, Nat.reduceLT, Nat.reduceBEq, Nat.reduceBNe, Int.reduceLE, Int.reduceLT, Int.reduceEq, Int.reduceToNat, ne_eq, not_false_eq_true, not_true_eq_false, reduceCtorEq, and_self, eq_self, spec_l3Tree.c0, h1, h2, h3, e4, e5, h6]
      rcases ite_or H with ⟨h7, H⟩ | ⟨h7, H⟩
      · skip
        obtain ⟨bt5, e8, H⟩ := bnd_some H
        have e8 := spec_l2Label.link e8
        obtain ⟨h9, H⟩ := ite_no H
        have h10 : (x5.length + 1) * 16 ≤ 140737488355328 := by omega
        try simp only [TN, ↓reduceIte, Nat.reduceEqDiff, Nat.reduceAdd, Nat.reduceMul, Nat.reduceSub, Nat.reduceLeDiff, Nat.reduceLT, Nat.reduceBEq, Nat.reduceBNe, Int.reduceLE, Int.reduceLT, Int.reduceEq, Int.reduceToNat, ne_eq, not_false_eq_true, not_true_eq_false, reduceCtorEq, and_self, eq_self, spec_l3Tree.c0, h1, h2, h3, e4, e5, h6, h7, e8, @litX_33_1, h9, h10]
        refine ih _ _ _ _ _ _ H _ ?_
        first | (rw [canon_eq]; done) | (rw [canon_eq]; rfl) | (rw [canon_eq]; simp only [List.length_set, List.length_append, List.length_replicate]; rfl)
      · skip
        obtain ⟨bt6, e11, H⟩ := bnd_some H
        have e11 := spec_l2Label.link e11
        obtain ⟨h12, H⟩ := ite_no H
        have h13 : (x5.length + 1) * 16 ≤ 140737488355328 := by omega
        try simp only [TN, ↓reduceIte, Nat.reduceEqDiff, Nat.reduceAdd, Nat.reduceMul, Nat.reduceSub, Nat.reduceLeDiff, Nat.reduceLT, Nat.reduceBEq, Nat.reduceBNe, Int.reduceLE, Int.reduceLT, Int.reduceEq, Int.reduceToNat, ne_eq, not_false_eq_true, not_true_eq_false, reduceCtorEq, and_self, eq_self, spec_l3Tree.c0, h1, h2, h3, e4, e5, h6, h7, e11, @litX_33_1, h12, h13]
        refine ih _ _ _ _ _ _ H _ ?_
        first | (rw [canon_eq]; done) | (rw [canon_eq]; rfl) | (rw [canon_eq]; simp only [List.length_set, List.length_append, List.length_replicate]; rfl)
    · skip
      try simp only [TN, ↓reduceIte, Nat.reduceEqDiff, Nat.reduceAdd, Nat.reduceMul, Nat.reduceSub, Nat.reduceLeDiff, Nat.reduceLT, Nat.reduceBEq, Nat.reduceBNe, Int.reduceLE, Int.reduceLT, Int.reduceEq, Int.reduceToNat, ne_eq, not_false_eq_true, not_true_eq_false, reduceCtorEq, and_self, eq_self, spec_l3Tree.c0, h1, h2, h3, e4, e5, h6]
      rcases ite_or H with ⟨h14, H⟩ | ⟨h14, H⟩
      · skip
        obtain ⟨bt7, e15, H⟩ := bnd_some H
        have e15 := spec_l2Label.link e15
        obtain ⟨h16, H⟩ := ite_no H
        have h17 : (x5.length + 1) * 16 ≤ 140737488355328 := by omega
        try simp only [TN, ↓reduceIte, Nat.reduceEqDiff, Nat.reduceAdd, Nat.reduceMul, Nat.reduceSub, Nat.reduceLeDiff, Nat.reduceLT, Nat.reduceBEq, Nat.reduceBNe, Int.reduceLE, Int.reduceLT, Int.reduceEq, Int.reduceToNat, ne_eq, not_false_eq_true, not_true_eq_false, reduceCtorEq, and_self, eq_self, spec_l3Tree.c0, h1, h2, h3, e4, e5, h6, h14, e15, @litX_33_1, h16, h17]
        refine ih _ _ _ _ _ _ H _ ?_
        first | (rw [canon_eq]; done) | (rw [canon_eq]; rfl) | (rw [canon_eq]; simp only [List.length_set, List.length_append, List.length_replicate]; rfl)
      · skip
        obtain ⟨bt8, e18, H⟩ := bnd_some H
        have e18 := spec_l2Label.link e18
        obtain ⟨h19, H⟩ := ite_no H
        have h20 : (x5.length + 1) * 16 ≤ 140737488355328 := by omega
        try simp only [TN, ↓reduceIte, Nat.reduceEqDiff, Nat.reduceAdd, Nat.reduceMul, Nat.reduceSub, Nat.reduceLeDiff, Nat.reduceLT, Nat.reduceBEq, Nat.reduceBNe, Int.reduceLE, Int.reduceLT, Int.reduceEq, Int.reduceToNat, ne_eq, not_false_eq_true, not_true_eq_false, reduceCtorEq, and_self, eq_self, spec_l3Tree.c0, h1, h2, h3, e4, e5, h6, h14, e18, @litX_33_1, h19, h20]
        refine ih _ _ _ _ _ _ H _ ?_
        first | (rw [canon_eq]; done) | (rw [canon_eq]; rfl) | (rw [canon_eq]; simp only [List.length_set, List.length_append, List.length_replicate]; rfl)
  · skip
    injection H with H; subst H
    try simp only [TN, ↓reduceIte, Nat.reduceEqDiff, Nat.reduceAdd, Nat.reduceMul, Nat.reduceSub, Nat.reduceLeDiff, Nat.reduceLT, Nat.reduceBEq, Nat.reduceBNe, Int.reduceLE, Int.reduceLT, Int.reduceEq, Int.reduceToNat, ne_eq, not_false_eq_true, not_true_eq_false, reduceCtorEq, and_self, eq_self, spec_l3Tree.c0, h1]
    try rfl
theorem spec_l3Tree.w : ∀ k, spec_l3Tree.P0 k := by
  intro k
  induction k with
  | zero => exact by intro x5 x6 p0_0 c0_1 c0_2 r H; cases (show (none : Option ((List S33) × Int × Int)) = some r from H)
  | succ k ih => exact spec_l3Tree.s0 k ih
set_option maxHeartbeats 4000000 in
theorem spec_l3Tree.link {k : Nat} {p0_0 : List Int} {p0_1 : Int} {p0_2 : Int} {a1 : Int} {r : (List S33) × Int × Int} (H : spec_l3Tree.f k p0_0 p0_1 p0_2 a1 = some r) : callW env 78 [.deep true false 3 [[.deep false true 1 (p0_0.map e8), .i .i64 p0_1, .i .i64 p0_2]], .i .i64 a1] = some ([.deep false false 2 (r.1.map e33)], [some [[.deep false true 1 (p0_0.map e8), .i .i64 r.2.1, .i .i64 r.2.2]]]) := by
  unfold spec_l3Tree.f at H
  refine callW_fn' (F := spec_l3Tree.F) (tm := tmOf [(0, .ptr 0 [] 0 0 0), (1, .i .i64 a1)]) (rs := rsL [(0, some ⟨true, 3, 0, [[.deep false true 1 (p0_0.map e8), .i .i64 p0_1, .i .i64 p0_2]]⟩)]) (nx := 1) (ow := [true]) rfl (by rfl) (by simp only [SN]) (by simp only [SN]) (by decide) ?_
  show W env spec_l3Tree.B _ (Qf [.t 4] [true] _)
  unfold spec_l3Tree.B
  obtain ⟨bt1, e1, H⟩ := bnd_some H
  have e1 := spec_l2Label.link e1
  obtain ⟨bt2, e2, H⟩ := bnd_some H
  have e2 := spec_l1Below.link e2
  try simp only [TN, ↓reduceIte, Nat.reduceEqDiff, Nat.reduceAdd, Nat.reduceMul, Nat.reduceSub, Nat.reduceLeDiff, Nat.reduceLT, Nat.reduceBEq, Nat.reduceBNe, Int.reduceLE, Int.reduceLT, Int.reduceEq, Int.reduceToNat, ne_eq, not_false_eq_true, not_true_eq_false, reduceCtorEq, and_self, eq_self, spec_l3Tree.c0, e1, @litX_33_1, e2]
  refine (spec_l3Tree.w k) _ _ _ _ _ _ H _ ?_
  first | (rw [canon_eq]; done) | (rw [canon_eq]; rfl) | (rw [canon_eq]; simp only [List.length_set, List.length_append, List.length_replicate]; rfl)
end Go.Proofs.Ythccagmifnipdaa.P
end YthccagmifnipdaaL78
section YthccagmifnipdaaL81
namespace Go.Proofs.Ythccagmifnipdaa.P
open Go Go.RowKit Go.Proofs.Ythccagmifnipdaa.V
set_option linter.unusedVariables false
set_option linter.unusedSimpArgs false
set_option linter.all false
set_option maxRecDepth 100000
/-! ### spec_l1PickInt: function 81 -/
def spec_l1PickInt.f (p0_0 : List Int) (p0_1 : Int) (p0_2 : Int) (l1 : List Int) : Option (Int × Int × Int) := (spec_l1Below.f p0_0 p0_1 p0_2 (l1.length : Int)).bind fun bt1 => (if 0 ≤ bt1.1 then (if bt1.1 < (l1.length : Int) then (some (rd l1 bt1.1, bt1.2.1, bt1.2.2)) else none) else none)
set_option maxHeartbeats 4000000 in
theorem spec_l1PickInt.link {p0_0 : List Int} {p0_1 : Int} {p0_2 : Int} {l1 : List Int} {r : Int × Int × Int} (H : spec_l1PickInt.f p0_0 p0_1 p0_2 l1 = some r) : callW env 81 [.deep true false 3 [[.deep false true 1 (p0_0.map e8), .i .i64 p0_1, .i .i64 p0_2]], .deep false false 1 (l1.map eI)] = some ([.i .i64 r.1], [some [[.deep false true 1 (p0_0.map e8), .i .i64 r.2.1, .i .i64 r.2.2]], some (l1.map eI)]) := by
  unfold spec_l1PickInt.f at H
  refine callW_fn' (F := spec_l1PickInt.F) (tm := tmOf [(0, .ptr 0 [] 0 0 0), (1, .slc 1 [] 0 1 0 l1.length)]) (rs := rsL [(0, some ⟨true, 3, 0, [[.deep false true 1 (p0_0.map e8), .i .i64 p0_1, .i .i64 p0_2]]⟩), (1, some ⟨true, 1, 0, (l1.map eI)⟩)]) (nx := 2) (ow := [true, true]) rfl (by rfl) (by simp only [SN]) (by simp only [SN]) (by decide) ?_
  show W env spec_l1PickInt.B _ (Qf [.t 4] [true, true] _)
  unfold spec_l1PickInt.B
  obtain ⟨bt1, e1, H⟩ := bnd_some H
  have e1 := spec_l1Below.link e1
  obtain ⟨h2, H⟩ := ite_no H
  obtain ⟨h3, H⟩ := ite_no H
  injection H with H; subst H
  try simp only [TN, ↓reduceIte, Nat.reduceEqDiff, Nat.reduceAdd, Nat.reduceMul, Nat.reduceSub, Nat.reduceLeDiff, Nat.reduceLT, Nat.reduceBEq, Nat.reduceBNe, Int.reduceLE, Int.reduceLT, Int.reduceEq, Int.reduceToNat, ne_eq, not_false_eq_true, not_true_eq_false, reduceCtorEq, and_self, eq_self, e1, h2, h3]
  try rfl
end Go.Proofs.Ythccagmifnipdaa.P
end YthccagmifnipdaaL81
section YthccagmifnipdaaL80
namespace Go.Proofs.Ythccagmifnipdaa.P
open Go Go.RowKit Go.Proofs.Ythccagmifnipdaa.V
set_option linter.unusedVariables false
set_option linter.unusedSimpArgs false
set_option linter.all false
set_option maxRecDepth 100000
/-! ### spec_l2Any: function 80 -/
def spec_l2Any.f (p0_0 : List Int) (p0_1 : Int) (p0_2 : Int) : Option (Int × Int × Int) := (spec_l1PickInt.f p0_0 p0_1 p0_2 ([0, 1, 2, 3, 5, 6, (-1)])).bind fun bt1 => (some (bt1.1, bt1.2.1, bt1.2.2))
set_option maxHeartbeats 4000000 in
theorem spec_l2Any.link {p0_0 : List Int} {p0_1 : Int} {p0_2 : Int} {r : Int × Int × Int} (H : spec_l2Any.f p0_0 p0_1 p0_2 = some r) : callW env 80 [.deep true false 3 [[.deep false true 1 (p0_0.map e8), .i .i64 p0_1, .i .i64 p0_2]]] = some ([.i .i64 r.1], [some [[.deep false true 1 (p0_0.map e8), .i .i64 r.2.1, .i .i64 r.2.2]]]) := by
  unfold spec_l2Any.f at H
  refine callW_fn' (F := spec_l2Any.F) (tm := tmOf [(0, .ptr 0 [] 0 0 0)]) (rs := rsL [(0, some ⟨true, 3, 0, [[.deep false true 1 (p0_0.map e8), .i .i64 p0_1, .i .i64 p0_2]]⟩)]) (nx := 1) (ow := [true]) rfl (by rfl) (by simp only [SN]) (by simp only [SN]) (by decide) ?_
  show W env spec_l2Any.B _ (Qf [.t 2] [true] _)
  unfold spec_l2Any.B
  obtain ⟨bt1, e1, H⟩ := bnd_some H
  have e1 := spec_l1PickInt.link e1
  injection H with H; subst H
  try simp only [TN, ↓reduceIte, Nat.reduceEqDiff, Nat.reduceAdd, Nat.reduceMul, Nat.reduceSub, Nat.reduceLeDiff, Nat.reduceLT, Nat.reduceBEq, Nat.reduceBNe, Int.reduceLE, Int.reduceLT, Int.reduceEq, Int.reduceToNat, ne_eq, not_false_eq_true, not_true_eq_false, reduceCtorEq, and_self, eq_self, e1]
  try rfl
end Go.Proofs.Ythccagmifnipdaa.P
end YthccagmifnipdaaL80
section YthccagmifnipdaaL37
namespace Go.Proofs.Ythccagmifnipdaa.P
open Go Go.RowKit Go.Proofs.Ythccagmifnipdaa.V
set_option linter.unusedVariables false
set_option linter.unusedSimpArgs false
set_option linter.all false
set_option maxRecDepth 100000
/-! ### spec_l3Any: function 37 -/
mutual
def spec_l3Any.l0 : Nat → (List S33) → (List Int) → Int → Int → Option ((List S33) × Int × Int)
 | 0, _, _, _, _ => none
 | k + 1, x5, p0_0, c0_1, c0_2 => (spec_l1Below.f p0_0 c0_1 c0_2 2).bind fun bt6 => (if (x5.length : Int) < (wrap64 (24 + bt6.1)) then (if x5.length < 8796093022208 then (spec_l3Any.l0 k (x5 ++ ([(⟨1, 1⟩ : S33)])) p0_0 bt6.2.1 bt6.2.2) else none) else (some (x5, bt6.2.1, bt6.2.2)))
def spec_l3Any.l1 : Nat → (List S33) → (List Int) → Int → Int → Option ((List S33) × Int × Int)
 | 0, _, _, _, _ => none
 | k + 1, x5, p0_0, c0_1, c0_2 => (spec_l1Below.f p0_0 c0_1 c0_2 2).bind fun bt7 => (if (x5.length : Int) < (wrap64 (13 + bt7.1)) then (if x5.length < 8796093022208 then (spec_l3Any.l1 k (x5 ++ ([(⟨0, (x5.length : Int)⟩ : S33)])) p0_0 bt7.2.1 bt7.2.2) else none) else (some (x5, bt7.2.1, bt7.2.2)))
end
def spec_l3Any.f (k : Nat) (p0_0 : List Int) (p0_1 : Int) (p0_2 : Int) (a1 : Int) : Option ((List S33) × Int × Int) := (spec_l3Tree.f k p0_0 p0_1 p0_2 a1).bind fun bt1 => ((spec_l1Below.f p0_0 bt1.2.1 bt1.2.2 (bt1.1.length : Int)).bind fun bt2 => ((spec_l1Below.f p0_0 bt2.2.1 bt2.2.2 18).bind fun bt3 => (if bt3.1 = 0 then ((spec_l2Any.f p0_0 bt3.2.1 bt3.2.2).bind fun bt4 => (if 0 ≤ bt2.1 then (if bt2.1 < (bt1.1.length : Int) then (some ((bt1.1.set (bt2.1 : Int).toNat (⟨bt4.1, (rd_T33 bt1.1 bt2.1).f1⟩ : S33)), bt4.2.1, bt4.2.2)) else none) else none)) else (if bt3.1 = 1 then (if 0 ≤ bt2.1 then (if bt2.1 < (bt1.1.length : Int) then ((spec_l1PickInt.f p0_0 bt3.2.1 bt3.2.2 ([(-1), 0, 1, 13, wrap64 (((rd_T33 bt1.1 bt2.1).f1) + 1)])).bind fun bt5 => (some ((bt1.1.set (bt2.1 : Int).toNat (⟨(rd_T33 bt1.1 bt2.1).f0, bt5.1⟩ : S33)), bt5.2.1, bt5.2.2))) else none) else none) else (if bt3.1 = 2 then (if 1 ≤ (bt1.1.length : Int) then ((some (bt1.1.drop (1 : Int).toNat : List S33)).bind fun y2 => (some (y2, bt3.2.1, bt3.2.2))) else none) else (if bt3.1 = 3 then (spec_l3Any.l0 k bt1.1 p0_0 bt3.2.1 bt3.2.2) else (if bt3.1 = 4 then (spec_l3Any.l1 k ([(⟨0, 0⟩ : S33)]) p0_0 bt3.2.1 bt3.2.2) else (some (bt1.1, bt3.2.1, bt3.2.2)))))))))
def spec_l3Any.P0 (k : Nat) : Prop := ∀ (x5 : List S33) (p0_0 : List Int) (c0_1 : Int) (c0_2 : Int) (r : (List S33) × Int × Int), spec_l3Any.l0 k x5 p0_0 c0_1 c0_2 = some r → ∀ st, canon 1 [0, 5] st = ⟨tmOf [(0, .ptr 0 [] 0 0 0), (5, .slc 1 [] 0 2 0 x5.length)], rsL [(0, some ⟨true, 3, 0, [[.deep false true 1 (p0_0.map e8), .i .i64 c0_1, .i .i64 c0_2]]⟩), (1, some ⟨true, 2, 0, (x5.map e33)⟩)], 2⟩ → W env spec_l3Any.c1 st (Qb 1 (Qb 0 (Qs env spec_l3Any.c0 (Qf [.t 4] [true] ([.deep false false 2 (r.1.map e33)], [some [[.deep false true 1 (p0_0.map e8), .i .i64 r.2.1, .i .i64 r.2.2]]])))))
def spec_l3Any.P1 (k : Nat) : Prop := ∀ (x5 : List S33) (p0_0 : List Int) (c0_1 : Int) (c0_2 : Int) (r : (List S33) × Int × Int), spec_l3Any.l1 k x5 p0_0 c0_1 c0_2 = some r → ∀ st, canon 1 [0, 5] st = ⟨tmOf [(0, .ptr 0 [] 0 0 0), (5, .slc 1 [] 0 2 0 x5.length)], rsL [(0, some ⟨true, 3, 0, [[.deep false true 1 (p0_0.map e8), .i .i64 c0_1, .i .i64 c0_2]]⟩), (1, some ⟨true, 2, 0, (x5.map e33)⟩)], 2⟩ → W env spec_l3Any.c2 st (Qb 3 (Qb 0 (Qs env spec_l3Any.c0 (Qf [.t 4] [true] ([.deep false false 2 (r.1.map e33)], [some [[.deep false true 1 (p0_0.map e8), .i .i64 r.2.1, .i .i64 r.2.2]]])))))
set_option maxHeartbeats 4000000 in
theorem spec_l3Any.s0 (k : Nat) (ih : spec_l3Any.P0 k ∧ spec_l3Any.P1 k) : spec_l3Any.P0 (k + 1) := by
  intro x5 p0_0 c0_1 c0_2 r H st hst
  rw [spec_l3Any.l0] at H
  rw [W_loopc (show spec_l3Any.c1 = C.loop 1 [0, 5] spec_l3Any.d1 from rfl), hst]
  unfold spec_l3Any.d1
  obtain ⟨bt6, e1, H⟩ := bnd_some H
  have e1 := spec_l1Below.link e1
  try simp only [TN, ↓reduceIte, Nat.reduceEqDiff, Nat.reduceAdd, Nat.reduceMul, Nat.reduceSub, Nat.reduceLeDiff, Nat.reduceLT, Nat.reduceBEq, Nat.reduceBNe, Int.reduceLE, Int.reduceLT, Int.reduceEq, Int.reduceToNat, ne_eq, not_false_eq_true, not_true_eq_false, reduceCtorEq, and_self, eq_self, spec_l3Any.c0, e1]
  rcases ite_or H with ⟨h2, H⟩ | ⟨h2, H⟩
  · skip
    obtain ⟨h3, H⟩ := ite_no H
    have h4 : (x5.length + 1) * 16 ≤ 140737488355328 := by omega
    try simp only [TN, ↓reduceIte, Nat.reduceEqDiff, Nat.reduceAdd, Nat.reduceMul, Nat.reduceSub, Nat.reduceLeDiff, Nat.reduceLT, Nat.reduceBEq, Nat.reduceBNe, Int.reduceLE, Int.reduceLT, Int.reduceEq, Int.reduceToNat, ne_eq, not_false_eq_true, not_true_eq_false, reduceCtorEq, and_self, eq_self, spec_l3Any.c0, e1, h2, @litX_33_1, h3, h4]
    refine ih.1 _ _ _ _ _ H _ ?_
    first | (rw [canon_eq]; done) | (rw [canon_eq]; rfl) | (rw [canon_eq]; simp only [List.length_set, List.length_append, List.length_replicate]; rfl)
  · skip
    injection H with H; subst H
    try simp only [TN, ↓reduceIte, Nat.reduceEqDiff, Nat.reduceAdd, Nat.reduceMul, Nat.reduceSub, Nat.reduceLeDiff, Nat.reduceLT, Nat.reduceBEq, Nat.reduceBNe, Int.reduceLE, Int.reduceLT, Int.reduceEq, Int.reduceToNat, ne_eq, not_false_eq_true, not_true_eq_false, reduceCtorEq, and_self, eq_self, spec_l3Any.c0, e1, h2]
    try rfl
set_option maxHeartbeats 4000000 in
theorem spec_l3Any.s1 (k : Nat) (ih : spec_l3Any.P0 k ∧ spec_l3Any.P1 k) : spec_l3Any.P1 (k + 1) := by
  intro x5 p0_0 c0_1 c0_2 r H st hst
  rw [spec_l3Any.l1] at H
  rw [W_loopc (show spec_l3Any.c2 = C.loop 1 [0, 5] spec_l3Any.d2 from rfl), hst]
  unfold spec_l3Any.d2
  obtain ⟨bt7, e1, H⟩ := bnd_some H
  have e1 := spec_l1Below.link e1
  try simp only [TN, ↓reduceIte, Nat.reduceEqDiff, Nat.reduceAdd, Nat.reduceMul, Nat.reduceSub, Nat.reduceLeDiff, Nat.reduceLT, Nat.reduceBEq, Nat.reduceBNe, Int.reduceLE, Int.reduceLT, Int.reduceEq, Int.reduceToNat, ne_eq, not_false_eq_true, not_true_eq_false, reduceCtorEq, and_self, eq_self, spec_l3Any.c0, e1]
  rcases ite_or H with ⟨h2, H⟩ | ⟨h2, H⟩
  · skip
    obtain ⟨h3, H⟩ := ite_no H
    have h4 : (x5.length + 1) * 16 ≤ 140737488355328 := by omega
    try simp only [TN, ↓reduceIte, Nat.reduceEqDiff, Nat.reduceAdd, Nat.reduceMul, Nat.reduceSub, Nat.reduceLeDiff, Nat.reduceLT, Nat.reduceBEq, Nat.reduceBNe, Int.reduceLE, Int.reduceLT, Int.reduceEq, Int.reduceToNat, ne_eq, not_false_eq_true, not_true_eq_false, reduceCtorEq, and_self, eq_self, spec_l3Any.c0, e1, h2, @litX_33_1, h3, h4]
    refine ih.2 _ _ _ _ _ H _ ?_
    first | (rw [canon_eq]; done) | (rw [canon_eq]; rfl) | (rw [canon_eq]; simp only [List.length_set, List.length_append, List.length_replicate]; rfl)
  · skip
    injection H with H; subst H
    try simp only [TN, ↓reduceIte, Nat.reduceEqDiff, Nat.reduceAdd, Nat.reduceMul, Nat.reduceSub, Nat.reduceLeDiff, Nat.reduceLT, Nat.reduceBEq, Nat.reduceBNe, Int.reduceLE, Int.reduceLT, Int.reduceEq, Int.reduceToNat, ne_eq, not_false_eq_true, not_true_eq_false, reduceCtorEq, and_self, eq_self, spec_l3Any.c0, e1, h2]
    try rfl
theorem spec_l3Any.w : ∀ k, spec_l3Any.P0 k ∧ spec_l3Any.P1 k := by
  intro k
  induction k with
  | zero => exact ⟨(by intro x5 p0_0 c0_1 c0_2 r H; cases (show (none : Option ((List S33) × Int × Int)) = some r from H)), (by intro x5 p0_0 c0_1 c0_2 r H; cases (show (none : Option ((List S33) × Int × Int)) = some r from H))⟩
  | succ k ih => exact ⟨(spec_l3Any.s0 k ih), (spec_l3Any.s1 k ih)⟩
set_option maxHeartbeats 4000000 in
theorem spec_l3Any.link {k : Nat} {p0_0 : List Int} {p0_1 : Int} {p0_2 : Int} {a1 : Int} {r : (List S33) × Int × Int} (H : spec_l3Any.f k p0_0 p0_1 p0_2 a1 = some r) : callW env 37 [.deep true false 3 [[.deep false true 1 (p0_0.map e8), .i .i64 p0_1, .i .i64 p0_2]], .i .i64 a1] = some ([.deep false false 2 (r.1.map e33)], [some [[.deep false true 1 (p0_0.map e8), .i .i64 r.2.1, .i .i64 r.2.2]]]) := by
  unfold spec_l3Any.f at H
  refine callW_fn' (F := spec_l3Any.F) (tm := tmOf [(0, .ptr 0 [] 0 0 0), (1, .i .i64 a1)]) (rs := rsL [(0, some ⟨true, 3, 0, [[.deep false true 1 (p0_0.map e8), .i .i64 p0_1, .i .i64 p0_2]]⟩)]) (nx := 1) (ow := [true]) rfl (by rfl) (by simp only [SN]) (by simp only [SN]) (by decide) ?_
  show W env spec_l3Any.B _ (Qf [.t 4] [true] _)
  unfold spec_l3Any.B
  obtain ⟨bt1, e1, H⟩ := bnd_some H
  have e1 := spec_l3Tree.link e1
  obtain ⟨bt2, e2, H⟩ := bnd_some H
  have e2 := spec_l1Below.link e2
  obtain ⟨bt3, e3, H⟩ := bnd_some H
  have e3 := spec_l1Below.link e3
  try simp only [TN, ↓reduceIte, Nat.reduceEqDiff, Nat.reduceAdd, Nat.reduceMul, Nat.reduceSub, Nat.reduceLeDiff, Nat.reduceLT, Nat.reduceBEq, Nat.reduceBNe, Int.reduceLE, Int.reduceLT, Int.reduceEq, Int.reduceToNat, ne_eq, not_false_eq_true, not_true_eq_false, reduceCtorEq, and_self, eq_self, spec_l3Any.c0, e1, e2, e3]
  rcases ite_or H with ⟨h4, H⟩ | ⟨h4, H⟩
  · skip
    obtain ⟨bt4, e5, H⟩ := bnd_some H
    have e5 := spec_l2Any.link e5
    obtain ⟨h6, H⟩ := ite_no H
    obtain ⟨h7, H⟩ := ite_no H
    injection H with H; subst H
    try simp only [TN, ↓reduceIte, Nat.reduceEqDiff, Nat.reduceAdd, Nat.reduceMul, Nat.reduceSub, Nat.reduceLeDiff, Nat.reduceLT, Nat.reduceBEq, Nat.reduceBNe, Int.reduceLE, Int.reduceLT, Int.reduceEq, Int.reduceToNat, ne_eq, not_false_eq_true, not_true_eq_false, reduceCtorEq, and_self, eq_self, spec_l3Any.c0, e1, e2, e3, eq_true h4, e5, h6, h7]
    try rfl
  · skip
    try simp only [TN, ↓reduceIte, Nat.reduceEqDiff, Nat.reduceAdd, Nat.reduceMul, Nat.reduceSub, Nat.reduceLeDiff, Nat.reduceLT, Nat.reduceBEq, Nat.reduceBNe, Int.reduceLE, Int.reduceLT, Int.reduceEq, Int.reduceToNat, ne_eq, not_false_eq_true, not_true_eq_false, reduceCtorEq, and_self, eq_self, spec_l3Any.c0, e1, e2, e3, h4]
    rcases ite_or H with ⟨h8, H⟩ | ⟨h8, H⟩
    · skip
      obtain ⟨h9, H⟩ := ite_no H
      obtain ⟨h10, H⟩ := ite_no H
      obtain ⟨bt5, e11, H⟩ := bnd_some H
      have e11 := spec_l1PickInt.link e11
      injection H with H; subst H
      try simp only [TN, ↓reduceIte, Nat.reduceEqDiff, Nat.reduceAdd, Nat.reduceMul, Nat.reduceSub, Nat.reduceLeDiff, Nat.reduceLT, Nat.reduceBEq, Nat.reduceBNe, Int.reduceLE, Int.reduceLT, Int.reduceEq, Int.reduceToNat, ne_eq, not_false_eq_true, not_true_eq_false, reduceCtorEq, and_self, eq_self, spec_l3Any.c0, e1, e2, e3, h4, eq_true h8, h9, h10, e11]
      try rfl
    · skip
      try simp only [TN, ↓reduceIte, Nat.reduceEqDiff, Nat.reduceAdd, Nat.reduceMul, Nat.reduceSub, Nat.reduceLeDiff, Nat.reduceLT, Nat.reduceBEq, Nat.reduceBNe, Int.reduceLE, Int.reduceLT, Int.reduceEq, Int.reduceToNat, ne_eq, not_false_eq_true, not_true_eq_false, reduceCtorEq, and_self, eq_self, spec_l3Any.c0, e1, e2, e3, h4, h8]
      rcases ite_or H with ⟨h12, H⟩ | ⟨h12, H⟩
      · skip
        obtain ⟨h13, H⟩ := ite_no H
        obtain ⟨y2, hy2, H⟩ := some_bnd H
        have h14 : bt1.1.length - 1 = List.length y2 := by rw [← hy2]; simp only [List.length_drop, List.length_take] <;> omega
        have cw14 : (List.drop (1) bt1.1).take (List.length y2) = y2 := by rw [← hy2]; exact List.take_length
        have g14 : ∀ {j : Int}, 0 ≤ j → j < (List.length y2 : Int) → (bt1.1.map e33)[1 + j.toNat]? = some (e33 (rd_T33 y2 j)) := fun h1 h2 => get_w cw14 h1 h2
        have w14 := wnd_cut (e := e33) cw14
        injection H with H; subst H
        try simp only [TN, ↓reduceIte, Nat.reduceEqDiff, Nat.reduceAdd, Nat.reduceMul, Nat.reduceSub, Nat.reduceLeDiff, Nat.reduceLT, Nat.reduceBEq, Nat.reduceBNe, Int.reduceLE, Int.reduceLT, Int.reduceEq, Int.reduceToNat, ne_eq, not_false_eq_true, not_true_eq_false, reduceCtorEq, and_self, eq_self, spec_l3Any.c0, e1, e2, e3, h4, h8, eq_true h12, h13, h14, g14, w14]
        try rfl
      · skip
        try simp only [TN, ↓reduceIte, Nat.reduceEqDiff, Nat.reduceAdd, Nat.reduceMul, Nat.reduceSub, Nat.reduceLeDiff, Nat.reduceLT, Nat.reduceBEq, Nat.reduceBNe, Int.reduceLE, Int.reduceLT, Int.reduceEq, Int.reduceToNat, ne_eq, not_false_eq_true, not_true_eq_false, reduceCtorEq, and_self, eq_self, spec_l3Any.c0, e1, e2, e3, h4, h8, h12]
        rcases ite_or H with ⟨h15, H⟩ | ⟨h15, H⟩
        · skip
          try simp only [TN, ↓reduceIte, Nat.reduceEqDiff, Nat.reduceAdd, Nat.reduceMul, Nat.reduceSub, Nat.reduceLeDiff, Nat.reduceLT, Nat.reduceBEq, Nat.reduceBNe, Int.reduceLE, Int.reduceLT, Int.reduceEq, Int.reduceToNat, ne_eq, not_false_eq_true, not_true_eq_false, reduceCtorEq, and_self, eq_self, spec_l3Any.c0, e1, e2, e3, h4, h8, h12, eq_true h15]
          refine (spec_l3Any.w k).1 _ _ _ _ _ H _ ?_
          first | (rw [canon_eq]; done) | (rw [canon_eq]; rfl) | (rw [canon_eq]; simp only [List.length_set, List.length_append, List.length_replicate]; rfl)
        · skip
          try simp only [TN, ↓reduceIte, Nat.reduceEqDiff, Nat.reduceAdd, Nat.reduceMul, Nat.reduceSub, Nat.reduceLeDiff, Nat.reduceLT, Nat.reduceBEq, Nat.reduceBNe, Int.reduceLE, Int.reduceLT, Int.reduceEq, Int.reduceToNat, ne_eq, not_false_eq_true, not_true_eq_false, reduceCtorEq, and_self, eq_self, spec_l3Any.c0, e1, e2, e3, h4, h8, h12, h15]
          rcases ite_or H with ⟨h16, H⟩ | ⟨h16, H⟩
          · skip
            try simp only [TN, ↓reduceIte, Nat.reduceEqDiff, Nat.reduceAdd, Nat.reduceMul, Nat.reduceSub, Nat.reduceLeDiff, Nat.reduceLT, Nat.reduceBEq, Nat.reduceBNe, Int.reduceLE, Int.reduceLT, Int.reduceEq, Int.reduceToNat, ne_eq, not_false_eq_true, not_true_eq_false, reduceCtorEq, and_self, eq_self, spec_l3Any.c0, e1, e2, e3, h4, h8, h12, h15, eq_true h16, @litX_33_1]
            refine (spec_l3Any.w k).2 _ _ _ _ _ H _ ?_
            first | (rw [canon_eq]; done) | (rw [canon_eq]; rfl) | (rw [canon_eq]; simp only [List.length_set, List.length_append, List.length_replicate]; rfl)
          · skip
            injection H with H; subst H
            try simp only [TN, ↓reduceIte, Nat.reduceEqDiff, Nat.reduceAdd, Nat.reduceMul, Nat.reduceSub, Nat.reduceLeDiff, Nat.reduceLT, Nat.reduceBEq, Nat.reduceBNe, Int.reduceLE, Int.reduceLT, Int.reduceEq, Int.reduceToNat, ne_eq, not_false_eq_true, not_true_eq_false, reduceCtorEq, and_self, eq_self, spec_l3Any.c0, e1, e2, e3, h4, h8, h12, h15, h16]
            try rfl
end Go.Proofs.Ythccagmifnipdaa.P
end YthccagmifnipdaaL37
section YthccagmifnipdaaL82
namespace Go.Proofs.Ythccagmifnipdaa.P
open Go Go.RowKit Go.Proofs.Ythccagmifnipdaa.V
set_option linter.unusedVariables false
set_option linter.unusedSimpArgs false
set_option linter.all false
set_option maxRecDepth 100000
/-! ### spec_l3Copy: function 82 -/
def spec_l3Copy.f (l0 : List S33) : Option (List S33) := if l0.length * 16 ≤ 140737488355328 then (some l0) else none
set_option maxHeartbeats 4000000 in
theorem spec_l3Copy.link {l0 : List S33} {r : (List S33)} (H : spec_l3Copy.f l0 = some r) : callW env 82 [.deep false true 2 (l0.map e33)] = some ([.deep false false 2 (r.map e33)], [none]) := by
  unfold spec_l3Copy.f at H
  refine callW_fn' (F := spec_l3Copy.F) (tm := tmOf [(0, .slc 0 [] 0 2 0 l0.length)]) (rs := rsL [(0, some ⟨false, 2, 0, (l0.map e33)⟩)]) (nx := 1) (ow := [false]) rfl (by rfl) (by simp only [SN]) (by simp only [SN]) (by decide) ?_
  show W env spec_l3Copy.B _ (Qf [.t 2] [false] _)
  unfold spec_l3Copy.B
  obtain ⟨h1, H⟩ := ite_no H
  injection H with H; subst H
  try simp only [TN, ↓reduceIte, Nat.reduceEqDiff, Nat.reduceAdd, Nat.reduceMul, Nat.reduceSub, Nat.reduceLeDiff, Nat.reduceLT, Nat.reduceBEq, Nat.reduceBNe, Int.reduceLE, Int.reduceLT, Int.reduceEq, Int.reduceToNat, ne_eq, not_false_eq_true, not_true_eq_false, reduceCtorEq, and_self, eq_self, h1]
  try rfl
end Go.Proofs.Ythccagmifnipdaa.P
end YthccagmifnipdaaL82
section YthccagmifnipdaaL90
namespace Go.Proofs.Ythccagmifnipdaa.P
open Go Go.RowKit Go.Proofs.Ythccagmifnipdaa.V
set_option linter.unusedVariables false
set_option linter.unusedSimpArgs false
set_option linter.all false
set_option maxRecDepth 100000
/-! ### spec_l1In: function 90 -/
def spec_l1In.f (a0 : Int) (a1 : Int) (a2 : Int) : Option Bool := if a0 ≥ a1 then (some (decide (a0 ≤ a2))) else (some false)
set_option maxHeartbeats 4000000 in
theorem spec_l1In.link {a0 : Int} {a1 : Int} {a2 : Int} {r : Bool} (H : spec_l1In.f a0 a1 a2 = some r) : callW env 90 [.i .i64 a0, .i .i64 a1, .i .i64 a2] = some ([.b r], []) := by
  unfold spec_l1In.f at H
  refine callW_fn' (F := spec_l1In.F) (tm := tmOf [(0, .i .i64 a0), (1, .i .i64 a1), (2, .i .i64 a2)]) (rs := rsL []) (nx := 0) (ow := []) rfl (by rfl) (by simp only [SN]) (by simp only [SN]) (by decide) ?_
  show W env spec_l1In.B _ (Qf [.t 6] [] _)
  unfold spec_l1In.B
  try simp only [TN, ↓reduceIte, Nat.reduceEqDiff, Nat.reduceAdd, Nat.reduceMul, Nat.reduceSub, Nat.reduceLeDiff, Nat.reduceLT, Nat.reduceBEq, Nat.reduceBNe, Int.reduceLE, Int.reduceLT, Int.reduceEq, Int.reduceToNat, ne_eq, not_false_eq_true, not_true_eq_false, reduceCtorEq, and_self, eq_self]
  rcases ite_or H with ⟨h1, H⟩ | ⟨h1, H⟩
  · skip
    injection H with H; subst H
    try simp only [TN, ↓reduceIte, Nat.reduceEqDiff, Nat.reduceAdd, Nat.reduceMul, Nat.reduceSub, Nat.reduceLeDiff, Nat.reduceLT, Nat.reduceBEq, Nat.reduceBNe, Int.reduceLE, Int.reduceLT, Int.reduceEq, Int.reduceToNat, ne_eq, not_false_eq_true, not_true_eq_false, reduceCtorEq, and_self, eq_self, h1]
    try rfl
  · skip
    injection H with H; subst H
    try simp only [TN, ↓reduceIte, Nat.reduceEqDiff, Nat.reduceAdd, Nat.reduceMul, Nat.reduceSub, Nat.reduceLeDiff, Nat.reduceLT, Nat.reduceBEq, Nat.reduceBNe, Int.reduceLE, Int.reduceLT, Int.reduceEq, Int.reduceToNat, ne_eq, not_false_eq_true, not_true_eq_false, reduceCtorEq, and_self, eq_self, h1]
    try rfl
end Go.Proofs.Ythccagmifnipdaa.P
end YthccagmifnipdaaL90
section YthccagmifnipdaaL89
namespace Go.Proofs.Ythccagmifnipdaa.P
open Go Go.RowKit Go.Proofs.Ythccagmifnipdaa.V
set_option linter.unusedVariables false
set_option linter.unusedSimpArgs false
set_option linter.all false
set_option maxRecDepth 100000
/-! ### spec_LabelOk: function 89 -/
def spec_LabelOk.f (a0 : Int) : Option Bool := (spec_l1In.f a0 0 5).bind fun t1 => (some t1)
set_option maxHeartbeats 4000000 in
theorem spec_LabelOk.link {a0 : Int} {r : Bool} (H : spec_LabelOk.f a0 = some r) : callW env 89 [.i .i64 a0] = some ([.b r], []) := by
  unfold spec_LabelOk.f at H
  refine callW_fn' (F := spec_LabelOk.F) (tm := tmOf [(0, .i .i64 a0)]) (rs := rsL []) (nx := 0) (ow := []) rfl (by rfl) (by simp only [SN]) (by simp only [SN]) (by decide) ?_
  show W env spec_LabelOk.B _ (Qf [.t 2] [] _)
  unfold spec_LabelOk.B
  obtain ⟨t1, e1, H⟩ := bnd_some H
  have e1 := spec_l1In.link e1
  injection H with H; subst H
  try simp only [TN, ↓reduceIte, Nat.reduceEqDiff, Nat.reduceAdd, Nat.reduceMul, Nat.reduceSub, Nat.reduceLeDiff, Nat.reduceLT, Nat.reduceBEq, Nat.reduceBNe, Int.reduceLE, Int.reduceLT, Int.reduceEq, Int.reduceToNat, ne_eq, not_false_eq_true, not_true_eq_false, reduceCtorEq, and_self, eq_self, e1]
  try rfl
end Go.Proofs.Ythccagmifnipdaa.P
end YthccagmifnipdaaL89
section YthccagmifnipdaaL41
namespace Go.Proofs.Ythccagmifnipdaa.P
open Go Go.RowKit Go.Proofs.Ythccagmifnipdaa.V
set_option linter.unusedVariables false
set_option linter.unusedSimpArgs false
set_option linter.all false
set_option maxRecDepth 100000
/-! ### spec_TreeOk: function 41 -/
def spec_TreeOk.l0 : Nat → (List S33) → Int → Option Bool
 | 0, _, _ => none
 | k + 1, l0, x3 => if x3 < (l0.length : Int) then (if 0 ≤ x3 then ((spec_LabelOk.f ((rd_T33 l0 x3).f0)).bind fun t1 => (if t1 = true then ((spec_l1In.f ((rd_T33 l0 x3).f1) 0 12).bind fun t2 => (if t2 = true then (if (decide (((rd_T33 l0 x3).f1) = 0)) = (decide (x3 = 0)) then (if x3 > 0 then (if 0 ≤ wrap64 (x3 - 1) then (if wrap64 (x3 - 1) < (l0.length : Int) then (if ((rd_T33 l0 x3).f1) > (wrap64 (((rd_T33 l0 (wrap64 (x3 - 1))).f1) + 1)) then (some false) else (spec_TreeOk.l0 k l0 (wrap64 (x3 + 1)))) else none) else none) else (spec_TreeOk.l0 k l0 (wrap64 (x3 + 1)))) else (some false)) else (some false))) else (some false))) else none) else ((spec_l1In.f (l0.length : Int) 1 24).bind fun t3 => (some t3))
def spec_TreeOk.f (k : Nat) (l0 : List S33) : Option Bool := spec_TreeOk.l0 k l0 0
def spec_TreeOk.P0 (k : Nat) : Prop := ∀ (l0 : List S33) (x3 : Int) (r : Bool), spec_TreeOk.l0 k l0 x3 = some r → ∀ st, canon 1 [0, 3] st = ⟨tmOf [(0, .slc 0 [] 0 2 0 l0.length), (3, .i .i64 x3)], rsL [(0, some ⟨false, 2, 0, (l0.map e33)⟩)], 1⟩ → W env spec_TreeOk.c1 st (Qb 0 (Qs env spec_TreeOk.c0 (Qf [.t 2] [false] ([.b r], [none]))))
set_option maxHeartbeats 4000000 in
theorem spec_TreeOk.s0 (k : Nat) (ih : spec_TreeOk.P0 k) : spec_TreeOk.P0 (k + 1) := by
  intro l0 x3 r H st hst
  rw [spec_TreeOk.l0] at H
  rw [W_loopc (show spec_TreeOk.c1 = C.loop 1 [0, 3] spec_TreeOk.d1 from rfl), hst]
  unfold spec_TreeOk.d1
  try simp only [TN, ↓reduceIte, Nat.reduceEqDiff, Nat.reduceAdd, Nat.reduceMul, Nat.reduceSub, Nat.reduceLeDiff, Nat.reduceLT, Nat.reduceBEq, Nat.reduceBNe, Int.reduceLE, Int.reduceLT, Int.reduceEq, Int.reduceToNat, ne_eq, not_false_eq_true, not_true_eq_false, reduceCtorEq, and_self, eq_self, spec_TreeOk.c0]
  rcases ite_or H with ⟨h1, H⟩ | ⟨h1, H⟩
  · skip
    obtain ⟨h2, H⟩ := ite_no H
    obtain ⟨t1, e3, H⟩ := bnd_some H
    have e3 := spec_LabelOk.link e3
    try simp only [TN, ↓reduceIte, Nat.reduceEqDiff, Nat.reduceAdd, Nat.reduceMul, Nat.reduceSub, Nat.reduceLeDiff, Nat.reduceLT, Nat.reduceBEq, Nat.reduceBNe, Int.reduceLE, Int.reduceLT, Int.reduceEq, Int.reduceToNat, ne_eq, not_false_eq_true, not_true_eq_false, reduceCtorEq, and_self, eq_self, spec_TreeOk.c0, h1, h2, e3]
    rcases ite_b H with ⟨h4, H⟩ | ⟨h4, H⟩
    · skip
      obtain ⟨t2, e5, H⟩ := bnd_some H
      have e5 := spec_l1In.link e5
      try simp only [TN, ↓reduceIte, Nat.reduceEqDiff, Nat.reduceAdd, Nat.reduceMul, Nat.reduceSub, Nat.reduceLeDiff, Nat.reduceLT, Nat.reduceBEq, Nat.reduceBNe, Int.reduceLE, Int.reduceLT, Int.reduceEq, Int.reduceToNat, ne_eq, not_false_eq_true, not_true_eq_false, reduceCtorEq, and_self, eq_self, spec_TreeOk.c0, h1, h2, e3, h4, e5]
      rcases ite_b H with ⟨h6, H⟩ | ⟨h6, H⟩
      · skip
        try simp only [TN, ↓reduceIte, Nat.reduceEqDiff, Nat.reduceAdd, Nat.reduceMul, Nat.reduceSub, Nat.reduceLeDiff, Nat.reduceLT, Nat.reduceBEq, Nat.reduceBNe, Int.reduceLE, Int.reduceLT, Int.reduceEq, Int.reduceToNat, ne_eq, not_false_eq_true, not_true_eq_false, reduceCtorEq, and_self, eq_self, spec_TreeOk.c0, h1, h2, e3, h4, e5, h6]
        rcases ite_or H with ⟨h7, H⟩ | ⟨h7, H⟩
        · skip
          try simp only [TN, ↓reduceIte, Nat.reduceEqDiff, Nat.reduceAdd, Nat.reduceMul, Nat.reduceSub, Nat.reduceLeDiff, Nat.reduceLT, Nat.reduceBEq, Nat.reduceBNe, Int.reduceLE, Int.reduceLT, Int.reduceEq, Int.reduceToNat, ne_eq, not_false_eq_true, not_true_eq_false, reduceCtorEq, and_self, eq_self, spec_TreeOk.c0, h1, h2, e3, h4, e5, h6, eq_true h7]
          rcases ite_or H with ⟨h8, H⟩ | ⟨h8, H⟩
          · skip
            obtain ⟨h9, H⟩ := ite_no H
            obtain ⟨h10, H⟩ := ite_no H
            try simp only [TN, ↓reduceIte, Nat.reduceEqDiff, Nat.reduceAdd, Nat.reduceMul, Nat.reduceSub, Nat.reduceLeDiff, Nat.reduceLT, Nat.reduceBEq, Nat.reduceBNe, Int.reduceLE, Int.reduceLT, Int.reduceEq, Int.reduceToNat, ne_eq, not_false_eq_true, not_true_eq_false, reduceCtorEq, and_self, eq_self, spec_TreeOk.c0, h1, h2, e3, h4, e5, h6, eq_true h7, h8, h9, h10]
            rcases ite_or H with ⟨h11, H⟩ | ⟨h11, H⟩
            · skip
              injection H with H; subst H
              try simp only [TN, ↓reduceIte, Nat.reduceEqDiff, Nat.reduceAdd, Nat.reduceMul, Nat.reduceSub, Nat.reduceLeDiff, Nat.reduceLT, Nat.reduceBEq, Nat.reduceBNe, Int.reduceLE, Int.reduceLT, Int.reduceEq, Int.reduceToNat, ne_eq, not_false_eq_true, not_true_eq_false, reduceCtorEq, and_self, eq_self, spec_TreeOk.c0, h1, h2, e3, h4, e5, h6, eq_true h7, h8, h9, h10, h11]
              try rfl
            · skip
              try simp only [TN, ↓reduceIte, Nat.reduceEqDiff, Nat.reduceAdd, Nat.reduceMul, Nat.reduceSub, Nat.reduceLeDiff, Nat.reduceLT, Nat.reduceBEq, Nat.reduceBNe, Int.reduceLE, Int.reduceLT, Int.reduceEq, Int.reduceToNat, ne_eq, not_false_eq_true, not_true_eq_false, reduceCtorEq, and_self, eq_self, spec_TreeOk.c0, h1, h2, e3, h4, e5, h6, eq_true h7, h8, h9, h10, h11]
              refine ih _ _ _ H _ ?_
              first | (rw [canon_eq]; done) | (rw [canon_eq]; rfl) | (rw [canon_eq]; simp only [List.length_set, List.length_append, List.length_replicate]; rfl)
          · skip
            try simp only [TN, ↓reduceIte, Nat.reduceEqDiff, Nat.reduceAdd, Nat.reduceMul, Nat.reduceSub, Nat.reduceLeDiff, Nat.reduceLT, Nat.reduceBEq, Nat.reduceBNe, Int.reduceLE, Int.reduceLT, Int.reduceEq, Int.reduceToNat, ne_eq, not_false_eq_true, not_true_eq_false, reduceCtorEq, and_self, eq_self, spec_TreeOk.c0, h1, h2, e3, h4, e5, h6, eq_true h7, h8]
            refine ih _ _ _ H _ ?_
            first | (rw [canon_eq]; done) | (rw [canon_eq]; rfl) | (rw [canon_eq]; simp only [List.length_set, List.length_append, List.length_replicate]; rfl)
        · skip
          injection H with H; subst H
          try simp only [TN, ↓reduceIte, Nat.reduceEqDiff, Nat.reduceAdd, Nat.reduceMul, Nat.reduceSub, Nat.reduceLeDiff, Nat.reduceLT, Nat.reduceBEq, Nat.reduceBNe, Int.reduceLE, Int.reduceLT, Int.reduceEq, Int.reduceToNat, ne_eq, not_false_eq_true, not_true_eq_false, reduceCtorEq, and_self, eq_self, spec_TreeOk.c0, h1, h2, e3, h4, e5, h6, h7]
          try rfl
      · skip
        injection H with H; subst H
        try simp only [TN, ↓reduceIte, Nat.reduceEqDiff, Nat.reduceAdd, Nat.reduceMul, Nat.reduceSub, Nat.reduceLeDiff, Nat.reduceLT, Nat.reduceBEq, Nat.reduceBNe, Int.reduceLE, Int.reduceLT, Int.reduceEq, Int.reduceToNat, ne_eq, not_false_eq_true, not_true_eq_false, reduceCtorEq, and_self, eq_self, spec_TreeOk.c0, h1, h2, e3, h4, e5, h6]
        try rfl
    · skip
      injection H with H; subst H
      try simp only [TN, ↓reduceIte, Nat.reduceEqDiff, Nat.reduceAdd, Nat.reduceMul, Nat.reduceSub, Nat.reduceLeDiff, Nat.reduceLT, Nat.reduceBEq, Nat.reduceBNe, Int.reduceLE, Int.reduceLT, Int.reduceEq, Int.reduceToNat, ne_eq, not_false_eq_true, not_true_eq_false, reduceCtorEq, and_self, eq_self, spec_TreeOk.c0, h1, h2, e3, h4]
      try rfl
  · skip
    obtain ⟨t3, e12, H⟩ := bnd_some H
    have e12 := spec_l1In.link e12
    injection H with H; subst H
    try simp only [TN, ↓reduceIte, Nat.reduceEqDiff, Nat.reduceAdd, Nat.reduceMul, Nat.reduceSub, Nat.reduceLeDiff, Nat.reduceLT, Nat.reduceBEq, Nat.reduceBNe, Int.reduceLE, Int.reduceLT, Int.reduceEq, Int.reduceToNat, ne_eq, not_false_eq_true, not_true_eq_false, reduceCtorEq, and_self, eq_self, spec_TreeOk.c0, h1, e12]
    try rfl
theorem spec_TreeOk.w : ∀ k, spec_TreeOk.P0 k := by
  intro k
  induction k with
  | zero => exact by intro l0 x3 r H; cases (show (none : Option Bool) = some r from H)
  | succ k ih => exact spec_TreeOk.s0 k ih
set_option maxHeartbeats 4000000 in
theorem spec_TreeOk.link {k : Nat} {l0 : List S33} {r : Bool} (H : spec_TreeOk.f k l0 = some r) : callW env 41 [.deep false true 2 (l0.map e33)] = some ([.b r], [none]) := by
  unfold spec_TreeOk.f at H
  refine callW_fn' (F := spec_TreeOk.F) (tm := tmOf [(0, .slc 0 [] 0 2 0 l0.length)]) (rs := rsL [(0, some ⟨false, 2, 0, (l0.map e33)⟩)]) (nx := 1) (ow := [false]) rfl (by rfl) (by simp only [SN]) (by simp only [SN]) (by decide) ?_
  show W env spec_TreeOk.B _ (Qf [.t 2] [false] _)
  unfold spec_TreeOk.B
  try simp only [TN, ↓reduceIte, Nat.reduceEqDiff, Nat.reduceAdd, Nat.reduceMul, Nat.reduceSub, Nat.reduceLeDiff, Nat.reduceLT, Nat.reduceBEq, Nat.reduceBNe, Int.reduceLE, Int.reduceLT, Int.reduceEq, Int.reduceToNat, ne_eq, not_false_eq_true, not_true_eq_false, reduceCtorEq, and_self, eq_self, spec_TreeOk.c0]
  refine (spec_TreeOk.w k) _ _ _ H _ ?_
  first | (rw [canon_eq]; done) | (rw [canon_eq]; rfl) | (rw [canon_eq]; simp only [List.length_set, List.length_append, List.length_replicate]; rfl)
end Go.Proofs.Ythccagmifnipdaa.P
end YthccagmifnipdaaL41
section YthccagmifnipdaaL85
namespace Go.Proofs.Ythccagmifnipdaa.P
open Go Go.RowKit Go.Proofs.Ythccagmifnipdaa.V
set_option linter.unusedVariables false
set_option linter.unusedSimpArgs false
set_option linter.all false
set_option maxRecDepth 100000
/-! ### spec_l3Near: function 85 -/
def spec_l3Near.l0 : Nat → (List S33) → Int → (List Int) → Int → Int → (List S33) → Option ((List S33) × Int × Int)
 | 0, _, _, _, _, _, _ => none
 | k + 1, x5, x6, p0_0, c0_1, c0_2, l1 => if x6 > 0 then (if (x5.length : Int) > 0 then ((spec_l1Below.f p0_0 c0_1 c0_2 (x5.length : Int)).bind fun bt3 => ((spec_l1Below.f p0_0 bt3.2.1 bt3.2.2 3).bind fun bt4 => (if bt4.1 = 0 then ((spec_l2Label.f p0_0 bt4.2.1 bt4.2.2).bind fun bt5 => (if 0 ≤ bt3.1 then (if bt3.1 < (x5.length : Int) then (spec_l3Near.l0 k (x5.set (bt3.1 : Int).toNat (⟨bt5.1, (rd_T33 x5 bt3.1).f1⟩ : S33)) (wrap64 (x6 - 1)) p0_0 bt5.2.1 bt5.2.2 l1) else none) else none)) else (if bt4.1 = 1 then (if bt3.1 > 0 then (if (x5.length : Int) > 1 then (if bt3.1 ≤ (x5.length : Int) then (if 0 ≤ bt3.1 then ((some (x5.take (bt3.1 : Int).toNat : List S33)).bind fun y1 => (if 0 ≤ wrap64 (bt3.1 + 1) then (if wrap64 (bt3.1 + 1) ≤ (x5.length : Int) then ((some (x5.drop (wrap64 (bt3.1 + 1) : Int).toNat : List S33)).bind fun y2 => ((spec_l3Copy.f y1).bind fun t6 => (if (t6.length + y2.length) * 16 ≤ 140737488355328 then (spec_l3Near.l0 k (t6 ++ y2) (wrap64 (x6 - 1)) p0_0 bt4.2.1 bt4.2.2 l1) else none))) else none) else none)) else none) else none) else (spec_l3Near.l0 k x5 (wrap64 (x6 - 1)) p0_0 bt4.2.1 bt4.2.2 l1)) else (spec_l3Near.l0 k x5 (wrap64 (x6 - 1)) p0_0 bt4.2.1 bt4.2.2 l1)) else (if 0 ≤ wrap64 ((x5.length : Int) - 1) then (if wrap64 ((x5.length : Int) - 1) < (x5.length : Int) then ((spec_l3Copy.f x5).bind fun t7 => ((spec_l2Label.f p0_0 bt4.2.1 bt4.2.2).bind fun bt8 => ((spec_l1Below.f p0_0 bt8.2.1 bt8.2.2 (wrap64 (((rd_T33 x5 (wrap64 ((x5.length : Int) - 1))).f1) + 1))).bind fun bt9 => (if t7.length < 8796093022208 then (spec_l3Near.l0 k (t7 ++ ([(⟨bt8.1, wrap64 (1 + bt9.1)⟩ : S33)])) (wrap64 (x6 - 1)) p0_0 bt9.2.1 bt9.2.2 l1) else none)))) else none) else none))))) else ((spec_TreeOk.f k x5).bind fun t10 => (if t10 = true then (some (x5, c0_1, c0_2)) else ((spec_l3Tree.f k p0_0 c0_1 c0_2 8).bind fun bt11 => (some (bt11.1, bt11.2.1, bt11.2.2)))))) else ((spec_TreeOk.f k x5).bind fun t12 => (if t12 = true then (some (x5, c0_1, c0_2)) else ((spec_l3Tree.f k p0_0 c0_1 c0_2 8).bind fun bt13 => (some (bt13.1, bt13.2.1, bt13.2.2)))))
def spec_l3Near.f (k : Nat) (p0_0 : List Int) (p0_1 : Int) (p0_2 : Int) (l1 : List S33) : Option ((List S33) × Int × Int) := (spec_l3Copy.f l1).bind fun t1 => ((spec_l1Below.f p0_0 p0_1 p0_2 3).bind fun bt2 => (spec_l3Near.l0 k t1 (wrap64 (1 + bt2.1)) p0_0 bt2.2.1 bt2.2.2 l1))
def spec_l3Near.P0 (k : Nat) : Prop := ∀ (x5 : List S33) (x6 : Int) (p0_0 : List Int) (c0_1 : Int) (c0_2 : Int) (l1 : List S33) (r : (List S33) × Int × Int), spec_l3Near.l0 k x5 x6 p0_0 c0_1 c0_2 l1 = some r → ∀ st, canon 2 [0, 5, 6] st = ⟨tmOf [(0, .ptr 0 [] 0 0 0), (5, .slc 2 [] 0 2 0 x5.length), (6, .i .i64 x6)], rsL [(0, some ⟨true, 3, 0, [[.deep false true 1 (p0_0.map e8), .i .i64 c0_1, .i .i64 c0_2]]⟩), (1, some ⟨true, 2, 0, (l1.map e33)⟩), (2, some ⟨true, 2, 0, (x5.map e33)⟩)], 3⟩ → W env spec_l3Near.c1 st (Qb 0 (Qs env spec_l3Near.c0 (Qf [.t 4] [true, true] ([.deep false false 2 (r.1.map e33)], [some [[.deep false true 1 (p0_0.map e8), .i .i64 r.2.1, .i .i64 r.2.2]], some (l1.map e33)]))))
set_option maxHeartbeats 4000000 in
theorem spec_l3Near.s0 (k : Nat) (ih : spec_l3Near.P0 k) : spec_l3Near.P0 (k + 1) := by
  intro x5 x6 p0_0 c0_1 c0_2 l1 r H st hst
  rw [spec_l3Near.l0] at H
  rw [W_loopc (show spec_l3Near.c1 = C.loop 2 [0, 5, 6] spec_l3Near.d1 from rfl), hst]
  unfold spec_l3Near.d1
  try simp only [TN, ↓reduceIte, Nat.reduceEqDiff, Nat.reduceAdd, Nat.reduceMul, Nat.reduceSub, Nat.reduceLeDiff, Nat.reduceLT, Nat.reduceBEq, Nat.reduceBNe, Int.reduceLE, Int.reduceLT, Int.reduceEq, Int.reduceToNat, ne_eq, not_false_eq_true, not_true_eq_false, reduceCtorEq, and_self, eq_self, spec_l3Near.c0]
  rcases ite_or H with ⟨h1, H⟩ | ⟨h1, H⟩
  · skip
    try simp only [TN, ↓reduceIte, Nat.reduceEqDiff, Nat.reduceAdd, Nat.reduceMul, Nat.reduceSub, Nat.reduceLeDiff, Nat.reduceLT, Nat.reduceBEq, Nat.reduceBNe, Int.reduceLE, Int.reduceLT, Int.reduceEq, Int.reduceToNat, ne_eq, not_false_eq_true, not_true_eq_false, reduceCtorEq, and_self, eq_self, spec_l3Near.c0, h1]
    rcases ite_or H with ⟨h2, H⟩ | ⟨h2, H⟩
    · skip
      obtain ⟨bt3, e3, H⟩ := bnd_some H
      have e3 := spec_l1Below.link e3
      obtain ⟨bt4, e4, H⟩ := bnd_some H
      have e4 := spec_l1Below.link e4
      try simp only [TN, ↓reduceIte, Nat.reduceEqDiff, Nat.reduceAdd, Nat.reduceMul, Nat.reduceSub, Nat.reduceLeDiff, Nat.reduceLT, Nat.reduceBEq, Nat.reduceBNe, Int.reduceLE, Int.reduceLT, Int.reduceEq, Int.reduceToNat, ne_eq, not_false_eq_true, not_true_eq_false, reduceCtorEq, and_self, eq_self, spec_l3Near.c0, h1, h2, e3, e4]
      rcases ite_or H with ⟨h5, H⟩ | ⟨h5, H⟩
      · skip
        obtain ⟨bt5, e6, H⟩ := bnd_some H
        have e6 := spec_l2Label.link e6
        obtain ⟨h7, H⟩ := ite_no H
        obtain ⟨h8, H⟩ := ite_no H
        try simp only [TN, ↓reduceIte, Nat.reduceEqDiff, Nat.reduceAdd, Nat.reduceMul, Nat.reduceSub, Nat.reduceLeDiff, Nat.reduceLT, Nat.reduceBEq, Nat.reduceBNe, Int.reduceLE, Int.reduceLT, Int.reduceEq, Int.reduceToNat, ne_eq, not_false_eq_true, not_true_eq_false, reduceCtorEq, and_self, eq_self, spec_l3Near.c0, h1, h2, e3, e4, eq_true h5, e6, h7, h8]
        refine ih _ _ _ _ _ _ _ H _ ?_
        first | (rw [canon_eq]; done) | (rw [canon_eq]; rfl) | (rw [canon_eq]; simp only [List.length_set, List.length_append, List.length_replicate]; rfl)
      · skip
        try simp only [TN, ↓reduceIte, Nat.reduceEqDiff, Nat.reduceAdd, Nat.reduceMul, Nat.reduceSub, Nat.reduceLeDiff, Nat.reduceLT, Nat.reduceBEq, Nat.reduceBNe, Int.reduceLE, Int.reduceLT, Int.reduceEq, Int.reduceToNat, ne_eq, not_false_eq_true, not_true_eq_false, reduceCtorEq, and_self, eq_self, spec_l3Near.c0, h1, h2, e3, e4, h5]
        rcases ite_or H with ⟨h9, H⟩ | ⟨h9, H⟩
        · skip
          try simp only [TN, ↓reduceIte, Nat.reduceEqDiff, Nat.reduceAdd, Nat.reduceMul, Nat.reduceSub, Nat.reduceLeDiff, Nat.reduceLT, Nat.reduceBEq, Nat.reduceBNe, Int.reduceLE, Int.reduceLT, Int.reduceEq, Int.reduceToNat, ne_eq, not_false_eq_true, not_true_eq_false, reduceCtorEq, and_self, eq_self, spec_l3Near.c0, h1, h2, e3, e4, h5, eq_true h9]
          rcases ite_or H with ⟨h10, H⟩ | ⟨h10, H⟩
          · skip
            try simp only [TN, ↓reduceIte, Nat.reduceEqDiff, Nat.reduceAdd, Nat.reduceMul, Nat.reduceSub, Nat.reduceLeDiff, Nat.reduceLT, Nat.reduceBEq, Nat.reduceBNe, Int.reduceLE, Int.reduceLT, Int.reduceEq, Int.reduceToNat, ne_eq, not_false_eq_true, not_true_eq_false, reduceCtorEq, and_self, eq_self, spec_l3Near.c0, h1, h2, e3, e4, h5, eq_true h9, h10]
            rcases ite_or H with ⟨h11, H⟩ | ⟨h11, H⟩
            · skip
              obtain ⟨h12, H⟩ := ite_no H
              obtain ⟨h13, H⟩ := ite_no H
              obtain ⟨y1, hy1, H⟩ := some_bnd H
              have h14 : (bt3.1 : Int).toNat = List.length y1 := by rw [← hy1]; simp only [List.length_drop, List.length_take] <;> omega
              have cw14 : (List.drop (0) x5).take (List.length y1) = y1 := by rw [← h14, List.drop_zero]; exact hy1
              have g14 : ∀ {j : Int}, 0 ≤ j → j < (List.length y1 : Int) → (x5.map e33)[0 + j.toNat]? = some (e33 (rd_T33 y1 j)) := fun h1 h2 => get_w cw14 h1 h2
              have w14 := wnd_cut (e := e33) cw14
              obtain ⟨h15, H⟩ := ite_no H
              obtain ⟨h16, H⟩ := ite_no H
              obtain ⟨y2, hy2, H⟩ := some_bnd H
              have h17 : x5.length - (wrap64 (bt3.1 + 1) : Int).toNat = List.length y2 := by rw [← hy2]; simp only [List.length_drop, List.length_take] <;> omega
              have cw17 : (List.drop (0 + (wrap64 (bt3.1 + 1) : Int).toNat) x5).take (List.length y2) = y2 := by rw [Nat.zero_add, ← hy2]; exact List.take_length
              have g17 : ∀ {j : Int}, 0 ≤ j → j < (List.length y2 : Int) → (x5.map e33)[0 + (wrap64 (bt3.1 + 1) : Int).toNat + j.toNat]? = some (e33 (rd_T33 y2 j)) := fun h1 h2 => get_w cw17 h1 h2
              have w17 := wnd_cut (e := e33) cw17
              obtain ⟨t6, e18, H⟩ := bnd_some H
              have e18 := spec_l3Copy.link e18
              obtain ⟨h19, H⟩ := ite_no H
              try simp only [TN, ↓reduceIte, Nat.reduceEqDiff, Nat.reduceAdd, Nat.reduceMul, Nat.reduceSub, Nat.reduceLeDiff, Nat.reduceLT, Nat.reduceBEq, Nat.reduceBNe, Int.reduceLE, Int.reduceLT, Int.reduceEq, Int.reduceToNat, ne_eq, not_false_eq_true, not_true_eq_false, reduceCtorEq, and_self, eq_self, spec_l3Near.c0, h1, h2, e3, e4, h5, eq_true h9, h10, h11, h12, h13, h14, g14, w14, h15, h16, h17, g17, w17, e18, h19]
              refine ih _ _ _ _ _ _ _ H _ ?_
              first | (rw [canon_eq]; done) | (rw [canon_eq]; rfl) | (rw [canon_eq]; simp only [List.length_set, List.length_append, List.length_replicate]; rfl)
            · skip
              try simp only [TN, ↓reduceIte, Nat.reduceEqDiff, Nat.reduceAdd, Nat.reduceMul, Nat.reduceSub, Nat.reduceLeDiff, Nat.reduceLT, Nat.reduceBEq, Nat.reduceBNe, Int.reduceLE, Int.reduceLT, Int.reduceEq, Int.reduceToNat, ne_eq, not_false_eq_true, not_true_eq_false, reduceCtorEq, and_self, eq_self, spec_l3Near.c0, h1, h2, e3, e4, h5, eq_true h9, h10, h11]
              refine ih _ _ _ _ _ _ _ H _ ?_
              first | (rw [canon_eq]; done) | (rw [canon_eq]; rfl) | (rw [canon_eq]; simp only [List.length_set, List.length_append, List.length_replicate]; rfl)
          · skip
            try simp only [TN, ↓reduceIte, Nat.reduceEqDiff, Nat.reduceAdd, Nat.reduceMul, Nat.reduceSub, Nat.reduceLeDiff, Nat.reduceLT, Nat.reduceBEq, Nat.reduceBNe, Int.reduceLE, Int.reduceLT, Int.reduceEq, Int.reduceToNat, ne_eq, not_false_eq_true, not_true_eq_false, reduceCtorEq, and_self, eq_self, spec_l3Near.c0, h1, h2, e3, e4, h5, eq_true h9, h10]
            refine ih _ _ _ _ _ _ _ H _ ?_
            first | (rw [canon_eq]; done) | (rw [canon_eq]; rfl) | (rw [canon_eq]; simp only [List.length_set, List.length_append, List.length_replicate]; rfl)
        · skip
          obtain ⟨h20, H⟩ := ite_no H
          obtain ⟨h21, H⟩ := ite_no H
          obtain ⟨t7, e22, H⟩ := bnd_some H
          have e22 := spec_l3Copy.link e22
          obtain ⟨bt8, e23, H⟩ := bnd_some H
          have e23 := spec_l2Label.link e23
          obtain ⟨bt9, e24, H⟩ := bnd_some H
          have e24 := spec_l1Below.link e24
          obtain ⟨h25, H⟩ := ite_no H
          have h26 : (t7.length + 1) * 16 ≤ 140737488355328 := by omega
          try simp only [TN, ↓reduceIte, Nat.reduceEqDiff, Nat.reduceAdd, Nat.reduceMul, Nat.reduceSub, Nat.reduceLeDiff, Nat.reduceLT, Nat.reduceBEq, Nat.reduceBNe, Int.reduceLE, Int.reduceLT, Int.reduceEq, Int.reduceToNat, ne_eq, not_false_eq_true, not_true_eq_false, reduceCtorEq, and_self, eq_self, spec_l3Near.c0, h1, h2, e3, e4, h5, h9, h20, h21, e22, e23, e24, @litX_33_1, h25, h26]
          refine ih _ _ _ _ _ _ _ H _ ?_
          first | (rw [canon_eq]; done) | (rw [canon_eq]; rfl) | (rw [canon_eq]; simp only [List.length_set, List.length_append, List.length_replicate]; rfl)
    · skip
      obtain ⟨t10, e27, H⟩ := bnd_some H
      have e27 := spec_TreeOk.link e27
      try simp only [TN, ↓reduceIte, Nat.reduceEqDiff, Nat.reduceAdd, Nat.reduceMul, Nat.reduceSub, Nat.reduceLeDiff, Nat.reduceLT, Nat.reduceBEq, Nat.reduceBNe, Int.reduceLE, Int.reduceLT, Int.reduceEq, Int.reduceToNat, ne_eq, not_false_eq_true, not_true_eq_false, reduceCtorEq, and_self, eq_self, spec_l3Near.c0, h1, h2, e27]
      rcases ite_b H with ⟨h28, H⟩ | ⟨h28, H⟩
      · skip
        injection H with H; subst H
        try simp only [TN, ↓reduceIte, Nat.reduceEqDiff, Nat.reduceAdd, Nat.reduceMul, Nat.reduceSub, Nat.reduceLeDiff, Nat.reduceLT, Nat.reduceBEq, Nat.reduceBNe, Int.reduceLE, Int.reduceLT, Int.reduceEq, Int.reduceToNat, ne_eq, not_false_eq_true, not_true_eq_false, reduceCtorEq, and_self, eq_self, spec_l3Near.c0, h1, h2, e27, h28]
        try rfl
      · skip
        obtain ⟨bt11, e29, H⟩ := bnd_some H
        have e29 := spec_l3Tree.link e29
        injection H with H; subst H
        try simp only [TN, ↓reduceIte, Nat.reduceEqDiff, Nat.reduceAdd, Nat.reduceMul, Nat.reduceSub, Nat.reduceLeDiff, Nat.reduceLT, Nat.reduceBEq, Nat.reduceBNe, Int.reduceLE, Int.reduceLT, Int.reduceEq, Int.reduceToNat, ne_eq, not_false_eq_true, not_true_eq_false, reduceCtorEq, and_self, eq_self, spec_l3Near.c0, h1, h2, e27, h28, e29]
        try rfl
  · skip
    obtain ⟨t12, e30, H⟩ := bnd_some H
    have e30 := spec_TreeOk.link e30
    try simp only [TN, ↓reduceIte, Nat.reduceEqDiff, Nat.reduceAdd, Nat.reduceMul, Nat.reduceSub, Nat.reduceLeDiff, Nat.reduceLT, Nat.reduceBEq, Nat.reduceBNe, Int.reduceLE, Int.reduceLT, Int.reduceEq, Int.reduceToNat, ne_eq, not_false_eq_true, not_true_eq_false, reduceCtorEq, and_self, eq_self, spec_l3Near.c0, h1, e30]
    rcases ite_b H with ⟨h31, H⟩ | ⟨h31, H⟩
    · skip
      injection H with H; subst H
      try simp only [TN, ↓reduceIte, Nat.reduceEqDiff, Nat.reduceAdd, Nat.reduceMul, Nat.reduceSub, Nat.reduceLeDiff, Nat.reduceLT, Nat.reduceBEq, Nat.reduceBNe, Int.reduceLE, Int.reduceLT, Int.reduceEq, Int.reduceToNat, ne_eq, not_false_eq_true, not_true_eq_false, reduceCtorEq, and_self, eq_self, spec_l3Near.c0, h1, e30, h31]
      try rfl
    · skip
      obtain ⟨bt13, e32, H⟩ := bnd_some H
      have e32 := spec_l3Tree.link e32
      injection H with H; subst H
      try simp only [TN, ↓reduceIte, Nat.reduceEqDiff, Nat.reduceAdd, Nat.reduceMul, Nat.reduceSub, Nat.reduceLeDiff, Nat.reduceLT, Nat.reduceBEq, Nat.reduceBNe, Int.reduceLE, Int.reduceLT, Int.reduceEq, Int.reduceToNat, ne_eq, not_false_eq_true, not_true_eq_false, reduceCtorEq, and_self, eq_self, spec_l3Near.c0, h1, e30, h31, e32]
      try rfl
theorem spec_l3Near.w : ∀ k, spec_l3Near.P0 k := by
  intro k
  induction k with
  | zero => exact by intro x5 x6 p0_0 c0_1 c0_2 l1 r H; cases (show (none : Option ((List S33) × Int × Int)) = some r from H)
  | succ k ih => exact spec_l3Near.s0 k ih
set_option maxHeartbeats 4000000 in
theorem spec_l3Near.link {k : Nat} {p0_0 : List Int} {p0_1 : Int} {p0_2 : Int} {l1 : List S33} {r : (List S33) × Int × Int} (H : spec_l3Near.f k p0_0 p0_1 p0_2 l1 = some r) : callW env 85 [.deep true false 3 [[.deep false true 1 (p0_0.map e8), .i .i64 p0_1, .i .i64 p0_2]], .deep false false 2 (l1.map e33)] = some ([.deep false false 2 (r.1.map e33)], [some [[.deep false true 1 (p0_0.map e8), .i .i64 r.2.1, .i .i64 r.2.2]], some (l1.map e33)]) := by
  unfold spec_l3Near.f at H
  refine callW_fn' (F := spec_l3Near.F) (tm := tmOf [(0, .ptr 0 [] 0 0 0), (1, .slc 1 [] 0 2 0 l1.length)]) (rs := rsL [(0, some ⟨true, 3, 0, [[.deep false true 1 (p0_0.map e8), .i .i64 p0_1, .i .i64 p0_2]]⟩), (1, some ⟨true, 2, 0, (l1.map e33)⟩)]) (nx := 2) (ow := [true, true]) rfl (by rfl) (by simp only [SN]) (by simp only [SN]) (by decide) ?_
  show W env spec_l3Near.B _ (Qf [.t 4] [true, true] _)
  unfold spec_l3Near.B
  obtain ⟨t1, e1, H⟩ := bnd_some H
  have e1 := spec_l3Copy.link e1
  obtain ⟨bt2, e2, H⟩ := bnd_some H
  have e2 := spec_l1Below.link e2
  try simp only [TN, ↓reduceIte, Nat.reduceEqDiff, Nat.reduceAdd, Nat.reduceMul, Nat.reduceSub, Nat.reduceLeDiff, Nat.reduceLT, Nat.reduceBEq, Nat.reduceBNe, Int.reduceLE, Int.reduceLT, Int.reduceEq, Int.reduceToNat, ne_eq, not_false_eq_true, not_true_eq_false, reduceCtorEq, and_self, eq_self, spec_l3Near.c0, e1, e2]
  refine (spec_l3Near.w k) _ _ _ _ _ _ _ H _ ?_
  first | (rw [canon_eq]; done) | (rw [canon_eq]; rfl) | (rw [canon_eq]; simp only [List.length_set, List.length_append, List.length_replicate]; rfl)
end Go.Proofs.Ythccagmifnipdaa.P
end YthccagmifnipdaaL85
section YthccagmifnipdaaL38
namespace Go.Proofs.Ythccagmifnipdaa.P
open Go Go.RowKit Go.Proofs.Ythccagmifnipdaa.V
set_option linter.unusedVariables false
set_option linter.unusedSimpArgs false
set_option linter.all false
set_option maxRecDepth 100000
/-! ### spec_l29Named: function 38 -/
def spec_l29Named.l0 : Nat → (List S33) → Int → (List Int) → Int → Int → (List S33) → Option ((List S33) × Int × Int)
 | 0, _, _, _, _, _, _ => none
 | k + 1, x5, x6, p0_0, c0_1, c0_2, l1 => if x6 > 0 then (if (x5.length : Int) > 0 then ((spec_l1Below.f p0_0 c0_1 c0_2 (x5.length : Int)).bind fun bt3 => ((spec_l2Label.f p0_0 bt3.2.1 bt3.2.2).bind fun bt4 => (if 0 ≤ bt3.1 then (if bt3.1 < (x5.length : Int) then (spec_l29Named.l0 k (x5.set (bt3.1 : Int).toNat (⟨bt4.1, (rd_T33 x5 bt3.1).f1⟩ : S33)) (wrap64 (x6 - 1)) p0_0 bt4.2.1 bt4.2.2 l1) else none) else none))) else ((spec_l1Once.f p0_0 c0_1 c0_2 14).bind fun bt5 => (if bt5.1 = true then ((spec_l3Near.f k p0_0 bt5.2.1 bt5.2.2 x5).bind fun bt6 => (some (bt6.1, bt6.2.1, bt6.2.2))) else (some (x5, bt5.2.1, bt5.2.2))))) else ((spec_l1Once.f p0_0 c0_1 c0_2 14).bind fun bt7 => (if bt7.1 = true then ((spec_l3Near.f k p0_0 bt7.2.1 bt7.2.2 x5).bind fun bt8 => (some (bt8.1, bt8.2.1, bt8.2.2))) else (some (x5, bt7.2.1, bt7.2.2))))
def spec_l29Named.f (k : Nat) (p0_0 : List Int) (p0_1 : Int) (p0_2 : Int) (l1 : List S33) : Option ((List S33) × Int × Int) := (spec_l3Copy.f l1).bind fun t1 => ((spec_l1Below.f p0_0 p0_1 p0_2 4).bind fun bt2 => (spec_l29Named.l0 k t1 bt2.1 p0_0 bt2.2.1 bt2.2.2 l1))
def spec_l29Named.P0 (k : Nat) : Prop := ∀ (x5 : List S33) (x6 : Int) (p0_0 : List Int) (c0_1 : Int) (c0_2 : Int) (l1 : List S33) (r : (List S33) × Int × Int), spec_l29Named.l0 k x5 x6 p0_0 c0_1 c0_2 l1 = some r → ∀ st, canon 2 [0, 5, 6] st = ⟨tmOf [(0, .ptr 0 [] 0 0 0), (5, .slc 2 [] 0 2 0 x5.length), (6, .i .i64 x6)], rsL [(0, some ⟨true, 3, 0, [[.deep false true 1 (p0_0.map e8), .i .i64 c0_1, .i .i64 c0_2]]⟩), (1, some ⟨true, 2, 0, (l1.map e33)⟩), (2, some ⟨true, 2, 0, (x5.map e33)⟩)], 3⟩ → W env spec_l29Named.c1 st (Qb 0 (Qs env spec_l29Named.c0 (Qf [.t 4] [true, true] ([.deep false false 2 (r.1.map e33)], [some [[.deep false true 1 (p0_0.map e8), .i .i64 r.2.1, .i .i64 r.2.2]], some (l1.map e33)]))))
set_option maxHeartbeats 4000000 in
theorem spec_l29Named.s0 (k : Nat) (ih : spec_l29Named.P0 k) : spec_l29Named.P0 (k + 1) := by
  intro x5 x6 p0_0 c0_1 c0_2 l1 r H st hst
  rw [spec_l29Named.l0] at H
  rw [W_loopc (show spec_l29Named.c1 = C.loop 2 [0, 5, 6] spec_l29Named.d1 from rfl), hst]
  unfold spec_l29Named.d1
  try simp only [TN, ↓reduceIte, Nat.reduceEqDiff, Nat.reduceAdd, Nat.reduceMul, Nat.reduceSub, Nat.reduceLeDiff, Nat.reduceLT, Nat.reduceBEq, Nat.reduceBNe, Int.reduceLE, Int.reduceLT, Int.reduceEq, Int.reduceToNat, ne_eq, not_false_eq_true, not_true_eq_false, reduceCtorEq, and_self, eq_self, spec_l29Named.c0]
  rcases ite_or H with ⟨h1, H⟩ | ⟨h1, H⟩
  · skip
    try simp only [TN, ↓reduceIte, Nat.reduceEqDiff, Nat.reduceAdd, Nat.reduceMul, Nat.reduceSub, Nat.reduceLeDiff, Nat.reduceLT, Nat.reduceBEq, Nat.reduceBNe, Int.reduceLE, Int.reduceLT, Int.reduceEq, Int.reduceToNat, ne_eq, not_false_eq_true, not_true_eq_false, reduceCtorEq, and_self, eq_self, spec_l29Named.c0, h1]
    rcases ite_or H with ⟨h2, H⟩ | ⟨h2, H⟩
    · skip
      obtain ⟨bt3, e3, H⟩ := bnd_some H
      have e3 := spec_l1Below.link e3
      obtain ⟨bt4, e4, H⟩ := bnd_some H
      have e4 := spec_l2Label.link e4
      obtain ⟨h5, H⟩ := ite_no H
      obtain ⟨h6, H⟩ := ite_no H
      try simp only [TN, ↓reduceIte, Nat.reduceEqDiff, Nat.reduceAdd, Nat.reduceMul, Nat.reduceSub, Nat.reduceLeDiff, Nat.reduceLT, Nat.reduceBEq, Nat.reduceBNe, Int.reduceLE, Int.reduceLT, Int.reduceEq, Int.reduceToNat, ne_eq, not_false_eq_true, not_true_eq_false, reduceCtorEq, and_self, eq_self, spec_l29Named.c0, h1, h2, e3, e4, h5, h6]
      refine ih _ _ _ _ _ _ _ H _ ?_
      first | (rw [canon_eq]; done) | (rw [canon_eq]; rfl) | (rw [canon_eq]; simp only [List.length_set, List.length_append, List.length_replicate]; rfl)
    · skip
      obtain ⟨bt5, e7, H⟩ := bnd_some H
      have e7 := spec_l1Once.link e7
      try simp only [TN, ↓reduceIte, Nat.reduceEqDiff, Nat.reduceAdd, Nat.reduceMul, Nat.reduceSub, Nat.reduceLeDiff, Nat.reduceLT, Nat.reduceBEq, Nat.reduceBNe, Int.reduceLE, Int.reduceLT, Int.reduceEq, Int.reduceToNat, ne_eq, not_false_eq_true, not_true_eq_false, reduceCtorEq, and_self, eq_self, spec_l29Named.c0, h1, h2, e7]
      rcases ite_b H with ⟨h8, H⟩ | ⟨h8, H⟩
      · skip
        obtain ⟨bt6, e9, H⟩ := bnd_some H
        have e9 := spec_l3Near.link e9
        injection H with H; subst H
        try simp only [TN, ↓reduceIte, Nat.reduceEqDiff, Nat.reduceAdd, Nat.reduceMul, Nat.reduceSub, Nat.reduceLeDiff, Nat.reduceLT, Nat.reduceBEq, Nat.reduceBNe, Int.reduceLE, Int.reduceLT, Int.reduceEq, Int.reduceToNat, ne_eq, not_false_eq_true, not_true_eq_false, reduceCtorEq, and_self, eq_self, spec_l29Named.c0, h1, h2, e7, h8, e9]
        try rfl
      · skip
        injection H with H; subst H
        try simp only [TN, ↓reduceIte, Nat.reduceEqDiff, Nat.reduceAdd, Nat.reduceMul, Nat.reduceSub, Nat.reduceLeDiff, Nat.reduceLT, Nat.reduceBEq, Nat.reduceBNe, Int.reduceLE, Int.reduceLT, Int.reduceEq, Int.reduceToNat, ne_eq, not_false_eq_true, not_true_eq_false, reduceCtorEq, and_self, eq_self, spec_l29Named.c0, h1, h2, e7, h8]
        try rfl
  · skip
    obtain ⟨bt7, e10, H⟩ := bnd_some H
    have e10 := spec_l1Once.link e10
    try simp only [TN, ↓reduceIte, Nat.reduceEqDiff, Nat.reduceAdd, Nat.reduceMul, Nat.reduceSub, Nat.reduceLeDiff, Nat.reduceLT, Nat.reduceBEq, Nat.reduceBNe, Int.reduceLE, Int.reduceLT, Int.reduceEq, Int.reduceToNat, ne_eq, not_false_eq_true, not_true_eq_false, reduceCtorEq, and_self, eq_self, spec_l29Named.c0, h1, e10]
    rcases ite_b H with ⟨h11, H⟩ | ⟨h11, H⟩
    · skip
      obtain ⟨bt8, e12, H⟩ := bnd_some H
      have e12 := spec_l3Near.link e12
      injection H with H; subst H
      try simp only [TN, ↓reduceIte, Nat.reduceEqDiff, Nat.reduceAdd, Nat.reduceMul, Nat.reduceSub, Nat.reduceLeDiff, Nat.reduceLT, Nat.reduceBEq, Nat.reduceBNe, Int.reduceLE, Int.reduceLT, Int.reduceEq, Int.reduceToNat, ne_eq, not_false_eq_true, not_true_eq_false, reduceCtorEq, and_self, eq_self, spec_l29Named.c0, h1, e10, h11, e12]
      try rfl
    · skip
      injection H with H; subst H
      try simp only [TN, ↓reduceIte, Nat.reduceEqDiff, Nat.reduceAdd, Nat.reduceMul, Nat.reduceSub, Nat.reduceLeDiff, Nat.reduceLT, Nat.reduceBEq, Nat.reduceBNe, Int.reduceLE, Int.reduceLT, Int.reduceEq, Int.reduceToNat, ne_eq, not_false_eq_true, not_true_eq_false, reduceCtorEq, and_self, eq_self, spec_l29Named.c0, h1, e10, h11]
      try rfl
theorem spec_l29Named.w : ∀ k, spec_l29Named.P0 k := by
  intro k
  induction k with
  | zero => exact by intro x5 x6 p0_0 c0_1 c0_2 l1 r H; cases (show (none : Option ((List S33) × Int × Int)) = some r from H)
  | succ k ih => exact spec_l29Named.s0 k ih
set_option maxHeartbeats 4000000 in
theorem spec_l29Named.link {k : Nat} {p0_0 : List Int} {p0_1 : Int} {p0_2 : Int} {l1 : List S33} {r : (List S33) × Int × Int} (H : spec_l29Named.f k p0_0 p0_1 p0_2 l1 = some r) : callW env 38 [.deep true false 3 [[.deep false true 1 (p0_0.map e8), .i .i64 p0_1, .i .i64 p0_2]], .deep false false 2 (l1.map e33)] = some ([.deep false false 2 (r.1.map e33)], [some [[.deep false true 1 (p0_0.map e8), .i .i64 r.2.1, .i .i64 r.2.2]], some (l1.map e33)]) := by
  unfold spec_l29Named.f at H
  refine callW_fn' (F := spec_l29Named.F) (tm := tmOf [(0, .ptr 0 [] 0 0 0), (1, .slc 1 [] 0 2 0 l1.length)]) (rs := rsL [(0, some ⟨true, 3, 0, [[.deep false true 1 (p0_0.map e8), .i .i64 p0_1, .i .i64 p0_2]]⟩), (1, some ⟨true, 2, 0, (l1.map e33)⟩)]) (nx := 2) (ow := [true, true]) rfl (by rfl) (by simp only [SN]) (by simp only [SN]) (by decide) ?_
  show W env spec_l29Named.B _ (Qf [.t 4] [true, true] _)
  unfold spec_l29Named.B
  obtain ⟨t1, e1, H⟩ := bnd_some H
  have e1 := spec_l3Copy.link e1
  obtain ⟨bt2, e2, H⟩ := bnd_some H
  have e2 := spec_l1Below.link e2
  try simp only [TN, ↓reduceIte, Nat.reduceEqDiff, Nat.reduceAdd, Nat.reduceMul, Nat.reduceSub, Nat.reduceLeDiff, Nat.reduceLT, Nat.reduceBEq, Nat.reduceBNe, Int.reduceLE, Int.reduceLT, Int.reduceEq, Int.reduceToNat, ne_eq, not_false_eq_true, not_true_eq_false, reduceCtorEq, and_self, eq_self, spec_l29Named.c0, e1, e2]
  refine (spec_l29Named.w k) _ _ _ _ _ _ _ H _ ?_
  first | (rw [canon_eq]; done) | (rw [canon_eq]; rfl) | (rw [canon_eq]; simp only [List.length_set, List.length_append, List.length_replicate]; rfl)
end Go.Proofs.Ythccagmifnipdaa.P
end YthccagmifnipdaaL38
section YthccagmifnipdaaL8
namespace Go.Proofs.Ythccagmifnipdaa.P
open Go Go.RowKit Go.Proofs.Ythccagmifnipdaa.V
set_option linter.unusedVariables false
set_option linter.unusedSimpArgs false
set_option linter.all false
set_option maxRecDepth 100000
/-! ### spec_DrawMergeLabels: function 8 -/
def spec_DrawMergeLabels.f (k : Nat) (l0 : List Int) : Option ((List S33) × (List S33) × (List S33)) := (spec_l1New.f k l0).bind fun bt1 => ((spec_l3Any.f k bt1.1 bt1.2.1 bt1.2.2 9).bind fun bt2 => ((spec_l29Named.f k bt1.1 bt2.2.1 bt2.2.2 bt2.1).bind fun bt3 => ((spec_l29Named.f k bt1.1 bt3.2.1 bt3.2.2 bt2.1).bind fun bt4 => (some (bt2.1, bt3.1, bt4.1)))))
set_option maxHeartbeats 4000000 in
theorem spec_DrawMergeLabels.link {k : Nat} {l0 : List Int} {r : (List S33) × (List S33) × (List S33)} (H : spec_DrawMergeLabels.f k l0 = some r) : callW env 8 [.deep false true 1 (l0.map e8)] = some ([.deep false false 2 (r.1.map e33), .deep false false 2 (r.2.1.map e33), .deep false false 2 (r.2.2.map e33)], [none]) := by
  unfold spec_DrawMergeLabels.f at H
  refine callW_fn' (F := spec_DrawMergeLabels.F) (tm := tmOf [(0, .slc 0 [] 0 1 0 l0.length)]) (rs := rsL [(0, some ⟨false, 1, 0, (l0.map e8)⟩)]) (nx := 1) (ow := [false]) rfl (by rfl) (by simp only [SN]) (by simp only [SN]) (by decide) ?_
  show W env spec_DrawMergeLabels.B _ (Qf [.t 2, .t 3, .t 4] [false] _)
  unfold spec_DrawMergeLabels.B
  obtain ⟨bt1, e1, H⟩ := bnd_some H
  have e1 := spec_l1New.link e1
  obtain ⟨bt2, e2, H⟩ := bnd_some H
  have e2 := spec_l3Any.link e2
  obtain ⟨bt3, e3, H⟩ := bnd_some H
  have e3 := spec_l29Named.link e3
  obtain ⟨bt4, e4, H⟩ := bnd_some H
  have e4 := spec_l29Named.link e4
  injection H with H; subst H
  try simp only [TN, ↓reduceIte, Nat.reduceEqDiff, Nat.reduceAdd, Nat.reduceMul, Nat.reduceSub, Nat.reduceLeDiff, Nat.reduceLT, Nat.reduceBEq, Nat.reduceBNe, Int.reduceLE, Int.reduceLT, Int.reduceEq, Int.reduceToNat, ne_eq, not_false_eq_true, not_true_eq_false, reduceCtorEq, and_self, eq_self, e1, e2, e3, e4]
  try rfl
end Go.Proofs.Ythccagmifnipdaa.P
end YthccagmifnipdaaL8
section YthccagmifnipdaaL120
namespace Go.Proofs.Ythccagmifnipdaa.P
open Go Go.RowKit Go.Proofs.Ythccagmifnipdaa.V
set_option linter.unusedVariables false
set_option linter.unusedSimpArgs false
set_option linter.all false
set_option maxRecDepth 100000
/-! ### impl_within: function 120 -/
def impl_within.f (a0 : Int) (a1 : Int) (a2 : Int) : Option Bool := if a1 ≤ a0 then (some (decide (a0 ≤ a2))) else (some false)
set_option maxHeartbeats 4000000 in
theorem impl_within.link {a0 : Int} {a1 : Int} {a2 : Int} {r : Bool} (H : impl_within.f a0 a1 a2 = some r) : callW env 120 [.i .i64 a0, .i .i64 a1, .i .i64 a2] = some ([.b r], []) := by
  unfold impl_within.f at H
  refine callW_fn' (F := impl_within.F) (tm := tmOf [(0, .i .i64 a0), (1, .i .i64 a1), (2, .i .i64 a2)]) (rs := rsL []) (nx := 0) (ow := []) rfl (by rfl) (by simp only [SN]) (by simp only [SN]) (by decide) ?_
  show W env impl_within.B _ (Qf [.t 6] [] _)
  unfold impl_within.B
  try simp only [TN, ↓reduceIte, Nat.reduceEqDiff, Nat.reduceAdd, Nat.reduceMul, Nat.reduceSub, Nat.reduceLeDiff, Nat.reduceLT, Nat.reduceBEq, Nat.reduceBNe, Int.reduceLE, Int.reduceLT, Int.reduceEq, Int.reduceToNat, ne_eq, not_false_eq_true, not_true_eq_false, reduceCtorEq, and_self, eq_self]
  rcases ite_or H with ⟨h1, H⟩ | ⟨h1, H⟩
  · skip
    injection H with H; subst H
    try simp only [TN, ↓reduceIte, Nat.reduceEqDiff, Nat.reduceAdd, Nat.reduceMul, Nat.reduceSub, Nat.reduceLeDiff, Nat.reduceLT, Nat.reduceBEq, Nat.reduceBNe, Int.reduceLE, Int.reduceLT, Int.reduceEq, Int.reduceToNat, ne_eq, not_false_eq_true, not_true_eq_false, reduceCtorEq, and_self, eq_self, h1]
    try rfl
  · skip
    injection H with H; subst H
    try simp only [TN, ↓reduceIte, Nat.reduceEqDiff, Nat.reduceAdd, Nat.reduceMul, Nat.reduceSub, Nat.reduceLeDiff, Nat.reduceLT, Nat.reduceBEq, Nat.reduceBNe, Int.reduceLE, Int.reduceLT, Int.reduceEq, Int.reduceToNat, ne_eq, not_false_eq_true, not_true_eq_false, reduceCtorEq, and_self, eq_self, h1]
    try rfl
end Go.Proofs.Ythccagmifnipdaa.P
end YthccagmifnipdaaL120
section YthccagmifnipdaaL121
namespace Go.Proofs.Ythccagmifnipdaa.P
open Go Go.RowKit Go.Proofs.Ythccagmifnipdaa.V
set_option linter.unusedVariables false
set_option linter.unusedSimpArgs false
set_option linter.all false
set_option maxRecDepth 100000
/-! ### impl_LabelOk: function 121 -/
def impl_LabelOk.f (a0 : Int) : Option Bool := (impl_within.f a0 0 5).bind fun t1 => (some t1)
set_option maxHeartbeats 4000000 in
theorem impl_LabelOk.link {a0 : Int} {r : Bool} (H : impl_LabelOk.f a0 = some r) : callW env 121 [.i .i64 a0] = some ([.b r], []) := by
  unfold impl_LabelOk.f at H
  refine callW_fn' (F := impl_LabelOk.F) (tm := tmOf [(0, .i .i64 a0)]) (rs := rsL []) (nx := 0) (ow := []) rfl (by rfl) (by simp only [SN]) (by simp only [SN]) (by decide) ?_
  show W env impl_LabelOk.B _ (Qf [.t 2] [] _)
  unfold impl_LabelOk.B
  obtain ⟨t1, e1, H⟩ := bnd_some H
  have e1 := impl_within.link e1
  injection H with H; subst H
  try simp only [TN, ↓reduceIte, Nat.reduceEqDiff, Nat.reduceAdd, Nat.reduceMul, Nat.reduceSub, Nat.reduceLeDiff, Nat.reduceLT, Nat.reduceBEq, Nat.reduceBNe, Int.reduceLE, Int.reduceLT, Int.reduceEq, Int.reduceToNat, ne_eq, not_false_eq_true, not_true_eq_false, reduceCtorEq, and_self, eq_self, e1]
  try rfl
end Go.Proofs.Ythccagmifnipdaa.P
end YthccagmifnipdaaL121
section YthccagmifnipdaaL122
namespace Go.Proofs.Ythccagmifnipdaa.P
open Go Go.RowKit Go.Proofs.Ythccagmifnipdaa.V
set_option linter.unusedVariables false
set_option linter.unusedSimpArgs false
set_option linter.all false
set_option maxRecDepth 100000
/-! ### impl_depthOk: function 122 -/
def impl_depthOk.f (l0 : List S33) (a1 : Int) : Option Bool := if a1 = 0 then (if 0 < (l0.length : Int) then (some (((rd_T33 l0 0).f1) == 0)) else none) else (if 0 ≤ a1 then (if a1 < (l0.length : Int) then (if 0 ≤ wrap64 (a1 - 1) then (if wrap64 (a1 - 1) < (l0.length : Int) then ((impl_within.f ((rd_T33 l0 a1).f1) 1 (wrap64 (((rd_T33 l0 (wrap64 (a1 - 1))).f1) + 1))).bind fun t1 => (some t1)) else none) else none) else none) else none)
set_option maxHeartbeats 4000000 in
theorem impl_depthOk.link {l0 : List S33} {a1 : Int} {r : Bool} (H : impl_depthOk.f l0 a1 = some r) : callW env 122 [.deep false true 2 (l0.map e33), .i .i64 a1] = some ([.b r], [none]) := by
  unfold impl_depthOk.f at H
  refine callW_fn' (F := impl_depthOk.F) (tm := tmOf [(0, .slc 0 [] 0 2 0 l0.length), (1, .i .i64 a1)]) (rs := rsL [(0, some ⟨false, 2, 0, (l0.map e33)⟩)]) (nx := 1) (ow := [false]) rfl (by rfl) (by simp only [SN]) (by simp only [SN]) (by decide) ?_
  show W env impl_depthOk.B _ (Qf [.t 4] [false] _)
  unfold impl_depthOk.B
  try simp only [TN, ↓reduceIte, Nat.reduceEqDiff, Nat.reduceAdd, Nat.reduceMul, Nat.reduceSub, Nat.reduceLeDiff, Nat.reduceLT, Nat.reduceBEq, Nat.reduceBNe, Int.reduceLE, Int.reduceLT, Int.reduceEq, Int.reduceToNat, ne_eq, not_false_eq_true, not_true_eq_false, reduceCtorEq, and_self, eq_self]
  rcases ite_or H with ⟨h1, H⟩ | ⟨h1, H⟩
  · skip
    obtain ⟨h2, H⟩ := ite_no H
    injection H with H; subst H
    try simp only [TN, ↓reduceIte, Nat.reduceEqDiff, Nat.reduceAdd, Nat.reduceMul, Nat.reduceSub, Nat.reduceLeDiff, Nat.reduceLT, Nat.reduceBEq, Nat.reduceBNe, Int.reduceLE, Int.reduceLT, Int.reduceEq, Int.reduceToNat, ne_eq, not_false_eq_true, not_true_eq_false, reduceCtorEq, and_self, eq_self, eq_true h1, h2]
    try rfl
  · skip
    obtain ⟨h3, H⟩ := ite_no H
    obtain ⟨h4, H⟩ := ite_no H
    obtain ⟨h5, H⟩ := ite_no H
    obtain ⟨h6, H⟩ := ite_no H
    obtain ⟨t1, e7, H⟩ := bnd_some H
    have e7 := impl_within.link e7
    injection H with H; subst H
    try simp only [TN, ↓reduceIte, Nat.reduceEqDiff, Nat.reduceAdd, Nat.reduceMul, Nat.reduceSub, Nat.reduceLeDiff, Nat.reduceLT, Nat.reduceBEq, Nat.reduceBNe, Int.reduceLE, Int.reduceLT, Int.reduceEq, Int.reduceToNat, ne_eq, not_false_eq_true, not_true_eq_false, reduceCtorEq, and_self, eq_self, h1, h3, h4, h5, h6, e7]
    try rfl
end Go.Proofs.Ythccagmifnipdaa.P
end YthccagmifnipdaaL122
section YthccagmifnipdaaL86
namespace Go.Proofs.Ythccagmifnipdaa.P
open Go Go.RowKit Go.Proofs.Ythccagmifnipdaa.V
set_option linter.unusedVariables false
set_option linter.unusedSimpArgs false
set_option linter.all false
set_option maxRecDepth 100000
/-! ### impl_TreeOk: function 86 -/
def impl_TreeOk.l0 : Nat → (List S33) → (List S33) → Int → Int → Option Bool
 | 0, _, _, _, _ => none
 | k + 1, l0, x9, x10, x11 => if x11 < x10 then (if 0 ≤ x11 then (if x11 < (l0.length : Int) then ((impl_LabelOk.f ((rd_T33 l0 x11).f0)).bind fun t2 => (if t2 = true then ((impl_within.f ((rd_T33 l0 x11).f1) 0 12).bind fun t3 => (if t3 = true then ((impl_depthOk.f l0 x11).bind fun t4 => (if t4 = true then (impl_TreeOk.l0 k l0 l0 x10 (wrap64 (x11 + 1))) else (some false))) else (some false))) else (some false))) else none) else none) else (some true)
def impl_TreeOk.f (k : Nat) (l0 : List S33) : Option Bool := (impl_within.f (l0.length : Int) 1 24).bind fun t1 => (if t1 = true then (impl_TreeOk.l0 k l0 l0 (l0.length : Int) 0) else (some false))
def impl_TreeOk.P0 (k : Nat) : Prop := ∀ (l0 : List S33) (x9 : List S33) (x10 : Int) (x11 : Int) (r : Bool), x9 = l0 → impl_TreeOk.l0 k l0 x9 x10 x11 = some r → ∀ st, canon 1 [0, 9, 10, 11] st = ⟨tmOf [(0, .slc 0 [] 0 2 0 l0.length), (9, .slc 0 [] 0 2 0 l0.length), (10, .i .i64 x10), (11, .i .i64 x11)], rsL [(0, some ⟨false, 2, 0, (l0.map e33)⟩)], 1⟩ → W env impl_TreeOk.c1 st (Qb 0 (Qs env impl_TreeOk.c0 (Qf [.t 2] [false] ([.b r], [none]))))
set_option maxHeartbeats 4000000 in
theorem impl_TreeOk.s0 (k : Nat) (ih : impl_TreeOk.P0 k) : impl_TreeOk.P0 (k + 1) := by
  intro l0 x9 x10 x11 r a0 H st hst
  subst a0
  rw [impl_TreeOk.l0] at H
  rw [W_loopc (show impl_TreeOk.c1 = C.loop 1 [0, 9, 10, 11] impl_TreeOk.d1 from rfl), hst]
  unfold impl_TreeOk.d1
  try simp only [TN, ↓reduceIte, Nat.reduceEqDiff, Nat.reduceAdd, Nat.reduceMul, Nat.reduceSub, Nat.reduceLeDiff, Nat.reduceLT, Nat.reduceBEq, Nat.reduceBNe, Int.reduceLE, Int.reduceLT, Int.reduceEq, Int.reduceToNat, ne_eq, not_false_eq_true, not_true_eq_false, reduceCtorEq, and_self, eq_self, impl_TreeOk.c0]
  rcases ite_or H with ⟨h1, H⟩ | ⟨h1, H⟩
  · skip
    obtain ⟨h2, H⟩ := ite_no H
    obtain ⟨h3, H⟩ := ite_no H
    obtain ⟨t2, e4, H⟩ := bnd_some H
    have e4 := impl_LabelOk.link e4
    try simp only [TN, ↓reduceIte, Nat.reduceEqDiff, Nat.reduceAdd, Nat.reduceMul, Nat.reduceSub, Nat.reduceLeDiff, Nat.reduceLT, Nat.reduceBEq, Nat.reduceBNe, Int.reduceLE, Int.reduceLT, Int.reduceEq, Int.reduceToNat, ne_eq, not_false_eq_true, not_true_eq_false, reduceCtorEq, and_self, eq_self, impl_TreeOk.c0, h1, h2, h3, e4]
    rcases ite_b H with ⟨h5, H⟩ | ⟨h5, H⟩
    · skip
      obtain ⟨t3, e6, H⟩ := bnd_some H
      have e6 := impl_within.link e6
      try simp only [TN, ↓reduceIte, Nat.reduceEqDiff, Nat.reduceAdd, Nat.reduceMul, Nat.reduceSub, Nat.reduceLeDiff, Nat.reduceLT, Nat.reduceBEq, Nat.reduceBNe, Int.reduceLE, Int.reduceLT, Int.reduceEq, Int.reduceToNat, ne_eq, not_false_eq_true, not_true_eq_false, reduceCtorEq, and_self, eq_self, impl_TreeOk.c0, h1, h2, h3, e4, h5, e6]
      rcases ite_b H with ⟨h7, H⟩ | ⟨h7, H⟩
      · skip
        obtain ⟨t4, e8, H⟩ := bnd_some H
        have e8 := impl_depthOk.link e8
        try simp only [TN, ↓reduceIte, Nat.reduceEqDiff, Nat.reduceAdd, Nat.reduceMul, Nat.reduceSub, Nat.reduceLeDiff, Nat.reduceLT, Nat.reduceBEq, Nat.reduceBNe, Int.reduceLE, Int.reduceLT, Int.reduceEq, Int.reduceToNat, ne_eq, not_false_eq_true, not_true_eq_false, reduceCtorEq, and_self, eq_self, impl_TreeOk.c0, h1, h2, h3, e4, h5, e6, h7, e8]
        rcases ite_b H with ⟨h9, H⟩ | ⟨h9, H⟩
        · skip
          try simp only [TN, ↓reduceIte, Nat.reduceEqDiff, Nat.reduceAdd, Nat.reduceMul, Nat.reduceSub, Nat.reduceLeDiff, Nat.reduceLT, Nat.reduceBEq, Nat.reduceBNe, Int.reduceLE, Int.reduceLT, Int.reduceEq, Int.reduceToNat, ne_eq, not_false_eq_true, not_true_eq_false, reduceCtorEq, and_self, eq_self, impl_TreeOk.c0, h1, h2, h3, e4, h5, e6, h7, e8, h9]
          refine ih _ _ _ _ _ rfl H _ ?_
          first | (rw [canon_eq]; done) | (rw [canon_eq]; rfl) | (rw [canon_eq]; simp only [List.length_set, List.length_append, List.length_replicate]; rfl)
        · skip
          injection H with H; subst H
          try simp only [TN, ↓reduceIte, Nat.reduceEqDiff, Nat.reduceAdd, Nat.reduceMul, Nat.reduceSub, Nat.reduceLeDiff, Nat.reduceLT, Nat.reduceBEq, Nat.reduceBNe, Int.reduceLE, Int.reduceLT, Int.reduceEq, Int.reduceToNat, ne_eq, not_false_eq_true, not_true_eq_false, reduceCtorEq, and_self, eq_self, impl_TreeOk.c0, h1, h2, h3, e4, h5, e6, h7, e8, h9]
          try rfl
      · skip
        injection H with H; subst H
        try simp only [TN, ↓reduceIte, Nat.reduceEqDiff, Nat.reduceAdd, Nat.reduceMul, Nat.reduceSub, Nat.reduceLeDiff, Nat.reduceLT, Nat.reduceBEq, Nat.reduceBNe, Int.reduceLE, Int.reduceLT, Int.reduceEq, Int.reduceToNat, ne_eq, not_false_eq_true, not_true_eq_false, reduceCtorEq, and_self, eq_self, impl_TreeOk.c0, h1, h2, h3, e4, h5, e6, h7]
        try rfl
    · skip
      injection H with H; subst H
      try simp only [TN, ↓reduceIte, Nat.reduceEqDiff, Nat.reduceAdd, Nat.reduceMul, Nat.reduceSub, Nat.reduceLeDiff, Nat.reduceLT, Nat.reduceBEq, Nat.reduceBNe, Int.reduceLE, Int.reduceLT, Int.reduceEq, Int.reduceToNat, ne_eq, not_false_eq_true, not_true_eq_false, reduceCtorEq, and_self, eq_self, impl_TreeOk.c0, h1, h2, h3, e4, h5]
      try rfl
  · skip
    injection H with H; subst H
    try simp only [TN, ↓reduceIte, Nat.reduceEqDiff, Nat.reduceAdd, Nat.reduceMul, Nat.reduceSub, Nat.reduceLeDiff, Nat.reduceLT, Nat.reduceBEq, Nat.reduceBNe, Int.reduceLE, Int.reduceLT, Int.reduceEq, Int.reduceToNat, ne_eq, not_false_eq_true, not_true_eq_false, reduceCtorEq, and_self, eq_self, impl_TreeOk.c0, h1]
    try rfl
theorem impl_TreeOk.w : ∀ k, impl_TreeOk.P0 k := by
  intro k
  induction k with
  | zero => exact by intro l0 x9 x10 x11 r _ H; cases (show (none : Option Bool) = some r from H)
  | succ k ih => exact impl_TreeOk.s0 k ih
set_option maxHeartbeats 4000000 in
theorem impl_TreeOk.link {k : Nat} {l0 : List S33} {r : Bool} (H : impl_TreeOk.f k l0 = some r) : callW env 86 [.deep false true 2 (l0.map e33)] = some ([.b r], [none]) := by
  unfold impl_TreeOk.f at H
  refine callW_fn' (F := impl_TreeOk.F) (tm := tmOf [(0, .slc 0 [] 0 2 0 l0.length)]) (rs := rsL [(0, some ⟨false, 2, 0, (l0.map e33)⟩)]) (nx := 1) (ow := [false]) rfl (by rfl) (by simp only [SN]) (by simp only [SN]) (by decide) ?_
  show W env impl_TreeOk.B _ (Qf [.t 2] [false] _)
  unfold impl_TreeOk.B
  obtain ⟨t1, e1, H⟩ := bnd_some H
  have e1 := impl_within.link e1
  try simp only [TN, ↓reduceIte, Nat.reduceEqDiff, Nat.reduceAdd, Nat.reduceMul, Nat.reduceSub, Nat.reduceLeDiff, Nat.reduceLT, Nat.reduceBEq, Nat.reduceBNe, Int.reduceLE, Int.reduceLT, Int.reduceEq, Int.reduceToNat, ne_eq, not_false_eq_true, not_true_eq_false, reduceCtorEq, and_self, eq_self, impl_TreeOk.c0, e1]
  rcases ite_b H with ⟨h2, H⟩ | ⟨h2, H⟩
  · skip
    try simp only [TN, ↓reduceIte, Nat.reduceEqDiff, Nat.reduceAdd, Nat.reduceMul, Nat.reduceSub, Nat.reduceLeDiff, Nat.reduceLT, Nat.reduceBEq, Nat.reduceBNe, Int.reduceLE, Int.reduceLT, Int.reduceEq, Int.reduceToNat, ne_eq, not_false_eq_true, not_true_eq_false, reduceCtorEq, and_self, eq_self, impl_TreeOk.c0, e1, h2]
    refine (impl_TreeOk.w k) _ _ _ _ _ rfl H _ ?_
    first | (rw [canon_eq]; done) | (rw [canon_eq]; rfl) | (rw [canon_eq]; simp only [List.length_set, List.length_append, List.length_replicate]; rfl)
  · skip
    injection H with H; subst H
    try simp only [TN, ↓reduceIte, Nat.reduceEqDiff, Nat.reduceAdd, Nat.reduceMul, Nat.reduceSub, Nat.reduceLeDiff, Nat.reduceLT, Nat.reduceBEq, Nat.reduceBNe, Int.reduceLE, Int.reduceLT, Int.reduceEq, Int.reduceToNat, ne_eq, not_false_eq_true, not_true_eq_false, reduceCtorEq, and_self, eq_self, impl_TreeOk.c0, e1, h2]
    try rfl
end Go.Proofs.Ythccagmifnipdaa.P
end YthccagmifnipdaaL86
