/- FnExactHistUndo: WH WI WJ WK WO WM WN L0 WL. -/
import Derived.Test.YtinlbiphjgpmmaaBFnExactHistUndo1
import Derived.RowKit
import Derived.Laws.Entries
import Derived.Laws.Strings
import Derived.Deep.Slices
import Derived.ChangeArms
import Derived.WideShapes
import Derived.Below
set_option linter.all false
set_option maxRecDepth 100000
set_option maxHeartbeats 8000000
section
namespace Go.Proofs.Ytinlbiphjgpmmaa.V
open Go Go.RowKit
def o (d : Nat) (i : I) : Op' := ⟨some d, none, [], i⟩
def og (d g : Nat) (b : Bool) (i : I) : Op' := ⟨some d, some (g, b), [], i⟩
def oz (d : Option Nat) (g : Option (Nat × Bool)) (s : List Nat) (i : I) : Op' := ⟨d, g, s, i⟩
def sqF : Nat → Nat → QcG
 | _, 0 => .done
 | k, n + 1 => .take k (sqF (k + 1) n)
def sq (n : Nat) : QcG := sqF 0 n
def tk : List Nat → QcG → QcG
 | [], s => s
 | k :: l, s => .take k (tk l s)
theorem Qhl {call : QaZ} {n : Nat} {l : List Op'} : ∀ (m k : Nat) (s : Tm × Rs), k + m = l.length → Qb4 call n l (sqF k m) s = Qbu call (n + k * idw) (l.drop k) s
 | 0, k, s, h => by rw [List.drop_eq_nil_of_le (by omega)]; rfl
 | m + 1, k, s, h => by
  have hk : k < l.length := by omega
  rw [List.drop_eq_getElem_cons hk]
  simp only [sqF, Qb4, List.getElem?_eq_getElem hk, Option.bind_some, Qbu]
  congr 1
  funext s'
  rw [Qhl m (k + 1) s' (by omega), Nat.add_mul, Nat.one_mul, Nat.add_assoc]
theorem QnS {call : QaZ} {n : Nat} {l : List Op'} {s : Tm × Rs} {m : Nat} (h : m = l.length) : Qb4 call n l (sq m) s = Qbu call n l s := by
 rw [sq, Qhl m 0 s (by omega), Nat.zero_mul, Nat.add_zero, List.drop_zero]
def rsL : List (Nat × Option Qan) → Rs
 | [] => fun _ => none
 | (r, R) :: l => up' (rsL l) r R
theorem Qr7 {l : List (Nat × AV)} {d : Nat} {v : AV} : up' (Qaw l) d v = Qaw ((d, v) :: l) := (rfl)
theorem QcB {l : List (Nat × Option Qan)} {r : Nat} {R : Option Qan} : up' (rsL l) r R = rsL ((r, R) :: l) := (rfl)
theorem Qih {l : List (Nat × AV)} {d t : Nat} {v : AV} : Qaw ((d, v) :: l) t = if t = d then v else Qaw l t := (rfl)
theorem Qop {t : Nat} : Qaw [] t = .undef := (rfl)
theorem Qe0 {l : List (Nat × Option Qan)} {r q : Nat} {R : Option Qan} : rsL ((r, R) :: l) q = if q = r then R else rsL l q := (rfl)
theorem QoH {q : Nat} : rsL [] q = none := (rfl)
theorem Qbt {rs : Rs} : kill rs [] = rs := by funext r; simp [kill]
theorem QbV {l : List (Nat × Option Qan)} {a : Nat} {asx : List Nat} : kill (rsL l) (a :: asx) = kill (rsL ((a, none) :: l)) asx := by
 funext r; simp only [kill, List.mem_cons, Qe0]
 by_cases h1 : r = a
 ·simp [h1]
 ·simp [h1]
def tmA : Nat → List AV → List (Nat × AV)
 | _, [] => []
 | n, v :: vs => (n, v) :: tmA (n + 1) vs
def rsA : Nat → List (Option Qan) → List (Nat × Option Qan)
 | _, [] => []
 | n, v :: vs => (n, v) :: rsA (n + 1) vs
theorem Qkm : ∀ (l : List AV) (n t : Nat), Qaw (tmA n l) t = if n ≤ t then l.getD (t - n) .undef else .undef
 | [], n, t => by simp [tmA, Qaw]
 | v :: l, n, t => by
  simp only [tmA, Qih, Qkm l (n + 1) t]
  by_cases h : t = n
  ·subst h; simp
  ·rw [if_neg h]
   by_cases h2 : n ≤ t
   ·rw [if_pos (by omega), if_pos h2]
    obtain ⟨m, rfl⟩ : ∃ m, t = n + m + 1 := ⟨t - n - 1, by omega⟩
    have e1 : n + m + 1 - (n + 1) = m := by omega
    have e2 : n + m + 1 - n = m + 1 := by omega
    rw [e1, e2]; rfl
   ·rw [if_neg (by omega), if_neg h2]
theorem QhP : ∀ (l : List (Option Qan)) (n t : Nat), rsL (rsA n l) t = if n ≤ t then (l[t - n]?).join else none
 | [], n, t => by simp [rsA, rsL]
 | v :: l, n, t => by
  simp only [rsA, Qe0, QhP l (n + 1) t]
  by_cases h : t = n
  ·subst h; simp
  ·rw [if_neg h]
   by_cases h2 : n ≤ t
   ·rw [if_pos (by omega), if_pos h2]
    obtain ⟨m, rfl⟩ : ∃ m, t = n + m + 1 := ⟨t - n - 1, by omega⟩
    have e1 : n + m + 1 - (n + 1) = m := by omega
    have e2 : n + m + 1 - n = m + 1 := by omega
    rw [e1, e2]; rfl
   ·rw [if_neg (by omega), if_neg h2]
theorem QmX {ds : List AV} : QcA ds = ⟨Qaw (tmA 0 (Qas ds 0).1), rsL (rsA 0 ((Qas ds 0).2.map some)), (Qas ds 0).2.length⟩ := by
 simp only [QcA, St.mk.injEq, and_true]
 constructor
 ·funext t; rw [Qkm]; simp
 ·funext t; rw [QhP]; simp only [Nat.zero_le, ↓reduceIte, Nat.sub_zero, List.getElem?_map]
  cases (Qas ds 0).2[t]? <;> rfl
theorem Qq0 {l : List (Option Qan)} : Qq1 l = rsL (rsA 0 l) := by funext t; rw [QhP]; simp [Qq1]
def Qp3 (m : Nat) (live : List Nat) (st : St) : St :=
 let od := QjL m live st
 ⟨Qaw (live.map fun t => (t, Qnc st.rs od (st.tm t))), rsL (rsA 0 (od.map fun r => (st.rs r).map fun R => { R with pv := 0 })), od.length⟩
theorem Qc {m : Nat} {live : List Nat} {st : St} : canon m live st = Qp3 m live st := by simp only [canon, Qp3, Qq0]
def B1 (d : Nat) (tm : Tm) (r : Option (AV × Rs)) (k : Tm × Rs → Option (Tm × Rs)) : Option (Tm × Rs) := r.bind fun p => k (up' tm d p.1, p.2)
theorem QmL {d : Nat} {l : List (Nat × AV)} {v : AV} {rs : Rs} {k : Tm × Rs → Option (Tm × Rs)} : B1 d (Qaw l) (some (v, rs)) k = k (Qaw ((d, v) :: l), rs) := (rfl)
theorem Qjg {call : QaZ} {n d : Nat} {g : Option (Nat × Bool)} {i : I} {tm : Tm} {rs : Rs} (h : Qb7 tm g = some true) : QdP call n ⟨some d, g, [], i⟩ (tm, rs) = (evI call n tm rs i).map fun p => (up' tm d p.1, p.2) := by
 simp only [QdP, h, Option.bind_some, ↓reduceIte, Qbs, List.length_nil, Nat.zero_le, QbP, ite_self, Qeb]
theorem Qk7 {call : QaZ} {n : Nat} {s : Tm × Rs} : Qbu call n [] s = some s := (rfl)
theorem QtB {call : QaZ} {n d : Nat} {i : I} {os : List Op'} {tm : Tm} {rs : Rs} : Qbu call n (o d i :: os) (tm, rs) = B1 d tm (evI call n tm rs i) (Qbu call (n + 80) os) := by
 simp only [Qbu, o, Qjg (g := none) rfl, B1]
 cases evI call n tm rs i <;> rfl
theorem Qo3 {call : QaZ} {n d g : Nat} {b : Bool} {i : I} {os : List Op'} {tm : Tm} {rs : Rs} (h : tm g = .b b) : Qbu call n (og d g b i :: os) (tm, rs) = B1 d tm (evI call n tm rs i) (Qbu call (n + 80) os) := by
 have hw : Qb7 tm (some (g, b)) = some true := by simp [Qb7, h]
 simp only [Qbu, og, Qjg hw, B1]
 cases evI call n tm rs i <;> rfl
theorem Qo4 {call : QaZ} {n d g : Nat} {b : Bool} {i : I} {os : List Op'} {l : List (Nat × AV)} {rs : Rs} (h : Qaw l g = .b (!b)) : Qbu call n (og d g b i :: os) (Qaw l, rs) = Qbu call (n + 80) os (Qaw ((d, .tup []) :: l), rs) := by
 simp only [Qbu, og, QdP, Qb7, h]
 cases b <;> simp <;> rfl
theorem Qo2 {call : QaZ} {n d g : Nat} {b : Bool} {i : I} {os : List Op'} {l : List (Nat × AV)} {rs : Rs} (h : Qaw l g = .tup []) : Qbu call n (og d g b i :: os) (Qaw l, rs) = Qbu call (n + 80) os (Qaw ((d, .tup []) :: l), rs) := by
 simp only [Qbu, og, QdP, Qb7, h]
 rfl
section
variable {E : Env}
theorem Qqs {tm : Tm} {rs : Rs} {nx : Nat} {Q : Pst} : OQ (some (tm, rs)) nx Q = Q .normal ⟨tm, rs, nx⟩ := propext ⟨fun ⟨_, h1, h2⟩ => by injection h1 with h1; subst h1; exact h2, fun h => ⟨_, rfl, h⟩⟩
theorem Qzn {b : C} {Q : Pst} {st : St} : Qs E b Q .normal st = W E b st Q := (rfl)
theorem Qzo {b : C} {Q : Pst} {st : St} {i : Nat} : Qs E b Q (.exit i) st = Q (.exit i) st := (rfl)
theorem Qzm {b : C} {Q : Pst} {st : St} : Qs E b Q .ret st = Q .ret st := (rfl)
theorem QzA {i : Nat} {Q : Pst} {st : St} : Qb i Q .normal st = Q .normal st := (rfl)
theorem QzB {i j : Nat} {Q : Pst} {st : St} : Qb i Q (.exit j) st = if j = i then Q .normal st else Q (.exit j) st := (rfl)
theorem Qzz {i : Nat} {Q : Pst} {st : St} : Qb i Q .ret st = Q .ret st := (rfl)
theorem Qzq {L : C} {Q : Pst} {st : St} : Ql E L Q .normal st = W E L st Q := (rfl)
theorem Qzr {L : C} {Q : Pst} {st : St} {i : Nat} : Ql E L Q (.exit i) st = Q (.exit i) st := (rfl)
theorem Qzp {L : C} {Q : Pst} {st : St} : Ql E L Q .ret st = Q .ret st := (rfl)
theorem QzS {live : List Nat} {Q : Pst} {tm : Tm} {rs : Rs} {nx : Nat} : Qk live Q .normal ⟨tm, rs, nx⟩ = Q .normal ⟨Qaw (live.map fun t => (t, tm t)), rs, nx⟩ := (rfl)
theorem Qzt {live : List Nat} {Q : Pst} {st : St} {i : Nat} : Qk live Q (.exit i) st = Q (.exit i) st := (rfl)
theorem Qzs {live : List Nat} {Q : Pst} {st : St} : Qk live Q .ret st = Q .ret st := (rfl)
theorem Qzv {m : Nat} {live : List Nat} {Q : Pst} {st : St} : Qj m live Q .normal st = Q .normal (canon m live st) := (rfl)
theorem Qzw {m : Nat} {live : List Nat} {Q : Pst} {st : St} {i : Nat} : Qj m live Q (.exit i) st = Q (.exit i) st := (rfl)
theorem Qzu {m : Nat} {live : List Nat} {Q : Pst} {st : St} : Qj m live Q .ret st = Q .ret st := (rfl)
def WC (E : Env) (x : X) (v : AV) (a b : C) (st : St) (Q : Pst) : Prop := match v with
 | .b t => if t = true then W E a st Q else W E b st Q
 | .mb => W E a st Q ∧ W E b st Q
 | .cv 1 r off sz n => W E a (tok x 3 r off sz n st) Q ∧ W E b (tok x 2 r off sz n st) Q
 | _ => False
theorem Qqr {x : X} {a b : C} {tm : Tm} {rs : Rs} {nx : Nat} {Q : Pst} : W E (.cond x a b) ⟨tm, rs, nx⟩ Q = WC E x (x.ev tm) a b ⟨tm, rs, nx⟩ Q := by
 have no : ∀ v : AV, x.ev tm = v → (∀ t, v ≠ .b t) → v ≠ .mb → (∀ r off sz n, v ≠ .cv 1 r off sz n) → W E (.cond x a b) ⟨tm, rs, nx⟩ Q = False := fun v e h1 h2 h3 => by
  refine eq_false fun ⟨k, h⟩ => ?_
  cases k with
  | zero => exact h.elim
  | succ k =>
   have h' : wC (Qcl E k) (Wn E k) (.cond x a b) ⟨tm, rs, nx⟩ Q := h
   simp only [wC, e] at h'
 cases e : x.ev tm
 case b t => exact Qoh (st := ⟨tm, rs, nx⟩) e
 case mb =>
  refine propext ⟨fun ⟨k, h⟩ => ?_, fun h => QmI e h.1 h.2⟩
  cases k with
  | zero => exact h.elim
  | succ k =>
   have h' : wC (Qcl E k) (Wn E k) (.cond x a b) ⟨tm, rs, nx⟩ Q := h
   simp only [wC, e] at h'
   exact ⟨⟨k + 1, h'.1⟩, ⟨k + 1, h'.2⟩⟩
 case cv k r off sz n =>
  by_cases hk : k = 1
  ·subst hk
   refine propext ⟨fun ⟨k, h⟩ => ?_, fun h => QmJ e h.1 h.2⟩
   cases k with
   | zero => exact h.elim
   | succ k =>
    have h' : wC (Qcl E k) (Wn E k) (.cond x a b) ⟨tm, rs, nx⟩ Q := h
    simp only [wC, e] at h'
    exact ⟨⟨k + 1, h'.1⟩, ⟨k + 1, h'.2⟩⟩
  ·rw [no _ e (by intro t h; cases h) (by intro h; cases h) (by intro r off sz n h; injection h with h; exact hk h)]
   unfold WC
   split
   ·rename_i h; cases h
   ·rename_i h; cases h
   ·rename_i h; injection h with h; exact absurd h hk
   ·rfl
 all_goals exact no _ e (by intro t h; cases h) (by intro h; cases h) (by intro r off sz n h; cases h)
theorem Qzk {x : X} {a b : C} {st : St} {Q : Pst} : WC E x (.b true) a b st Q = W E a st Q := (rfl)
theorem Qzl {x : X} {a b : C} {st : St} {Q : Pst} : WC E x (.b false) a b st Q = W E b st Q := (rfl)
theorem QzQ {m : Nat} {l : List Op'} {tm : Tm} {rs : Rs} {nx : Nat} {Q : Pst} (h : m = l.length) : W E (.draw (sq m) l) ⟨tm, rs, nx⟩ Q = OQ (Qbu (Qat E) nx l (tm, rs)) (nx + m * 80) Q := by
 rw [Qqq, QnS h, h]; rfl
theorem Qqo {l : List Op'} {tm : Tm} {rs : Rs} {nx : Nat} {Q : Pst} : W E (.ops l) ⟨tm, rs, nx⟩ Q = OQ (Qbu (Qat E) nx l (tm, rs)) (nx + l.length * 80) Q := Qw3
end
theorem x_t {tm : Tm} {n : Nat} : X.ev tm (.t n) = tm n := (rfl)
theorem x_k {tm : Tm} {v : AV} : X.ev tm (.k v) = v := (rfl)
section
variable {call : QaZ} {n : Nat} {tm : Tm} {rs : Rs}
theorem Qx7 {x : X} : evI call n tm rs (.mv x) = some (x.ev tm, rs) := (rfl)
def Qrx (c : AV) (a b : AV) (rs : Rs) : Option (AV × Rs) := match c with
 | .b t => some (if t then a else b, rs)
 | _ => none
theorem QpE {c a b : X} : evI call n tm rs (.pick c a b) = Qrx (c.ev tm) (a.ev tm) (b.ev tm) rs := (rfl)
theorem QoU {a b : AV} : Qrx (.b true) a b rs = some (a, rs) := (rfl)
theorem QoV {a b : AV} : Qrx (.b false) a b rs = some (b, rs) := (rfl)
def Qcx (op : BinOp) (kd : Nat) (x y : AV) (rs : Rs) : Option (AV × Rs) := if Qbr kd x then (Qd9 op x y).map (·, rs) else none
theorem Qt6 {op : BinOp} {kd : Nat} {x y : X} : evI call n tm rs (.bin op kd x y) = Qcx op kd (x.ev tm) (y.ev tm) rs := (rfl)
theorem QvB {k : IntKind} {x y : Int} : Qcx .add 0 (.i k x) (.i k y) rs = some (.i k (k.wrap (x + y)), rs) := by simp [Qcx, Qbr, Qd9, Qby, Qbw]
theorem Qvj {k : IntKind} {x y : Int} : Qcx .sub 0 (.i k x) (.i k y) rs = some (.i k (k.wrap (x - y)), rs) := by simp [Qcx, Qbr, Qd9, Qby, Qbw]
theorem Qvr {k : IntKind} {x y : Int} : Qcx .mul 0 (.i k x) (.i k y) rs = some (.i k (k.wrap (x * y)), rs) := by simp [Qcx, Qbr, Qd9, Qby, Qbw]
theorem Qvs {k : IntKind} {x y : Int} : Qcx .lss 0 (.i k x) (.i k y) rs = some (.b (decide (x < y)), rs) := by simp [Qcx, Qbr, Qd9, Qby, Qbw, Qjz]
theorem Qvt {k : IntKind} {x y : Int} : Qcx .leq 0 (.i k x) (.i k y) rs = some (.b (decide (x ≤ y)), rs) := by simp [Qcx, Qbr, Qd9, Qby, Qbw, Qjz]
theorem Qvu {k : IntKind} {x y : Int} : Qcx .gtr 0 (.i k x) (.i k y) rs = some (.b (decide (x > y)), rs) := by simp [Qcx, Qbr, Qd9, Qby, Qbw, Qjz]
theorem Qvv {k : IntKind} {x y : Int} : Qcx .geq 0 (.i k x) (.i k y) rs = some (.b (decide (x ≥ y)), rs) := by simp [Qcx, Qbr, Qd9, Qby, Qbw, Qjz]
theorem Qvx {k : IntKind} {x y : Int} : Qcx .eql 0 (.i k x) (.i k y) rs = some (.b (decide (x = y)), rs) := by simp [Qcx, Qbr, Qd9, Qby, Qbw, Qjz]
theorem Qvp {k : IntKind} {x y : Int} : Qcx .neq 0 (.i k x) (.i k y) rs = some (.b (!decide (x = y)), rs) := by simp [Qcx, Qbr, Qd9, Qby, Qbw, Qjz]
theorem wrap_i64 {x : Int} : IntKind.wrap .i64 x = wrap64 x := Go.IntKind.wrap_i64 x
def Qv4 (s : Bool) (x : AV) (rs : Rs) : Option (AV × Rs) := match x with
 | .s x => if s then some (.i .i64 x.size, rs) else none
 | .slc _ _ _ _ _ len => if s then none else some (.i .i64 len, rs)
 | .nl _ => if s then none else some (.i .i64 0, rs)
 | _ => none
theorem Qt0 {s : Bool} {x : X} : evI call n tm rs (.len s x) = Qv4 s (x.ev tm) rs := (rfl)
theorem QtU {r : Nat} {q : QaI} {pv sz off len : Nat} : Qv4 false (.slc r q pv sz off len) rs = some (.i .i64 len, rs) := (rfl)
theorem QtT {sz : Nat} : Qv4 false (.nl sz) rs = some (.i .i64 0, rs) := (rfl)
theorem QtS {x : ByteArray} : Qv4 true (.s x) rs = some (.i .i64 x.size, rs) := (rfl)
def Qmf (sz : Nat) (x j : AV) (rs : Rs) : Option (AV × Rs) := match x, j with
 | .slc r q pv sz' off len, .i _ n => if sz' = sz ∧ 0 ≤ n ∧ n < len then some (.ptr r q pv (off + n.toNat) 0, rs) else none
 | _, _ => none
theorem QlW {sz : Nat} {x j : X} : evI call n tm rs (.iaddr sz x j) = Qmf sz (x.ev tm) (j.ev tm) rs := (rfl)
theorem QlT {sz r : Nat} {q : QaI} {pv off len : Nat} {k : IntKind} {j : Int} (h1 : 0 ≤ j) (h2 : j < (len : Int)) : Qmf sz (.slc r q pv sz off len) (.i k j) rs = some (.ptr r q pv (off + j.toNat) 0, rs) := by
 simp only [Qmf]; rw [if_pos ⟨trivial, h1, h2⟩]
def Qmg (off : Nat) (x : AV) (rs : Rs) : Option (AV × Rs) := match x with
 | .ptr r q pv i c => some (.ptr r q pv i (c + off), rs)
 | .bx cs c => some (.bx cs (c + off), rs)
 | _ => none
theorem QlY {off : Nat} {x : X} : evI call n tm rs (.faddr off x) = Qmg off (x.ev tm) rs := (rfl)
theorem Qmd {off c : Nat} {cs : List AV} : Qmg off (.bx cs c) rs = some (.bx cs (c + off), rs) := (rfl)
theorem Qme {off r : Nat} {q : QaI} {pv i c : Nat} : Qmg off (.ptr r q pv i c) rs = some (.ptr r q pv i (c + off), rs) := (rfl)
def Qfd (k : Option Nat) (a : AV) (rs : Rs) : Option (AV × Rs) := match a with
 | .ptr r q pv i c => (QcE rs r q pv).bind fun (R, _, _, xs) => (xs[i]?).bind fun el => (Qdj r q R.pv i c el k).map (·, rs)
 | .bx cs c => (Qdv cs c k).map (·, rs)
 | _ => none
theorem QpG {k : Option Nat} {a : X} : evI call n tm rs (.load k a) = Qfd k (a.ev tm) rs := (rfl)
def Qen (k : Option Nat) (r : Nat) (q : QaI) (pv i c : Nat) (el : Option (List AV)) (rs : Rs) : Option (AV × Rs) := el.bind fun el => (Qdj r q pv i c el k).map (·, rs)
def Qlm (k : Option Nat) (r i c : Nat) (R : Option Qan) (rs : Rs) : Option (AV × Rs) := match R with
 | some R => Qen k r [] R.pv i c R.xs[i]? rs
 | none => none
theorem Qpi {k : Option Nat} {r pv i c : Nat} : Qfd k (.ptr r [] pv i c) rs = Qlm k r i c (rs r) rs := by
 simp only [Qfd, QcE, Qlm]
 cases rs r <;> rfl
theorem Qe5 {k : Option Nat} {r i c sz pv : Nat} {own : Bool} {xs : Els} : Qlm k r i c (some ⟨own, sz, pv, xs⟩) rs = Qen k r [] pv i c xs[i]? rs := (rfl)
theorem QfO {r i c pv : Nat} {q : QaI} {el : List AV} : Qen none r q pv i c (some el) rs = ((el[c]?).map fun v => Qdb r q pv i c v).map (·, rs) := (rfl)
end
theorem Qrr {α : Type} {e : α → List AV} {l : List α} {z : α} {j : Int} (h1 : 0 ≤ j) (h2 : j < (l.length : Int)) : (l.map e)[0 + j.toNat]? = some (e (l.getD j.toNat z)) := by
 have h : j.toNat < l.length := by omega
 rw [Nat.zero_add, List.getElem?_map, List.getElem?_eq_getElem h, List.getD_eq_getElem?_getD, List.getElem?_eq_getElem h]; rfl
theorem Qpo {r : Nat} {q : QaI} {pv i c : Nat} {k : IntKind} {x : Int} : Qdb r q pv i c (.i k x) = .i k x := (rfl)
theorem Qpq {r : Nat} {q : QaI} {pv i c : Nat} {x : Bool} : Qdb r q pv i c (.b x) = .b x := (rfl)
theorem Qpm {r : Nat} {q : QaI} {pv i c : Nat} {x : ByteArray} : Qdb r q pv i c (.s x) = .s x := (rfl)
end Go.Proofs.Ytinlbiphjgpmmaa.V
end
section
namespace Go.Proofs.Ytinlbiphjgpmmaa.V
open Go Go.RowKit
theorem QP {α : Type} {c : Prop} [Decidable c] {a b : Option α} {r : α} (h : (if c then a else b) = some r) : c ∧ a = some r ∨ ¬c ∧ b = some r := by
 by_cases hc : c
 ·rw [if_pos hc] at h; exact .inl ⟨hc, h⟩
 ·rw [if_neg hc] at h; exact .inr ⟨hc, h⟩
theorem Qr {α : Type} {c : Prop} [Decidable c] {a : Option α} {r : α} (h : (if c then a else none) = some r) : c ∧ a = some r := by
 by_cases hc : c
 ·rw [if_pos hc] at h; exact ⟨hc, h⟩
 ·rw [if_neg hc] at h; cases h
theorem Qm {α β : Type} {a : Option α} {g : α → Option β} {r : β} (h : a.bind g = some r) : ∃ t, a = some t ∧ g t = some r := Option.bind_eq_some_iff.1 h
theorem Qbx {α β : Type} {a : α} {g : α → Option β} {r : β} (h : (some a).bind g = some r) : ∃ y, a = y ∧ g y = some r := ⟨a, rfl, h⟩
def eI (n : Int) : List AV := [.i .i64 n]
def e8 (n : Int) : List AV := [.i .u8 n]
def eB (b : Bool) : List AV := [.b b]
def eS (s : ByteArray) : List AV := [.s s]
def eL {α : Type} (sz : Nat) (b : Bool) (e : α → List AV) (l : List α) : List AV := [.deep false b sz (l.map e)]
theorem Qf8 {α : Type} {e : α → List AV} {l : List α} : wnd (l.map e) 0 l.length = l.map e := by
 rw [wnd, List.drop_zero, List.take_of_length_le (by simp)]
theorem Qkf {n : Nat} : wnd [] 0 n = [] := by simp [wnd]
theorem QeU {α : Type} {e : α → List AV} {l : List α} {off n : Nat} {v : List α} (h : (l.drop off).take n = v) : wnd (l.map e) off n = v.map e := by
 rw [wnd, ← List.map_drop, ← List.map_take, h]
theorem Qgs {α : Type} {e : α → List AV} {l : List α} : (l.map e).length = l.length := by simp
def wnd1 (l : Els) : Els := l
theorem QbJ {α : Type} {e : α → List AV} {l : List α} {z : α} {j : Int} (h1 : 0 ≤ j) (h2 : j < (l.length : Int)) : (l.map e)[0 + j.toNat]? = some (e (l.getD j.toNat z)) := Qrr h1 h2
theorem Ql6 {α : Type} {e : α → List AV} {l v : List α} {off n : Nat} {z : α} {j : Int} (hw : (l.drop off).take n = v) (h1 : 0 ≤ j) (h2 : j < (v.length : Int)) : (l.map e)[off + j.toNat]? = some (e (v.getD j.toNat z)) := by
 have h : j.toNat < v.length := by omega
 subst hw
 have h' := h
 rw [List.length_take, List.length_drop] at h'
 rw [List.getElem?_map, List.getD_eq_getElem?_getD, List.getElem?_take_of_lt (by omega), List.getElem?_drop, List.getElem?_eq_getElem (by omega)]
 rfl
theorem Qck {α : Type} {e : α → List AV} {l : List α} {j : Int} {c : Nat} {vs : List AV} {x y : α} (h1 : 0 ≤ j) (h2 : j < (l.length : Int)) (hx : l[j.toNat]? = some x) (hy : (e x).take c ++ vs ++ (e x).drop (c + vs.length) = e y) : Qaq (l.map e) (0 + j.toNat) c vs = (l.set j.toNat y).map e := by
 have h : j.toNat < l.length := by omega
 rw [Qaq, Nat.zero_add, List.getElem?_map, hx]
 simp only [Option.map_some]
 rw [hy, List.map_set]
theorem Qbd {α : Type} {l : List α} {z : α} {j : Int} (h1 : 0 ≤ j) (h2 : j < (l.length : Int)) : l[j.toNat]? = some (l.getD j.toNat z) := by
 have h : j.toNat < l.length := by omega
 rw [List.getD_eq_getElem?_getD, List.getElem?_eq_getElem h]; rfl
section
variable {call : QaZ} {n : Nat} {tm : Tm} {rs : Rs}
theorem QvA {k : IntKind} {x y : Int} : Qcx .and 0 (.i k x) (.i k y) rs = some (.i k (Go.bits .and k x y), rs) := by simp [Qcx, Qbr, Qd9, Qby, Qbw, Go.bits]
theorem Qzd {k : IntKind} {x y : Int} : Qcx .or 0 (.i k x) (.i k y) rs = some (.i k (Go.bits .or k x y), rs) := by simp [Qcx, Qbr, Qd9, Qby, Qbw, Go.bits]
theorem Qvi {k : IntKind} {x y : Int} : Qcx .xor 0 (.i k x) (.i k y) rs = some (.i k (Go.bits .xor k x y), rs) := by simp [Qcx, Qbr, Qd9, Qby, Qbw, Go.bits]
def shl (k : IntKind) (x y : Int) : Int := k.wrap (x * 2 ^ min y.toNat k.bits)
def shr (k : IntKind) (x y : Int) : Int := x.fdiv (2 ^ min y.toNat k.bits)
theorem Qvl {k k' : IntKind} {x y : Int} (h : 0 ≤ y) : Qcx .shl 0 (.i k x) (.i k' y) rs = some (.i k (shl k x y), rs) := by simp [Qcx, Qbr, Qd9, Qby, QhD, shl, Int.not_lt.2 h]
theorem Qvk {k k' : IntKind} {x y : Int} (h : 0 ≤ y) : Qcx .shr 0 (.i k x) (.i k' y) rs = some (.i k (shr k x y), rs) := by simp [Qcx, Qbr, Qd9, Qby, QhD, shr, Int.not_lt.2 h]
theorem Qvn {k : IntKind} {x y : Int} (h : y ≠ 0) : Qcx .quo 0 (.i k x) (.i k y) rs = some (.i k (k.wrap (x.tdiv y)), rs) := by simp [Qcx, Qbr, Qd9, Qby, Qbw, h]
theorem Qvm {k : IntKind} {x y : Int} (h : y ≠ 0) : Qcx .rem 0 (.i k x) (.i k y) rs = some (.i k (x.tmod y), rs) := by simp [Qcx, Qbr, Qd9, Qby, Qbw, h]
theorem Qvy {x y : Bool} : Qcx .eql 1 (.b x) (.b y) rs = some (.b (decide (x = y)), rs) := by simp [Qcx, Qbr, Qd9]
theorem Qvq {x y : Bool} : Qcx .neq 1 (.b x) (.b y) rs = some (.b (!decide (x = y)), rs) := by simp [Qcx, Qbr, Qd9]
theorem Qvw {x y : ByteArray} : Qcx .eql 0 (.s x) (.s y) rs = some (.b (decide (x = y)), rs) := by simp [Qcx, Qbr, Qd9]
theorem Qvo {x y : ByteArray} : Qcx .neq 0 (.s x) (.s y) rs = some (.b (!decide (x = y)), rs) := by simp [Qcx, Qbr, Qd9]
theorem Qvz {x y : ByteArray} (h : x.size + y.size ≤ 9223372036854775807) : Qcx .add 0 (.s x) (.s y) rs = some (.s (x ++ y), rs) := by simp [Qcx, Qbr, Qd9, h]
theorem Qqh {r : Nat} {q : QaI} {pv sz off len sz' : Nat} : Qcx .eql 2 (.slc r q pv sz off len) (.nl sz') rs = some (Qgx len, rs) := by simp [Qcx, Qbr, Qd9]
theorem Qqi {sz sz' : Nat} : Qcx .eql 2 (.nl sz) (.nl sz') rs = some (.b true, rs) := by simp [Qcx, Qbr, Qd9]
def fUn (op : UnOp) (x : AV) (rs : Rs) : Option (AV × Rs) := (aUn op x).map (·, rs)
theorem Qx6 {op : UnOp} {x : X} : evI call n tm rs (.un op x) = fUn op (x.ev tm) rs := (rfl)
theorem Qon {x : Bool} : fUn .not (.b x) rs = some (.b (!x), rs) := (rfl)
theorem un_mb : fUn .not .mb rs = some (.mb, rs) := (rfl)
theorem Qoo {k : IntKind} {x : Int} : fUn .neg (.i k x) rs = some (.i k (k.wrap (0 - x)), rs) := (rfl)
def Quo (k : IntKind) (x : AV) (rs : Rs) : Option (AV × Rs) := match x with
 | .i _ n => some (.i k (k.wrap n), rs)
 | _ => none
theorem QpI {k : IntKind} {x : X} : evI call n tm rs (.conv k x) = Quo k (x.ev tm) rs := (rfl)
theorem QpZ {k k' : IntKind} {x : Int} : Quo k (.i k' x) rs = some (.i k (k.wrap x), rs) := (rfl)
theorem Qkb {x : Int} : IntKind.wrap .u8 x = x % 256 := by simp [IntKind.wrap, IntKind.bits, IntKind.signed]
def QnH (x : AV) (rs : Rs) : Option (AV × Rs) := match x with
 | .ptr r q pv i c => some (.ptr r q pv i c, rs)
 | .fn f cs => some (.fn f cs, rs)
 | .bx cs c => some (.bx cs c, rs)
 | _ => none
theorem QpF {x : X} : evI call n tm rs (.nilc x) = QnH (x.ev tm) rs := (rfl)
theorem Qpb {r : Nat} {q : QaI} {pv i c : Nat} : QnH (.ptr r q pv i c) rs = some (.ptr r q pv i c, rs) := (rfl)
theorem Qpc {f : Nat} {cs : List AV} : QnH (.fn f cs) rs = some (.fn f cs, rs) := (rfl)
theorem Qpa {cs : List AV} {c : Nat} : QnH (.bx cs c) rs = some (.bx cs c, rs) := (rfl)
def fMm (m : Bool) (x : AV) (xs : List AV) (rs : Rs) : Option (AV × Rs) := (Qnk m x xs).map (·, rs)
theorem QzN {m : Bool} {x : X} {xs : List X} : evI call n tm rs (.mm m (x :: xs)) = fMm m (x.ev tm) (xs.map (·.ev tm)) rs := (rfl)
def mx (a b : Int) : Int := if a < b then b else a
def mn (a b : Int) : Int := if b < a then b else a
theorem Qpd {m : Bool} {v : AV} : fMm m v [] rs = some (v, rs) := (rfl)
theorem Qx0 {k : IntKind} {a b : Int} {l : List AV} : fMm true (.i k a) (.i k b :: l) rs = fMm true (.i k (mx a b)) l rs := by simp [fMm, Qnk, mx]
theorem Qx1 {k : IntKind} {a b : Int} {l : List AV} : fMm false (.i k a) (.i k b :: l) rs = fMm false (.i k (mn a b)) l rs := by simp [fMm, Qnk, mn]
def Qry (x j : AV) (rs : Rs) : Option (AV × Rs) := match x, j with
 | .s x, .i _ n => if 0 ≤ n ∧ n < x.size then some (.i .u8 ((x.toList.getD n.toNat 0).toNat : Nat), rs) else none
 | _, _ => none
theorem QpH {x j : X} : evI call n tm rs (.idxS x j) = Qry (x.ev tm) (j.ev tm) rs := (rfl)
def bt (s : ByteArray) (i : Int) : Int := if h : i.toNat < s.size then ((s[i.toNat]'h).toNat : Int) else 0
theorem QjC (s : ByteArray) : s.toList.length = s.size := by rw [ByteArray.toList_eq, Array.length_toList]; rfl
theorem Qpy {x : ByteArray} {k : IntKind} {j : Int} (h1 : 0 ≤ j) (h2 : j < (x.size : Int)) : Qry (.s x) (.i k j) rs = some (.i .u8 (bt x j), rs) := by
 have h : j.toNat < x.size := by omega
 simp only [Qry]
 rw [if_pos ⟨h1, h2⟩, bt, dif_pos h]
 have e : x.toList.getD j.toNat 0 = x[j.toNat] := by
  rw [List.getD_eq_getElem?_getD, List.getElem?_eq_getElem (by rw [QjC]; exact h), Option.getD_some]
  simp [ByteArray.getElem_eq_getElem_data, ByteArray.toList_eq]
 rw [e]
def QdI (x : AV) (lo hi : Option AV) (rs : Rs) : Option (AV × Rs) := match x with
 | .s x => (bndv x.size hi x.size).bind fun h => (bndv h lo 0).map fun l => (.s (x.extract l h), rs)
 | _ => none
where bndv (hi : Nat) : Option AV → Nat → Option Nat
 | none, d => some d
 | some v, _ => match v with
  | .i _ n => if 0 ≤ n ∧ n ≤ hi then some n.toNat else none
  | _ => none
theorem Qoc {hi d : Nat} {x : Option X} : bnd tm hi x d = QdI.bndv hi (x.map (·.ev tm)) d := by cases x <;> rfl
theorem Qwy {x : X} {lo hi : Option X} : evI call n tm rs (.slS x lo hi) = QdI (x.ev tm) (lo.map (·.ev tm)) (hi.map (·.ev tm)) rs := by
 simp only [evI, QdI, Qoc]
 cases x.ev tm <;> rfl
theorem QsF {x : ByteArray} {k : IntKind} {l : Int} (h1 : 0 ≤ l) (h2 : l ≤ (x.size : Int)) : QdI (.s x) (some (.i k l)) none rs = some (.s (x.extract l.toNat x.size), rs) := by
 simp [QdI, QdI.bndv, h1, h2]
theorem QsG {x : ByteArray} {k : IntKind} {h : Int} (h1 : 0 ≤ h) (h2 : h ≤ (x.size : Int)) : QdI (.s x) none (some (.i k h)) rs = some (.s (x.extract 0 h.toNat), rs) := by
 simp [QdI, QdI.bndv, h1, h2]
theorem Qou {x : ByteArray} {k k' : IntKind} {l h : Int} (h0 : 0 ≤ l) (h1 : l ≤ h) (h2 : h ≤ (x.size : Int)) : QdI (.s x) (some (.i k l)) (some (.i k' h)) rs = some (.s (x.extract l.toNat h.toNat), rs) := by
 have e : 0 ≤ h := by omega
 have e2 : l ≤ ((h.toNat : Nat) : Int) := by omega
 simp only [QdI, QdI.bndv, if_pos (show 0 ≤ h ∧ h ≤ (x.size : Int) from ⟨e, h2⟩), Option.bind_some, if_pos (show 0 ≤ l ∧ l ≤ ((h.toNat : Nat) : Int) from ⟨h0, e2⟩), Option.map_some]
theorem QpW : Qbv [] [] [] = some true := (rfl)
theorem QyL {ks : List Nat} {k : IntKind} {x y : Int} {xs ys : List AV} : Qbv (0 :: ks) (.i k x :: xs) (.i k y :: ys) = (Qbv ks xs ys).map fun r => decide (x = y) && r := by simp [Qbv]
theorem QyK {ks : List Nat} {x y : Bool} {xs ys : List AV} : Qbv (1 :: ks) (.b x :: xs) (.b y :: ys) = (Qbv ks xs ys).map fun r => decide (x = y) && r := by simp [Qbv]
theorem QyJ {ks : List Nat} {x y : ByteArray} {xs ys : List AV} : Qbv (2 :: ks) (.s x :: xs) (.s y :: ys) = (Qbv ks xs ys).map fun r => decide (x = y) && r := by simp [Qbv]
def Qum (neg : Bool) (ks : List Nat) (x y : AV) (rs : Rs) : Option (AV × Rs) := match x, y with
 | .agg xs, .agg ys => gEqA neg (Qbv ks xs ys) rs
 | _, _ => none
where gEqA (neg : Bool) (r : Option Bool) (rs : Rs) : Option (AV × Rs) := r.map fun r => (.b (if neg then !r else r), rs)
theorem Qt2 {neg : Bool} {ks : List Nat} {x y : X} : evI call n tm rs (.eqA neg ks x y) = Qum neg ks (x.ev tm) (y.ev tm) rs := (rfl)
theorem Qux {neg : Bool} {ks : List Nat} {xs ys : List AV} : Qum neg ks (.agg xs) (.agg ys) rs = Qum.gEqA neg (Qbv ks xs ys) rs := (rfl)
theorem Quv {r : Bool} : Qum.gEqA true (some r) rs = some (.b (!r), rs) := (rfl)
theorem Quw {r : Bool} : Qum.gEqA false (some r) rs = some (.b r, rs) := (rfl)
def QrA (tm : Tm) (cs : List AV) (ps : List (Nat × Nat × X)) (rs : Rs) : Option (AV × Rs) := (Qc4 tm cs ps).map fun cs => (.agg cs, rs)
theorem Ql0 {z : List AV} {ps : List (Nat × Nat × X)} : evI call n tm rs (.build z ps) = QrA tm z ps rs := (rfl)
theorem QmE {cs : List AV} : QrA tm cs [] rs = some (.agg cs, rs) := (rfl)
def QjV (tm : Tm) (cs : List AV) (o k : Nat) (v : AV) (ps : List (Nat × Nat × X)) (rs : Rs) : Option (AV × Rs) :=
 if Qhg v = true ∧ v.cells.length = k ∧ o + k ≤ cs.length then QrA tm (Qcg cs o v.cells) ps rs else none
theorem Qjt {cs : List AV} {o k : Nat} {x : X} {ps : List (Nat × Nat × X)} : QrA tm cs ((o, k, x) :: ps) rs = QjV tm cs o k (x.ev tm) ps rs := by
 simp only [QrA, Qc4, QjV]; split <;> rfl
def Qri : AV → Bool
 | .fn _ _ | .tup _ | .undef | .agg _ | .bx _ _ => false
 | _ => true
theorem Qu8 {cs : List AV} {o : Nat} {v : AV} {ps : List (Nat × Nat × X)} (hv : Qri v = true) (h : o < cs.length) : QjV tm cs o 1 v ps rs = QrA tm (cs.set o v) ps rs := by
 have h' : o + 1 ≤ cs.length := h
 cases v <;> first | (simp [Qri] at hv; done) | simp [QjV, Qhg, AV.cells, Qcg, h']
theorem Qu7 {cs : List AV} {o k : Nat} {vs : List AV} {ps : List (Nat × Nat × X)} (h1 : vs.length = k) (h : o + k ≤ cs.length) : QjV tm cs o k (.agg vs) ps rs = QrA tm (Qcg cs o vs) ps rs := by
 simp [QjV, Qhg, AV.cells, h1, h]
theorem QkS {cs : List AV} {o : Nat} : Qcg cs o [] = cs := (rfl)
theorem QiC {cs : List AV} {o : Nat} {v : AV} {vs : List AV} : Qcg cs o (v :: vs) = Qcg (cs.set o v) (o + 1) vs := (rfl)
def Qjd (off : Nat) (k : Option Nat) (x : AV) (rs : Rs) : Option (AV × Rs) := match x with
 | .agg cs => (Qdv cs off k).map (·, rs)
 | _ => none
theorem QlX {off : Nat} {k : Option Nat} {x : X} : evI call n tm rs (.field off k x) = Qjd off k (x.ev tm) rs := (rfl)
def QhU (v : Option AV) (rs : Rs) : Option (AV × Rs) := v.map (·, rs)
theorem Qlb {v : AV} : QhU (some v) rs = some (v, rs) := (rfl)
theorem Qpf {c : Nat} {cs : List AV} : Qfd none (.bx cs c) rs = QhU cs[c]? rs := (rfl)
theorem Qlk {c k : Nat} {cs : List AV} (h : c + k ≤ cs.length) : Qfd (some k) (.bx cs c) rs = some (.agg ((cs.drop c).take k), rs) := by simp [Qfd, Qdv, h]
theorem Qmc {off : Nat} {cs : List AV} : Qjd off none (.agg cs) rs = QhU cs[off]? rs := (rfl)
theorem Qmb {off k : Nat} {cs : List AV} (h : off + k ≤ cs.length) : Qjd off (some k) (.agg cs) rs = some (.agg ((cs.drop off).take k), rs) := by simp [Qjd, Qdv, h]
def QyI (j : Nat) (x : AV) (rs : Rs) : Option (AV × Rs) := match x with
 | .tup vs => QhU vs[j]? rs
 | _ => none
theorem Qt1 {j : Nat} {x : X} : evI call n tm rs (.ext j x) = QyI j (x.ev tm) rs := (rfl)
theorem Quq {j : Nat} {vs : List AV} : QyI j (.tup vs) rs = QhU vs[j]? rs := (rfl)
theorem lLoad_one {r i c pv : Nat} {q : QaI} {el : List AV} : Qen none r q pv i c (some el) rs = QhU ((el[c]?).map (Qdb r q pv i c)) rs := by
 simp only [QfO, QhU]
def Qrg (r : Nat) (q : QaI) (pv i c : Nat) (v : Option AV) (rs : Rs) : Option (AV × Rs) := v.map fun v => (Qdb r q pv i c v, rs)
theorem Qpj {r i c pv : Nat} {q : QaI} {el : List AV} : Qen none r q pv i c (some el) rs = Qrg r q pv i c el[c]? rs := by
 simp only [QfO, Qrg, Option.map_map]; rfl
theorem QlL {r i c pv : Nat} {q : QaI} {v : AV} : Qrg r q pv i c (some v) rs = some (Qdb r q pv i c v, rs) := (rfl)
theorem Qph {r i c pv k : Nat} {q : QaI} {v : AV} {vs : List AV} (h : c + k ≤ (v :: vs).length) : Qen (some k) r q pv i c (some (v :: vs)) rs = some (.agg (QeD r q pv i c (((v :: vs).drop c).take k)), rs) := by
 have h' : c + k ≤ vs.length + 1 := h
 simp [Qen, Qdj, h']
theorem Qhd {r i c pv : Nat} {q : QaI} : QeD r q pv i c [] = [] := (rfl)
theorem QfN {r i c pv : Nat} {q : QaI} {v : AV} {vs : List AV} : QeD r q pv i c (v :: vs) = Qdb r q pv i c v :: QeD r q pv i (c + 1) vs := (rfl)
theorem Qpp {r : Nat} {q : QaI} {pv i c : Nat} {b : Bool} {sz : Nat} {xs : Els} : Qdb r q pv i c (.deep false b sz xs) = .slc r (q ++ [(i, c)]) pv sz 0 xs.length := (rfl)
theorem Qpn {r : Nat} {q : QaI} {pv i c : Nat} {b : Bool} {sz : Nat} {xs : Els} : Qdb r q pv i c (.deep true b sz xs) = .ptr r (q ++ [(i, c)]) pv 0 0 := (rfl)
def lkP (k : Option Nat) (r pv i c : Nat) (j : Nat) (d : Nat) (R : Option Qan) (rs : Rs) : Option (AV × Rs) := match R with
 | some R => if pv = R.pv then lkD k r R.pv i c j d (QG R.xs i c) rs else none
 | none => none
where lkD (k : Option Nat) (r pv i c : Nat) (j : Nat) (d : Nat) (v : Option AV) (rs : Rs) : Option (AV × Rs) := match v with
 | some (.deep _ _ _ ys) => Qen k r [(i, c)] pv j d ys[j]? rs
 | _ => none
theorem Qpg {k : Option Nat} {r pv i c j d : Nat} : Qfd k (.ptr r [(i, c)] pv j d) rs = lkP k r pv i c j d (rs r) rs := by
 simp only [Qfd, QcE, lkP]
 cases e : rs r with
 | none => rfl
 | some R =>
  simp only [Option.bind_some, Qan.arr]
  by_cases h : pv = R.pv
  ·rw [if_pos h, if_pos h]
   simp only [QaC, lkP.lkD]
   cases QG R.xs i c with
   | none => rfl
   | some v => cases v <;> rfl
  ·rw [if_neg h, if_neg h]; rfl
theorem QiJ {k : Option Nat} {r i c j d sz pv : Nat} {own : Bool} {xs : Els} : lkP k r pv i c j d (some ⟨own, sz, pv, xs⟩) rs = lkP.lkD k r pv i c j d (QG xs i c) rs := by simp [lkP]
theorem QiK {k : Option Nat} {r i c j d sz pv : Nat} {p b : Bool} {ys : Els} : lkP.lkD k r pv i c j d (some (.deep p b sz ys)) rs = Qen k r [(i, c)] pv j d ys[j]? rs := (rfl)
theorem QfZ {xs : Els} {i c : Nat} {el : List AV} (h : xs[i]? = some el) : QG xs i c = el[c]? := by simp [QG, h]
theorem Qp0 {el : List AV} {l : Els} {c : Nat} : QG (el :: l) 0 c = el[c]? := (rfl)
theorem QgV : QcT rs [] = some ([], []) := (rfl)
def sk1 (a : Option (AV × List Nat)) (rs : Rs) (vs : List AV) : Option (List AV × List Nat) := a.bind fun a => (QcT rs vs).map fun b => (a.1 :: b.1, a.2 ++ b.2)
theorem QfJ {v : AV} {vs : List AV} : QcT rs (v :: vs) = sk1 (Qin rs v) rs vs := (rfl)
def sk2 (c : AV) (a : List Nat) (b : Option (List AV × List Nat)) : Option (List AV × List Nat) := b.map fun b => (c :: b.1, a ++ b.2)
theorem QsQ {c : AV} {a : List Nat} {vs : List AV} : sk1 (some (c, a)) rs vs = sk2 c a (QcT rs vs) := (rfl)
theorem QsP {c : AV} {a b : List Nat} {cs : List AV} : sk2 c a (some (cs, b)) = some (c :: cs, a ++ b) := (rfl)
theorem QoA {x : Bool} : Qin rs (.b x) = some (.b x, []) := (rfl)
theorem Qoz {k : IntKind} {x : Int} : Qin rs (.i k x) = some (.i k x, []) := (rfl)
theorem Qow {x : ByteArray} : Qin rs (.s x) = some (.s x, []) := (rfl)
theorem Qkt {sz : Nat} : Qin rs (.nl sz) = some (.deep false false sz [], []) := (rfl)
def skR (r : Nat) (sz off len : Nat) (R : Option Qan) : Option (AV × List Nat) := match R with
 | some R => if R.own then some (.deep false false sz (wnd R.xs off len), [r]) else some (.deep false true sz (wnd R.xs off len), [])
 | none => none
theorem Qox {r pv sz off len : Nat} : Qin rs (.slc r [] pv sz off len) = skR r sz off len (rs r) := by
 simp only [Qin, QcE, skR]
 cases rs r with
 | none => rfl
 | some R => obtain ⟨o, s, p, x⟩ := R; cases o <;> simp [Qan.arr]
theorem QsN {r sz off len pv sz' : Nat} {xs : Els} : skR r sz off len (some ⟨true, sz', pv, xs⟩) = some (.deep false false sz (wnd xs off len), [r]) := (rfl)
theorem QsM {r sz off len pv sz' : Nat} {xs : Els} : skR r sz off len (some ⟨false, sz', pv, xs⟩) = some (.deep false true sz (wnd xs off len), []) := (rfl)
theorem Qmz {cs : List AV} : AV.cells (.agg cs) = cs := (rfl)
theorem Qmy {x : Bool} : AV.cells (.b x) = [.b x] := (rfl)
theorem Qmw {k : IntKind} {x : Int} : AV.cells (.i k x) = [.i k x] := (rfl)
theorem Qmu {x : ByteArray} : AV.cells (.s x) = [.s x] := (rfl)
theorem Qmv {sz : Nat} : AV.cells (.nl sz) = [.nl sz] := (rfl)
theorem Qmx {r : Nat} {q : QaI} {pv sz off len : Nat} : AV.cells (.slc r q pv sz off len) = [.slc r q pv sz off len] := (rfl)
def QwL (n k : Nat) (a : Option (List AV × List Nat)) (rs : Rs) : Option (AV × Rs) := a.bind fun (vs, asx) =>
 if vs.length = k ∧ asx.Nodup then some (.ptr n [] 0 0 0, up' (kill rs asx) n (some ⟨true, k, 0, [vs]⟩)) else none
def QrT (v : AV) (rs : Rs) : Option (AV × Rs) := if Qhg v = true then some (.bx v.cells 0, rs) else none
theorem QpJ {x : X} : evI call n tm rs (.boxK x) = QrT (x.ev tm) rs := (rfl)
theorem Qu3 {cs : List AV} : QrT (.agg cs) rs = some (.bx cs 0, rs) := (rfl)
theorem Qu1 {k : IntKind} {x : Int} : QrT (.i k x) rs = some (.bx [.i k x] 0, rs) := (rfl)
theorem Qu2 {x : Bool} : QrT (.b x) rs = some (.bx [.b x] 0, rs) := (rfl)
theorem QuZ {x : ByteArray} : QrT (.s x) rs = some (.bx [.s x] 0, rs) := (rfl)
theorem Qu0 {r : Nat} {q : QaI} {pv sz off len : Nat} : QrT (.slc r q pv sz off len) rs = some (.bx [.slc r q pv sz off len] 0, rs) := (rfl)
theorem Qt5 {k : Nat} {x : X} : evI call n tm rs (.box k x) = QwL n k (QcT rs (x.ev tm).cells) rs := (rfl)
theorem Qu5 {k : Nat} {vs : List AV} {asx : List Nat} {l : List (Nat × Option Qan)} (h : (vs.length == k && decide asx.Nodup) = true) : QwL n k (some (vs, asx)) (rsL l) = some (.ptr n [] 0 0 0, up' (kill (rsL l) asx) n (some ⟨true, k, 0, [vs]⟩)) := by
 simp only [Bool.and_eq_true, beq_iff_eq, decide_eq_true_eq] at h
 simp [QwL, h]
theorem Ql1 {z : List AV} {l : List (Nat × Option Qan)} : evI call n tm (rsL l) (.alloc z) = some (.ptr n [] 0 0 0, rsL ((n, some ⟨true, z.length, 0, [z]⟩) :: l)) := (rfl)
def Qul (k : Nat) (a : AV) (s : Option (List AV × List Nat)) (rs : Rs) : Option (AV × Rs) := match a with
 | .ptr r q pv i c => (QcE rs r q pv).bind fun (R, _, ro, xs) => (xs[i]?).bind fun el =>
  s.bind fun (vs, asx) =>
   if ro = false ∧ vs.length = k ∧ c + k ≤ el.length ∧ r ∉ asx ∧ asx.Nodup then
    some (.undef, up' (kill rs asx) r (some { R with
     pv := if Qa2 vs then R.pv + 1 else R.pv, xs := QbC R.xs q fun ys => Qaq ys i c vs }))
   else none
 | _ => none
theorem QlU {k : Nat} {a v : X} : evI call n tm rs (.store k a v) = Qul k (a.ev tm) (QcT rs (v.ev tm).cells) rs := (rfl)
def stR (k r i c : Nat) (vs : List AV) (asx : List Nat) (R : Option Qan) (rs : Rs) : Option (AV × Rs) := match R with
 | some R => if R.own = true then stE k r i c vs asx R (R.xs[i]?) rs else none
 | none => none
where stE (k r i c : Nat) (vs : List AV) (asx : List Nat) (R : Qan) (el : Option (List AV)) (rs : Rs) : Option (AV × Rs) := match el with
 | some el => if (vs.length == k && decide (c + k ≤ el.length) && !asx.contains r && decide asx.Nodup) = true then some (.undef, up' (kill rs asx) r (some { R with pv := if Qa2 vs then R.pv + 1 else R.pv, xs := Qaq R.xs i c vs })) else none
 | none => none
theorem Qse {k r pv i c : Nat} {vs : List AV} {asx : List Nat} : Qul k (.ptr r [] pv i c) (some (vs, asx)) rs = stR k r i c vs asx (rs r) rs := by
 simp only [Qul, QcE, stR]
 cases rs r with
 | none => rfl
 | some R =>
  obtain ⟨o, s, p, x⟩ := R
  cases o
  ·simp only [Option.bind_some, Qan.arr, Option.map_some, Bool.not_false, Bool.true_eq_false, Bool.false_eq_true, false_and, ↓reduceIte]
   cases x[i]? <;> rfl
  ·simp only [Option.bind_some, Qan.arr, Option.map_some, Bool.not_true, true_and, ↓reduceIte, stR.stE]
   cases x[i]? with
   | none => rfl
   | some el =>
    simp only [Option.bind_some, QbC]
    congr 1
    simp [and_assoc, List.contains_iff_mem]
theorem Qsg {k r i c sz pv : Nat} {vs : List AV} {asx : List Nat} {xs : Els} : stR k r i c vs asx (some ⟨true, sz, pv, xs⟩) rs = stR.stE k r i c vs asx ⟨true, sz, pv, xs⟩ xs[i]? rs := (rfl)
theorem Qsk {k r i c sz pv : Nat} {vs : List AV} {asx : List Nat} {xs : Els} {el : List AV} {l : List (Nat × Option Qan)} (h : (vs.length == k && decide (c + k ≤ el.length) && !asx.contains r && decide asx.Nodup) = true) (hd : Qa2 vs = false) :
 stR.stE k r i c vs asx ⟨true, sz, pv, xs⟩ (some el) (rsL l) = some (.undef, up' (kill (rsL l) asx) r (some ⟨true, sz, pv, Qaq xs i c vs⟩)) := by
 simp only [stR.stE, h, hd, ↓reduceIte, Bool.false_eq_true]
theorem Qsl {k r i c sz pv : Nat} {vs : List AV} {asx : List Nat} {xs : Els} {el : List AV} {l : List (Nat × Option Qan)} (h : (vs.length == k && decide (c + k ≤ el.length) && !asx.contains r && decide asx.Nodup) = true) (hd : Qa2 vs = true) :
 stR.stE k r i c vs asx ⟨true, sz, pv, xs⟩ (some el) (rsL l) = some (.undef, up' (kill (rsL l) asx) r (some ⟨true, sz, pv + 1, Qaq xs i c vs⟩)) := by
 simp only [stR.stE, h, hd, ↓reduceIte]
theorem QsU {el : List AV} {l : Els} {c : Nat} {vs : List AV} : Qaq (el :: l) 0 c vs = (el.take c ++ vs ++ el.drop (c + vs.length)) :: l := (rfl)
theorem d_b {x : Bool} {vs : List AV} : Qa2 (.b x :: vs) = Qa2 vs := (rfl)
theorem d_i {k : IntKind} {x : Int} {vs : List AV} : Qa2 (.i k x :: vs) = Qa2 vs := (rfl)
theorem d_s {x : ByteArray} {vs : List AV} : Qa2 (.s x :: vs) = Qa2 vs := (rfl)
theorem d_d {p b : Bool} {sz : Nat} {xs : Els} {vs : List AV} : Qa2 (.deep p b sz xs :: vs) = true := (rfl)
theorem QuN : Qa2 [] = false := (rfl)
def QmM (n sz by' : Nat) (z : List AV) (m : AV) (rs : Rs) : Option (AV × Rs) := match m with
 | .i _ m => if 0 ≤ m ∧ m * by' ≤ 140737488355328 then some (.slc n [] 0 sz 0 m.toNat, up' rs n (some ⟨true, sz, 0, List.replicate m.toNat z⟩)) else none
 | _ => none
theorem QtX {sz by' : Nat} {z : List AV} {m : X} : evI call n tm rs (.mks sz by' z m) = QmM n sz by' z (m.ev tm) rs := (rfl)
theorem Qwt {sz by' : Nat} {z : List AV} {k : IntKind} {m : Int} {l : List (Nat × Option Qan)} (h1 : 0 ≤ m) (h2 : m * by' ≤ 140737488355328) : QmM n sz by' z (.i k m) (rsL l) = some (.slc n [] 0 sz 0 m.toNat, rsL ((n, some ⟨true, sz, 0, List.replicate m.toNat z⟩) :: l)) := by
 simp only [QmM, if_pos (show 0 ≤ m ∧ m * by' ≤ 140737488355328 from ⟨h1, h2⟩), QcB]
end
end Go.Proofs.Ytinlbiphjgpmmaa.V
end
section
namespace Go.Proofs.Ytinlbiphjgpmmaa.V
open Go Go.RowKit
section
variable {call : QaZ} {n : Nat} {tm : Tm} {rs : Rs}
def lkA (q : QaI) (pv : Nat) (R : Option Qan) : Option (Nat × Bool × Els) := R.bind fun R => R.arr q pv
theorem Qb5 {r : Nat} {q : QaI} {pv : Nat} : QcE rs r q pv = (rs r).bind fun R => (lkA q pv (rs r)).map fun x => (R, x) := by
 simp only [QcE, lkA]; cases rs r <;> rfl
theorem QtP {pv sz pv' : Nat} {own : Bool} {xs : Els} : lkA [] pv (some ⟨own, sz, pv', xs⟩) = some (sz, !own, xs) := (rfl)
def lkC (ro : Bool) (v : Option AV) : Option (Nat × Bool × Els) := match v with
 | some (.deep _ bo sz ys) => some (sz, ro || bo, ys)
 | _ => none
theorem QtO {pv sz i c : Nat} {own : Bool} {xs : Els} : lkA [(i, c)] pv (some ⟨own, sz, pv, xs⟩) = lkC (!own) (QG xs i c) := by
 simp only [lkA, Option.bind_some, Qan.arr, ↓reduceIte, QaC, lkC]
 cases QG xs i c with
 | none => rfl
 | some v => cases v <;> rfl
theorem QtN {ro p b : Bool} {sz : Nat} {ys : Els} : lkC ro (some (.deep p b sz ys)) = some (sz, ro || b, ys) := (rfl)
theorem Qt3 {f : Nat} {ms : List Bool} {args : List X} : evI call n tm rs (.call f ms args) = Qdw call n rs f ms (args.map (·.ev tm)) := (rfl)
theorem i_callv {g : X} {ms : List Bool} {args : List X} {f : Nat} {caps : List AV} (h : g.ev tm = .fn f caps) : evI call n tm rs (.callv g ms args) = Qdw call n rs f ms (args.map (·.ev tm) ++ caps) := by simp only [evI, h]
def dv1 (a : Option (AV × List Use)) (b : Option (List AV × List Use)) : Option (List AV × List Use) := a.bind fun a => b.map fun b => (a.1 :: b.1, a.2 ++ b.2)
theorem Qmq {ms : List Bool} : QcK rs ms [] = some ([], []) := by cases ms <;> rfl
theorem Qjk {m : Bool} {ms : List Bool} {v : AV} {vs : List AV} : QcK rs (m :: ms) (v :: vs) = dv1 (Qd6 rs m v) (QcK rs ms vs) := (rfl)
theorem Qht {v : AV} {vs : List AV} : QcK rs [] (v :: vs) = dv1 (Qd6 rs false v) (QcK rs [] vs) := (rfl)
theorem QuD {v : AV} {a b : List Use} {vs : List AV} : dv1 (some (v, a)) (some (vs, b)) = some (v :: vs, a ++ b) := (rfl)
def dvA (f : Option Nat) (a : Option (List AV × List Use)) : Option (AV × List Use) := a.map fun a => (match f with | none => .agg a.1 | some f => .fn f a.1, a.2)
theorem QyT {o : Bool} {cs : List AV} : Qd6 rs o (.agg cs) = dvA none (Qdm rs o cs) := (rfl)
theorem QyQ {o : Bool} {f : Nat} {cs : List AV} : Qd6 rs o (.fn f cs) = dvA (some f) (Qdm rs o cs) := (rfl)
theorem QuC {cs : List AV} {u : List Use} : dvA none (some (cs, u)) = some (.agg cs, u) := (rfl)
theorem QuB {f : Nat} {cs : List AV} {u : List Use} : dvA (some f) (some (cs, u)) = some (.fn f cs, u) := (rfl)
theorem QyS {o x : Bool} : Qd6 rs o (.b x) = some (.b x, []) := (rfl)
theorem QyP {o : Bool} {k : IntKind} {x : Int} : Qd6 rs o (.i k x) = some (.i k x, []) := (rfl)
theorem QyM {o : Bool} {x : ByteArray} : Qd6 rs o (.s x) = some (.s x, []) := (rfl)
theorem QyO {sz : Nat} : Qd6 rs false (.nl sz) = some (.deep false true sz [], [⟨false, true, none⟩]) := (rfl)
theorem QuA {sz : Nat} : Qd6 rs true (.nl sz) = some (.nl sz, []) := (rfl)
theorem QyR {o : Bool} {r : Nat} {q : QaI} {pv sz off len : Nat} : Qd6 rs o (.slc r q pv sz off len) = QcN rs o (.slc r q pv sz off len) := (rfl)
theorem QyN {o : Bool} {r : Nat} {q : QaI} {pv i c : Nat} : Qd6 rs o (.ptr r q pv i c) = QcN rs o (.ptr r q pv i c) := (rfl)
theorem Qms {o : Bool} : Qdm rs o [] = some ([], []) := (rfl)
theorem Qjn {o : Bool} {v : AV} {vs : List AV} : Qdm rs o (v :: vs) = dv1 (QcN rs o v) (Qdm rs o vs) := (rfl)
theorem Qy0 {o x : Bool} : QcN rs o (.b x) = some (.b x, []) := (rfl)
theorem QyZ {o : Bool} {k : IntKind} {x : Int} : QcN rs o (.i k x) = some (.i k x, []) := (rfl)
theorem QyU {o : Bool} {x : ByteArray} : QcN rs o (.s x) = some (.s x, []) := (rfl)
theorem QyY {sz : Nat} : QcN rs false (.nl sz) = some (.deep false true sz [], [⟨false, true, none⟩]) := (rfl)
theorem QuI {sz : Nat} : QcN rs true (.nl sz) = some (.nl sz, []) := (rfl)
def dcR (r : Nat) (q : QaI) (sz off len : Nat) (a : Option (Nat × Bool × Els)) : Option (AV × List Use) := a.map fun a => (.deep false true sz (wnd a.2.2 off len), [⟨false, a.2.1, some (r, q)⟩])
theorem QyV {r : Nat} {q : QaI} {pv sz off len : Nat} : QcN rs false (.slc r q pv sz off len) = dcR r q sz off len (lkA q pv (rs r)) := by
 simp only [QcN, Qb5, dcR]
 cases rs r with
 | none => rfl
 | some R => cases lkA q pv (some R) <;> rfl
theorem QuJ {r : Nat} {q : QaI} {sz off len s : Nat} {ro : Bool} {xs : Els} : dcR r q sz off len (some (s, ro, xs)) = some (.deep false true sz (wnd xs off len), [⟨false, ro, some (r, q)⟩]) := (rfl)
def dcO (r sz len : Nat) (R : Option Qan) : Option (AV × List Use) := match R with
 | some R => if R.own = true ∧ len = R.xs.length then some (.deep false false sz R.xs, [⟨true, false, some (r, [])⟩]) else none
 | none => none
theorem QyX {r pv sz len : Nat} : QcN rs true (.slc r [] pv sz 0 len) = dcO r sz len (rs r) := by
 simp only [QcN, Qb5, dcO]
 cases rs r with
 | none => rfl
 | some R =>
  obtain ⟨o, s, p, x⟩ := R
  cases o <;> simp [lkA, Qan.arr]
theorem QrJ {r sz s pv : Nat} {α : Type} {e : α → List AV} {l : List α} : dcO r sz l.length (some ⟨true, s, pv, l.map e⟩) = some (.deep false false sz (l.map e), [⟨true, false, some (r, [])⟩]) := by simp [dcO]
theorem QuM {r sz s pv : Nat} : dcO r sz 0 (some ⟨true, s, pv, []⟩) = some (.deep false false sz [], [⟨true, false, some (r, [])⟩]) := by simp [dcO]
def dcP (o : Bool) (r : Nat) (R : Option Qan) : Option (AV × List Use) := match R with
 | some R => if R.xs.length = 1 then (if o then (if R.own = true then some (.deep true false R.sz R.xs, [⟨true, false, some (r, [])⟩]) else none) else some (.deep true true R.sz R.xs, [⟨false, !R.own, some (r, [])⟩])) else none
 | none => none
theorem QyW {o : Bool} {r pv : Nat} : QcN rs o (.ptr r [] pv 0 0) = dcP o r (rs r) := by
 simp only [QcN, Qb5, dcP]
 cases rs r with
 | none => rfl
 | some R =>
  obtain ⟨w, s, p, x⟩ := R
  cases w <;> cases o <;> simp [lkA, Qan.arr]
theorem QuL {r sz pv : Nat} {el : List AV} : dcP true r (some ⟨true, sz, pv, [el]⟩) = some (.deep true false sz [el], [⟨true, false, some (r, [])⟩]) := by simp [dcP]
theorem QuK {r sz pv : Nat} {own : Bool} {el : List AV} : dcP false r (some ⟨own, sz, pv, [el]⟩) = some (.deep true true sz [el], [⟨false, !own, some (r, [])⟩]) := by simp [dcP]
def ac1 (call : QaZ) (n : Nat) (rs : Rs) (f : Nat) (a : Option (List AV × List Use)) : Option (AV × Rs) := a.bind fun (ds, us) => if QcX us then
 (call f ds).bind fun (res, back) =>
  if ((us.all fun u => u.own || u.ro) || (!res.any QcF && !back.any Qdn)) ∧ (Qas res n).2.length ≤ 16 ∧ back.length = us.length then
   (Qbn rs us back).map fun rs' =>
    let a := Qas res n
    (QeV a.1, Qb6 rs' n a.2)
  else none
 else none
theorem ac_1 {f : Nat} {ms : List Bool} {vs : List AV} : Qdw call n rs f ms vs = ac1 call n rs f (QcK rs ms vs) := (rfl)
def ac2 (n : Nat) (rs : Rs) (us : List Use) (a : Option Out) : Option (AV × Rs) := a.bind fun (res, back) =>
 if ((us.all fun u => u.own || u.ro) || (!res.any QcF && !back.any Qdn)) ∧ (Qas res n).2.length ≤ 16 ∧ back.length = us.length then
  (Qbn rs us back).map fun rs' =>
   let a := Qas res n
   (QeV a.1, Qb6 rs' n a.2)
 else none
theorem QvL {f : Nat} {ds : List AV} {us : List Use} (h : QcX us = true) : ac1 call n rs f (some (ds, us)) = ac2 n rs us (call f ds) := by
 simp only [ac1, Option.bind_some, h, ↓reduceIte, ac2]
def ac3 (n : Nat) (a : Option Rs) (e : List AV × List Qan) : Option (AV × Rs) := a.map fun rs' => (QeV e.1, Qb6 rs' n e.2)
def QvW (us : List Use) : Bool := us.all fun u => u.own || u.ro
def Qza (res : List AV) (back : List (Option Els)) : Bool := !res.any QcF && !back.any Qdn
theorem QvK {us : List Use} {res : List AV} {back : List (Option Els)} (h : (QvW us || Qza res back) = true) (h2 : decide ((Qas res n).2.length ≤ 16) = true) (h3 : (back.length == us.length) = true) :
 ac2 n rs us (some (res, back)) = ac3 n (Qbn rs us back) (Qas res n) := by
 simp only [ac2, Option.bind_some]
 rw [if_pos ⟨h, by simpa using h2, by simpa using h3⟩]
 rfl
theorem QvJ {vs : List AV} {l : List Qan} : ac3 n (some rs) (vs, l) = some (QeV vs, Qb6 rs n l) := (rfl)
theorem Qr4 {v : AV} : QeV [v] = v := (rfl)
theorem Qr5 : QeV [] = .tup [] := (rfl)
theorem Qr3 {a b : AV} {l : List AV} : QeV (a :: b :: l) = .tup (a :: b :: l) := (rfl)
theorem QmH : Qb6 rs n [] = rs := (rfl)
theorem Qjy {R : Qan} {l : List Qan} {m : List (Nat × Option Qan)} : Qb6 (rsL m) n (R :: l) = Qb6 (rsL ((n, some R) :: m)) (n + 1) l := (rfl)
theorem QoX : Qbn rs [] [] = some rs := (rfl)
theorem Qto {ro : Bool} {at' : Option (Nat × QaI)} {us : List Use} {b : Option Els} {bs : List (Option Els)} : Qbn rs (⟨false, ro, at'⟩ :: us) (b :: bs) = Qbn rs us bs := (rfl)
theorem Qtp {ro : Bool} {us : List Use} {b : Option Els} {bs : List (Option Els)} : Qbn rs (⟨true, ro, none⟩ :: us) (b :: bs) = Qbn rs us bs := (rfl)
theorem QkW {ro : Bool} {r : Nat} {q : QaI} {us : List Use} {bs : List (Option Els)} {m : List (Nat × Option Qan)} : Qbn (rsL m) (⟨true, ro, some (r, q)⟩ :: us) (none :: bs) = Qbn (rsL ((r, none) :: m)) us bs := (rfl)
def pbR (r : Nat) (ys : Els) (us : List Use) (bs : List (Option Els)) (R : Option Qan) (rs : Rs) : Option Rs := match R with
 | some R => Qbn (up' rs r (some { R with pv := R.pv + 1, xs := ys })) us bs
 | none => none
theorem QoW {ro : Bool} {r : Nat} {q : QaI} {us : List Use} {ys : Els} {bs : List (Option Els)} : Qbn rs (⟨true, ro, some (r, q)⟩ :: us) (some ys :: bs) = pbR r ys us bs (rs r) rs := by
 simp only [Qbn, pbR, ↓reduceIte]; cases rs r <;> rfl
theorem Qtq {r sz pv : Nat} {own : Bool} {xs ys : Els} {us : List Use} {bs : List (Option Els)} {m : List (Nat × Option Qan)} : pbR r ys us bs (some ⟨own, sz, pv, xs⟩) (rsL m) = Qbn (rsL ((r, some ⟨own, sz, pv + 1, ys⟩) :: m)) us bs := (rfl)
def ev1 (a : AV × List Qan) (b : Nat → List AV × List Qan) (n : Nat) : List AV × List Qan := (a.1 :: (b (n + a.2.length)).1, a.2 ++ (b (n + a.2.length)).2)
theorem QgC : Qas [] n = ([], []) := (rfl)
theorem QnP {x : Bool} {vs : List AV} : Qas (.b x :: vs) n = (.b x :: (Qas vs n).1, (Qas vs n).2) := (rfl)
theorem QnL {k : Nat} {vs : List AV} : Qas (.nl k :: vs) n = (.nl k :: (Qas vs n).1, (Qas vs n).2) := (rfl)
theorem QnM {k : IntKind} {x : Int} {vs : List AV} : Qas (.i k x :: vs) n = (.i k x :: (Qas vs n).1, (Qas vs n).2) := (rfl)
theorem QnJ {x : ByteArray} {vs : List AV} : Qas (.s x :: vs) n = (.s x :: (Qas vs n).1, (Qas vs n).2) := (rfl)
theorem QnO {b : Bool} {sz : Nat} {xs : Els} {vs : List AV} : Qas (.deep false b sz xs :: vs) n = (.slc n [] 0 sz 0 xs.length :: (Qas vs (n + 1)).1, ⟨!b, sz, 0, xs⟩ :: (Qas vs (n + 1)).2) := (rfl)
theorem QnK {b : Bool} {sz : Nat} {xs : Els} {vs : List AV} : Qas (.deep true b sz xs :: vs) n = (.ptr n [] 0 0 0 :: (Qas vs (n + 1)).1, ⟨!b, sz, 0, xs⟩ :: (Qas vs (n + 1)).2) := (rfl)
theorem QnQ {cs vs : List AV} : Qas (.agg cs :: vs) n = (.agg (Qbc cs n).1 :: (Qas vs (n + (Qbc cs n).2.length)).1, (Qbc cs n).2 ++ (Qas vs (n + (Qbc cs n).2.length)).2) := (rfl)
theorem QnN {f : Nat} {cs vs : List AV} : Qas (.fn f cs :: vs) n = (.fn f (Qbc cs n).1 :: (Qas vs (n + (Qbc cs n).2.length)).1, (Qbc cs n).2 ++ (Qas vs (n + (Qbc cs n).2.length)).2) := (rfl)
theorem QgE : Qbc [] n = ([], []) := (rfl)
theorem Qn3 {x : Bool} {vs : List AV} : Qbc (.b x :: vs) n = (.b x :: (Qbc vs n).1, (Qbc vs n).2) := (rfl)
theorem Qn1 {k : IntKind} {x : Int} {vs : List AV} : Qbc (.i k x :: vs) n = (.i k x :: (Qbc vs n).1, (Qbc vs n).2) := (rfl)
theorem Qn0 {x : ByteArray} {vs : List AV} : Qbc (.s x :: vs) n = (.s x :: (Qbc vs n).1, (Qbc vs n).2) := (rfl)
theorem Qn2 {b : Bool} {sz : Nat} {xs : Els} {vs : List AV} : Qbc (.deep false b sz xs :: vs) n = (.slc n [] 0 sz 0 xs.length :: (Qbc vs (n + 1)).1, ⟨!b, sz, 0, xs⟩ :: (Qbc vs (n + 1)).2) := (rfl)
theorem QoZ : QcX [] = true := (rfl)
def ouP (u v : Use) : Bool := !(u.own || v.own) || u.at'.isNone || v.at'.isNone || decide (u.root ≠ v.root)
def ouA (u : Use) : List Use → Bool
 | [] => true
 | v :: us => ouP u v && ouA u us
theorem Qk3 {u : Use} {us : List Use} : QcX (u :: us) = (ouA u us && QcX us) := by
 have : ∀ us : List Use, (us.all fun v => !(u.own || v.own) || u.at'.isNone || v.at'.isNone || decide (u.root ≠ v.root)) = ouA u us := fun us => by
  induction us with
  | nil => rfl
  | cons v us ih => simp only [List.all_cons, ih]; rfl
 simp only [QcX, this]
theorem Qo7 {u : Use} : ouA u [] = true := (rfl)
theorem Qla {u v : Use} {us : List Use} : ouA u (v :: us) = (ouP u v && ouA u us) := (rfl)
theorem QtC {a b : Bool} {x y : Option (Nat × QaI)} : ouP ⟨false, a, x⟩ ⟨false, b, y⟩ = true := (rfl)
theorem QtF {o p a b : Bool} {y : Option (Nat × QaI)} : ouP ⟨o, a, none⟩ ⟨p, b, y⟩ = true := by simp [ouP]
theorem QtE {o p a b : Bool} {x : Option (Nat × QaI)} : ouP ⟨o, a, x⟩ ⟨p, b, none⟩ = true := by simp [ouP]
theorem QtD {o p a b : Bool} {r r' : Nat} {q q' : QaI} (h : decide (r ≠ r') = true) : ouP ⟨o, a, some (r, q)⟩ ⟨p, b, some (r', q')⟩ = true := by
 have h' : r ≠ r' := by simpa using h
 have h'' : (Use.root ⟨o, a, some (r, q)⟩) ≠ (Use.root ⟨p, b, some (r', q')⟩) := by simpa [Use.root] using h'
 simp [ouP, h'']
theorem Qom : QvW [] = true := (rfl)
theorem Qkk {o ro : Bool} {a : Option (Nat × QaI)} {us : List Use} : QvW (⟨o, ro, a⟩ :: us) = ((o || ro) && QvW us) := (rfl)
def bkR (res : List AV) : Bool := res.any QcF
def bkB (bs : List (Option Els)) : Bool := bs.any Qdn
theorem Qy9 {res : List AV} {back : List (Option Els)} : Qza res back = (!bkR res && !bkB back) := (rfl)
theorem Qqa : bkR [] = false := (rfl)
theorem QmA {v : AV} {vs : List AV} : bkR (v :: vs) = (QcF v || bkR vs) := (rfl)
theorem Qqd : bkB [] = false := (rfl)
theorem Qzc {bs : List (Option Els)} : bkB (none :: bs) = bkB bs := (rfl)
theorem Qzb {ys : Els} {bs : List (Option Els)} : bkB (some ys :: bs) = (Qcr 6 ys || bkB bs) := (rfl)
theorem Qyb {x : Bool} : QcF (.b x) = false := (rfl)
theorem Qx9 {k : IntKind} {x : Int} : QcF (.i k x) = false := (rfl)
theorem Qx8 {x : ByteArray} : QcF (.s x) = false := (rfl)
theorem Qya {p b : Bool} {sz : Nat} {xs : Els} : QcF (.deep p b sz xs) = (b || Qcr 6 xs) := (rfl)
def hbA (cs : List AV) : Bool := cs.any QdH
theorem Qyc {cs : List AV} : QcF (.agg cs) = hbA cs := (rfl)
theorem QpL : hbA [] = false := (rfl)
theorem Qyg {x : Bool} {cs : List AV} : hbA (.b x :: cs) = hbA cs := (rfl)
theorem Qye {k : IntKind} {x : Int} {cs : List AV} : hbA (.i k x :: cs) = hbA cs := (rfl)
theorem Qyd {x : ByteArray} {cs : List AV} : hbA (.s x :: cs) = hbA cs := (rfl)
theorem Qyf {p b : Bool} {sz : Nat} {xs : Els} {cs : List AV} : hbA (.deep p b sz xs :: cs) = ((b || Qcr 6 xs) || hbA cs) := (rfl)
theorem QmB {k : Nat} : Qcr (k + 1) [] = false := (rfl)
def QmC (k : Nat) (el : List AV) : Bool := el.any fun | .deep _ bo _ ys => bo || Qcr k ys | _ => false
theorem QgK {k : Nat} {el : List AV} {xs : Els} : Qcr (k + 1) (el :: xs) = (QmC k el || Qcr (k + 1) xs) := (rfl)
theorem Qhz {k : Nat} : QmC k [] = false := (rfl)
theorem Qwb {k : Nat} {x : Bool} {cs : List AV} : QmC k (.b x :: cs) = QmC k cs := (rfl)
theorem Qwa {k : Nat} {q : IntKind} {x : Int} {cs : List AV} : QmC k (.i q x :: cs) = QmC k cs := (rfl)
theorem Qv9 {k : Nat} {x : ByteArray} {cs : List AV} : QmC k (.s x :: cs) = QmC k cs := (rfl)
theorem Qvd {k : Nat} {p b : Bool} {sz : Nat} {xs : Els} {cs : List AV} : QmC k (.deep p b sz xs :: cs) = ((b || Qcr k xs) || QmC k cs) := (rfl)
theorem QcO {α : Type} {k : Nat} {e : α → List AV} (h : ∀ x, QmC k (e x) = false) : ∀ l : List α, Qcr (k + 1) (l.map e) = false
 | [] => rfl
 | x :: l => by rw [List.map_cons, QgK, h x, QcO h l]; rfl
theorem Qn9 {k : Nat} {l : List Int} : Qcr (k + 1) (l.map eI) = false := QcO (fun _ => rfl) l
theorem Qob {k : Nat} {l : List Int} : Qcr (k + 1) (l.map e8) = false := QcO (fun _ => rfl) l
theorem Qoa {k : Nat} {l : List Bool} : Qcr (k + 1) (l.map eB) = false := QcO (fun _ => rfl) l
theorem Qn8 {k : Nat} {l : List ByteArray} : Qcr (k + 1) (l.map eS) = false := QcO (fun _ => rfl) l
theorem QdK {α : Type} {e : α → List AV} (h : ∀ x, Qa2 (e x) = false) : ∀ l : List α, Qaj (l.map e) = false
 | [] => rfl
 | x :: l => by have := QdK h l; simp only [Qaj, List.map_cons, List.any_cons, h x, Bool.false_or] at this ⊢; exact this
theorem QuF {l : List Int} : Qaj (l.map eI) = false := QdK (fun _ => rfl) l
theorem QuH {l : List Int} : Qaj (l.map e8) = false := QdK (fun _ => rfl) l
theorem QuG {l : List Bool} : Qaj (l.map eB) = false := QdK (fun _ => rfl) l
theorem QuE {l : List ByteArray} : Qaj (l.map eS) = false := QdK (fun _ => rfl) l
theorem Qmr : Qaj [] = false := (rfl)
def QnB (ro : Bool) (q : QaI) (r : Nat) (w : Els) (d : Bool) : Option (Els × List Nat) := if d then (if ro then some (w.map (·.map QdT), []) else match q with
 | [] => some (w, [r])
 | _ :: _ => none) else some (w, [])
theorem Qyk {ro : Bool} {q : QaI} {r : Nat} {w : Els} : QnB ro q r w false = some (w, []) := (rfl)
theorem Qyi {q : QaI} {r : Nat} {w : Els} : QnB true q r w true = some (w.map (·.map QdT), []) := (rfl)
theorem Qyj {r : Nat} {w : Els} : QnB false [] r w true = some (w, [r]) := (rfl)
def QnA (sz sz' r : Nat) (q : QaI) (off len : Nat) (a : Option (Nat × Bool × Els)) : Option (Els × List Nat) := match a with
 | some a => if sz' = sz then QnB a.2.1 q r (wnd a.2.2 off len) (Qaj (wnd a.2.2 off len)) else none
 | none => none
theorem Qsn {sz r : Nat} {q : QaI} {pv sz' off len : Nat} : Qft rs sz (.slc r q pv sz' off len) = QnA sz sz' r q off len (lkA q pv (rs r)) := by
 simp only [Qft, Qb5, QnA]
 cases rs r with
 | none => rfl
 | some R => cases lkA q pv (some R) <;> rfl
theorem Qos {sz r s : Nat} {q : QaI} {off len : Nat} {ro : Bool} {xs : Els} : QnA sz sz r q off len (some (s, ro, xs)) = QnB ro q r (wnd xs off len) (Qaj (wnd xs off len)) := by simp [QnA]
theorem Qsp {sz s : Nat} : Qft rs sz (.nl s) = some ([], []) := (rfl)
def u8s (s : ByteArray) : List Int := s.toList.map fun u => ((u.toNat : Nat) : Int)
theorem Qsm {x : ByteArray} : Qft rs 1 (.s x) = some ((u8s x).map e8, []) := by simp [Qft, u8s, e8, Function.comp_def]
def QeE (pre post : Els) (rs : Rs) (r0 : Option Nat) : Option (Els × Els × Rs × Option Nat) := some (pre, post, rs, r0)
theorem Qvg {sz s : Nat} : Qd8 rs sz (.nl s) = QeE [] [] rs none := (rfl)
def Qwc (sz sz' r off len : Nat) (R : Option Qan) (rs : Rs) : Option (Els × Els × Rs × Option Nat) := match R with
 | some R => if sz' = sz ∧ R.own = true then QeE (wnd R.xs off len) (R.xs.drop (off + len)) (up' rs r none) (some r) else none
 | none => none
theorem Qve {sz r pv sz' off len : Nat} : Qd8 rs sz (.slc r [] pv sz' off len) = Qwc sz sz' r off len (rs r) rs := by
 simp only [Qd8, Qb5, Qwc]
 cases rs r with
 | none => rfl
 | some R =>
  obtain ⟨o, s, p, x⟩ := R
  cases o <;> simp [lkA, Qan.arr, QcJ, QeE]
theorem Qqe {sz r off len s pv : Nat} {xs : Els} {m : List (Nat × Option Qan)} : Qwc sz sz r off len (some ⟨true, s, pv, xs⟩) (rsL m) = QeE (wnd xs off len) (xs.drop (off + len)) (rsL ((r, none) :: m)) (some r) := by simp [Qwc, QcB]
def Qvh (sz sz' r off len i c : Nat) (R : Qan) (v : Option (Nat × Bool × Els)) (rs : Rs) : Option (Els × Els × Rs × Option Nat) := match v with
 | some (_, false, ys) => if sz' = sz then QeE (wnd ys off len) (ys.drop (off + len)) (up' rs r (some { R with xs := Qaq R.xs i c [.undef] })) (some r) else none
 | _ => none
def Qw1 (sz sz' r off len i c pv : Nat) (R : Option Qan) (rs : Rs) : Option (Els × Els × Rs × Option Nat) := match R with
 | some R => Qvh sz sz' r off len i c R (lkA [(i, c)] pv (some R)) rs
 | none => none
theorem Qvf {sz r pv sz' off len i c : Nat} : Qd8 rs sz (.slc r [(i, c)] pv sz' off len) = Qw1 sz sz' r off len i c pv (rs r) rs := by
 simp only [Qd8, Qb5, Qw1, Qvh]
 cases rs r with
 | none => rfl
 | some R =>
  simp only [Option.bind_some]
  cases lkA [(i, c)] pv (some R) with
  | none => rfl
  | some a => obtain ⟨s, ro, ys⟩ := a; cases ro <;> simp [QcJ, QeE, QbZ, QbC]
theorem Qqf {sz sz' r off len i c pv s p : Nat} {own : Bool} {xs : Els} : Qw1 sz sz' r off len i c pv (some ⟨own, s, p, xs⟩) rs = Qvh sz sz' r off len i c ⟨own, s, p, xs⟩ (lkA [(i, c)] pv (some ⟨own, s, p, xs⟩)) rs := (rfl)
theorem Qqg {sz r off len i c s s' p : Nat} {own : Bool} {xs ys : Els} {m : List (Nat × Option Qan)} : Qvh sz sz r off len i c ⟨own, s, p, xs⟩ (some (s', false, ys)) (rsL m) = QeE (wnd ys off len) (ys.drop (off + len)) (rsL ((r, some ⟨own, s, p, Qaq xs i c [.undef]⟩) :: m)) (some r) := by simp [Qvh, QcB]
def QfS (n sz by' : Nat) (a : Option (Els × List Nat)) (b : Option (Els × Els × Rs × Option Nat)) : Option (AV × Rs) := a.bind fun (ys, asx) => b.bind fun (pre, post, rs', r0) =>
 if (pre.length + ys.length) * by' ≤ 140737488355328 ∧ (∀ r ∈ asx, some r ≠ r0) ∧ asx.Nodup then
  some (.slc n [] 0 sz 0 (pre.length + ys.length), up' (kill rs' asx) n (some ⟨true, sz, 0, pre ++ ys ++ post.drop ys.length⟩))
 else none
theorem Qt7 {sz by' : Nat} {x y : X} : evI call n tm rs (.app sz by' x y) = QfS n sz by' (Qft rs sz (y.ev tm)) (Qd8 rs sz (x.ev tm)) := (rfl)
def Qcq (xs : Els) : Els := xs
theorem QvD {sz by' : Nat} {α : Type} {e : α → List AV} {a b : List α} {r0 : Option Nat} {m : List (Nat × Option Qan)} (h : (a.length + b.length) * by' ≤ 140737488355328) :
 QfS n sz by' (some (b.map e, [])) (QeE (a.map e) [] (rsL m) r0) = some (.slc n [] 0 sz 0 (a ++ b).length, rsL ((n, some ⟨true, sz, 0, (a ++ b).map e⟩) :: m)) := by
 simp [QfS, QeE, h, Qbt, QcB]
theorem QvH {sz by' : Nat} {α : Type} {e : α → List AV} {b : List α} {r0 : Option Nat} {m : List (Nat × Option Qan)} (h : b.length * by' ≤ 140737488355328) :
 QfS n sz by' (some (b.map e, [])) (QeE [] [] (rsL m) r0) = some (.slc n [] 0 sz 0 b.length, rsL ((n, some ⟨true, sz, 0, b.map e⟩) :: m)) := by
 simp [QfS, QeE, h, Qbt, QcB]
theorem Qqm {sz by' : Nat} {r0 : Option Nat} {m : List (Nat × Option Qan)} :
 QfS n sz by' (some ([], [])) (QeE [] [] (rsL m) r0) = some (.slc n [] 0 sz 0 0, rsL ((n, some ⟨true, sz, 0, []⟩) :: m)) := by
 simp [QfS, QeE, Qbt, QcB]
theorem QvE {sz by' : Nat} {α : Type} {e : α → List AV} {a : List α} {r0 : Option Nat} {m : List (Nat × Option Qan)} (h : a.length * by' ≤ 140737488355328) :
 QfS n sz by' (some ([], [])) (QeE (a.map e) [] (rsL m) r0) = some (.slc n [] 0 sz 0 a.length, rsL ((n, some ⟨true, sz, 0, a.map e⟩) :: m)) := by
 simp [QfS, QeE, h, Qbt, QcB]
theorem QvF {sz by' : Nat} {α : Type} {e : α → List AV} {a b : List α} {r r0 : Nat} {m : List (Nat × Option Qan)} (h : (a.length + b.length) * by' ≤ 140737488355328) (hr : decide (r ≠ r0) = true) :
 QfS n sz by' (some (b.map e, [r])) (QeE (a.map e) [] (rsL m) (some r0)) = some (.slc n [] 0 sz 0 (a ++ b).length, rsL ((n, some ⟨true, sz, 0, (a ++ b).map e⟩) :: (r, none) :: m)) := by
 have hr' : r ≠ r0 := by simpa using hr
 simp [QfS, QeE, h, Qbt, QcB, QbV, hr']
theorem Qql {sz by' : Nat} {α : Type} {e : α → List AV} {b : List α} {r r0 : Nat} {m : List (Nat × Option Qan)} (h : b.length * by' ≤ 140737488355328) (hr : decide (r ≠ r0) = true) :
 QfS n sz by' (some (b.map e, [r])) (QeE [] [] (rsL m) (some r0)) = some (.slc n [] 0 sz 0 b.length, rsL ((n, some ⟨true, sz, 0, b.map e⟩) :: (r, none) :: m)) := by
 have hr' : r ≠ r0 := by simpa using hr
 simp [QfS, QeE, h, Qbt, QcB, QbV, hr']
theorem Qqk {sz by' : Nat} {α : Type} {e : α → List AV} {b : List α} {r : Nat} {m : List (Nat × Option Qan)} (h : b.length * by' ≤ 140737488355328) :
 QfS n sz by' (some (b.map e, [r])) (QeE [] [] (rsL m) none) = some (.slc n [] 0 sz 0 b.length, rsL ((n, some ⟨true, sz, 0, b.map e⟩) :: (r, none) :: m)) := by
 simp [QfS, QeE, h, Qbt, QcB, QbV]
theorem Qfh {α : Type} {e : α → List AV} {l : List α} : (l.map e).drop (0 + l.length) = [] := by rw [Nat.zero_add]; exact List.drop_eq_nil_of_le (by simp)
theorem Qhu {k : Nat} : ([] : Els).drop k = [] := by simp
def QwK (n sz len : Nat) (a : Option (Els × List Nat)) (rs : Rs) : Option (AV × Rs) := a.bind fun (xs, asx) =>
 if asx.Nodup then some (.slc n [] 0 sz 0 len, up' (kill rs asx) n (some ⟨true, sz, 0, Qcq xs⟩)) else none
theorem QtZ {sz len : Nat} {z : List AV} {ps : List (Nat × X)} : evI call n tm rs (.lit sz len z ps) = QwK n sz len (evI.go tm rs ps (List.replicate len z) []) rs := (rfl)
def gl1 (tm : Tm) (rs : Rs) (j : Nat) (a : Option (List AV × List Nat)) (rest : List (Nat × X)) (xs : Els) (asx : List Nat) : Option (Els × List Nat) := a.bind fun (vs, as') =>
 if (xs[j]?).map (·.length) = some vs.length then evI.go tm rs rest (xs.set j vs) (asx ++ as') else none
theorem QpM {xs : Els} {asx : List Nat} : evI.go tm rs [] xs asx = some (xs, asx) := (rfl)
theorem Ql5 {j : Nat} {x : X} {rest : List (Nat × X)} {xs : Els} {asx : List Nat} : evI.go tm rs ((j, x) :: rest) xs asx = gl1 tm rs j (QcT rs (x.ev tm).cells) rest xs asx := (rfl)
theorem Quf {j : Nat} {vs : List AV} {as' : List Nat} {rest : List (Nat × X)} {xs : Els} {asx : List Nat} (h : ((xs.getD j []).length == vs.length && decide (j < xs.length)) = true) : gl1 tm rs j (some (vs, as')) rest xs asx = evI.go tm rs rest (xs.set j vs) (asx ++ as') := by
 simp only [Bool.and_eq_true, beq_iff_eq, decide_eq_true_eq] at h
 obtain ⟨h1, h2⟩ := h
 simp only [gl1, Option.bind_some]
 rw [if_pos]
 rw [List.getElem?_eq_getElem h2, Option.map_some, ← h1, List.getD_eq_getElem?_getD, List.getElem?_eq_getElem h2]; rfl
theorem QtQ {sz len : Nat} {xs : Els} {asx : List Nat} {m : List (Nat × Option Qan)} (h : decide asx.Nodup = true) : QwK n sz len (some (xs, asx)) (rsL m) = some (.slc n [] 0 sz 0 len, up' (kill (rsL m) asx) n (some ⟨true, sz, 0, Qcq xs⟩)) := by
 have h' : asx.Nodup := by simpa using h
 simp [QwK, h']
theorem Qtn {z : List AV} : List.replicate 0 z = [] := (rfl)
theorem Qtm {z : List AV} : List.replicate 1 z = [z] := (rfl)
theorem Qtl {z : List AV} : List.replicate 2 z = [z, z] := (rfl)
theorem Qtk {z : List AV} : List.replicate 3 z = [z, z, z] := (rfl)
theorem Qtj {z : List AV} : List.replicate 4 z = [z, z, z, z] := (rfl)
theorem Qpk : Qcq [] = [] := (rfl)
theorem QlG {a : Int} : Qcq [[.i .i64 a]] = List.map eI [a] := (rfl)
theorem QlI {a : Int} : Qcq [[.i .u8 a]] = List.map e8 [a] := (rfl)
theorem QlH {a b : Int} : Qcq [[.i .u8 a], [.i .u8 b]] = List.map e8 [a, b] := (rfl)
theorem Qlv {a : ByteArray} : Qcq [[.s a]] = List.map eS [a] := (rfl)
theorem QlF {a b : Int} : Qcq [[.i .i64 a], [.i .i64 b]] = List.map eI [a, b] := (rfl)
theorem QlE {a b c : Int} : Qcq [[.i .i64 a], [.i .i64 b], [.i .i64 c]] = List.map eI [a, b, c] := (rfl)
theorem QhW {sz by' : Nat} {α : Type} {e : α → List AV} {z : α} {k : IntKind} {m : Int} {l : List (Nat × Option Qan)} {zs : List AV} (hz : e z = zs) (h1 : 0 ≤ m) (h2 : m * by' ≤ 140737488355328) :
 QmM n sz by' zs (.i k m) (rsL l) = some (.slc n [] 0 sz 0 (List.replicate m.toNat z).length, rsL ((n, some ⟨true, sz, 0, (List.replicate m.toNat z).map e⟩) :: l)) := by
 subst hz; rw [Qwt h1 h2, List.length_replicate, List.map_replicate]
theorem QtJ {sz by' : Nat} {k : IntKind} {m : Int} {l : List (Nat × Option Qan)} (h1 : 0 ≤ m) (h2 : m * by' ≤ 140737488355328) :
 QmM n sz by' [.i .i64 0] (.i k m) (rsL l) = some (.slc n [] 0 sz 0 (List.replicate m.toNat (0 : Int)).length, rsL ((n, some ⟨true, sz, 0, (List.replicate m.toNat (0 : Int)).map eI⟩) :: l)) := QhW (e := eI) rfl h1 h2
theorem QtK {sz by' : Nat} {k : IntKind} {m : Int} {l : List (Nat × Option Qan)} (h1 : 0 ≤ m) (h2 : m * by' ≤ 140737488355328) :
 QmM n sz by' [.b false] (.i k m) (rsL l) = some (.slc n [] 0 sz 0 (List.replicate m.toNat false).length, rsL ((n, some ⟨true, sz, 0, (List.replicate m.toNat false).map eB⟩) :: l)) := QhW (e := eB) rfl h1 h2
def Qia (l : List Int) : ByteArray := ⟨(l.map fun n => UInt8.ofNat n.toNat).toArray⟩
theorem Qj3 {l : List Int} : QbY (l.map e8) = some (l.map fun n => UInt8.ofNat n.toNat) := by
 induction l with
 | nil => rfl
 | cons x l ih => simp only [List.map_cons, e8, QbY]; rw [show QbY (l.map e8) = _ from ih]; rfl
def Qrz (x : AV) (a : Option (Nat × Bool × Els)) (rs : Rs) : Option (AV × Rs) := match x, a with
 | .nl _, _ => some (.s .empty, rs)
 | .slc r q pv sz off len, some a => if sz = 1 then bts2 (QbY (wnd a.2.2 off len)) rs else none
 | _, _ => none
where bts2 (l : Option (List UInt8)) (rs : Rs) : Option (AV × Rs) := l.map fun l => (.s ⟨l.toArray⟩, rs)
def Qs7 : AV → QaI × Nat × Nat
 | .slc r q pv _ _ _ => (q, pv, r)
 | _ => ([], 0, 0)
theorem Qt4 {x : X} : evI call n tm rs (.bts x) = Qrz (x.ev tm) (lkA (Qs7 (x.ev tm)).1 (Qs7 (x.ev tm)).2.1 (rs (Qs7 (x.ev tm)).2.2)) rs := by
 simp only [evI, Qb5, Qrz]
 cases x.ev tm <;> try rfl
 rename_i r q pv sz off len
 simp only [Qs7]
 cases rs r with
 | none => rfl
 | some R => cases lkA q pv (some R) <;> rfl
theorem QxB {r : Nat} {q : QaI} {pv sz off len : Nat} : Qs7 (.slc r q pv sz off len) = (q, pv, r) := (rfl)
theorem Qu4 {r : Nat} {q : QaI} {pv off len s : Nat} {ro : Bool} {xs : Els} : Qrz (.slc r q pv 1 off len) (some (s, ro, xs)) rs = Qrz.bts2 (QbY (wnd xs off len)) rs := (rfl)
theorem Qp8 {l : List Int} : Qrz.bts2 (QbY (l.map e8)) rs = some (.s (Qia l), rs) := by simp only [Qj3, Qrz.bts2, Qia, Option.map_some]
theorem Qp9 : Qrz.bts2 (QbY []) rs = some (.s (Qia []), rs) := (rfl)
def QjU (sz0 : Nat) (x : AV) (lo hi : Option AV) (rs : Rs) : Option (AV × Rs) := match x with
 | .slc r q pv sz off len => if sz = sz0 then (QdI.bndv len hi len).bind fun h => (QdI.bndv h lo 0).map fun l => (.slc r q pv sz (off + l) (h - l), rs) else none
 | .nl sz => (QdI.bndv 0 hi 0).bind fun h => (QdI.bndv h lo 0).map fun _ => (.nl sz, rs)
 | _ => none
theorem Qwz {sz0 : Nat} {x : X} {lo hi : Option X} : evI call n tm rs (.slR sz0 x lo hi) = QjU sz0 (x.ev tm) (lo.map (·.ev tm)) (hi.map (·.ev tm)) rs := by
 simp only [evI, QjU, Qoc]
 cases x.ev tm <;> rfl
theorem QsI {r : Nat} {q : QaI} {pv sz off len : Nat} {k : IntKind} {l : Int} (h1 : 0 ≤ l) (h2 : l ≤ (len : Int)) : QjU sz (.slc r q pv sz off len) (some (.i k l)) none rs = some (.slc r q pv sz (off + l.toNat) (len - l.toNat), rs) := by
 simp [QjU, QdI.bndv, h1, h2]
theorem QsJ {r : Nat} {q : QaI} {pv sz off len : Nat} {k : IntKind} {h : Int} (h1 : 0 ≤ h) (h2 : h ≤ (len : Int)) : QjU sz (.slc r q pv sz off len) none (some (.i k h)) rs = some (.slc r q pv sz off h.toNat, rs) := by
 simp [QjU, QdI.bndv, h1, h2]
theorem Qov {r : Nat} {q : QaI} {pv sz off len : Nat} {k k' : IntKind} {l h : Int} (h0 : 0 ≤ l) (h1 : l ≤ h) (h2 : h ≤ (len : Int)) : QjU sz (.slc r q pv sz off len) (some (.i k l)) (some (.i k' h)) rs = some (.slc r q pv sz (off + l.toNat) (h.toNat - l.toNat), rs) := by
 have e : 0 ≤ h := by omega
 have e2 : l ≤ ((h.toNat : Nat) : Int) := by omega
 simp only [QjU, QdI.bndv, ↓reduceIte, if_pos (show 0 ≤ h ∧ h ≤ (len : Int) from ⟨e, h2⟩), Option.bind_some, if_pos (show 0 ≤ l ∧ l ≤ ((h.toNat : Nat) : Int) from ⟨h0, e2⟩), Option.map_some]
theorem QsH {r : Nat} {q : QaI} {pv sz off len : Nat} : QjU sz (.slc r q pv sz off len) none none rs = some (.slc r q pv sz off len, rs) := by
 simp [QjU, QdI.bndv]
theorem QtY {f : Nat} {caps : List X} (h : ((caps.map (·.ev tm)).all QlR) = true) : evI call n tm rs (.mkfn f caps) = some (.fn f (caps.map (·.ev tm)), rs) := by simp only [evI, h, ↓reduceIte]
end
def bks (rs : Rs) (us : List Nat) : Nat → List Bool → List (Option Els)
 | _, [] => []
 | n, o :: os => (if o then (if n ∈ us then none else (rs n).map Qan.xs) else none) :: bks rs us (n + 1) os
theorem QhB {rs : Rs} {us : List Nat} : ∀ (l : List Qan) (n : Nat), Qfo rs us n l = bks rs us n (l.map Qan.own)
 | [], _ => rfl
 | R :: l, n => by simp only [Qfo, List.map_cons, bks, QhB l (n + 1)]
def lvO (ow : List Bool) (rs : Rs) (a : Option (List AV × List Nat)) : Option Out := match a with
 | some a => if a.2.Nodup then some (a.1, bks rs a.2 0 ow) else none
 | none => none
def eF2 (ow : List Bool) (p : Option (List AV × Rs)) : Option Out := match p with
 | some p => lvO ow p.2 (QeI p.2 p.1)
 | none => none
def eF1 (ow : List Bool) (nx : Nat) (rs : Rs) (vs : Option (List AV)) : Option Out := match vs with
 | some vs => eF2 ow (Qa6 nx rs vs)
 | none => none
def Qf (res : List Res) (ow : List Bool) (out : Out) : Pst := fun e st => match e with
 | .exit _ => False
 | _ => eF1 ow st.nx st.rs (QbM st res) = some out
theorem Qzx {res : List Res} {ow : List Bool} {out : Out} {tm : Tm} {rs : Rs} {nx : Nat} : Qf res ow out .ret ⟨tm, rs, nx⟩ = (eF1 ow nx rs (QbM ⟨tm, rs, nx⟩ res) = some out) := (rfl)
theorem Qzy {res : List Res} {ow : List Bool} {out : Out} {tm : Tm} {rs : Rs} {nx : Nat} : Qf res ow out .normal ⟨tm, rs, nx⟩ = (eF1 ow nx rs (QbM ⟨tm, rs, nx⟩ res) = some out) := (rfl)
section
variable {rs : Rs} {n : Nat}
theorem Quz {ow : List Bool} {nx : Nat} {vs : List AV} : eF1 ow nx rs (some vs) = eF2 ow (Qa6 nx rs vs) := (rfl)
theorem Quy {ow : List Bool} {vs : List AV} : eF2 ow (some (vs, rs)) = lvO ow rs (QeI rs vs) := (rfl)
theorem QtM {ow : List Bool} {vs : List AV} {us : List Nat} (h : decide us.Nodup = true) : lvO ow rs (some (vs, us)) = some (vs, bks rs us 0 ow) := by
 have h' : us.Nodup := by simpa using h
 simp [lvO, h']
theorem QmF {us : List Nat} : bks rs us n [] = [] := (rfl)
theorem Qva {us : List Nat} {os : List Bool} : bks rs us n (false :: os) = none :: bks rs us (n + 1) os := (rfl)
def bkX (c : Bool) (R : Option Qan) : Option Els := if c then none else R.map Qan.xs
theorem Qu9 {us : List Nat} {os : List Bool} : bks rs us n (true :: os) = bkX (us.contains n) (rs n) :: bks rs us (n + 1) os := by
 simp only [bks, bkX, ↓reduceIte, List.contains_iff_mem]
theorem Qvb {R : Option Qan} : bkX true R = none := (rfl)
theorem Qvc {sz pv : Nat} {own : Bool} {xs : Els} : bkX false (some ⟨own, sz, pv, xs⟩) = some xs := (rfl)
def rv1 (v : AV) (a : Option (List AV)) : Option (List AV) := a.map (v :: ·)
theorem QoG {st : St} : QbM st [] = some [] := (rfl)
theorem Qxz {tm : Tm} {nx t : Nat} {l : List Res} : QbM ⟨tm, rs, nx⟩ (.t t :: l) = rv1 (tm t) (QbM ⟨tm, rs, nx⟩ l) := (rfl)
theorem Qs6 {v : AV} {vs : List AV} : rv1 v (some vs) = some (v :: vs) := (rfl)
def rv2 (v : Option (AV × Rs)) (a : Option (List AV)) : Option (List AV) := v.bind fun v => a.map (v.1 :: ·)
theorem QxA {tm : Tm} {nx a : Nat} {k : Option Nat} {l : List Res} : QbM ⟨tm, rs, nx⟩ (.cell a k :: l) = rv2 (Qfd k (tm a) rs) (QbM ⟨tm, rs, nx⟩ l) := by
 simp only [QbM, Qiz, rv2]
 have : evI (fun _ _ => none) 0 tm rs (.load k (.t a)) = Qfd k (tm a) rs := rfl
 rw [this]
 cases Qfd k (tm a) rs <;> rfl
theorem Qs5 {v : AV} {rs' : Rs} {vs : List AV} : rv2 (some (v, rs')) (some vs) = some (v :: vs) := (rfl)
def sv1 (v : AV) (p : Option (List AV × Rs)) : Option (List AV × Rs) := p.map fun p => (v :: p.1, p.2)
theorem Qor : Qa6 n rs [] = some ([], rs) := (rfl)
theorem Qxf {x : Bool} {vs : List AV} : Qa6 n rs (.b x :: vs) = sv1 (.b x) (Qa6 (n + 16) rs vs) := (rfl)
theorem Qxe {k : IntKind} {x : Int} {vs : List AV} : Qa6 n rs (.i k x :: vs) = sv1 (.i k x) (Qa6 (n + 16) rs vs) := (rfl)
theorem Qxa {x : ByteArray} {vs : List AV} : Qa6 n rs (.s x :: vs) = sv1 (.s x) (Qa6 (n + 16) rs vs) := (rfl)
theorem Qxd {k : Nat} {vs : List AV} : Qa6 n rs (.nl k :: vs) = sv1 (.nl k) (Qa6 (n + 16) rs vs) := (rfl)
theorem Qxb {r pv sz off len : Nat} {vs : List AV} : Qa6 n rs (.slc r [] pv sz off len :: vs) = sv1 (.slc r [] pv sz off len) (Qa6 (n + 16) rs vs) := (rfl)
theorem Qsd {v : AV} {vs : List AV} : sv1 v (some (vs, rs)) = some (v :: vs, rs) := (rfl)
def spQ (n r i c sz off len : Nat) (pv : Nat) (a : Option (Nat × Bool × Els)) (R : Option Qan) (rs : Rs) : AV × Rs := match R, a with
 | some R, some (s, false, ys) => (.slc n [] 0 sz off len, up' (up' rs r (some { R with xs := Qaq R.xs i c [.undef] })) n (some ⟨true, s, 0, ys⟩))
 | _, _ => (.slc r [(i, c)] pv sz off len, rs)
theorem QqC {r pv sz off len i c : Nat} : (QbN n rs (.slc r [(i, c)] pv sz off len)).1 = (spQ n r i c sz off len pv (lkA [(i, c)] pv (rs r)) (rs r) rs).1 ∧ (QbN n rs (.slc r [(i, c)] pv sz off len)).2.1 = (spQ n r i c sz off len pv (lkA [(i, c)] pv (rs r)) (rs r) rs).2 := by
 simp only [QbN, QcJ, Qb5, spQ]
 cases rs r with
 | none => exact ⟨rfl, rfl⟩
 | some R =>
  simp only [Option.bind_some]
  cases lkA [(i, c)] pv (some R) with
  | none => exact ⟨rfl, rfl⟩
  | some a => obtain ⟨s, ro, ys⟩ := a; cases ro <;> exact ⟨rfl, rfl⟩
def sv2 (a : AV × Rs) (n : Nat) (vs : List AV) : Option (List AV × Rs) := sv1 a.1 (Qa6 (n + 16) a.2 vs)
theorem Qxc {r pv sz off len i c : Nat} {vs : List AV} : Qa6 n rs (.slc r [(i, c)] pv sz off len :: vs) = sv2 (spQ n r i c sz off len pv (lkA [(i, c)] pv (rs r)) (rs r) rs) n vs := by
 have h := QqC (n := n) (rs := rs) (r := r) (pv := pv) (sz := sz) (off := off) (len := len) (i := i) (c := c)
 simp only [Qa6, QbI, Option.bind_some, sv2, ← h.1, ← h.2]
 cases Qa6 (n + 16) _ vs <;> rfl
theorem QsC {r pv sz off len i c s s' p : Nat} {own : Bool} {xs ys : Els} {m : List (Nat × Option Qan)} : spQ n r i c sz off len pv (some (s, false, ys)) (some ⟨own, s', p, xs⟩) (rsL m) = (.slc n [] 0 sz off len, rsL ((n, some ⟨true, s, 0, ys⟩) :: (r, some ⟨own, s', p, Qaq xs i c [.undef]⟩) :: m)) := (rfl)
theorem QsB {r pv sz off len i c s : Nat} {R : Option Qan} {ys : Els} : spQ n r i c sz off len pv (some (s, true, ys)) R rs = (.slc r [(i, c)] pv sz off len, rs) := by cases R <;> rfl
theorem Qsc {v : AV} {vs : List AV} : sv2 (v, rs) n vs = sv1 v (Qa6 (n + 16) rs vs) := (rfl)
def svA (a : List AV × Rs) (n : Nat) (vs : List AV) : Option (List AV × Rs) := sv1 (.agg a.1) (Qa6 (n + 16) a.2 vs)
def spL (n : Nat) (rs : Rs) : List AV → List AV × Rs
 | [] => ([], rs)
 | v :: vs => let a := QbN n rs v; let b := spL (n + 1) a.2.1 vs; (a.1 :: b.1, b.2)
theorem Qkr : ∀ (cs : List AV) (n : Nat) (rs : Rs), (Qbf n rs cs).1 = (spL n rs cs).1 ∧ (Qbf n rs cs).2.1 = (spL n rs cs).2
 | [], _, _ => ⟨rfl, rfl⟩
 | v :: vs, n, rs => by
  have h := Qkr vs (n + 1) (QbN n rs v).2.1
  simp only [Qbf, spL, h.1, h.2, and_self]
theorem Qxg {cs vs : List AV} (h : decide (cs.length ≤ 16) = true) : Qa6 n rs (.agg cs :: vs) = svA (spL n rs cs) n vs := by
 have h' : cs.length ≤ 16 := by simpa using h
 have e := Qkr cs n rs
 simp only [Qa6, QbI, if_pos h', Option.bind_some, svA, ← e.1, ← e.2]
 cases Qa6 (n + 16) _ vs <;> rfl
theorem Qsb {cs vs : List AV} : svA (cs, rs) n vs = sv1 (.agg cs) (Qa6 (n + 16) rs vs) := (rfl)
def Qg6 (v : AV) (p : List AV × Rs) : List AV × Rs := (v :: p.1, p.2)
theorem QkV {v : AV} {vs : List AV} : Qg6 v (vs, rs) = (v :: vs, rs) := (rfl)
theorem Qkp : spL n rs [] = ([], rs) := (rfl)
theorem Qsv {x : Bool} {vs : List AV} : spL n rs (.b x :: vs) = Qg6 (.b x) (spL (n + 1) rs vs) := (rfl)
theorem Qsu {k : IntKind} {x : Int} {vs : List AV} : spL n rs (.i k x :: vs) = Qg6 (.i k x) (spL (n + 1) rs vs) := (rfl)
theorem Qsq {x : ByteArray} {vs : List AV} : spL n rs (.s x :: vs) = Qg6 (.s x) (spL (n + 1) rs vs) := (rfl)
theorem Qst {k : Nat} {vs : List AV} : spL n rs (.nl k :: vs) = Qg6 (.nl k) (spL (n + 1) rs vs) := (rfl)
theorem Qsr {r pv sz off len : Nat} {vs : List AV} : spL n rs (.slc r [] pv sz off len :: vs) = Qg6 (.slc r [] pv sz off len) (spL (n + 1) rs vs) := (rfl)
def Qwk (a : AV × Rs) (n : Nat) (vs : List AV) : List AV × Rs := Qg6 a.1 (spL (n + 1) a.2 vs)
theorem Qss {r pv sz off len i c : Nat} {vs : List AV} : spL n rs (.slc r [(i, c)] pv sz off len :: vs) = Qwk (spQ n r i c sz off len pv (lkA [(i, c)] pv (rs r)) (rs r) rs) n vs := by
 have h := QqC (n := n) (rs := rs) (r := r) (pv := pv) (sz := sz) (off := off) (len := len) (i := i) (c := c)
 simp only [spL, Qwk, ← h.1, ← h.2]; rfl
theorem Qot {v : AV} {vs : List AV} : Qwk (v, rs) n vs = Qg6 v (spL (n + 1) rs vs) := (rfl)
def ov1 (a : Option (AV × List Nat)) (b : Option (List AV × List Nat)) : Option (List AV × List Nat) := a.bind fun a => b.map fun b => (a.1 :: b.1, a.2 ++ b.2)
theorem QoY : QeI rs [] = some ([], []) := (rfl)
theorem Qk0 {v : AV} {vs : List AV} : QeI rs (v :: vs) = ov1 (Qj6 rs v) (QeI rs vs) := (rfl)
theorem Qtw {v : AV} {a b : List Nat} {vs : List AV} : ov1 (some (v, a)) (some (vs, b)) = some (v :: vs, a ++ b) := (rfl)
def ovA (a : Option (List AV × List Nat)) : Option (AV × List Nat) := a.map fun a => (.agg a.1, a.2)
theorem QxN {cs : List AV} : Qj6 rs (.agg cs) = ovA (Qfu rs cs) := (rfl)
theorem Qtv {cs : List AV} {a : List Nat} : ovA (some (cs, a)) = some (.agg cs, a) := (rfl)
theorem QxM {x : Bool} : Qj6 rs (.b x) = some (.b x, []) := (rfl)
theorem QxK {k : IntKind} {x : Int} : Qj6 rs (.i k x) = some (.i k x, []) := (rfl)
theorem QxH {x : ByteArray} : Qj6 rs (.s x) = some (.s x, []) := (rfl)
theorem QxJ {sz : Nat} : Qj6 rs (.nl sz) = some (.deep false false sz [], []) := (rfl)
theorem QxL {r : Nat} {q : QaI} {pv sz off len : Nat} : Qj6 rs (.slc r q pv sz off len) = QgN rs (.slc r q pv sz off len) := (rfl)
theorem QxI {r : Nat} {q : QaI} {pv i c : Nat} : Qj6 rs (.ptr r q pv i c) = QgN rs (.ptr r q pv i c) := (rfl)
theorem Qo6 : Qfu rs [] = some ([], []) := (rfl)
theorem Qk9 {v : AV} {vs : List AV} : Qfu rs (v :: vs) = ov1 (QgN rs v) (Qfu rs vs) := (rfl)
theorem QxT {x : Bool} : QgN rs (.b x) = some (.b x, []) := (rfl)
theorem QxS {k : IntKind} {x : Int} : QgN rs (.i k x) = some (.i k x, []) := (rfl)
theorem QxO {x : ByteArray} : QgN rs (.s x) = some (.s x, []) := (rfl)
theorem QxR {sz : Nat} : QgN rs (.nl sz) = some (.deep false false sz [], []) := (rfl)
def ocR (r sz off len : Nat) (a : Option (Nat × Bool × Els)) : Option (AV × List Nat) := match a with
 | some (_, true, ys) => some (.deep false true sz (wnd ys off len), [])
 | some (_, false, ys) => some (.deep false false sz (wnd ys off len), [r])
 | none => none
theorem QxP {r : Nat} {q : QaI} {pv sz off len : Nat} : QgN rs (.slc r q pv sz off len) = ocR r sz off len (lkA q pv (rs r)) := by
 simp only [QgN, Qb5, ocR]
 cases rs r with
 | none => rfl
 | some R =>
  simp only [Option.bind_some]
  cases lkA q pv (some R) with
  | none => rfl
  | some a => obtain ⟨s, ro, ys⟩ := a; cases ro <;> rfl
theorem QtG {r sz off len s : Nat} {ys : Els} : ocR r sz off len (some (s, true, ys)) = some (.deep false true sz (wnd ys off len), []) := (rfl)
theorem QtH {r sz off len s : Nat} {ys : Els} : ocR r sz off len (some (s, false, ys)) = some (.deep false false sz (wnd ys off len), [r]) := (rfl)
def ocP (r : Nat) (R : Option Qan) : Option (AV × List Nat) := match R with
 | some R => if R.xs.length = 1 then (if R.own then some (.deep true false R.sz R.xs, [r]) else some (.deep true true R.sz R.xs, [])) else none
 | none => none
theorem QxQ {r pv : Nat} : QgN rs (.ptr r [] pv 0 0) = ocP r (rs r) := by
 simp only [QgN, Qb5, ocP]
 cases rs r with
 | none => rfl
 | some R => obtain ⟨o, s, p, x⟩ := R; cases o <;> simp [lkA, Qan.arr]
theorem QtI {r sz pv : Nat} {el : List AV} : ocP r (some ⟨true, sz, pv, [el]⟩) = some (.deep true false sz [el], [r]) := (rfl)
end
theorem Qy {E : Env} {f : Nat} {F : Fn} {ds : List AV} {out : Out} {tm : Tm} {rs : Rs} {nx : Nat} {ow : List Bool} (h0 : E.ext f = none) (hF : E.fns f = some F) (hs : (⟨Qaw (tmA 0 (Qas ds 0).1), rsL (rsA 0 ((Qas ds 0).2.map some)), (Qas ds 0).2.length⟩ : St) = ⟨tm, rs, nx⟩) (hw : (Qas ds 0).2.map Qan.own = ow) (hm : nx ≤ F.m) (h : W E F.body ⟨tm, rs, nx⟩ (Qf F.res ow out)) : Qat E f ds = some out := by
 refine Qn7 h0 hF ?_ ?_
 ·injection hs with _ _ h3; rw [h3]; exact hm
 ·rw [QmX, hs]
  refine QzR (fun e st hq => ?_) h
  have key : eF1 ow st.nx st.rs (QbM st F.res) = some out → ((QbM st F.res).bind fun vs => (Qa6 st.nx st.rs vs).bind fun p => QlM (Qas ds 0).2 p.2 p.1) = some out := fun h => by
   simp only [eF1] at h
   split at h
   ·rename_i vs hv
    rw [hv, Option.bind_some]
    simp only [eF2] at h
    split at h
    ·rename_i p hp
     rw [hp, Option.bind_some]
     simp only [lvO] at h
     split at h
     ·rename_i a ha
      simp only [QlM, ha, Option.bind_some]
      split at h
      ·rename_i hn
       rw [if_pos hn, QhB, hw]; exact h
      ·cases h
     ·cases h
    ·cases h
   ·cases h
  cases e with
  | normal => exact key hq
  | ret => exact key hq
  | exit i => exact hq.elim
end Go.Proofs.Ytinlbiphjgpmmaa.V
end
section
namespace Go.Proofs.Ytinlbiphjgpmmaa.V
open Go Go.RowKit
section
def kpL : List Nat → Tm → List (Nat × AV)
 | [], _ => []
 | t :: l, tm => (t, tm t) :: kpL l tm
theorem QlO {tm : Tm} : kpL [] tm = [] := (rfl)
theorem Qgt {t : Nat} {l : List Nat} {tm : Tm} : kpL (t :: l) tm = (t, tm t) :: kpL l tm := (rfl)
theorem Qpr (tm : Tm) : ∀ live : List Nat, live.map (fun t => (t, tm t)) = kpL live tm
 | [] => rfl
 | t :: l => by rw [List.map_cons, Qgt, Qpr tm l]
theorem QvT {live : List Nat} {Q : Pst} {tm : Tm} {rs : Rs} {nx : Nat} : Qk live Q .normal ⟨tm, rs, nx⟩ = Q .normal ⟨Qaw (kpL live tm), rs, nx⟩ := by rw [QzS, Qpr]
def xsv (tm : Tm) : List X → List AV
 | [] => []
 | x :: l => x.ev tm :: xsv tm l
theorem Qol {tm : Tm} : xsv tm [] = [] := (rfl)
theorem QhG {tm : Tm} {x : X} {l : List X} : xsv tm (x :: l) = x.ev tm :: xsv tm l := (rfl)
theorem Qj9 {tm : Tm} : ∀ {l : List X}, l.map (·.ev tm) = xsv tm l
 | [] => rfl
 | x :: l => by rw [List.map_cons, QhG, Qj9 (l := l)]
def oX (tm : Tm) : Option X → Option AV
 | some x => some (x.ev tm)
 | none => none
theorem QxU {tm : Tm} {x : X} : oX tm (some x) = some (x.ev tm) := (rfl)
theorem QxV {tm : Tm} : oX tm none = none := (rfl)
theorem QjM {tm : Tm} {x : Option X} : x.map (·.ev tm) = oX tm x := by cases x <;> rfl
section
variable {call : QaZ} {n : Nat} {tm : Tm} {rs : Rs}
theorem QtW {m : Bool} {x : X} {xs : List X} : evI call n tm rs (.mm m (x :: xs)) = fMm m (x.ev tm) (xsv tm xs) rs := by rw [QzN, Qj9]
theorem QpC {x : X} {lo hi : Option X} : evI call n tm rs (.slS x lo hi) = QdI (x.ev tm) (oX tm lo) (oX tm hi) rs := by rw [Qwy, QjM, QjM]
theorem QpD {sz0 : Nat} {x : X} {lo hi : Option X} : evI call n tm rs (.slR sz0 x lo hi) = QjU sz0 (x.ev tm) (oX tm lo) (oX tm hi) rs := by rw [Qwz, QjM, QjM]
theorem QlZ {f : Nat} {ms : List Bool} {args : List X} : evI call n tm rs (.call f ms args) = ac1 call n rs f (QcK rs ms (xsv tm args)) := by rw [Qt3, Qj9]; rfl
theorem QlV {f : Nat} {caps : List X} (h : (xsv tm caps).all QlR = true) : evI call n tm rs (.mkfn f caps) = some (.fn f (xsv tm caps), rs) := by rw [← Qj9] at h ⊢; exact QtY h
theorem Qmi {d : Option Nat} {g : Option (Nat × Bool)} {i : I} (h : Qb7 tm g = some true) : QdP call n ⟨d, g, [], i⟩ (tm, rs) = (evI call n tm rs i).map fun p => (Qeb tm d p.1, p.2) := by
 simp only [QdP, h, Option.bind_some, ↓reduceIte, Qbs, List.length_nil, Nat.zero_le, QbP, ite_self]
def B0 (d : Option Nat) (tm : Tm) (r : Option (AV × Rs)) (k : Tm × Rs → Option (Tm × Rs)) : Option (Tm × Rs) := r.bind fun p => k (Qeb tm d p.1, p.2)
theorem Qtz {d : Option Nat} {i : I} {os : List Op'} {l : List (Nat × AV)} : Qbu call n (oz d none [] i :: os) (Qaw l, rs) = B0 d (Qaw l) (evI call n (Qaw l) rs i) (Qbu call (n + 80) os) := by
 simp only [Qbu, oz, Qmi (g := none) rfl, B0]
 cases evI call n (Qaw l) rs i <;> rfl
theorem QzF {l : List (Nat × AV)} {v : AV} {rs : Rs} {k : Tm × Rs → Option (Tm × Rs)} : B0 none (Qaw l) (some (v, rs)) k = k (Qaw l, rs) := (rfl)
theorem QzE {l : List (Nat × AV)} {d : Nat} {v : AV} {rs : Rs} {k : Tm × Rs → Option (Tm × Rs)} : B0 (some d) (Qaw l) (some (v, rs)) k = k (Qaw ((d, v) :: l), rs) := (rfl)
theorem Qjp {k : Nat} : (Nat.cast (no_index (OfNat.ofNat k : Nat)) : Int) = OfNat.ofNat k := (rfl)
theorem Qp2 : ((0 : Nat) : Int) = 0 := (rfl)
theorem Qp1 : ((1 : Nat) : Int) = 1 := (rfl)
end
theorem QvM {E : Env} {m : Nat} {l : List Op'} {tm : Tm} {rs : Rs} {nx : Nat} {Q : Pst} (h : (m == l.length) = true) : W E (.draw (sq m) l) ⟨tm, rs, nx⟩ Q = OQ (Qbu (Qat E) nx l (tm, rs)) (nx + m * 80) Q := QzQ (by simpa using h)
theorem Qpw {x : Bool} : Qri (.b x) = true := (rfl)
theorem Qpu {k : IntKind} {x : Int} : Qri (.i k x) = true := (rfl)
theorem Qps {x : ByteArray} : Qri (.s x) = true := (rfl)
theorem Qpt {k : Nat} : Qri (.nl k) = true := (rfl)
theorem Qpv {r : Nat} {q : QaI} {pv sz off len : Nat} : Qri (.slc r q pv sz off len) = true := (rfl)
theorem Qr2 {α : Type} {e : α → List AV} {a : α} : wnd (List.map e [a]) 0 1 = List.map e [a] := (rfl)
theorem Qr1 {α : Type} {e : α → List AV} {a b : α} : wnd (List.map e [a, b]) 0 2 = List.map e [a, b] := (rfl)
theorem Qr0 {α : Type} {e : α → List AV} {a b c : α} : wnd (List.map e [a, b, c]) 0 3 = List.map e [a, b, c] := (rfl)
theorem Qyn {x : List AV} {l : Els} : (x :: l).getD 0 [] = x := (rfl)
theorem Qym {x : List AV} {l : Els} {n : Nat} : (x :: l).getD (n + 1) [] = l.getD n [] := (rfl)
def sTk (call : QaZ) (n : Nat) (o : Option Op') (s : Tm × Rs) (k : Tm × Rs → Option (Tm × Rs)) : Option (Tm × Rs) := o.bind fun o => (QdP call n o s).bind k
open Classical in
noncomputable def Qv8 (a b : Option (Tm × Rs)) : Option (Tm × Rs) := a.bind fun r => if b = some r then some r else none
section
variable {call : QaZ} {n : Nat} {l : List Op'} {s : Tm × Rs}
theorem Qis : Qb4 call n l .done s = some s := (rfl)
theorem QkF {sc : QcG} : Qb4 call n l (tk [] sc) s = Qb4 call n l sc s := (rfl)
theorem Qit {k : Nat} {ks : List Nat} {sc : QcG} : Qb4 call n l (tk (k :: ks) sc) s = sTk call (n + k * 80) l[k]? s (Qb4 call n l (tk ks sc)) := (rfl)
theorem QkG {a b : QcG} : Qb4 call n l (.alt a b) s = Qv8 (Qb4 call n l a s) (Qb4 call n l b s) := by
 simp only [Qb4, Qv8]
theorem QkI {o : Op'} {k : Tm × Rs → Option (Tm × Rs)} : sTk call n (some o) s k = (Qbu call n [o] s).bind k := by
 simp only [sTk, Option.bind_some, Qbu]
 cases QdP call n o s <;> rfl
end
def QjE : List Nat → Tm → Tm → Prop
 | [], _, _ => True
 | k :: ks, f, g => f k = g k ∧ QjE ks f g
def QjH : List Nat → Rs → Rs → Prop
 | [], _, _ => True
 | k :: ks, f, g => f k = g k ∧ QjH ks f g
def tks : List (Nat × AV) → List Nat → List Nat
 | [], r => r
 | (k, _) :: l, r => k :: tks l r
def rks : List (Nat × Option Qan) → List Nat → List Nat
 | [], r => r
 | (k, _) :: l, r => k :: rks l r
theorem Qoq {f g : Tm} : QjE [] f g = True := (rfl)
theorem Qko {k : Nat} {ks : List Nat} {f g : Tm} : QjE (k :: ks) f g = (f k = g k ∧ QjE ks f g) := (rfl)
theorem QoQ {f g : Rs} : QjH [] f g = True := (rfl)
theorem QkR {k : Nat} {ks : List Nat} {f g : Rs} : QjH (k :: ks) f g = (f k = g k ∧ QjH ks f g) := (rfl)
theorem Qkn {r : List Nat} : tks [] r = r := (rfl)
theorem Qij {k : Nat} {v : AV} {l : List (Nat × AV)} {r : List Nat} : tks ((k, v) :: l) r = k :: tks l r := (rfl)
theorem QkM {r : List Nat} : rks [] r = r := (rfl)
theorem Qiy {k : Nat} {v : Option Qan} {l : List (Nat × Option Qan)} {r : List Nat} : rks ((k, v) :: l) r = k :: rks l r := (rfl)
theorem QgQ {f g : Tm} : ∀ {ks : List Nat}, QjE ks f g → ∀ k ∈ ks, f k = g k
 | [], _, k, h => by cases h
 | a :: ks, h, k, hk => by
  rcases List.mem_cons.1 hk with rfl | hk
  ·exact h.1
  ·exact QgQ h.2 k hk
theorem Qg0 {f g : Rs} : ∀ {ks : List Nat}, QjH ks f g → ∀ k ∈ ks, f k = g k
 | [], _, k, h => by cases h
 | a :: ks, h, k, hk => by
  rcases List.mem_cons.1 hk with rfl | hk
  ·exact h.1
  ·exact Qg0 h.2 k hk
theorem Qgb {r : List Nat} {k : Nat} : ∀ {l : List (Nat × AV)}, k ∉ tks l r → Qaw l k = .undef ∧ k ∉ r
 | [], h => ⟨rfl, h⟩
 | (a, v) :: l, h => by
  simp only [tks, List.mem_cons, not_or] at h
  have := Qgb (l := l) h.2
  exact ⟨by rw [Qih, if_neg h.1]; exact this.1, this.2⟩
theorem Qgg {r : List Nat} {k : Nat} : ∀ {l : List (Nat × Option Qan)}, k ∉ rks l r → rsL l k = none ∧ k ∉ r
 | [], h => ⟨rfl, h⟩
 | (a, v) :: l, h => by
  simp only [rks, List.mem_cons, not_or] at h
  have := Qgg (l := l) h.2
  exact ⟨by rw [Qe0, if_neg h.1]; exact this.1, this.2⟩
theorem Qqb {l l' : List (Nat × AV)} {m m' : List (Nat × Option Qan)} (h1 : QjE (tks l (tks l' [])) (Qaw l) (Qaw l')) (h2 : QjH (rks m (rks m' [])) (rsL m) (rsL m')) : Qv8 (some (Qaw l, rsL m)) (some (Qaw l', rsL m')) = some (Qaw l, rsL m) := by
 have e1 : Qaw l = Qaw l' := by
  funext k
  by_cases h : k ∈ tks l (tks l' [])
  ·exact QgQ h1 k h
  ·rw [(Qgb h).1, (Qgb (Qgb h).2).1]
 have e2 : rsL m = rsL m' := by
  funext k
  by_cases h : k ∈ rks m (rks m' [])
  ·exact Qg0 h2 k h
  ·rw [(Qgg h).1, (Qgg (Qgg h).2).1]
 rw [← e1, ← e2]; simp [Qv8]
theorem Qzh {E : Env} {ks : List Nat} {sc : QcG} {l : List Op'} {tm : Tm} {rs : Rs} {nx : Nat} {Q : Pst} : W E (.draw (tk ks sc) l) ⟨tm, rs, nx⟩ Q = OQ (Qb4 (Qat E) nx l (tk ks sc) (tm, rs)) (nx + l.length * 80) Q := Qqq
def spV (n : Nat) (rs : Rs) (v : AV) : Option (AV × Rs) := match v with
 | .agg cs => if cs.length ≤ 16 then some (.agg (spL n rs cs).1, (spL n rs cs).2) else none
 | v => some ((QbN n rs v).1, (QbN n rs v).2.1)
theorem Qee {n : Nat} {rs : Rs} {v : AV} : (QbI n rs v).map (fun a => (a.1, a.2.1)) = spV n rs v := by
 cases v <;> try rfl
 rename_i cs
 simp only [QbI, spV]
 split
 ·have := Qkr cs n rs
  simp only [Option.map_some, this.1, this.2]
 ·rfl
def spA (a : List AV × Rs) : Option (AV × Rs) := some (.agg a.1, a.2)
theorem Qsz {n : Nat} {rs : Rs} {cs : List AV} (h : decide (cs.length ≤ 16) = true) : spV n rs (.agg cs) = spA (spL n rs cs) := by
 have h' : cs.length ≤ 16 := by simpa using h
 simp only [spV, if_pos h', spA]
theorem QsD {cs : List AV} {rs : Rs} : spA (cs, rs) = some (.agg cs, rs) := (rfl)
theorem Qsw {n r pv sz off len : Nat} {rs : Rs} : spV n rs (.slc r [] pv sz off len) = some (.slc r [] pv sz off len, rs) := (rfl)
theorem Qsy {n k : Nat} {rs : Rs} : spV n rs (.nl k) = some (.nl k, rs) := (rfl)
def spS (a : AV × Rs) : Option (AV × Rs) := some a
theorem QsA {a : AV} {rs : Rs} : spS (a, rs) = some (a, rs) := (rfl)
theorem Qsx {n r pv sz off len i c : Nat} {rs : Rs} : spV n rs (.slc r [(i, c)] pv sz off len) = spS (spQ n r i c sz off len pv (lkA [(i, c)] pv (rs r)) (rs r) rs) := by
 have h := QqC (n := n) (rs := rs) (r := r) (pv := pv) (sz := sz) (off := off) (len := len) (i := i) (c := c)
 simp only [spV, spS, h.1, h.2]
def Zs (call : QaZ) (n : Nat) (d : Option Nat) (t : Nat) (i : I) (a : Option (AV × Rs)) (tm : Tm) (k : Tm × Rs → Option (Tm × Rs)) : Option (Tm × Rs) := match a with
 | some a => B0 d (up' tm t a.1) (evI call n (up' tm t a.1) a.2 i) k
 | none => none
theorem QtA {call : QaZ} {n t : Nat} {d : Option Nat} {i : I} {os : List Op'} {l : List (Nat × AV)} {rs : Rs} (h : i.isCall = false) : Qbu call n (oz d none [t] i :: os) (Qaw l, rs) = Zs call n d t i (spV (n + 16) rs (Qaw l t)) (Qaw l) (Qbu call (n + 80) os) := by
 rw [← Qee]
 simp only [Qbu, oz, QdP, Qb7, Option.bind_some, ↓reduceIte, List.length_cons, List.length_nil, Qbs, h, Nat.zero_add, show (1 ≤ 4) = True from eq_true (by decide), Bool.false_eq_true]
 cases QbI (n + 16) rs (Qaw l t) with
 | none => rfl
 | some a =>
  simp only [Option.bind_some, Option.map_some, Zs, B0]
  cases evI call n (up' (Qaw l) t a.1) a.2.1 i <;> rfl
theorem Qzf {call : QaZ} {n t : Nat} {d : Option Nat} {i : I} {v : AV} {m : List (Nat × Option Qan)} {l : List (Nat × AV)} {k : Tm × Rs → Option (Tm × Rs)} : Zs call n d t i (some (v, rsL m)) (Qaw l) k = B0 d (Qaw ((t, v) :: l)) (evI call n (Qaw ((t, v) :: l)) (rsL m) i) k := (rfl)
theorem Qi2 {n : Nat} {a v : X} : I.isCall (.store n a v) = false := (rfl)
theorem QpA {n : Nat} {v : X} : I.isCall (.box n v) = false := (rfl)
theorem Qpz {sz len : Nat} {z : List AV} {ps : List (Nat × X)} : I.isCall (.lit sz len z ps) = false := (rfl)
theorem QpB {sz b : Nat} {x y : X} : I.isCall (.app sz b x y) = false := (rfl)
theorem R10 : type_of% (And.intro @Qis <| And.intro @QkF <| And.intro @Qit <| And.intro @QkG <| And.intro @QkI <| And.intro @Qoq <| And.intro @Qko <| And.intro @QoQ <| And.intro @QkR <| And.intro @Qkn <| And.intro @Qij <| And.intro @QkM <| And.intro @Qiy <| And.intro @Qqb <| And.intro @Qzh <| And.intro @Qsz <| And.intro @QsD <| And.intro @Qsw <| And.intro @Qsy <| And.intro @QsA <| And.intro @Qsx <| And.intro @QtA <| And.intro @Qzf <| And.intro @Qi2 <| And.intro @QpA <| And.intro @Qpz <| @QpB) := And.intro @Qis <| And.intro @QkF <| And.intro @Qit <| And.intro @QkG <| And.intro @QkI <| And.intro @Qoq <| And.intro @Qko <| And.intro @QoQ <| And.intro @QkR <| And.intro @Qkn <| And.intro @Qij <| And.intro @QkM <| And.intro @Qiy <| And.intro @Qqb <| And.intro @Qzh <| And.intro @Qsz <| And.intro @QsD <| And.intro @Qsw <| And.intro @Qsy <| And.intro @QsA <| And.intro @Qsx <| And.intro @QtA <| And.intro @Qzf <| And.intro @Qi2 <| And.intro @QpA <| And.intro @Qpz <| @QpB
theorem QvR {E : Env} {x : X} {a b : C} {st : St} {Q : Pst} : WC E x .mb a b st Q = (W E a st Q ∧ W E b st Q) := (rfl)
theorem Qkg {α : Type} {e : α → List AV} {l : List α} {k : Nat} (h : k = l.length) : wnd (l.map e) 0 k = l.map e := by subst h; exact Qf8
theorem Qjl {α : Type} {e : α → List AV} {l : List α} {k : Nat} (h : k = l.length) : (l.map e).drop (0 + k) = [] := by subst h; exact Qfh
theorem Qmt {α : Type} {r sz s pv k : Nat} {e : α → List AV} {l : List α} (h : k = l.length) : dcO r sz k (some ⟨true, s, pv, l.map e⟩) = some (.deep false false sz (l.map e), [⟨true, false, some (r, [])⟩]) := by subst h; exact QrJ
def skP (sz off len : Nat) (a : Option (Nat × Bool × Els)) : Option (AV × List Nat) := match a with
 | some (_, true, ys) => some (.deep false true sz (wnd ys off len), [])
 | _ => none
theorem Qoy {rs : Rs} {r pv sz off len i c : Nat} : Qin rs (.slc r [(i, c)] pv sz off len) = skP sz off len (lkA [(i, c)] pv (rs r)) := by
 simp only [Qin, Qb5, skP]
 cases rs r with
 | none => rfl
 | some R =>
  simp only [Option.bind_some]
  cases lkA [(i, c)] pv (some R) with
  | none => rfl
  | some a => obtain ⟨s, ro, ys⟩ := a; cases ro <;> rfl
theorem QsO {sz off len s : Nat} {ys : Els} : skP sz off len (some (s, true, ys)) = some (.deep false true sz (wnd ys off len), []) := (rfl)
theorem R11 : type_of% (And.intro @QvR <| And.intro @Qkg <| And.intro @Qjl <| And.intro @Qmt <| And.intro @Qoy <| And.intro @QsO @Qqh) := And.intro @QvR <| And.intro @Qkg <| And.intro @Qjl <| And.intro @Qmt <| And.intro @Qoy <| And.intro @QsO @Qqh
theorem Qti {z : List AV} : List.replicate 5 z = [z, z, z, z, z] := (rfl)
theorem Qth {z : List AV} : List.replicate 6 z = [z, z, z, z, z, z] := (rfl)
theorem Qtg {z : List AV} : List.replicate 7 z = [z, z, z, z, z, z, z] := (rfl)
theorem Qtf {z : List AV} : List.replicate 8 z = [z, z, z, z, z, z, z, z] := (rfl)
theorem Qte {z : List AV} : List.replicate 9 z = [z, z, z, z, z, z, z, z, z] := (rfl)
theorem QoP {z : List AV} : List.replicate 10 z = [z, z, z, z, z, z, z, z, z, z] := (rfl)
theorem QoO {z : List AV} : List.replicate 11 z = [z, z, z, z, z, z, z, z, z, z, z] := (rfl)
theorem QoN {z : List AV} : List.replicate 12 z = [z, z, z, z, z, z, z, z, z, z, z, z] := (rfl)
theorem QoM {z : List AV} : List.replicate 13 z = [z, z, z, z, z, z, z, z, z, z, z, z, z] := (rfl)
theorem QoL {z : List AV} : List.replicate 14 z = [z, z, z, z, z, z, z, z, z, z, z, z, z, z] := (rfl)
theorem QoK {z : List AV} : List.replicate 15 z = [z, z, z, z, z, z, z, z, z, z, z, z, z, z, z] := (rfl)
theorem QoJ {z : List AV} : List.replicate 16 z = [z, z, z, z, z, z, z, z, z, z, z, z, z, z, z, z] := (rfl)
theorem QoI {z : List AV} : List.replicate 17 z = [z, z, z, z, z, z, z, z, z, z, z, z, z, z, z, z, z] := (rfl)
theorem QlD {a0 a1 a2 a3 : Int} : Qcq [[.i .i64 a0], [.i .i64 a1], [.i .i64 a2], [.i .i64 a3]] = List.map eI [a0, a1, a2, a3] := (rfl)
theorem QlC {a0 a1 a2 a3 a4 : Int} : Qcq [[.i .i64 a0], [.i .i64 a1], [.i .i64 a2], [.i .i64 a3], [.i .i64 a4]] = List.map eI [a0, a1, a2, a3, a4] := (rfl)
theorem QlB {a0 a1 a2 a3 a4 a5 : Int} : Qcq [[.i .i64 a0], [.i .i64 a1], [.i .i64 a2], [.i .i64 a3], [.i .i64 a4], [.i .i64 a5]] = List.map eI [a0, a1, a2, a3, a4, a5] := (rfl)
theorem QlA {a0 a1 a2 a3 a4 a5 a6 : Int} : Qcq [[.i .i64 a0], [.i .i64 a1], [.i .i64 a2], [.i .i64 a3], [.i .i64 a4], [.i .i64 a5], [.i .i64 a6]] = List.map eI [a0, a1, a2, a3, a4, a5, a6] := (rfl)
theorem Qlz {a0 a1 a2 a3 a4 a5 a6 a7 : Int} : Qcq [[.i .i64 a0], [.i .i64 a1], [.i .i64 a2], [.i .i64 a3], [.i .i64 a4], [.i .i64 a5], [.i .i64 a6], [.i .i64 a7]] = List.map eI [a0, a1, a2, a3, a4, a5, a6, a7] := (rfl)
theorem Qly {a0 a1 a2 a3 a4 a5 a6 a7 a8 : Int} : Qcq [[.i .i64 a0], [.i .i64 a1], [.i .i64 a2], [.i .i64 a3], [.i .i64 a4], [.i .i64 a5], [.i .i64 a6], [.i .i64 a7], [.i .i64 a8]] = List.map eI [a0, a1, a2, a3, a4, a5, a6, a7, a8] := (rfl)
theorem QiZ {a0 a1 a2 a3 a4 a5 a6 a7 a8 a9 : Int} : Qcq [[.i .i64 a0], [.i .i64 a1], [.i .i64 a2], [.i .i64 a3], [.i .i64 a4], [.i .i64 a5], [.i .i64 a6], [.i .i64 a7], [.i .i64 a8], [.i .i64 a9]] = List.map eI [a0, a1, a2, a3, a4, a5, a6, a7, a8, a9] := (rfl)
theorem QiY {a0 a1 a2 a3 a4 a5 a6 a7 a8 a9 a10 : Int} : Qcq [[.i .i64 a0], [.i .i64 a1], [.i .i64 a2], [.i .i64 a3], [.i .i64 a4], [.i .i64 a5], [.i .i64 a6], [.i .i64 a7], [.i .i64 a8], [.i .i64 a9], [.i .i64 a10]] = List.map eI [a0, a1, a2, a3, a4, a5, a6, a7, a8, a9, a10] := (rfl)
theorem QiX {a0 a1 a2 a3 a4 a5 a6 a7 a8 a9 a10 a11 : Int} : Qcq [[.i .i64 a0], [.i .i64 a1], [.i .i64 a2], [.i .i64 a3], [.i .i64 a4], [.i .i64 a5], [.i .i64 a6], [.i .i64 a7], [.i .i64 a8], [.i .i64 a9], [.i .i64 a10], [.i .i64 a11]] = List.map eI [a0, a1, a2, a3, a4, a5, a6, a7, a8, a9, a10, a11] := (rfl)
theorem QiW {a0 a1 a2 a3 a4 a5 a6 a7 a8 a9 a10 a11 a12 : Int} : Qcq [[.i .i64 a0], [.i .i64 a1], [.i .i64 a2], [.i .i64 a3], [.i .i64 a4], [.i .i64 a5], [.i .i64 a6], [.i .i64 a7], [.i .i64 a8], [.i .i64 a9], [.i .i64 a10], [.i .i64 a11], [.i .i64 a12]] = List.map eI [a0, a1, a2, a3, a4, a5, a6, a7, a8, a9, a10, a11, a12] := (rfl)
theorem QiV {a0 a1 a2 a3 a4 a5 a6 a7 a8 a9 a10 a11 a12 a13 : Int} : Qcq [[.i .i64 a0], [.i .i64 a1], [.i .i64 a2], [.i .i64 a3], [.i .i64 a4], [.i .i64 a5], [.i .i64 a6], [.i .i64 a7], [.i .i64 a8], [.i .i64 a9], [.i .i64 a10], [.i .i64 a11], [.i .i64 a12], [.i .i64 a13]] = List.map eI [a0, a1, a2, a3, a4, a5, a6, a7, a8, a9, a10, a11, a12, a13] := (rfl)
theorem QiU {a0 a1 a2 a3 a4 a5 a6 a7 a8 a9 a10 a11 a12 a13 a14 : Int} : Qcq [[.i .i64 a0], [.i .i64 a1], [.i .i64 a2], [.i .i64 a3], [.i .i64 a4], [.i .i64 a5], [.i .i64 a6], [.i .i64 a7], [.i .i64 a8], [.i .i64 a9], [.i .i64 a10], [.i .i64 a11], [.i .i64 a12], [.i .i64 a13], [.i .i64 a14]] = List.map eI [a0, a1, a2, a3, a4, a5, a6, a7, a8, a9, a10, a11, a12, a13, a14] := (rfl)
theorem QiT {a0 a1 a2 a3 a4 a5 a6 a7 a8 a9 a10 a11 a12 a13 a14 a15 : Int} : Qcq [[.i .i64 a0], [.i .i64 a1], [.i .i64 a2], [.i .i64 a3], [.i .i64 a4], [.i .i64 a5], [.i .i64 a6], [.i .i64 a7], [.i .i64 a8], [.i .i64 a9], [.i .i64 a10], [.i .i64 a11], [.i .i64 a12], [.i .i64 a13], [.i .i64 a14], [.i .i64 a15]] = List.map eI [a0, a1, a2, a3, a4, a5, a6, a7, a8, a9, a10, a11, a12, a13, a14, a15] := (rfl)
theorem QiS {a0 a1 a2 a3 a4 a5 a6 a7 a8 a9 a10 a11 a12 a13 a14 a15 a16 : Int} : Qcq [[.i .i64 a0], [.i .i64 a1], [.i .i64 a2], [.i .i64 a3], [.i .i64 a4], [.i .i64 a5], [.i .i64 a6], [.i .i64 a7], [.i .i64 a8], [.i .i64 a9], [.i .i64 a10], [.i .i64 a11], [.i .i64 a12], [.i .i64 a13], [.i .i64 a14], [.i .i64 a15], [.i .i64 a16]] = List.map eI [a0, a1, a2, a3, a4, a5, a6, a7, a8, a9, a10, a11, a12, a13, a14, a15, a16] := (rfl)
theorem Qlu {a0 a1 : ByteArray} : Qcq [[.s a0], [.s a1]] = List.map eS [a0, a1] := (rfl)
theorem Qlt {a0 a1 a2 : ByteArray} : Qcq [[.s a0], [.s a1], [.s a2]] = List.map eS [a0, a1, a2] := (rfl)
theorem Qls {a0 a1 a2 a3 : ByteArray} : Qcq [[.s a0], [.s a1], [.s a2], [.s a3]] = List.map eS [a0, a1, a2, a3] := (rfl)
theorem Qlr {a0 a1 a2 a3 a4 : ByteArray} : Qcq [[.s a0], [.s a1], [.s a2], [.s a3], [.s a4]] = List.map eS [a0, a1, a2, a3, a4] := (rfl)
theorem Qlq {a0 a1 a2 a3 a4 a5 : ByteArray} : Qcq [[.s a0], [.s a1], [.s a2], [.s a3], [.s a4], [.s a5]] = List.map eS [a0, a1, a2, a3, a4, a5] := (rfl)
theorem Qlp {a0 a1 a2 a3 a4 a5 a6 : ByteArray} : Qcq [[.s a0], [.s a1], [.s a2], [.s a3], [.s a4], [.s a5], [.s a6]] = List.map eS [a0, a1, a2, a3, a4, a5, a6] := (rfl)
theorem Qlo {a0 a1 a2 a3 a4 a5 a6 a7 : ByteArray} : Qcq [[.s a0], [.s a1], [.s a2], [.s a3], [.s a4], [.s a5], [.s a6], [.s a7]] = List.map eS [a0, a1, a2, a3, a4, a5, a6, a7] := (rfl)
theorem Qln {a0 a1 a2 a3 a4 a5 a6 a7 a8 : ByteArray} : Qcq [[.s a0], [.s a1], [.s a2], [.s a3], [.s a4], [.s a5], [.s a6], [.s a7], [.s a8]] = List.map eS [a0, a1, a2, a3, a4, a5, a6, a7, a8] := (rfl)
theorem QiR {a0 a1 a2 a3 a4 a5 a6 a7 a8 a9 : ByteArray} : Qcq [[.s a0], [.s a1], [.s a2], [.s a3], [.s a4], [.s a5], [.s a6], [.s a7], [.s a8], [.s a9]] = List.map eS [a0, a1, a2, a3, a4, a5, a6, a7, a8, a9] := (rfl)
theorem QiQ {a0 a1 a2 a3 a4 a5 a6 a7 a8 a9 a10 : ByteArray} : Qcq [[.s a0], [.s a1], [.s a2], [.s a3], [.s a4], [.s a5], [.s a6], [.s a7], [.s a8], [.s a9], [.s a10]] = List.map eS [a0, a1, a2, a3, a4, a5, a6, a7, a8, a9, a10] := (rfl)
theorem QiP {a0 a1 a2 a3 a4 a5 a6 a7 a8 a9 a10 a11 : ByteArray} : Qcq [[.s a0], [.s a1], [.s a2], [.s a3], [.s a4], [.s a5], [.s a6], [.s a7], [.s a8], [.s a9], [.s a10], [.s a11]] = List.map eS [a0, a1, a2, a3, a4, a5, a6, a7, a8, a9, a10, a11] := (rfl)
theorem QiO {a0 a1 a2 a3 a4 a5 a6 a7 a8 a9 a10 a11 a12 : ByteArray} : Qcq [[.s a0], [.s a1], [.s a2], [.s a3], [.s a4], [.s a5], [.s a6], [.s a7], [.s a8], [.s a9], [.s a10], [.s a11], [.s a12]] = List.map eS [a0, a1, a2, a3, a4, a5, a6, a7, a8, a9, a10, a11, a12] := (rfl)
theorem QiN {a0 a1 a2 a3 a4 a5 a6 a7 a8 a9 a10 a11 a12 a13 : ByteArray} : Qcq [[.s a0], [.s a1], [.s a2], [.s a3], [.s a4], [.s a5], [.s a6], [.s a7], [.s a8], [.s a9], [.s a10], [.s a11], [.s a12], [.s a13]] = List.map eS [a0, a1, a2, a3, a4, a5, a6, a7, a8, a9, a10, a11, a12, a13] := (rfl)
theorem QiM {a0 a1 a2 a3 a4 a5 a6 a7 a8 a9 a10 a11 a12 a13 a14 : ByteArray} : Qcq [[.s a0], [.s a1], [.s a2], [.s a3], [.s a4], [.s a5], [.s a6], [.s a7], [.s a8], [.s a9], [.s a10], [.s a11], [.s a12], [.s a13], [.s a14]] = List.map eS [a0, a1, a2, a3, a4, a5, a6, a7, a8, a9, a10, a11, a12, a13, a14] := (rfl)
theorem QiL {a0 a1 a2 a3 a4 a5 a6 a7 a8 a9 a10 a11 a12 a13 a14 a15 : ByteArray} : Qcq [[.s a0], [.s a1], [.s a2], [.s a3], [.s a4], [.s a5], [.s a6], [.s a7], [.s a8], [.s a9], [.s a10], [.s a11], [.s a12], [.s a13], [.s a14], [.s a15]] = List.map eS [a0, a1, a2, a3, a4, a5, a6, a7, a8, a9, a10, a11, a12, a13, a14, a15] := (rfl)
theorem R12 : type_of% (And.intro @Qti <| And.intro @Qth <| And.intro @Qtg <| And.intro @Qtf <| And.intro @Qte <| And.intro @QoP <| And.intro @QoO <| And.intro @QoN <| And.intro @QoM <| And.intro @QoL <| And.intro @QoK <| And.intro @QoJ <| And.intro @QoI <| And.intro @QlD <| And.intro @QlC <| And.intro @QlB <| And.intro @QlA <| And.intro @Qlz <| And.intro @Qly <| And.intro @QiZ <| And.intro @QiY <| And.intro @QiX <| And.intro @QiW <| And.intro @QiV <| And.intro @QiU <| And.intro @QiT <| And.intro @QiS <| And.intro @Qlu <| And.intro @Qlt <| And.intro @Qls <| And.intro @Qlr <| And.intro @Qlq <| And.intro @Qlp <| And.intro @Qlo <| And.intro @Qln <| And.intro @QiR <| And.intro @QiQ <| And.intro @QiP <| And.intro @QiO <| And.intro @QiN <| And.intro @QiM <| @QiL) := And.intro @Qti <| And.intro @Qth <| And.intro @Qtg <| And.intro @Qtf <| And.intro @Qte <| And.intro @QoP <| And.intro @QoO <| And.intro @QoN <| And.intro @QoM <| And.intro @QoL <| And.intro @QoK <| And.intro @QoJ <| And.intro @QoI <| And.intro @QlD <| And.intro @QlC <| And.intro @QlB <| And.intro @QlA <| And.intro @Qlz <| And.intro @Qly <| And.intro @QiZ <| And.intro @QiY <| And.intro @QiX <| And.intro @QiW <| And.intro @QiV <| And.intro @QiU <| And.intro @QiT <| And.intro @QiS <| And.intro @Qlu <| And.intro @Qlt <| And.intro @Qls <| And.intro @Qlr <| And.intro @Qlq <| And.intro @Qlp <| And.intro @Qlo <| And.intro @Qln <| And.intro @QiR <| And.intro @QiQ <| And.intro @QiP <| And.intro @QiO <| And.intro @QiN <| And.intro @QiM <| @QiL
theorem QxZ : decide ([] : List Nat).Nodup = true := (rfl)
theorem QxY {a : Nat} : decide [a].Nodup = true := by simp
theorem QxX {a b : Nat} (h : decide (a ≠ b) = true) : decide [a, b].Nodup = true := by simpa using h
theorem QxW {a b c : Nat} (h : decide (a ≠ b) = true) (h2 : decide (a ≠ c) = true) (h3 : decide (b ≠ c) = true) : decide [a, b, c].Nodup = true := by simp_all
theorem Qy2 {a : Nat} : ([] : List Nat).contains a = false := (rfl)
theorem Qy1 {a b : Nat} {l : List Nat} : (b :: l).contains a = (a == b || l.contains a) := (rfl)
theorem R9 : type_of% (And.intro @Qjp <| And.intro @Qyn <| And.intro @Qym <| And.intro @Qr2 <| And.intro @Qr1 <| And.intro @Qr0 <| And.intro @QxZ <| And.intro @QxY <| And.intro @QxX <| And.intro @QxW <| And.intro @Qy2 <| @Qy1) := And.intro @Qjp <| And.intro @Qyn <| And.intro @Qym <| And.intro @Qr2 <| And.intro @Qr1 <| And.intro @Qr0 <| And.intro @QxZ <| And.intro @QxY <| And.intro @QxX <| And.intro @QxW <| And.intro @Qy2 <| @Qy1
theorem R0 : type_of% (And.intro @Qzi <| And.intro @QvN <| And.intro @QvQ <| And.intro @Qqn <| And.intro @Qqp <| And.intro @QvO <| And.intro @Qzj <| And.intro @Qqr <| And.intro @Qzk <| And.intro @Qzl <| And.intro @Qqo <| And.intro @Qk7 <| And.intro @QtB <| And.intro @Qo3 <| And.intro @Qo4 <| And.intro @Qo2 <| And.intro @QmL <| And.intro @Qqs <| And.intro @Qzt <| And.intro @Qzs <| And.intro @Qzn <| And.intro @Qzo <| And.intro @Qzm <| And.intro @QzA <| And.intro @QzB <| And.intro @Qzz <| And.intro @Qzq <| And.intro @Qzr <| And.intro @Qzp <| And.intro @Qzv <| And.intro @Qzw <| And.intro @Qzu <| And.intro @Qih <| And.intro @Qop <| And.intro @Qe0 <| And.intro @QoH <| And.intro @Qr7 <| And.intro @QcB <| And.intro @x_t <| And.intro @x_k <| And.intro @Qx7 <| And.intro @QpE <| And.intro @QoU <| And.intro @QoV <| And.intro @Qt6 <| And.intro @QvB <| And.intro @Qvj <| And.intro @Qvr <| And.intro @Qvs <| @Qvt) := And.intro @Qzi <| And.intro @QvN <| And.intro @QvQ <| And.intro @Qqn <| And.intro @Qqp <| And.intro @QvO <| And.intro @Qzj <| And.intro @Qqr <| And.intro @Qzk <| And.intro @Qzl <| And.intro @Qqo <| And.intro @Qk7 <| And.intro @QtB <| And.intro @Qo3 <| And.intro @Qo4 <| And.intro @Qo2 <| And.intro @QmL <| And.intro @Qqs <| And.intro @Qzt <| And.intro @Qzs <| And.intro @Qzn <| And.intro @Qzo <| And.intro @Qzm <| And.intro @QzA <| And.intro @QzB <| And.intro @Qzz <| And.intro @Qzq <| And.intro @Qzr <| And.intro @Qzp <| And.intro @Qzv <| And.intro @Qzw <| And.intro @Qzu <| And.intro @Qih <| And.intro @Qop <| And.intro @Qe0 <| And.intro @QoH <| And.intro @Qr7 <| And.intro @QcB <| And.intro @x_t <| And.intro @x_k <| And.intro @Qx7 <| And.intro @QpE <| And.intro @QoU <| And.intro @QoV <| And.intro @Qt6 <| And.intro @QvB <| And.intro @Qvj <| And.intro @Qvr <| And.intro @Qvs <| @Qvt
theorem R1 : type_of% (And.intro @Qvu <| And.intro @Qvv <| And.intro @Qvx <| And.intro @Qvp <| And.intro @QvA <| And.intro @Qzd <| And.intro @Qvi <| And.intro @Qvl <| And.intro @Qvk <| And.intro @Qvn <| And.intro @Qvm <| And.intro @Qvy <| And.intro @Qvq <| And.intro @Qvw <| And.intro @Qvo <| And.intro @Qvz <| And.intro @Qqi <| And.intro @wrap_i64 <| And.intro @Qkb <| And.intro @Qx6 <| And.intro @Qon <| And.intro @Qoo <| And.intro @QpI <| And.intro @QpZ <| And.intro @QpF <| And.intro @Qpb <| And.intro @Qpc <| And.intro @Qpd <| And.intro @Qx0 <| And.intro @Qx1 <| And.intro @QpH <| And.intro @Qpy <| And.intro @QsF <| And.intro @QsG <| And.intro @Qou <| And.intro @Qt2 <| And.intro @Qux <| And.intro @Quv <| And.intro @Quw <| And.intro @QpW <| And.intro @QyL <| And.intro @QyK <| And.intro @QyJ <| And.intro @Ql0 <| And.intro @QmE <| And.intro @Qjt <| And.intro @Qu8 <| And.intro @Qu7 <| And.intro @QkS <| @QiC) := And.intro @Qvu <| And.intro @Qvv <| And.intro @Qvx <| And.intro @Qvp <| And.intro @QvA <| And.intro @Qzd <| And.intro @Qvi <| And.intro @Qvl <| And.intro @Qvk <| And.intro @Qvn <| And.intro @Qvm <| And.intro @Qvy <| And.intro @Qvq <| And.intro @Qvw <| And.intro @Qvo <| And.intro @Qvz <| And.intro @Qqi <| And.intro @wrap_i64 <| And.intro @Qkb <| And.intro @Qx6 <| And.intro @Qon <| And.intro @Qoo <| And.intro @QpI <| And.intro @QpZ <| And.intro @QpF <| And.intro @Qpb <| And.intro @Qpc <| And.intro @Qpd <| And.intro @Qx0 <| And.intro @Qx1 <| And.intro @QpH <| And.intro @Qpy <| And.intro @QsF <| And.intro @QsG <| And.intro @Qou <| And.intro @Qt2 <| And.intro @Qux <| And.intro @Quv <| And.intro @Quw <| And.intro @QpW <| And.intro @QyL <| And.intro @QyK <| And.intro @QyJ <| And.intro @Ql0 <| And.intro @QmE <| And.intro @Qjt <| And.intro @Qu8 <| And.intro @Qu7 <| And.intro @QkS <| @QiC
theorem R2 : type_of% (And.intro @QlX <| And.intro @Qmc <| And.intro @Qmb <| And.intro @Qlb <| And.intro @Qt1 <| And.intro @Quq <| And.intro @Qt0 <| And.intro @QtU <| And.intro @QtT <| And.intro @QtS <| And.intro @QlW <| And.intro @QlT <| And.intro @QlY <| And.intro @Qme <| And.intro @QpG <| And.intro @Qpi <| And.intro @Qe5 <| And.intro @Qpj <| And.intro @QlL <| And.intro @Qph <| And.intro @Qhd <| And.intro @QfN <| And.intro @Qpo <| And.intro @Qpq <| And.intro @Qpm <| And.intro @Qpp <| And.intro @Qpn <| And.intro @Qpg <| And.intro @QiJ <| And.intro @QiK <| And.intro @Qp0 <| And.intro @QgV <| And.intro @QfJ <| And.intro @QsQ <| And.intro @QsP <| And.intro @QoA <| And.intro @Qoz <| And.intro @Qow <| And.intro @Qkt <| And.intro @Qox <| And.intro @QsN <| And.intro @QsM <| And.intro @Qmz <| And.intro @Qmy <| And.intro @Qmw <| And.intro @Qmu <| And.intro @Qmv <| And.intro @Qmx <| And.intro @Qt5 <| @Qu5) := And.intro @QlX <| And.intro @Qmc <| And.intro @Qmb <| And.intro @Qlb <| And.intro @Qt1 <| And.intro @Quq <| And.intro @Qt0 <| And.intro @QtU <| And.intro @QtT <| And.intro @QtS <| And.intro @QlW <| And.intro @QlT <| And.intro @QlY <| And.intro @Qme <| And.intro @QpG <| And.intro @Qpi <| And.intro @Qe5 <| And.intro @Qpj <| And.intro @QlL <| And.intro @Qph <| And.intro @Qhd <| And.intro @QfN <| And.intro @Qpo <| And.intro @Qpq <| And.intro @Qpm <| And.intro @Qpp <| And.intro @Qpn <| And.intro @Qpg <| And.intro @QiJ <| And.intro @QiK <| And.intro @Qp0 <| And.intro @QgV <| And.intro @QfJ <| And.intro @QsQ <| And.intro @QsP <| And.intro @QoA <| And.intro @Qoz <| And.intro @Qow <| And.intro @Qkt <| And.intro @Qox <| And.intro @QsN <| And.intro @QsM <| And.intro @Qmz <| And.intro @Qmy <| And.intro @Qmw <| And.intro @Qmu <| And.intro @Qmv <| And.intro @Qmx <| And.intro @Qt5 <| @Qu5
theorem R3 : type_of% (And.intro @Ql1 <| And.intro @QlU <| And.intro @Qse <| And.intro @Qsg <| And.intro @Qsk <| And.intro @Qsl <| And.intro @QsU <| And.intro @d_b <| And.intro @d_i <| And.intro @d_s <| And.intro @d_d <| And.intro @QuN <| And.intro @QtX <| And.intro @QtJ <| And.intro @QtK <| And.intro @QtP <| And.intro @QtO <| And.intro @QtN <| And.intro @Qmq <| And.intro @Qjk <| And.intro @Qht <| And.intro @QuD <| And.intro @QyT <| And.intro @QyQ <| And.intro @QuC <| And.intro @QuB <| And.intro @QyS <| And.intro @QyP <| And.intro @QyM <| And.intro @QyO <| And.intro @QuA <| And.intro @QyR <| And.intro @QyN <| And.intro @Qms <| And.intro @Qjn <| And.intro @Qy0 <| And.intro @QyZ <| And.intro @QyU <| And.intro @QyY <| And.intro @QuI <| And.intro @QyV <| And.intro @QuJ <| And.intro @QyX <| And.intro @QrJ <| And.intro @QuM <| And.intro @QyW <| And.intro @QuL <| And.intro @QuK <| And.intro @QvL <| And.intro @QvK <| And.intro @QvJ <| @Qr5) := And.intro @Ql1 <| And.intro @QlU <| And.intro @Qse <| And.intro @Qsg <| And.intro @Qsk <| And.intro @Qsl <| And.intro @QsU <| And.intro @d_b <| And.intro @d_i <| And.intro @d_s <| And.intro @d_d <| And.intro @QuN <| And.intro @QtX <| And.intro @QtJ <| And.intro @QtK <| And.intro @QtP <| And.intro @QtO <| And.intro @QtN <| And.intro @Qmq <| And.intro @Qjk <| And.intro @Qht <| And.intro @QuD <| And.intro @QyT <| And.intro @QyQ <| And.intro @QuC <| And.intro @QuB <| And.intro @QyS <| And.intro @QyP <| And.intro @QyM <| And.intro @QyO <| And.intro @QuA <| And.intro @QyR <| And.intro @QyN <| And.intro @Qms <| And.intro @Qjn <| And.intro @Qy0 <| And.intro @QyZ <| And.intro @QyU <| And.intro @QyY <| And.intro @QuI <| And.intro @QyV <| And.intro @QuJ <| And.intro @QyX <| And.intro @QrJ <| And.intro @QuM <| And.intro @QyW <| And.intro @QuL <| And.intro @QuK <| And.intro @QvL <| And.intro @QvK <| And.intro @QvJ <| @Qr5
theorem R4 : type_of% (And.intro @Qr4 <| And.intro @Qr3 <| And.intro @QmH <| And.intro @Qjy <| And.intro @QoX <| And.intro @Qto <| And.intro @Qtp <| And.intro @QkW <| And.intro @QoW <| And.intro @Qtq <| And.intro @QgC <| And.intro @QnP <| And.intro @QnM <| And.intro @QnL <| And.intro @QnJ <| And.intro @QnO <| And.intro @QnK <| And.intro @QnQ <| And.intro @QnN <| And.intro @QgE <| And.intro @Qn3 <| And.intro @Qn1 <| And.intro @Qn0 <| And.intro @Qn2 <| And.intro @QoZ <| And.intro @Qk3 <| And.intro @Qo7 <| And.intro @Qla <| And.intro @QtC <| And.intro @QtF <| And.intro @QtE <| And.intro @QtD <| And.intro @Qom <| And.intro @Qkk <| And.intro @Qy9 <| And.intro @Qqa <| And.intro @QmA <| And.intro @Qqd <| And.intro @Qzc <| And.intro @Qzb <| And.intro @Qyb <| And.intro @Qx9 <| And.intro @Qx8 <| And.intro @Qya <| And.intro @Qyc <| And.intro @QpL <| And.intro @Qyg <| And.intro @Qye <| And.intro @Qyd <| And.intro @Qyf <| @QmB) := And.intro @Qr4 <| And.intro @Qr3 <| And.intro @QmH <| And.intro @Qjy <| And.intro @QoX <| And.intro @Qto <| And.intro @Qtp <| And.intro @QkW <| And.intro @QoW <| And.intro @Qtq <| And.intro @QgC <| And.intro @QnP <| And.intro @QnM <| And.intro @QnL <| And.intro @QnJ <| And.intro @QnO <| And.intro @QnK <| And.intro @QnQ <| And.intro @QnN <| And.intro @QgE <| And.intro @Qn3 <| And.intro @Qn1 <| And.intro @Qn0 <| And.intro @Qn2 <| And.intro @QoZ <| And.intro @Qk3 <| And.intro @Qo7 <| And.intro @Qla <| And.intro @QtC <| And.intro @QtF <| And.intro @QtE <| And.intro @QtD <| And.intro @Qom <| And.intro @Qkk <| And.intro @Qy9 <| And.intro @Qqa <| And.intro @QmA <| And.intro @Qqd <| And.intro @Qzc <| And.intro @Qzb <| And.intro @Qyb <| And.intro @Qx9 <| And.intro @Qx8 <| And.intro @Qya <| And.intro @Qyc <| And.intro @QpL <| And.intro @Qyg <| And.intro @Qye <| And.intro @Qyd <| And.intro @Qyf <| @QmB
theorem R5 : type_of% (And.intro @QgK <| And.intro @Qhz <| And.intro @Qwb <| And.intro @Qwa <| And.intro @Qv9 <| And.intro @Qvd <| And.intro @Qn9 <| And.intro @Qob <| And.intro @Qoa <| And.intro @Qn8 <| And.intro @QuF <| And.intro @QuH <| And.intro @QuG <| And.intro @QuE <| And.intro @Qmr <| And.intro @Qyk <| And.intro @Qyi <| And.intro @Qyj <| And.intro @Qsn <| And.intro @Qos <| And.intro @Qsp <| And.intro @Qsm <| And.intro @Qvg <| And.intro @Qve <| And.intro @Qqe <| And.intro @Qvf <| And.intro @Qqf <| And.intro @Qqg <| And.intro @Qt7 <| And.intro @QvD <| And.intro @QvH <| And.intro @Qqm <| And.intro @QvE <| And.intro @QvF <| And.intro @Qql <| And.intro @Qqk <| And.intro @Qfh <| And.intro @Qhu <| And.intro @QtZ <| And.intro @QpM <| And.intro @Ql5 <| And.intro @Quf <| And.intro @QtQ <| And.intro @Qtn <| And.intro @Qtm <| And.intro @Qtl <| And.intro @Qtk <| And.intro @Qtj <| And.intro @Qpk <| @QlG) := And.intro @QgK <| And.intro @Qhz <| And.intro @Qwb <| And.intro @Qwa <| And.intro @Qv9 <| And.intro @Qvd <| And.intro @Qn9 <| And.intro @Qob <| And.intro @Qoa <| And.intro @Qn8 <| And.intro @QuF <| And.intro @QuH <| And.intro @QuG <| And.intro @QuE <| And.intro @Qmr <| And.intro @Qyk <| And.intro @Qyi <| And.intro @Qyj <| And.intro @Qsn <| And.intro @Qos <| And.intro @Qsp <| And.intro @Qsm <| And.intro @Qvg <| And.intro @Qve <| And.intro @Qqe <| And.intro @Qvf <| And.intro @Qqf <| And.intro @Qqg <| And.intro @Qt7 <| And.intro @QvD <| And.intro @QvH <| And.intro @Qqm <| And.intro @QvE <| And.intro @QvF <| And.intro @Qql <| And.intro @Qqk <| And.intro @Qfh <| And.intro @Qhu <| And.intro @QtZ <| And.intro @QpM <| And.intro @Ql5 <| And.intro @Quf <| And.intro @QtQ <| And.intro @Qtn <| And.intro @Qtm <| And.intro @Qtl <| And.intro @Qtk <| And.intro @Qtj <| And.intro @Qpk <| @QlG
theorem R6 : type_of% (And.intro @QlI <| And.intro @QlH <| And.intro @Qlv <| And.intro @QlF <| And.intro @QlE <| And.intro @Qt4 <| And.intro @QxB <| And.intro @Qu4 <| And.intro @Qp8 <| And.intro @Qp9 <| And.intro @QsI <| And.intro @QsJ <| And.intro @Qov <| And.intro @QsH <| And.intro @Qf8 <| And.intro @Qkf <| And.intro @Qgs <| And.intro @Qbt <| And.intro @QbV <| And.intro @Qzx <| And.intro @Qzy <| And.intro @Quz <| And.intro @Quy <| And.intro @QtM <| And.intro @QmF <| And.intro @Qva <| And.intro @Qu9 <| And.intro @Qvb <| And.intro @Qvc <| And.intro @QoG <| And.intro @Qxz <| And.intro @Qs6 <| And.intro @QxA <| And.intro @Qs5 <| And.intro @Qor <| And.intro @Qxf <| And.intro @Qxe <| And.intro @Qxa <| And.intro @Qxd <| And.intro @Qxb <| And.intro @Qsd <| And.intro @Qxc <| And.intro @QsC <| And.intro @QsB <| And.intro @Qsc <| And.intro @Qxg <| And.intro @Qsb <| And.intro @QkV <| And.intro @Qkp <| @Qsv) := And.intro @QlI <| And.intro @QlH <| And.intro @Qlv <| And.intro @QlF <| And.intro @QlE <| And.intro @Qt4 <| And.intro @QxB <| And.intro @Qu4 <| And.intro @Qp8 <| And.intro @Qp9 <| And.intro @QsI <| And.intro @QsJ <| And.intro @Qov <| And.intro @QsH <| And.intro @Qf8 <| And.intro @Qkf <| And.intro @Qgs <| And.intro @Qbt <| And.intro @QbV <| And.intro @Qzx <| And.intro @Qzy <| And.intro @Quz <| And.intro @Quy <| And.intro @QtM <| And.intro @QmF <| And.intro @Qva <| And.intro @Qu9 <| And.intro @Qvb <| And.intro @Qvc <| And.intro @QoG <| And.intro @Qxz <| And.intro @Qs6 <| And.intro @QxA <| And.intro @Qs5 <| And.intro @Qor <| And.intro @Qxf <| And.intro @Qxe <| And.intro @Qxa <| And.intro @Qxd <| And.intro @Qxb <| And.intro @Qsd <| And.intro @Qxc <| And.intro @QsC <| And.intro @QsB <| And.intro @Qsc <| And.intro @Qxg <| And.intro @Qsb <| And.intro @QkV <| And.intro @Qkp <| @Qsv
theorem R7 : type_of% (And.intro @Qsu <| And.intro @Qsq <| And.intro @Qst <| And.intro @Qsr <| And.intro @Qss <| And.intro @Qot <| And.intro @QoY <| And.intro @Qk0 <| And.intro @Qtw <| And.intro @QxN <| And.intro @Qtv <| And.intro @QxM <| And.intro @QxK <| And.intro @QxH <| And.intro @QxJ <| And.intro @QxL <| And.intro @QxI <| And.intro @Qo6 <| And.intro @Qk9 <| And.intro @QxT <| And.intro @QxS <| And.intro @QxO <| And.intro @QxR <| And.intro @QxP <| And.intro @QtG <| And.intro @QtH <| And.intro @QxQ <| And.intro @QtI <| And.intro @QvT <| And.intro @QlO <| And.intro @Qgt <| And.intro @Qol <| And.intro @QhG <| And.intro @QxU <| And.intro @QxV <| And.intro @QtW <| And.intro @QpC <| And.intro @QpD <| And.intro @QlZ <| And.intro @QlV <| And.intro @Qtz <| And.intro @QzF <| And.intro @QzE <| And.intro @QvM <| And.intro @Qpw <| And.intro @Qpu <| And.intro @Qps <| And.intro @Qpt <| And.intro @Qpv <| @Qp2) := And.intro @Qsu <| And.intro @Qsq <| And.intro @Qst <| And.intro @Qsr <| And.intro @Qss <| And.intro @Qot <| And.intro @QoY <| And.intro @Qk0 <| And.intro @Qtw <| And.intro @QxN <| And.intro @Qtv <| And.intro @QxM <| And.intro @QxK <| And.intro @QxH <| And.intro @QxJ <| And.intro @QxL <| And.intro @QxI <| And.intro @Qo6 <| And.intro @Qk9 <| And.intro @QxT <| And.intro @QxS <| And.intro @QxO <| And.intro @QxR <| And.intro @QxP <| And.intro @QtG <| And.intro @QtH <| And.intro @QxQ <| And.intro @QtI <| And.intro @QvT <| And.intro @QlO <| And.intro @Qgt <| And.intro @Qol <| And.intro @QhG <| And.intro @QxU <| And.intro @QxV <| And.intro @QtW <| And.intro @QpC <| And.intro @QpD <| And.intro @QlZ <| And.intro @QlV <| And.intro @Qtz <| And.intro @QzF <| And.intro @QzE <| And.intro @QvM <| And.intro @Qpw <| And.intro @Qpu <| And.intro @Qps <| And.intro @Qpt <| And.intro @Qpv <| @Qp2
theorem R8 : type_of% (And.intro @Qp1 <| And.intro @List.getElem?_cons_zero.{0} <| And.intro @List.getElem?_cons_succ.{0} <| And.intro @List.getElem?_nil.{0} <| And.intro @List.length_cons.{0} <| And.intro @List.length_nil.{0} <| And.intro @List.length_set.{0} <| And.intro @List.set_cons_zero.{0} <| And.intro @List.set_cons_succ.{0} <| And.intro @List.take_succ_cons.{0} <| And.intro @List.take_zero.{0} <| And.intro @List.take_nil.{0} <| And.intro @List.drop_succ_cons.{0} <| And.intro @List.drop_zero.{0} <| And.intro @List.drop_nil.{0} <| And.intro @List.nil_append.{0} <| And.intro @List.cons_append.{0} <| And.intro @List.append_nil.{0} <| And.intro @Option.map_some.{0, 0} <| And.intro @Option.map_none.{0, 0} <| And.intro @Option.bind_some.{0, 0} <| And.intro @Option.some.injEq.{0} <| And.intro @Bool.not_true <| And.intro @Bool.not_false <| And.intro @Bool.and_true <| And.intro @Bool.true_and <| And.intro @Bool.or_true <| And.intro @Bool.true_or <| And.intro @Bool.or_false <| And.intro @Bool.false_or <| And.intro @Bool.false_and <| And.intro @Bool.and_false <| And.intro @Bool.not_not <| And.intro @decide_true <| @decide_false) := And.intro @Qp1 <| And.intro @List.getElem?_cons_zero.{0} <| And.intro @List.getElem?_cons_succ.{0} <| And.intro @List.getElem?_nil.{0} <| And.intro @List.length_cons.{0} <| And.intro @List.length_nil.{0} <| And.intro @List.length_set.{0} <| And.intro @List.set_cons_zero.{0} <| And.intro @List.set_cons_succ.{0} <| And.intro @List.take_succ_cons.{0} <| And.intro @List.take_zero.{0} <| And.intro @List.take_nil.{0} <| And.intro @List.drop_succ_cons.{0} <| And.intro @List.drop_zero.{0} <| And.intro @List.drop_nil.{0} <| And.intro @List.nil_append.{0} <| And.intro @List.cons_append.{0} <| And.intro @List.append_nil.{0} <| And.intro @Option.map_some.{0, 0} <| And.intro @Option.map_none.{0, 0} <| And.intro @Option.bind_some.{0, 0} <| And.intro @Option.some.injEq.{0} <| And.intro @Bool.not_true <| And.intro @Bool.not_false <| And.intro @Bool.and_true <| And.intro @Bool.true_and <| And.intro @Bool.or_true <| And.intro @Bool.true_or <| And.intro @Bool.or_false <| And.intro @Bool.false_or <| And.intro @Bool.false_and <| And.intro @Bool.and_false <| And.intro @Bool.not_not <| And.intro @decide_true <| @decide_false
theorem Qkl {n : Nat} : tmA n [] = [] := (rfl)
theorem Qii {n : Nat} {v : AV} {l : List AV} : tmA n (v :: l) = (n, v) :: tmA (n + 1) l := (rfl)
theorem tmA_z {v : AV} {l : List AV} : tmA 0 (v :: l) = (0, v) :: tmA 1 l := (rfl)
theorem QkL {n : Nat} : rsA n [] = [] := (rfl)
theorem Qix {n : Nat} {v : Option Qan} {l : List (Option Qan)} : rsA n (v :: l) = (n, v) :: rsA (n + 1) l := (rfl)
theorem rsA_z {v : Option Qan} {l : List (Option Qan)} : rsA 0 (v :: l) = (0, v) :: rsA 1 l := (rfl)
theorem Qtt {o : Bool} {s p : Nat} {x : Els} : Qan.own ⟨o, s, p, x⟩ = o := (rfl)
theorem SN : type_of% (And.intro @QgC <| And.intro @QnP <| And.intro @QnM <| And.intro @QnL <| And.intro @QnJ <| And.intro @QnO <| And.intro @QnK <| And.intro @QnQ <| And.intro @QnN <| And.intro @QgE <| And.intro @Qn3 <| And.intro @Qn1 <| And.intro @Qn0 <| And.intro @Qn2 <| And.intro @Qgs <| And.intro @List.map_cons.{0, 0} <| And.intro @List.map_nil.{0, 0} <| And.intro @List.nil_append.{0} <| And.intro @List.cons_append.{0} <| And.intro @List.append_nil.{0} <| And.intro @List.length_cons.{0} <| And.intro @List.length_nil.{0} <| And.intro @Bool.not_true <| And.intro @Bool.not_false <| And.intro @Nat.zero_add <| And.intro @Qkl <| And.intro @Qii <| And.intro @QkL <| And.intro @Qix <| @Qtt) := And.intro @QgC <| And.intro @QnP <| And.intro @QnM <| And.intro @QnL <| And.intro @QnJ <| And.intro @QnO <| And.intro @QnK <| And.intro @QnQ <| And.intro @QnN <| And.intro @QgE <| And.intro @Qn3 <| And.intro @Qn1 <| And.intro @Qn0 <| And.intro @Qn2 <| And.intro @Qgs <| And.intro @List.map_cons.{0, 0} <| And.intro @List.map_nil.{0, 0} <| And.intro @List.nil_append.{0} <| And.intro @List.cons_append.{0} <| And.intro @List.append_nil.{0} <| And.intro @List.length_cons.{0} <| And.intro @List.length_nil.{0} <| And.intro @Bool.not_true <| And.intro @Bool.not_false <| And.intro @Nat.zero_add <| And.intro @Qkl <| And.intro @Qii <| And.intro @QkL <| And.intro @Qix <| @Qtt
theorem RX : type_of% (And.intro @Qmd <| And.intro @Qpf <| And.intro @Qlk <| And.intro @Qpa <| And.intro @QpJ <| And.intro @Qu3 <| And.intro @Qu1 <| And.intro @Qu2 <| And.intro @QuZ @Qu0) := And.intro @Qmd <| And.intro @Qpf <| And.intro @Qlk <| And.intro @Qpa <| And.intro @QpJ <| And.intro @Qu3 <| And.intro @Qu1 <| And.intro @Qu2 <| And.intro @QuZ @Qu0
theorem RN : type_of% (And.intro R0 <| And.intro R1 <| And.intro R2 <| And.intro R3 <| And.intro R4 <| And.intro R5 <| And.intro R6 <| And.intro R7 <| And.intro R8 <| And.intro R9 <| And.intro R10 <| And.intro R11 <| And.intro R12 RX) := And.intro R0 <| And.intro R1 <| And.intro R2 <| And.intro R3 <| And.intro R4 <| And.intro R5 <| And.intro R6 <| And.intro R7 <| And.intro R8 <| And.intro R9 <| And.intro R10 <| And.intro R11 <| And.intro R12 RX
end
end Go.Proofs.Ytinlbiphjgpmmaa.V
end
section
namespace Go.Proofs.Ytinlbiphjgpmmaa.V
open Go
def Qfs (w : World) (av : AV) (v : Value) (G : Gh) : Prop := match av with
 | .deep p bo sz ys => HdR w (G []) p bo sz ys.length v ∧ Qbe w true sz G ys
 | .undef => False
 | av => QaQ w (fun _ => none) av v
def Qc5 (w : World) (avs : List AV) (cs : List Value) : Prop := avs.length = cs.length ∧ ∀ (c : Nat) av v, avs[c]? = some av → cs[c]? = some v → v.oneCell' = true ∧ ∃ G, Qfs w av v G
theorem Qc5.append {w : World} {a b : List AV} {cs ds : List Value} (h : Qc5 w a cs) (h' : Qc5 w b ds) : Qc5 w (a ++ b) (cs ++ ds) := by
 refine ⟨by simp [h.1, h'.1], fun c av v h1 h2 => ?_⟩
 by_cases hc : c < a.length
 ·rw [List.getElem?_append_left hc] at h1
  rw [List.getElem?_append_left (by rw [← h.1]; exact hc)] at h2
  exact h.2 c av v h1 h2
 ·rw [List.getElem?_append_right (by omega)] at h1
  rw [List.getElem?_append_right (by rw [← h.1]; omega), ← h.1] at h2
  exact h'.2 _ av v h1 h2
theorem Qfs.cellR {w : World} {B : Gh} {av : AV} {v : Value} {G : Gh} (h : Qfs w av v G) (hB : B [] = G []) : QaQ w B av v := by
 cases av with
 | deep p bo sz ys => simp only [QaQ, hB]; exact h.1
 | undef => exact h.elim
 | _ => first | exact h | exact (show False from h).elim
theorem Qqy {w : World} {sz b o n : Nat} {xs : Els} {cs : Nat → List Value} (hn : xs.length = n) (hsz : ∀ (i : Nat) el, xs[i]? = some el → el.length = sz)
 (hc : ∀ (i : Nat) el, xs[i]? = some el → Qc5 w el (cs i)) {cur : Array Value} (hb : Blk w b true cur) (hcur : ∀ i, i < n → ∀ (c : Nat) v, (cs i)[c]? = some v → cur[o + i * sz + c]? = some v) :
 ∃ G : Gh, G [] = some (b, o) ∧ Qbe w true sz G xs := by
 have hG : ∀ i c, ∃ G : Gh, ∀ av v, QG xs i c = some av → (cs i)[c]? = some v → v.oneCell' = true ∧ Qfs w av v G := fun i c => by
  cases h1 : QG xs i c with
  | none => exact ⟨fun _ => none, fun av v h => by cases h⟩
  | some av =>
   cases h2 : (cs i)[c]? with
   | none => exact ⟨fun _ => none, fun av v _ h => by cases h⟩
   | some v =>
    obtain ⟨el, e1, e2⟩ := QaB h1
    obtain ⟨h3, G, h4⟩ := (hc i el e1).2 c av v e2 h2
    refine ⟨G, fun av' v' e e' => ?_⟩
    injection e with e; injection e' with e'
    subst e; subst e'; exact ⟨h3, h4⟩
 let Gs : Nat → Nat → Gh := fun i c => Classical.choose (hG i c)
 have hGs : ∀ i c av v, QG xs i c = some av → (cs i)[c]? = some v → v.oneCell' = true ∧ Qfs w av v (Gs i c) := fun i c => Classical.choose_spec (hG i c)
 have hval : ∀ i c av, QG xs i c = some av → ∃ v, (cs i)[c]? = some v ∧ i < n := fun i c av h => by
  obtain ⟨el, e1, e2⟩ := QaB h
  have hl := (hc i el e1).1
  have hlt := (List.getElem?_eq_some_iff.1 e2).1
  exact ⟨_, List.getElem?_eq_getElem (by rw [← hl]; exact hlt), by have := (List.getElem?_eq_some_iff.1 e1).1; omega⟩
 let G : Gh := fun p => match p with | [] => some (b, o) | (i, c) :: q => Gs i c q
 refine ⟨G, rfl, Qbe.mk' ⟨hsz, ?_⟩ fun i c p bo sz' ys h => ?_⟩
 ·show ∃ cur, Blk w b true cur ∧ _
  refine ⟨cur, hb, fun i c cell h => ?_⟩
  obtain ⟨v, h1, h2⟩ := hval i c cell h
  obtain ⟨h3, h4⟩ := hGs i c cell v h h1
  exact ⟨v, hcur i h2 c v h1, h3, h4.cellR rfl⟩
 ·obtain ⟨v, h1, h2⟩ := hval i c _ h
  exact (hGs i c _ v h h1).2.2
def OpV (P : Program) (t : TypeId) {α : Type} (e : α → List AV) (Q : α → Prop) : Prop :=
 ∀ {H : Type} (enc : TypeId × Value → H) (W : World) (fuel : Nat) (cs : List Value) (x : DataW H × List MemPlace),
  DataW.trod enc P W 0 (fun _ => true) true fuel t cs = some x → ∃ a, Qc5 W (e a) cs ∧ Q a
theorem Qc3 {w : World} {av : AV} {v : Value} (h1 : v.oneCell' = true) {G : Gh} (h : Qfs w av v G) : Qc5 w [av] [v] :=
 ⟨rfl, fun c av' v' e1 e2 => by
  cases c with
  | zero => simp only [List.getElem?_cons_zero, Option.some.injEq] at e1 e2; subst e1; subst e2; exact ⟨h1, G, h⟩
  | succ c => simp at e1⟩
theorem Qk6 {P : Program} {t : TypeId} {k : IntKind} (hu : P.underlying t = some (.int k)) : OpV P t (fun n : Int => [.i k n]) (fun n => (Lit.int k n).wf = true) := by
 intro H enc W fuel cs x h
 obtain ⟨n, rfl, _, hw⟩ := DataW.trod_int hu h
 exact ⟨n, Qc3 rfl (G := fun _ => none) (by simp [Qfs, QaQ]), hw⟩
def I64 (n : Int) : Prop := -9223372036854775808 ≤ n ∧ n ≤ 9223372036854775807
theorem Qdi {P : Program} {t : TypeId} (hu : P.underlying t = some (.int .i64)) : OpV P t eI I64 := by
 intro H enc W fuel cs x h
 obtain ⟨n, hn, hw⟩ := Qk6 hu enc W fuel cs x h
 refine ⟨n, hn, ?_⟩
 simp [Lit.wf, IntKind.min, IntKind.max, IntKind.bits, IntKind.signed] at hw
 unfold I64
 omega
theorem opv_u8 {P : Program} {t : TypeId} (hu : P.underlying t = some (.int .u8)) : OpV P t e8 (fun n => (Lit.int .u8 n).wf = true) := Qk6 hu
theorem opv_bool {P : Program} {t : TypeId} (hu : P.underlying t = some .bool) : OpV P t eB (fun _ => True) := by
 intro H enc W fuel cs x h
 obtain ⟨n, rfl, _⟩ := DataW.trod_bool hu h
 exact ⟨n, Qc3 rfl (G := fun _ => none) (by simp [Qfs, QaQ]), trivial⟩
theorem opv_string {P : Program} {t : TypeId} (hu : P.underlying t = some .string) : OpV P t eS (fun s => s.size ≤ maxLen) := by
 intro H enc W fuel cs x h
 obtain ⟨s, rfl, _, hs⟩ := DataW.trod_string hu h
 exact ⟨s, Qc3 rfl (G := fun _ => none) (by simp [Qfs, QaQ]), hs⟩
theorem Qh4 {α : Type} {n : Nat} {p : Nat → α → Prop} (h : ∀ i, i < n → ∃ x, p i x) : ∃ l : List α, l.length = n ∧ ∀ (i : Nat) x, l[i]? = some x → p i x := by
 induction n with
 | zero => exact ⟨[], rfl, fun i x hx => by simp at hx⟩
 | succ n ih =>
  obtain ⟨l, hl, hp⟩ := ih (fun i hi => h i (Nat.lt_succ_of_lt hi))
  obtain ⟨x, hx⟩ := h n (Nat.lt_succ_self n)
  refine ⟨l ++ [x], by simp [hl], fun i y hy => ?_⟩
  rcases Nat.lt_or_ge i n with hi | hi
  ·rw [List.getElem?_append_left (by omega)] at hy
   exact hp i y hy
  ·rw [List.getElem?_append_right (by omega)] at hy
   have hi' : i = n := by
    rcases Nat.lt_or_ge n i with h1 | h1
    ·rw [List.getElem?_eq_none (by simp; omega)] at hy
     cases hy
    ·omega
   subst hi'
   rw [hl, Nat.sub_self] at hy
   simp at hy
   subst hy
   exact hx
theorem QdY {P : Program} {t e : TypeId} {α : Type} {en : α → List AV} {Q : α → Prop} {sz : Nat} (hu : P.underlying t = some (.slice e)) (hc : P.cellsOf e = sz) (hz : 0 < sz) (hl : ∀ a, (en a).length = sz) (he : OpV P e en Q) :
 OpV P t (eL sz true en) (fun xs => xs.length ≤ maxLen ∧ ∀ x ∈ xs, Q x) := by
 intro H enc W fuel cs x h
 rcases Go.Deep.open_slice hu h with ⟨rfl, _⟩ | ⟨a, len, cap, m, n, D, Pl, rfl, _, hlc, hm, hmm, _, hx⟩
 ·refine ⟨[], Qc3 rfl (G := fun _ => none) ?_, Nat.zero_le _, fun x hx => by cases hx⟩
  exact ⟨⟨rfl, none, rfl⟩, Qbe.mk' ⟨fun i el he => by simp at he, rfl⟩ (fun i c p bo sz' zs hc => by simp [QG] at hc)⟩
 ·have hmm' : m = cap := by simpa using hmm
  subst hmm'
  rw [hc] at hx
  have hx' : ∀ i, i < m → ∃ cs', W.cells? 0 (a.add (i * sz)) sz = some cs' ∧ ∃ y, Qc5 W (en y) cs' ∧ Q y := fun i hi => by
   obtain ⟨cs', h1, h2⟩ := hx i hi
   obtain ⟨y, h3, h4⟩ := he enc W n cs' _ h2
   exact ⟨cs', h1, y, h3, h4⟩
  let cs : Nat → List Value := fun i => if h : i < m then Classical.choose (hx' i h) else []
  have hcs : ∀ i, i < m → W.cells? 0 (a.add (i * sz)) sz = some (cs i) ∧ ∃ y, Qc5 W (en y) (cs i) ∧ Q y := fun i h => by
   have := Classical.choose_spec (hx' i h)
   simp only [cs, dif_pos h]; exact this
  obtain ⟨l, hll, hp⟩ := Qh4 (n := len) (p := fun i (y : α) => Qc5 W (en y) (cs i) ∧ Q y) (fun i hi => (hcs i (by omega)).2)
  have hml : len ≤ maxLen := Nat.le_trans hlc hm
  refine ⟨l, ?_, by omega, fun x hx => ?_⟩
  ·rcases Nat.eq_zero_or_pos m with h0 | h0
   ·subst h0
    have : l = [] := List.length_eq_zero_iff.1 (by omega)
    subst this
    have : len = 0 := by omega
    subst this
    refine Qc3 rfl (G := fun _ => none) ?_
    exact ⟨⟨rfl, some a, rfl⟩, Qbe.mk' ⟨fun i el he => by simp at he, rfl⟩ (fun i c p bo sz' zs hc => by simp [QG] at hc)⟩
   ·
    have at' : ∀ i, i < m → ∀ c, c < sz → W.cell? ((a.add (i * sz)).add c) = (cs i)[c]? ∧ c < (cs i).length := fun i hi c hcz => by
     obtain ⟨_, h2, h3⟩ := World.cells?_some (hcs i hi).1
     exact ⟨h3 c hcz, by omega⟩
    obtain ⟨v0, hv0⟩ : ∃ v, W.cell? a = some v := by
     have h := at' 0 h0 0 hz
     have e0 : (a.add (0 * sz)).add 0 = a := by simp [Addr.add]
     rw [e0, List.getElem?_eq_getElem h.2] at h
     exact ⟨_, h.1⟩
    obtain ⟨b, o, spot⟩ := a
    have hsp : spot = none ∧ ∃ cur e fr, W.heap[b]? = some (.cells cur e fr) := by
     unfold World.cell? at hv0
     split at hv0
     ·rename_i c e fr hh
      split at hv0
      ·cases hv0
      ·rename_i hs
       refine ⟨by cases spot with | none => rfl | some _ => simp at hs, c, e, fr, hh⟩
     ·cases hv0
    obtain ⟨rfl, cur, ty, fr, hW⟩ := hsp
    have cell : ∀ k v, W.cell? ⟨b, k, none⟩ = some v → cur[k]? = some v := fun k v h => by
     unfold World.cell? at h
     simp only [hW] at h
     simpa using h
    have hcur : ∀ i, i < m → ∀ (c : Nat) v, (cs i)[c]? = some v → cur[o + i * sz + c]? = some v := fun i hi c v h => by
     have hcl : c < sz := by
      obtain ⟨_, h2, _⟩ := World.cells?_some (hcs i hi).1
      have := (List.getElem?_eq_some_iff.1 h).1
      omega
     have h1 := (at' i hi c hcl).1
     rw [h, Go.Deep.add_add] at h1
     refine cell _ v ?_
     rw [← h1]
     congr 1
     unfold Addr.add
     split
     ·rename_i h9; rw [show o + i * sz + c = o by omega]
     ·simp only [Addr.mk.injEq, and_true, true_and]; omega
    have hbig : Big W b (o + m * sz, false) := by
     refine ⟨cur, ty, fr, hW, ?_, fun h => by cases h⟩
     obtain ⟨k, rfl⟩ : ∃ k, m = k + 1 := ⟨m - 1, by omega⟩
     have h1 := at' k (by omega) (sz - 1) (by omega)
     have h2 := hcur k (by omega) (sz - 1) _ (List.getElem?_eq_getElem h1.2)
     have h3 := (Array.getElem?_eq_some_iff.1 h2).1
     rw [Nat.succ_mul]; omega
    have hsz : ∀ (i : Nat) el, (l.map en)[i]? = some el → el.length = sz := fun i el h => by
     rw [List.getElem?_map] at h
     cases h2 : l[i]? with
     | none => rw [h2] at h; cases h
     | some y => rw [h2] at h; simp only [Option.map_some, Option.some.injEq] at h; rw [← h]; exact hl y
    obtain ⟨G, hG, hT⟩ := Qqy (w := W) (sz := sz) (b := b) (o := o) (n := len) (xs := l.map en) (cs := cs) (by simp [hll]) hsz (fun i el h => by
     rw [List.getElem?_map] at h
     cases h2 : l[i]? with
     | none => rw [h2] at h; cases h
     | some y => rw [h2] at h; simp only [Option.map_some, Option.some.injEq] at h; rw [← h]; exact (hp i y h2).1) (cur := cur) ⟨ty, fr, hW, fun h => by cases h⟩ (fun i hi => hcur i (by omega))
    refine Qc3 rfl (G := G) ⟨?_, hT⟩
    rw [hG]
    exact ⟨m, by rw [List.length_map, hll], by rw [List.length_map, hll]; exact hlc, hbig⟩
  ·obtain ⟨i, hi⟩ := List.getElem?_of_mem hx
   exact (hp i x hi).2
def Qwe (P : Program) (fs : List Field) (o n : Nat) {α : Type} (e : α → List AV) (Q : α → Prop) : Prop :=
 ∀ {H : Type} (enc : TypeId × Value → H) (W : World) (fuel : Nat) (cs : List Value), cs.length = n →
  (∀ (i : Nat) (f : Field), fs[i]? = some f → ∃ y, DataW.trod enc P W 0 (fun _ => true) true fuel f.type ((cs.drop (f.offset - o)).take (P.cellsOf f.type)) = some y) → ∃ a, Qc5 W (e a) cs ∧ Q a
theorem Qgm {P : Program} {f : Field} {o n : Nat} {α : Type} {e : α → List AV} {Q : α → Prop} (ho : f.offset = o) (hc : P.cellsOf f.type = n) (h : OpV P f.type e Q) : Qwe P [f] o n e Q := by
 intro H enc W fuel cs hl hf
 obtain ⟨y, hy⟩ := hf 0 f rfl
 rw [ho, Nat.sub_self, List.drop_zero, hc, List.take_of_length_le (by omega)] at hy
 exact h enc W fuel cs y hy
theorem QcV {P : Program} {f : Field} {fs : List Field} {o n k : Nat} {α β : Type} {e : α → List AV} {Q : α → Prop} {e' : β → List AV} {Q' : β → Prop} (ho : f.offset = o) (hc : P.cellsOf f.type = n) (h : OpV P f.type e Q)
 (hs : fs.all (fun g => decide (o + n ≤ g.offset)) = true) (h' : Qwe P fs (o + n) k e' Q') : Qwe P (f :: fs) o (n + k) (fun x : α × β => e x.1 ++ e' x.2) (fun x => Q x.1 ∧ Q' x.2) := by
 intro H enc W fuel cs hl hf
 obtain ⟨y, hy⟩ := hf 0 f rfl
 rw [ho, Nat.sub_self, List.drop_zero, hc] at hy
 obtain ⟨a, ha, hq⟩ := h enc W fuel _ y hy
 obtain ⟨b, hb, hq'⟩ := h' enc W fuel (cs.drop n) (by rw [List.length_drop]; omega) (fun i g hg => by
  obtain ⟨z, hz⟩ := hf (i + 1) g hg
  have hle : o + n ≤ g.offset := of_decide_eq_true (List.all_eq_true.1 hs g (List.mem_of_getElem? hg))
  refine ⟨z, ?_⟩
  rw [List.drop_drop, show n + (g.offset - (o + n)) = g.offset - o by omega]
  exact hz)
 refine ⟨(a, b), ?_, hq, hq'⟩
 have := ha.append hb
 rwa [List.take_append_drop] at this
theorem Qek {P : Program} {t : TypeId} {fs : Array Field} {n : Nat} {α β : Type} {e : α → List AV} {Q : α → Prop} (g : α → β) (f : β → α) {e' : β → List AV} (hg : ∀ x, f (g x) = x) (he : ∀ x, e' x = e (f x)) (hu : P.underlying t = some (.struct fs)) (hc : P.cellsOf t = n)
 (h : Qwe P fs.toList 0 n e Q) : OpV P t e' (fun x => Q (f x)) := by
 intro H enc W fuel cs x hx
 obtain ⟨xs, k, _, _, hlen, hsz, hfs⟩ := DataW.trod_struct hu hx
 obtain ⟨a, ha, hq⟩ := h enc W k cs (by rw [hlen, hc]) (fun i fd hi => by
  have hi' : fs[i]? = some fd := by simpa using hi
  have hlt : i < xs.length := by
   rw [hsz]
   rcases Nat.lt_or_ge i fs.size with h3 | h3
   ·exact h3
   ·rw [Array.getElem?_eq_none h3] at hi'
    cases hi'
  have := hfs i fd hi'
  rw [List.getElem?_eq_getElem hlt] at this
  exact ⟨_, by rw [Nat.sub_zero]; exact this⟩)
 refine ⟨g a, ?_, ?_⟩
 ·rw [he, hg]; exact ha
 ·show Q (f (g a)); rw [hg]; exact hq
def ArgV (w : World) (av : AV) (v : Value) : Prop := (∃ gs, HV w av v gs) ∧ (QaY [av]).all (fun R => !R.own) = true
theorem Qrp {w : World} {av : AV} {v : Value} {G : Gh} (h : Qfs w av v G) (hb : ∀ p bo sz ys, av = .deep p bo sz ys → bo = true) : ∃ gs, HC w av v gs := by
 unfold Qfs at h
 split at h
 ·rename_i p bo sz ys
  obtain rfl := hb _ _ _ _ rfl
  exact ⟨[G], G, rfl, h.1, h.2⟩
 ·exact h.elim
 ·rename_i h1 h2
  refine ⟨[], ?_⟩
  unfold HC
  split
  ·exact absurd rfl (h1 _ _ _ _)
  ·exact absurd rfl h2
  ·simp only [QaQ] at h
  ·exact ⟨rfl, h⟩
theorem QpK {w : World} : ∀ {avs : List AV} {cs : List Value}, Qc5 w avs cs → (∀ av ∈ avs, ∀ p bo sz ys, av = .deep p bo sz ys → bo = true) → ∃ gs, HCs w avs cs gs
 | [], cs, h, _ => by
  have : cs = [] := List.length_eq_zero_iff.1 h.1.symm
  subst this
  exact ⟨[], rfl, rfl⟩
 | av :: avs, cs, h, hb => by
  cases cs with
  | nil => simp [Qc5] at h
  | cons v cs =>
   obtain ⟨_, G, hG⟩ := h.2 0 av v rfl rfl
   obtain ⟨g1, h1⟩ := Qrp hG (hb av (List.mem_cons_self ..))
   obtain ⟨g2, h2⟩ := QpK (avs := avs) (cs := cs) ⟨by have := h.1; simpa using this, fun c a u e1 e2 => h.2 (c + 1) a u e1 e2⟩ (fun a ha => hb a (List.mem_cons_of_mem _ ha))
   exact ⟨g1 ++ g2, v, cs, g1, g2, rfl, rfl, h1, h2⟩
theorem argv_slice {P : Program} {t : TypeId} {α : Type} {en : α → List AV} {sz : Nat} {Q : List α → Prop} (h : OpV P t (eL sz true en) Q) {H : Type} {enc : TypeId × Value → H} {W : World} {v : Value} {x : DataW H} {ps : List MemPlace} {e : TypeId} (hu : P.underlying t = some (.slice e)) {r : Reach} {b0 : Nat}
 (hv : Value.okWide P W r b0 t v) (hf : DataW.Trod enc P W 0 (fun _ => true) true t v x ps) : ∃ l : List α, (∃ gs, HV W (.deep false true sz (l.map en)) v gs) ∧ Q l := by
 obtain ⟨a, len, cap, rfl⟩ := Go.WideShapes.okWide_slice hu hv
 obtain ⟨fuel, hf⟩ := hf
 obtain ⟨l, hC, hq⟩ := h enc W fuel _ _ hf
 obtain ⟨_, G, hG⟩ := hC.2 0 _ _ rfl rfl
 exact ⟨l, Qrp hG (fun _ _ _ _ e => by injection e with _ e; exact e.symm), hq⟩
theorem argv_int {P : Program} {t : TypeId} {H : Type} {enc : TypeId × Value → H} {W : World} {v : Value} {x : DataW H} {ps : List MemPlace} (hu : P.underlying t = some (.int .i64)) {r : Reach} {b0 : Nat}
 (hv : Value.okWide P W r b0 t v) (hf : DataW.Trod enc P W 0 (fun _ => true) true t v x ps) : ∃ n : Int, (∃ gs, HV W (.i .i64 n) v gs) ∧ I64 n := by
 obtain ⟨n, rfl⟩ := Go.WideShapes.okWide_int hu hv
 obtain ⟨fuel, hf⟩ := hf
 obtain ⟨n', hC, hq⟩ := Qdi hu enc W fuel _ _ hf
 obtain ⟨_, G, hG⟩ := hC.2 0 _ _ rfl rfl
 refine ⟨n', Qrp hG (fun _ _ _ _ e => by cases e), hq⟩
theorem Qic {P : Program} {t : TypeId} {fs : Array Field} {α : Type} {e : α → List AV} {Q : α → Prop} (hu : P.underlying t = some (.struct fs)) (h : OpV P t e Q) (hb : ∀ a, ∀ av ∈ e a, ∀ p bo sz ys, av = .deep p bo sz ys → bo = true) {H : Type} {enc : TypeId × Value → H} {W : World} {r : Reach} {b0 : Nat} {v : Value}
 {x : DataW H} {ps : List MemPlace} (hv : Value.okWide P W r b0 t v) (hf : DataW.Trod enc P W 0 (fun _ => true) true t v x ps) : ∃ a : α, (∃ gs, HV W (.agg (e a)) v gs) ∧ Q a := by
 obtain ⟨cs, rfl, _⟩ := Go.WideShapes.okWide_struct hu hv
 obtain ⟨fuel, hf⟩ := hf
 obtain ⟨a, hC, hq⟩ := h enc W fuel _ _ hf
 obtain ⟨gs, hg⟩ := QpK hC (hb a)
 exact ⟨a, ⟨gs, cs, rfl, by simpa [Value.cells] using hg⟩, hq⟩
theorem Qrn {w : World} : HVs w [] [] [] := ⟨rfl, rfl⟩
theorem Qny {w : World} {av : AV} {v : Value} {g : List Gh} {avs : List AV} {vs : List Value} {gs : List Gh} (h : HV w av v g) (h' : HVs w avs vs gs) : HVs w (av :: avs) (v :: vs) (g ++ gs) := ⟨v, vs, g, gs, rfl, rfl, h, h'⟩
theorem QlN {P : Program} {f : Nat} {ds : List AV} {r : Bool} {bs : List (Option Els)} (h : Ctr P f ds ([.b r], bs)) (hro : (QaY ds).all (fun R => !R.own) = true) {W : World} {args : List Value} {gs : List Gh} (hv : HVs W ds args gs) :
 Calls P f args.toArray W fun e w' => e = .returned (.bool r) ∧ Go.RowKit.Below W.heap.size W w' := by
 have hno : ∀ k ρ b, ¬ KOf (QaY ds) gs false k ρ b := fun k ρ b ⟨R, G, e1, e2, e3⟩ => by
  have := List.all_eq_true.1 hro R (List.mem_of_getElem? e1)
  obtain ⟨s, ys, o, h1, h2⟩ := e3
  have hr : R.own = false := by simpa using this
  rw [hr] at h1
  have := Qcn ρ h1
  cases this
 have hrg := (Qc2 hv 0).1
 refine (h W (fun b => b < W.heap.size) args gs (fun b hb => hb) hv (fun k ρ b ⟨R, G, e1, e2, e3⟩ => ?_) (fun k ρ b hk => absurd hk (hno k ρ b)) (fun k ρ k' ρ' b hk => absurd hk (hno k ρ b))).mono ?_
 ·obtain ⟨s, ys, o, h1, h2⟩ := e3
  rw [Qdd ds 0] at hrg
  obtain ⟨G', e2', ht⟩ := hrg.2 k R e1
  rw [e2] at e2'; injection e2' with e2'; subst e2'
  have h3 := (ht ρ s _ ys h1).2
  have h4 : (G.from' ρ) [] = some (b, o) := by simpa [Gh.from'] using h2
  rw [h4] at h3
  obtain ⟨cur, ⟨ty, fr, h5, _⟩, _⟩ := h3
  rcases Nat.lt_or_ge b W.heap.size with h | h
  ·exact h
  ·rw [Array.getElem?_eq_none h] at h5; cases h5
 ·rintro e w' ⟨v, vs, gs', gb, rfl, hp⟩
  have hres := hp.res
  obtain ⟨v1, vs1, g1, g2, e1, e2, h1, h2⟩ := hres
  obtain ⟨e3, e4⟩ := h2
  subst e3
  have hv1 : v1 = .bool r := by
   have : HC w' (.b r) v1 g1 := h1
   have := this.2
   simpa [QaQ] using this
  refine ⟨by rw [hp.val, e1, hv1]; rfl, hp.os, hp.tape, hp.output, hp.size, fun k hk => hp.block k hk fun k' ρ hk' => hno _ _ _ hk'⟩
end Go.Proofs.Ytinlbiphjgpmmaa.V
end
section
namespace Go.Proofs.Ytinlbiphjgpmmaa.V
open Go
def stP (k r j d i c : Nat) (vs : List AV) (asx : List Nat) (a : Option (Nat × Bool × Els)) (R : Option Qan) (rs : Rs) : Option (AV × Rs) := match R, a with
 | some R, some (_, false, ys) => stQ k r j d i c vs asx R ys[i]? rs
 | _, _ => none
where stQ (k r j d i c : Nat) (vs : List AV) (asx : List Nat) (R : Qan) (el : Option (List AV)) (rs : Rs) : Option (AV × Rs) := match el with
 | some el => if (vs.length == k && decide (c + k ≤ el.length) && !asx.contains r && decide asx.Nodup) = true then some (.undef, up' (kill rs asx) r (some { R with pv := if Qa2 vs then R.pv + 1 else R.pv, xs := QbC R.xs [(j, d)] fun ys => Qaq ys i c vs })) else none
 | none => none
theorem Qsf {rs : Rs} {k r j d pv i c : Nat} {vs : List AV} {asx : List Nat} : Qul k (.ptr r [(j, d)] pv i c) (some (vs, asx)) rs = stP k r j d i c vs asx (lkA [(j, d)] pv (rs r)) (rs r) rs := by
 simp only [Qul, Qb5, stP]
 cases rs r with
 | none => rfl
 | some R =>
  simp only [Option.bind_some]
  cases lkA [(j, d)] pv (some R) with
  | none => rfl
  | some a =>
   obtain ⟨s, ro, ys⟩ := a
   cases ro
   ·simp only [Option.map_some, Option.bind_some, stP.stQ]
    cases ys[i]? with
    | none => rfl
    | some el =>
     simp only [Option.bind_some]
     congr 1
     simp [and_assoc, List.contains_iff_mem]
   ·simp only [Option.map_some, Option.bind_some, Bool.true_eq_false, false_and, ↓reduceIte]
    cases ys[i]? <;> rfl
theorem Qsj {rs : Rs} {k r j d i c sz : Nat} {vs : List AV} {asx : List Nat} {R : Qan} {ys : Els} : stP k r j d i c vs asx (some (sz, false, ys)) (some R) rs = stP.stQ k r j d i c vs asx R ys[i]? rs := (rfl)
def mdC (xs : Els) (j d : Nat) (g : Els → Els) (cell : Option AV) : Els := match cell with
 | some (.deep p bo sz ys) => Qaq xs j d [.deep p bo sz (g ys)]
 | _ => xs
theorem Qsh {k r j d i c sz pv : Nat} {vs : List AV} {asx : List Nat} {xs : Els} {el : List AV} {l : List (Nat × Option Qan)} (h : (vs.length == k && decide (c + k ≤ el.length) && !asx.contains r && decide asx.Nodup) = true) (hd : Qa2 vs = false) :
 stP.stQ k r j d i c vs asx ⟨true, sz, pv, xs⟩ (some el) (rsL l) = some (.undef, up' (kill (rsL l) asx) r (some ⟨true, sz, pv, mdC xs j d (fun ys => Qaq ys i c vs) (QG xs j d)⟩)) := by
 simp only [stP.stQ, h, hd, ↓reduceIte, Bool.false_eq_true]; rfl
theorem Qsi {k r j d i c sz pv : Nat} {vs : List AV} {asx : List Nat} {xs : Els} {el : List AV} {l : List (Nat × Option Qan)} (h : (vs.length == k && decide (c + k ≤ el.length) && !asx.contains r && decide asx.Nodup) = true) (hd : Qa2 vs = true) :
 stP.stQ k r j d i c vs asx ⟨true, sz, pv, xs⟩ (some el) (rsL l) = some (.undef, up' (kill (rsL l) asx) r (some ⟨true, sz, pv + 1, mdC xs j d (fun ys => Qaq ys i c vs) (QG xs j d)⟩)) := by
 simp only [stP.stQ, h, hd, ↓reduceIte]; rfl
theorem QtL {xs : Els} {j d : Nat} {g : Els → Els} {p bo : Bool} {sz : Nat} {ys : Els} : mdC xs j d g (some (.deep p bo sz ys)) = Qaq xs j d [.deep p bo sz (g ys)] := (rfl)
def hol (xs : Els) (i c : Nat) : Els := Qaq xs i c [.undef]
def hcU (xs : Els) (i c : Nat) (cell : Option AV) : Option AV := match cell with
 | some _ => some .undef
 | none => QG (Qaq xs i c [.undef]) i c
theorem Qi6 {xs : Els} {i c : Nat} : QG (hol xs i c) i c = hcU xs i c (QG xs i c) := by
 cases e : QG xs i c with
 | none => rfl
 | some v =>
  obtain ⟨el, h1, h2⟩ := QaB e
  have hc : c < el.length := (List.getElem?_eq_some_iff.1 h2).1
  simp only [hol, hcU]
  rw [QbL h1 (by simp; omega), if_pos ⟨rfl, Nat.le_refl _, by simp⟩]
  simp
theorem Qua {xs : Els} {i c : Nat} {v : AV} : hcU xs i c (some v) = some .undef := (rfl)
def hsE (xs : Els) (i c : Nat) (v : AV) (cell : Option AV) : Els := match cell with
 | some _ => Qaq xs i c [v]
 | none => Qaq (hol xs i c) i c [v]
theorem Ql2 {xs : Els} {i c : Nat} {v : AV} : Qaq (hol xs i c) i c [v] = hsE xs i c v (QG xs i c) := by
 cases e : QG xs i c with
 | none => rfl
 | some w =>
  obtain ⟨el, h1, h2⟩ := QaB e
  have hc : c < el.length := (List.getElem?_eq_some_iff.1 h2).1
  have hi : i < xs.length := (List.getElem?_eq_some_iff.1 h1).1
  simp only [hsE, hol]
  have e1 : (Qaq xs i c [.undef])[i]? = some (el.take c ++ [AV.undef] ++ el.drop (c + 1)) := by rw [QdW h1, if_pos rfl]; rfl
  have hl : (el.take c).length = c := by simp; omega
  have gen : ∀ a b : List AV, a.length = c → (a ++ [AV.undef] ++ b).take c ++ [v] ++ (a ++ [AV.undef] ++ b).drop (c + 1) = a ++ [v] ++ b := fun a b ha => by
   have h1 : (a ++ [AV.undef] ++ b).take c = a := by rw [List.append_assoc]; exact List.take_left' ha
   have h2 : (a ++ [AV.undef] ++ b).drop (c + 1) = b := List.drop_left' (by simp [ha])
   rw [h1, h2]
  simp only [Qaq, h1, List.getElem?_set_self hi, List.set_set, List.length_cons, List.length_nil]
  congr 1
  exact gen _ _ hl
theorem Qt8 {xs : Els} {i c : Nat} {v w : AV} : hsE xs i c v (some w) = Qaq xs i c [v] := (rfl)
theorem Qt9 {el : List AV} {l : Els} {c : Nat} : hol (el :: l) 0 c = (el.take c ++ [.undef] ++ el.drop (c + 1)) :: l := (rfl)
def gQ (n r i c sz off len pv : Nat) (cell : Option AV) (R : Option Qan) (rs : Rs) : Option (AV × Rs × List Pl) := match R, cell with
 | some ⟨true, s', p, xs⟩, some (.deep q false s ys) => if pv = p then some (.slc n [] 0 sz off len, up' (up' rs r (some ⟨true, s', p, hol xs i c⟩)) n (some ⟨true, s, 0, ys⟩), if q then [] else [⟨r, i, c, n⟩]) else some (.slc r [(i, c)] pv sz off len, rs, [])
 | _, _ => some (.slc r [(i, c)] pv sz off len, rs, [])
theorem Qwn {rs : Rs} {n r i c pv sz off len : Nat} : QbI n rs (.slc r [(i, c)] pv sz off len) = gQ n r i c sz off len pv ((rs r).bind fun R => QG R.xs i c) (rs r) rs := by
 simp only [QbI, QbN, QcJ, gQ, QcE]
 cases e : rs r with
 | none => rfl
 | some R =>
  obtain ⟨o, s', p, xs⟩ := R
  simp only [Option.bind_some, Qan.arr]
  by_cases hp : pv = p
  ·subst hp
   simp only [↓reduceIte, QaC]
   cases e2 : QG xs i c with
   | none => cases o <;> rfl
   | some v =>
    cases v with
    | deep q bo s ys => cases o <;> cases bo <;> cases q <;> simp [Qx5, hol, QbZ, QbC, e2]
    | _ => cases o <;> rfl
  ·simp only [hp, ↓reduceIte]
   cases o <;> cases QG xs i c <;> try rfl
   rename_i v
   cases v <;> try rfl
   rename_i q bo s ys
   cases bo
   ·simp only [Option.map_none, hp, ↓reduceIte]
   ·rfl
theorem Qyr {n r i c sz off len pv s s' : Nat} {xs ys : Els} {m : List (Nat × Option Qan)} : gQ n r i c sz off len pv (some (.deep false false s ys)) (some ⟨true, s', pv, xs⟩) (rsL m) = some (.slc n [] 0 sz off len, rsL ((n, some ⟨true, s, 0, ys⟩) :: (r, some ⟨true, s', pv, hol xs i c⟩) :: m), [⟨r, i, c, n⟩]) := by
 simp only [gQ, ↓reduceIte, Bool.false_eq_true, QcB]
theorem Qyt {rs : Rs} {n r i c sz off len pv s : Nat} {p : Bool} {R : Option Qan} {ys : Els} : gQ n r i c sz off len pv (some (.deep p true s ys)) R rs = some (.slc r [(i, c)] pv sz off len, rs, []) := by
 cases R with
 | none => rfl
 | some R => obtain ⟨o, s', q, xs⟩ := R; cases o <;> rfl
theorem Qys {rs : Rs} {n r i c sz off len pv s' q : Nat} {cell : Option AV} {xs : Els} : gQ n r i c sz off len pv cell (some ⟨false, s', q, xs⟩) rs = some (.slc r [(i, c)] pv sz off len, rs, []) := by
 cases cell with
 | none => rfl
 | some v => cases v <;> rfl
theorem Qxh {rs : Rs} {n r pv sz off len : Nat} : QbI n rs (.slc r [] pv sz off len) = some (.slc r [] pv sz off len, rs, []) := (rfl)
theorem Qxj {rs : Rs} {n k : Nat} : QbI n rs (.nl k) = some (.nl k, rs, []) := (rfl)
theorem Qxi {rs : Rs} {n r pv i c : Nat} {q : QaI} : QbI n rs (.ptr r q pv i c) = some (.ptr r q pv i c, rs, []) := (rfl)
def sA (a : List AV × Rs × List Pl) : Option (AV × Rs × List Pl) := some (.agg a.1, a.2)
theorem Qxv {cs : List AV} {a : Rs × List Pl} : sA (cs, a) = some (.agg cs, a) := (rfl)
theorem Qxk {rs : Rs} {n : Nat} {cs : List AV} (h : decide (cs.length ≤ 16) = true) : QbI n rs (.agg cs) = sA (Qbf n rs cs) := by
 have h' : cs.length ≤ 16 := by simpa using h
 simp only [QbI, if_pos h', sA]
def QjT (v : AV) (a : List AV × Rs × List Pl) : List AV × Rs × List Pl := (v :: a.1, a.2)
theorem Ql7 {v : AV} {cs : List AV} {a : Rs × List Pl} : QjT v (cs, a) = (v :: cs, a) := (rfl)
theorem QoB {rs : Rs} {n : Nat} : Qbf n rs [] = ([], rs, []) := (rfl)
theorem Qxt {rs : Rs} {n : Nat} {x : Bool} {cs : List AV} : Qbf n rs (.b x :: cs) = QjT (.b x) (Qbf (n + 1) rs cs) := (rfl)
theorem Qxs {rs : Rs} {n : Nat} {k : IntKind} {x : Int} {cs : List AV} : Qbf n rs (.i k x :: cs) = QjT (.i k x) (Qbf (n + 1) rs cs) := (rfl)
theorem Qxo {rs : Rs} {n : Nat} {x : ByteArray} {cs : List AV} : Qbf n rs (.s x :: cs) = QjT (.s x) (Qbf (n + 1) rs cs) := (rfl)
theorem Qxr {rs : Rs} {n k : Nat} {cs : List AV} : Qbf n rs (.nl k :: cs) = QjT (.nl k) (Qbf (n + 1) rs cs) := (rfl)
theorem Qxp {rs : Rs} {n r pv sz off len : Nat} {cs : List AV} : Qbf n rs (.slc r [] pv sz off len :: cs) = QjT (.slc r [] pv sz off len) (Qbf (n + 1) rs cs) := (rfl)
def BG (d : Option Nat) (tm : Tm) (rs0 : Rs) (pl : List Pl) (r : Option (AV × Rs)) (k : Tm × Rs → Option (Tm × Rs)) : Option (Tm × Rs) := r.bind fun p => B0 d tm (some (p.1, Qcm rs0 p.2 pl)) k
theorem QzD {d : Option Nat} {tm : Tm} {rs0 rs : Rs} {pl : List Pl} {v : AV} {k : Tm × Rs → Option (Tm × Rs)} : BG d tm rs0 pl (some (v, rs)) k = B0 d tm (some (v, Qcm rs0 rs pl)) k := (rfl)
def Zg (call : QaZ) (n : Nat) (d : Option Nat) (t : Nat) (i : I) (a : Option (AV × Rs × List Pl)) (tm : Tm) (k : Tm × Rs → Option (Tm × Rs)) : Option (Tm × Rs) := match a with
 | some a => BG d (up' tm t a.1) a.2.1 a.2.2 (evI call n (up' tm t a.1) a.2.1 i) k
 | none => none
theorem Qo0 {call : QaZ} {n t : Nat} {d : Option Nat} {i : I} {os : List Op'} {l : List (Nat × AV)} {rs : Rs} (h : i.isCall = true) : Qbu call n (oz d none [t] i :: os) (Qaw l, rs) = Zg call n d t i (QbI (n + 16) rs (Qaw l t)) (Qaw l) (Qbu call (n + 80) os) := by
 simp only [Qbu, oz, QdP, Qb7, Option.bind_some, ↓reduceIte, List.length_cons, List.length_nil, Qbs, h, Nat.zero_add, show (1 ≤ 4) = True from eq_true (by decide), Bool.false_eq_true]
 cases QbI (n + 16) rs (Qaw l t) with
 | none => rfl
 | some a =>
  simp only [Option.bind_some, Option.map_some, Zg, BG, B0, List.append_nil]
  cases evI call n (up' (Qaw l) t a.1) a.2.1 i <;> rfl
theorem Qzg {call : QaZ} {n t : Nat} {d : Option Nat} {i : I} {v : AV} {pl : List Pl} {m : List (Nat × Option Qan)} {l : List (Nat × AV)} {k : Tm × Rs → Option (Tm × Rs)} : Zg call n d t i (some (v, rsL m, pl)) (Qaw l) k = BG d (Qaw ((t, v) :: l)) (rsL m) pl (evI call n (Qaw ((t, v) :: l)) (rsL m) i) k := (rfl)
theorem QlS {f : Nat} {ms : List Bool} {xs : List X} : I.isCall (.call f ms xs) = true := (rfl)
theorem Qi3 {g : X} {ms : List Bool} {xs : List X} : I.isCall (.callv g ms xs) = true := (rfl)
def rgS (r i c n : Nat) (R0 R Ri : Option Qan) (rs : Rs) : Rs := match R0, R, Ri with
 | some R0, some R, some Ri => if (R0.pv == R.pv) = true then rgC r i c n R Ri (QG R.xs i c) rs else rs
 | _, _, _ => rs
where rgC (r i c n : Nat) (R Ri : Qan) (cell : Option AV) (rs : Rs) : Rs := match cell with
 | some .undef => if R.own = true ∧ Ri.own = true ∧ r ≠ n then up' (kill rs [n]) r (some { R with pv := R.pv + 1, xs := Qaq R.xs i c [.deep false false Ri.sz Ri.xs] }) else rs
 | _ => rs
theorem QxE {rs0 rs : Rs} {r i c n : Nat} : Qcm rs0 rs [⟨r, i, c, n⟩] = rgS r i c n (rs0 r) (rs r) (rs n) rs := by
 have h : Qcm rs0 rs [⟨r, i, c, n⟩] = if same rs0 rs ⟨r, i, c, n⟩ = true then Qbq rs ⟨r, i, c, n⟩ else rs := by
  cases h : same rs0 rs ⟨r, i, c, n⟩ <;> simp [Qcm, h]
 rw [h]
 cases e0 : rs0 r with
 | none => simp [same, rgS, e0]
 | some R0 =>
  cases e : rs r with
  | none => simp [same, rgS, e0, e]
  | some R =>
   cases e2 : rs n with
   | none => simp [same, rgS, Qbq, e0, e, e2]
   | some Ri => simp only [same, rgS, Qbq, e0, e, e2]; rfl
theorem Qta {r i c n s s' s'' p p' : Nat} {o0 : Bool} {x0 xs ys : Els} {m : List (Nat × Option Qan)} (h : decide (r ≠ n) = true) : rgS r i c n (some ⟨o0, s'', p, x0⟩) (some ⟨true, s', p, xs⟩) (some ⟨true, s, p', ys⟩) (rsL m) = rgS.rgC r i c n ⟨true, s', p, xs⟩ ⟨true, s, p', ys⟩ (QG xs i c) (rsL m) := by
 simp only [rgS, beq_self_eq_true, ↓reduceIte]
theorem Qtc {r i c n s s' p p' : Nat} {xs ys : Els} {m : List (Nat × Option Qan)} (h : decide (r ≠ n) = true) : rgS.rgC r i c n ⟨true, s', p, xs⟩ ⟨true, s, p', ys⟩ (some .undef) (rsL m) = rsL ((r, some ⟨true, s', p + 1, Qaq xs i c [.deep false false s ys]⟩) :: (n, none) :: m) := by
 have h' : r ≠ n := by simpa using h
 simp only [rgS.rgC, h', ne_eq, not_false_eq_true, and_self, ↓reduceIte, QbV, Qbt, QcB]
theorem Qs9 {r i c n : Nat} {R0 R : Option Qan} {rs : Rs} : rgS r i c n R0 R none rs = rs := by cases R0 <;> cases R <;> rfl
def QwF (v : AV) (pl : List Pl) (a : List AV × Rs × List Pl) : List AV × Rs × List Pl := (v :: a.1, a.2.1, pl ++ a.2.2)
theorem QpN {v : AV} {pl pl' : List Pl} {cs : List AV} {rs : Rs} : QwF v pl (cs, rs, pl') = (v :: cs, rs, pl ++ pl') := (rfl)
def gC (n : Nat) (a : Option (AV × Rs × List Pl)) (cs : List AV) : List AV × Rs × List Pl := match a with
 | some (v, rs, pl) => QwF v pl (Qbf (n + 1) rs cs)
 | none => ([], fun _ => none, [])
theorem Qyz {n : Nat} {v : AV} {rs : Rs} {pl : List Pl} {cs : List AV} : gC n (some (v, rs, pl)) cs = QwF v pl (Qbf (n + 1) rs cs) := (rfl)
theorem Qxq {rs : Rs} {n r i c pv sz off len : Nat} {cs : List AV} : Qbf n rs (.slc r [(i, c)] pv sz off len :: cs) = gC n (gQ n r i c sz off len pv ((rs r).bind fun R => QG R.xs i c) (rs r) rs) cs := by
 rw [← Qwn]; rfl
def smR (R0 R : Option Qan) : Bool := match R0, R with
 | some R0, some R => R0.pv == R.pv
 | _, _ => false
theorem QsE {o0 o : Bool} {s0 s p : Nat} {x0 xs : Els} : smR (some ⟨o0, s0, p, x0⟩) (some ⟨o, s, p, xs⟩) = true := by simp only [smR, beq_self_eq_true]
def rgT (a b : Bool) (p q : Pl) (rs : Rs) : Rs := if a = true then (if b = true then Qbq (Qbq rs p) q else Qbq rs p) else (if b = true then Qbq rs q else rs)
theorem Qs8 {p q : Pl} {rs : Rs} : rgT true true p q rs = Qbq (Qbq rs p) q := (rfl)
theorem QxD {rs0 rs : Rs} {r i c n r2 i2 c2 n2 : Nat} : Qcm rs0 rs [⟨r, i, c, n⟩, ⟨r2, i2, c2, n2⟩] = rgT (smR (rs0 r) (rs r)) (smR (rs0 r2) (rs r2)) ⟨r, i, c, n⟩ ⟨r2, i2, c2, n2⟩ rs := by
 have h1 : smR (rs0 r) (rs r) = same rs0 rs ⟨r, i, c, n⟩ := by simp only [smR, same]; cases rs0 r <;> cases rs r <;> rfl
 have h2 : smR (rs0 r2) (rs r2) = same rs0 rs ⟨r2, i2, c2, n2⟩ := by simp only [smR, same]; cases rs0 r2 <;> cases rs r2 <;> rfl
 rw [h1, h2]
 cases h : same rs0 rs ⟨r, i, c, n⟩ <;> cases h' : same rs0 rs ⟨r2, i2, c2, n2⟩ <;> simp [Qcm, rgT, h, h']
def rgR (r i c n : Nat) (R Ri : Option Qan) (rs : Rs) : Rs := match R, Ri with
 | some R, some Ri => rgS.rgC r i c n R Ri (QG R.xs i c) rs
 | _, _ => rs
theorem QxC {rs : Rs} {r i c n : Nat} : Qbq rs ⟨r, i, c, n⟩ = rgR r i c n (rs r) (rs n) rs := by
 simp only [Qbq, rgR]
 cases rs r with
 | none => rfl
 | some R => cases rs n <;> rfl
theorem Qtb {r i c n : Nat} {R Ri : Qan} {rs : Rs} : rgR r i c n (some R) (some Ri) rs = rgS.rgC r i c n R Ri (QG R.xs i c) rs := (rfl)
section
variable {call : QaZ} {n : Nat} {tm : Tm} {rs : Rs}
def Qv5 (x : AV) (rs : Rs) : Option (AV × Rs) := match x with
 | .nl _ => some (.i .i64 0, rs)
 | .slc r q pv sz off len => if q = [] ∧ 0 < len then some (.cv 0 r off sz 0, rs) else none
 | _ => none
theorem QjR {x : X} : evI call n tm rs (.cap x) = Qv5 (x.ev tm) rs := (rfl)
theorem QuO {sz : Nat} : Qv5 (.nl sz) rs = some (.i .i64 0, rs) := (rfl)
theorem QwZ {r pv sz off len : Nat} (h : 0 < len) : Qv5 (.slc r [] pv sz off len) rs = some (.cv 0 r off sz 0, rs) := by simp [Qv5, h]
def Qfv (fresh by' : Nat) (zero : List AV) (k x y : AV) (rs : Rs) : Option (AV × Rs) := match y with
 | .i .i64 m => if 0 < m then match x with
  | .nl _ => if m.toNat * by' ≤ 140737488355328 then some (.slc fresh [] 0 zero.length 0 m.toNat, up' rs fresh (some ⟨true, zero.length, 0, List.replicate m.toNat zero⟩)) else none
  | .slc r1 q pv sz2 off1 len => match k with
   | .cv 3 r off sz1 n => if r = r1 ∧ q = [] ∧ sz1 = zero.length ∧ sz2 = zero.length ∧ off = off1 then (rs r).bind fun R =>
    if R.own = true ∧ Qaj (wnd R.xs off len) = false ∧ n ≤ len + m.toNat ∧ off < R.xs.length ∧ (len + m.toNat) * by' ≤ 140737488355328 then
     some (.slc fresh [] 0 zero.length 0 (len + m.toNat), up' rs fresh (some ⟨true, zero.length, 0, wnd R.xs off len ++ List.replicate m.toNat zero⟩)) else none
    else none
   | _ => none
  | _ => none
  else none
 | _ => none
theorem QfP {by' : Nat} {zero : List AV} {k x y : X} : evI call n tm rs (.appZ by' zero k x y) = Qfv n by' zero (k.ev tm) (x.ev tm) (y.ev tm) rs := (rfl)
theorem QvI {fresh by' sz : Nat} {zero : List AV} {k : AV} {m : Int} {l : List (Nat × Option Qan)} (h0 : 0 < m) (h1 : m.toNat * by' ≤ 140737488355328) :
 Qfv fresh by' zero k (.nl sz) (.i .i64 m) (rsL l) = some (.slc fresh [] 0 zero.length 0 m.toNat, rsL ((fresh, some ⟨true, zero.length, 0, List.replicate m.toNat zero⟩) :: l)) := by
 simp only [Qfv]; rw [if_pos h0, if_pos h1, QcB]
theorem Qwd {fresh by' sz : Nat} {α : Type} {e : α → List AV} {z : α} {zs : List AV} {k : AV} {m : Int} {l : List (Nat × Option Qan)} (hz : e z = zs) (h0 : 0 < m) (h1 : m.toNat * by' ≤ 140737488355328) :
 Qfv fresh by' zs k (.nl sz) (.i .i64 m) (rsL l) = some (.slc fresh [] 0 zs.length 0 (List.replicate m.toNat z).length, rsL ((fresh, some ⟨true, zs.length, 0, (List.replicate m.toNat z).map e⟩) :: l)) := by
 subst hz; rw [QvI h0 h1, List.length_replicate, List.map_replicate]
theorem QsK {sz : Nat} {h : Int} {k : IntKind} (h0 : h = 0) : QjU sz (.nl sz) none (some (.i k h)) rs = some (.nl sz, rs) := by
 subst h0; simp [QjU, QdI.bndv]
theorem QrZ {xs : Els} {off : Nat} : wnd xs off 0 = [] := by simp [wnd]
def fCv (call : QaZ) (n : Nat) (rs : Rs) (g : AV) (ms : List Bool) (vs : List AV) : Option (AV × Rs) := match g with
 | .fn f caps => ac1 call n rs f (QcK rs ms (vs ++ caps))
 | _ => none
theorem Qi5 {g : X} {ms : List Bool} {args : List X} : evI call n tm rs (.callv g ms args) = fCv call n rs (g.ev tm) ms (xsv tm args) := by
 rw [← Qj9]
 simp only [evI, fCv]
 cases g.ev tm <;> rfl
theorem Qun {ms : List Bool} {vs : List AV} {f : Nat} : fCv call n rs (.fn f []) ms vs = ac1 call n rs f (QcK rs ms vs) := by simp only [fCv, List.append_nil]
end
theorem RM : type_of% (And.intro @Qsf <| And.intro @Qsj <| And.intro @Qsh <| And.intro @Qsi <| And.intro @QtL <| And.intro @Qi6 <| And.intro @Qua <| And.intro @Ql2 <| And.intro @Qt8 <| And.intro @Qt9 <| And.intro @Qwn <| And.intro @Qyr <| And.intro @Qyt <| And.intro @Qys <| And.intro @Qxh <| And.intro @Qxj <| And.intro @Qxi <| And.intro @Qxv <| And.intro @Qxk <| And.intro @Ql7 <| And.intro @QoB <| And.intro @Qxt <| And.intro @Qxs <| And.intro @Qxo <| And.intro @Qxr <| And.intro @Qxp <| And.intro @Qxq <| And.intro @Qyz <| And.intro @QpN <| And.intro @QzD <| And.intro @Qo0 <| And.intro @Qzg <| And.intro @QlS <| And.intro @Qi3 <| And.intro @QxE <| And.intro @Qta <| And.intro @Qtc <| And.intro @Qs9 <| And.intro @QsE <| And.intro @Qs8 <| And.intro @QxD <| And.intro @QxC <| And.intro @Qtb <| And.intro @QbP <| And.intro @QjR <| And.intro @QuO <| And.intro @QfP <| And.intro @QsK <| And.intro @QrZ <| And.intro @Qi5 @Qun) := And.intro @Qsf <| And.intro @Qsj <| And.intro @Qsh <| And.intro @Qsi <| And.intro @QtL <| And.intro @Qi6 <| And.intro @Qua <| And.intro @Ql2 <| And.intro @Qt8 <| And.intro @Qt9 <| And.intro @Qwn <| And.intro @Qyr <| And.intro @Qyt <| And.intro @Qys <| And.intro @Qxh <| And.intro @Qxj <| And.intro @Qxi <| And.intro @Qxv <| And.intro @Qxk <| And.intro @Ql7 <| And.intro @QoB <| And.intro @Qxt <| And.intro @Qxs <| And.intro @Qxo <| And.intro @Qxr <| And.intro @Qxp <| And.intro @Qxq <| And.intro @Qyz <| And.intro @QpN <| And.intro @QzD <| And.intro @Qo0 <| And.intro @Qzg <| And.intro @QlS <| And.intro @Qi3 <| And.intro @QxE <| And.intro @Qta <| And.intro @Qtc <| And.intro @Qs9 <| And.intro @QsE <| And.intro @Qs8 <| And.intro @QxD <| And.intro @QxC <| And.intro @Qtb <| And.intro @QbP <| And.intro @QjR <| And.intro @QuO <| And.intro @QfP <| And.intro @QsK <| And.intro @QrZ <| And.intro @Qi5 @Qun
end Go.Proofs.Ytinlbiphjgpmmaa.V
end
section
namespace Go.Proofs.Ytinlbiphjgpmmaa.V
open Go
theorem QkC {xs : Els} {i j c : Nat} {vs : List AV} (h : i ≠ j) : (Qaq xs j c vs)[i]? = xs[i]? := by
 unfold Qaq
 split
 ·rw [List.getElem?_set_ne (fun e => h e.symm)]
 ·rfl
theorem QqW {xs : Els} {i c : Nat} {vs el : List AV} (h : xs[i]? = some el) : (Qaq xs i c vs)[i]? = some (el.take c ++ vs ++ el.drop (c + vs.length)) := by
 simp only [Qaq, h]
 rw [List.getElem?_set_self (List.getElem?_eq_some_iff.1 h).1]
theorem Qgf {xs : Els} {i c : Nat} {vs el : List AV} (h : xs[i]? = some el) : Qaq xs i c vs = xs.set i (el.take c ++ vs ++ el.drop (c + vs.length)) := by simp only [Qaq, h]
theorem Qw0 {xs : Els} {i j c d : Nat} {vs : List AV} (h : i ≠ j) : QG (Qaq xs j c vs) i d = QG xs i d := by
 unfold QG; rw [QkC h]
theorem QkD {xs : Els} {i : Nat} {vs el : List AV} (h : xs[i]? = some el) (hl : vs.length = el.length) : Qaq xs i 0 vs = xs.set i vs := by
 simp only [Qaq, h, List.take_zero, List.nil_append, Nat.zero_add, hl, List.drop_length, List.append_nil]
theorem QkB {xs : Els} {i c : Nat} {us vs el : List AV} (h : xs[i]? = some el) (hc : c + us.length ≤ el.length) (hl : vs.length = el.length) : Qaq (Qaq xs i c us) i 0 vs = Qaq xs i 0 vs := by
 have hi := (List.getElem?_eq_some_iff.1 h).1
 rw [QkD (QqW h) (by simp; omega), QkD h hl]
 simp only [Qaq, h, List.set_set]
theorem QqV {xs : Els} {i j c d : Nat} {us vs : List AV} (h : i ≠ j) : Qaq (Qaq xs j c us) i d vs = Qaq (Qaq xs i d vs) j c us := by
 have e1 := QkC (xs := xs) (c := c) (vs := us) h
 have e2 := QkC (xs := xs) (c := d) (vs := vs) (fun e => h e.symm)
 cases a : xs[i]? with
 | none =>
  have f1 : ∀ {ys : Els}, ys[i]? = none → Qaq ys i d vs = ys := fun hy => by simp only [Qaq, hy]
  rw [f1 (e1.trans a), f1 a]
 | some el =>
  cases b : xs[j]? with
  | none =>
   have f1 : ∀ {ys : Els}, ys[j]? = none → Qaq ys j c us = ys := fun hy => by simp only [Qaq, hy]
   rw [f1 b, f1 (e2.trans b)]
  | some em =>
   rw [Qgf (e1.trans a), Qgf (e2.trans b), Qgf a, Qgf b, List.set_comm _ _ (fun e => h e.symm)]
theorem QeO {i j : Int} (h0 : 0 ≤ i) (h1 : i < j) : 0 + i.toNat ≠ 0 + j.toNat := by omega
theorem Qrq {xs : Els} {i j : Int} {c d : Nat} (h0 : 0 ≤ i) (h1 : i < j) : QG (Qaq xs (0 + j.toNat) c [.undef]) (0 + i.toNat) d = QG xs (0 + i.toNat) d := Qw0 (QeO h0 h1)
theorem QwC {xs : Els} {i j : Int} {c : Nat} {el : List AV} (h0 : 0 ≤ i) (h1 : i < j) (h : xs[0 + i.toNat]? = some el) : (Qaq (Qaq xs (0 + j.toNat) c [.undef]) (0 + i.toNat) c [.undef])[0 + i.toNat]? = some (el.take c ++ [.undef] ++ el.drop (c + 1)) :=
 QqW (by rw [QkC (QeO h0 h1), h])
theorem Qub {xs : Els} {i j : Int} {c : Nat} {el vs : List AV} (h0 : 0 ≤ i) (h1 : i < j) (h : xs[0 + i.toNat]? = some el) (hc : c + 1 ≤ el.length) (hl : vs.length = el.length) :
 Qaq (Qaq (Qaq xs (0 + j.toNat) c [.undef]) (0 + i.toNat) c [.undef]) (0 + i.toNat) 0 vs = Qaq (Qaq xs (0 + i.toNat) 0 vs) (0 + j.toNat) c [.undef] := by
 rw [QkB (el := el) (by rw [QkC (QeO h0 h1), h]) hc hl, QqV (QeO h0 h1)]
theorem QwD {xs : Els} {j c : Nat} {el : List AV} (h : xs[j]? = some el) : (Qaq xs j c [.undef])[j]? = some (el.take c ++ [.undef] ++ el.drop (c + 1)) := QqW h
theorem Quc {xs : Els} {j c : Nat} {el vs : List AV} (h : xs[j]? = some el) (hc : c + 1 ≤ el.length) (hl : vs.length = el.length) : Qaq (Qaq xs j c [.undef]) j 0 vs = Qaq xs j 0 vs := QkB h hc hl
def Zt (call : QaZ) (n : Nat) (d : Option Nat) (t u : Nat) (i : I) (a : Option (AV × Rs)) (tm : Tm) (k : Tm × Rs → Option (Tm × Rs)) : Option (Tm × Rs) := match a with
 | some a => Zs call n d u i (spV (n + 32) a.2 (up' tm t a.1 u)) (up' tm t a.1) k
 | none => none
theorem Qo1 {call : QaZ} {n t u : Nat} {d : Option Nat} {i : I} {os : List Op'} {l : List (Nat × AV)} {rs : Rs} (h : i.isCall = false) : Qbu call n (oz d none [t, u] i :: os) (Qaw l, rs) = Zt call n d t u i (spV (n + 16) rs (Qaw l t)) (Qaw l) (Qbu call (n + 80) os) := by
 rw [← Qee]
 simp only [Qbu, oz, QdP, Qb7, Option.bind_some, ↓reduceIte, List.length_cons, List.length_nil, Qbs, h, Nat.zero_add, show (1 + 1 ≤ 4) = True from eq_true (by decide), Bool.false_eq_true]
 cases QbI (n + 16) rs (Qaw l t) with
 | none => rfl
 | some a =>
  simp only [Option.bind_some, Option.map_some, Zt]
  rw [← Qee]
  cases QbI (n + 16 + 16) a.2.1 (up' (Qaw l) t a.1 u) with
  | none => rfl
  | some b =>
   simp only [Option.bind_some, Option.map_some, Zs, B0]
   cases evI call n (up' (up' (Qaw l) t a.1) u b.1) b.2.1 i <;> rfl
theorem Qze {call : QaZ} {n t u : Nat} {d : Option Nat} {i : I} {v : AV} {m : List (Nat × Option Qan)} {l : List (Nat × AV)} {k : Tm × Rs → Option (Tm × Rs)} : Zt call n d t u i (some (v, rsL m)) (Qaw l) k = Zs call n d u i (spV (n + 32) (rsL m) (Qaw ((t, v) :: l) u)) (Qaw ((t, v) :: l)) k := (rfl)
def kU (d : Bool) (r : Nat) : List Nat := if d then [r] else []
def kR (d : Bool) (R : Option Qan) : Option Qan := if d then none else R
theorem Qyh {α : Type} {e : α → List AV} {l : List α} {r : Nat} {w : Els} : QnB false [] r w (Qaj (l.map e)) = some (w, kU (Qaj (l.map e)) r) := by
 cases Qaj (l.map e) <;> rfl
theorem QvC {n sz by' r r0 : Nat} {α : Type} {e : α → List AV} {a b : List α} {d : Bool} {m : List (Nat × Option Qan)} (h : (a.length + b.length) * by' ≤ 140737488355328) (hr : decide (r ≠ r0) = true) :
 QfS n sz by' (some (b.map e, kU d r)) (QeE (a.map e) [] (rsL m) (some r0)) = some (.slc n [] 0 sz 0 (a ++ b).length, rsL ((n, some ⟨true, sz, 0, (a ++ b).map e⟩) :: (r, kR d (rsL m r)) :: m)) := by
 have hr' : r ≠ r0 := by simpa using hr
 cases d
 ·have e1 : rsL ((r, kR false (rsL m r)) :: m) = rsL m := by
   funext k
   simp only [kR, Bool.false_eq_true, ↓reduceIte, Qe0]
   split
   ·rename_i h; rw [h]
   ·rfl
  simp only [kU, Bool.false_eq_true, ↓reduceIte]
  rw [show ∀ x, rsL ((n, x) :: (r, kR false (rsL m r)) :: m) = up' (rsL ((r, kR false (rsL m r)) :: m)) n x from fun x => QcB.symm, e1]
  simp [QfS, QeE, h, Qbt]
 ·simp [QfS, QeE, h, Qbt, QcB, QbV, hr', kU, kR]
theorem QpX {α : Type} {e : α → List AV} {x : α} : List.drop 1 (List.map e [x]) = [] := (rfl)
theorem RN2 : type_of% (And.intro @Qo1 <| And.intro @Qze <| And.intro @Qyh <| And.intro @QvC @QpX) := And.intro @Qo1 <| And.intro @Qze <| And.intro @Qyh <| And.intro @QvC @QpX
end Go.Proofs.Ytinlbiphjgpmmaa.V
end
section
namespace Go.Proofs.Ytinlbiphjgpmmaa.P
open Go Go.RowKit Go.Proofs.Ytinlbiphjgpmmaa.V
theorem Qa1 {α : Type} {c : Bool} {a b : Option α} {r : α} (h : (if c = true then a else b) = some r) : c = true ∧ a = some r ∨ c = false ∧ b = some r := by cases c <;> simp_all
theorem ite_nn {α : Type} {c : Prop} [Decidable c] {a : Option α} {r : α} (h : (if c then none else a) = some r) : ¬c ∧ a = some r := by
 by_cases hc : c
 ·rw [if_pos hc] at h; cases h
 ·rw [if_neg hc] at h; exact ⟨hc, h⟩
def rd (xs : List Int) (i : Int) : Int := xs.getD i.toNat 0
def rdB (xs : List Bool) (i : Int) : Bool := xs.getD i.toNat false
def rdS (xs : List ByteArray) (i : Int) : ByteArray := xs.getD i.toNat ⟨#[]⟩
def rdL {α : Type} (xs : List (List α)) (i : Int) : List α := xs.getD i.toNat []
theorem Qax {E : Env} {L : C} {m : Nat} {live : List Nat} {c : C} {st : St} {Q : Pst} (h : L = .loop m live c) : W E L st Q = W E c (canon m live st) (Ql E L Q) := by subst h; exact QvP
theorem gI  {l : List Int} {j : Int} (h1 : 0 ≤ j) (h2 : j < (l.length : Int)) : (l.map eI)[0 + j.toNat]? = some (eI (rd l j)) := QbJ h1 h2
theorem Qyy {l : List Int} (h2 : (0 : Int) < (l.length : Int)) : (l.map eI)[0]? = some (eI (rd l 0)) := by have := QbJ (e := eI) (z := 0) (j := 0) (l := l) (by omega) h2; exact this
theorem Qyx {l : List Int} (h2 : (1 : Int) < (l.length : Int)) : (l.map eI)[1]? = some (eI (rd l 1)) := by have := QbJ (e := eI) (z := 0) (j := 1) (l := l) (by omega) h2; exact this
theorem Qyw {l : List Int} (h2 : (2 : Int) < (l.length : Int)) : (l.map eI)[2]? = some (eI (rd l 2)) := by have := QbJ (e := eI) (z := 0) (j := 2) (l := l) (by omega) h2; exact this
theorem g8  {l : List Int} {j : Int} (h1 : 0 ≤ j) (h2 : j < (l.length : Int)) : (l.map e8)[0 + j.toNat]? = some (e8 (rd l j)) := QbJ h1 h2
theorem QyF {l : List Int} (h2 : (0 : Int) < (l.length : Int)) : (l.map e8)[0]? = some (e8 (rd l 0)) := by have := QbJ (e := e8) (z := 0) (j := 0) (l := l) (by omega) h2; exact this
theorem QyE {l : List Int} (h2 : (1 : Int) < (l.length : Int)) : (l.map e8)[1]? = some (e8 (rd l 1)) := by have := QbJ (e := e8) (z := 0) (j := 1) (l := l) (by omega) h2; exact this
theorem QyD {l : List Int} (h2 : (2 : Int) < (l.length : Int)) : (l.map e8)[2]? = some (e8 (rd l 2)) := by have := QbJ (e := e8) (z := 0) (j := 2) (l := l) (by omega) h2; exact this
theorem gB  {l : List Bool} {j : Int} (h1 : 0 ≤ j) (h2 : j < (l.length : Int)) : (l.map eB)[0 + j.toNat]? = some (eB (rdB l j)) := QbJ h1 h2
theorem QyC {l : List Bool} (h2 : (0 : Int) < (l.length : Int)) : (l.map eB)[0]? = some (eB (rdB l 0)) := by have := QbJ (e := eB) (z := false) (j := 0) (l := l) (by omega) h2; exact this
theorem QyB {l : List Bool} (h2 : (1 : Int) < (l.length : Int)) : (l.map eB)[1]? = some (eB (rdB l 1)) := by have := QbJ (e := eB) (z := false) (j := 1) (l := l) (by omega) h2; exact this
theorem QyA {l : List Bool} (h2 : (2 : Int) < (l.length : Int)) : (l.map eB)[2]? = some (eB (rdB l 2)) := by have := QbJ (e := eB) (z := false) (j := 2) (l := l) (by omega) h2; exact this
theorem gS  {l : List ByteArray} {j : Int} (h1 : 0 ≤ j) (h2 : j < (l.length : Int)) : (l.map eS)[0 + j.toNat]? = some (eS (rdS l j)) := QbJ h1 h2
theorem Qyq {l : List ByteArray} (h2 : (0 : Int) < (l.length : Int)) : (l.map eS)[0]? = some (eS (rdS l 0)) := by have := QbJ (e := eS) (z := ⟨#[]⟩) (j := 0) (l := l) (by omega) h2; exact this
theorem Qyp {l : List ByteArray} (h2 : (1 : Int) < (l.length : Int)) : (l.map eS)[1]? = some (eS (rdS l 1)) := by have := QbJ (e := eS) (z := ⟨#[]⟩) (j := 1) (l := l) (by omega) h2; exact this
theorem Qyo {l : List ByteArray} (h2 : (2 : Int) < (l.length : Int)) : (l.map eS)[2]? = some (eS (rdS l 2)) := by have := QbJ (e := eS) (z := ⟨#[]⟩) (j := 2) (l := l) (by omega) h2; exact this
theorem gL  {α : Type} {s : Nat} {b : Bool} {e : α → List AV} {l : List (List α)} {j : Int} (h1 : 0 ≤ j) (h2 : j < (l.length : Int)) : (l.map (eL s b e))[0 + j.toNat]? = some ((eL s b e) (rdL l j)) := QbJ h1 h2
theorem QwH {α : Type} {s : Nat} {b : Bool} {e : α → List AV} {l : List (List α)} (h2 : (0 : Int) < (l.length : Int)) : (l.map (eL s b e))[0]? = some ((eL s b e) (rdL l 0)) := by have := QbJ (e := (eL s b e)) (z := []) (j := 0) (l := l) (by omega) h2; exact this
theorem Qyv {α : Type} {s : Nat} {b : Bool} {e : α → List AV} {l : List (List α)} (h2 : (1 : Int) < (l.length : Int)) : (l.map (eL s b e))[1]? = some ((eL s b e) (rdL l 1)) := by have := QbJ (e := (eL s b e)) (z := []) (j := 1) (l := l) (by omega) h2; exact this
theorem Qyu {α : Type} {s : Nat} {b : Bool} {e : α → List AV} {l : List (List α)} (h2 : (2 : Int) < (l.length : Int)) : (l.map (eL s b e))[2]? = some ((eL s b e) (rdL l 2)) := by have := QbJ (e := (eL s b e)) (z := []) (j := 2) (l := l) (by omega) h2; exact this
theorem Qy5 {x : Int} : (eI x)[0]? = some (.i .i64 x) := (rfl)
theorem lI {x : Int} : (eI x).length = 1 := (rfl)
theorem Qy7 {x : Int} : (e8 x)[0]? = some (.i .u8 x) := (rfl)
theorem l8 {x : Int} : (e8 x).length = 1 := (rfl)
theorem Qy6 {x : Bool} : (eB x)[0]? = some (.b x) := (rfl)
theorem lB {x : Bool} : (eB x).length = 1 := (rfl)
theorem Qy3 {x : ByteArray} : (eS x)[0]? = some (.s x) := (rfl)
theorem lS {x : ByteArray} : (eS x).length = 1 := (rfl)
theorem Qy4 {α : Type} {s : Nat} {b : Bool} {e : α → List AV} {x : List α} : ((eL s b e) x)[0]? = some (.deep false b s (x.map e)) := (rfl)
theorem lL {α : Type} {s : Nat} {b : Bool} {e : α → List AV} {x : List α} : ((eL s b e) x).length = 1 := (rfl)
theorem sI {l : List Int} {j : Int} {v : Int} (h1 : 0 ≤ j) (h2 : j < (l.length : Int)) : Qaq (l.map eI) (0 + j.toNat) 0 [.i .i64 v] = (l.set j.toNat v).map eI := Qck h1 h2 (Qbd (z := 0) h1 h2) rfl
theorem Qxn {l : List Int} {v : Int} (h2 : (0 : Int) < (l.length : Int)) : Qaq (l.map eI) 0 0 [.i .i64 v] = (l.set (0 : Int).toNat v).map eI := by have := Qck (e := eI) (c := 0) (vs := [.i .i64 v]) (Int.le_refl 0) h2 (Qbd (z := 0) (Int.le_refl 0) h2) (y := v) rfl; exact this
theorem s8 {l : List Int} {j : Int} {v : Int} (h1 : 0 ≤ j) (h2 : j < (l.length : Int)) : Qaq (l.map e8) (0 + j.toNat) 0 [.i .u8 v] = (l.set j.toNat v).map e8 := Qck h1 h2 (Qbd (z := 0) h1 h2) rfl
theorem Qxw {l : List Int} {v : Int} (h2 : (0 : Int) < (l.length : Int)) : Qaq (l.map e8) 0 0 [.i .u8 v] = (l.set (0 : Int).toNat v).map e8 := by have := Qck (e := e8) (c := 0) (vs := [.i .u8 v]) (Int.le_refl 0) h2 (Qbd (z := 0) (Int.le_refl 0) h2) (y := v) rfl; exact this
theorem sB {l : List Bool} {j : Int} {v : Bool} (h1 : 0 ≤ j) (h2 : j < (l.length : Int)) : Qaq (l.map eB) (0 + j.toNat) 0 [.b v] = (l.set j.toNat v).map eB := Qck h1 h2 (Qbd (z := false) h1 h2) rfl
theorem Qxu {l : List Bool} {v : Bool} (h2 : (0 : Int) < (l.length : Int)) : Qaq (l.map eB) 0 0 [.b v] = (l.set (0 : Int).toNat v).map eB := by have := Qck (e := eB) (c := 0) (vs := [.b v]) (Int.le_refl 0) h2 (Qbd (z := false) (Int.le_refl 0) h2) (y := v) rfl; exact this
theorem sS {l : List ByteArray} {j : Int} {v : ByteArray} (h1 : 0 ≤ j) (h2 : j < (l.length : Int)) : Qaq (l.map eS) (0 + j.toNat) 0 [.s v] = (l.set j.toNat v).map eS := Qck h1 h2 (Qbd (z := ⟨#[]⟩) h1 h2) rfl
theorem Qxl {l : List ByteArray} {v : ByteArray} (h2 : (0 : Int) < (l.length : Int)) : Qaq (l.map eS) 0 0 [.s v] = (l.set (0 : Int).toNat v).map eS := by have := Qck (e := eS) (c := 0) (vs := [.s v]) (Int.le_refl 0) h2 (Qbd (z := ⟨#[]⟩) (Int.le_refl 0) h2) (y := v) rfl; exact this
theorem pL {α : Type} {s : Nat} {b : Bool} {e : α → List AV} {l : List (List α)} {j : Int} (h1 : 0 ≤ j) (h2 : j < (l.length : Int)) : QG (l.map (eL s b e)) (0 + j.toNat) 0 = some (.deep false b s ((rdL l j).map e)) := QfZ (gL h1 h2)
theorem QxG {α : Type} {s : Nat} {b : Bool} {e : α → List AV} {l : List (List α)} (h2 : (0 : Int) < (l.length : Int)) : QG (l.map (eL s b e)) 0 0 = some (.deep false b s ((rdL l 0).map e)) := QfZ (QwH h2)
theorem sL {α : Type} {s : Nat} {b : Bool} {e : α → List AV} {l : List (List α)} {v : List α} {j : Int} (h1 : 0 ≤ j) (h2 : j < (l.length : Int)) : Qaq (l.map (eL s b e)) (0 + j.toNat) 0 [.deep false b s (v.map e)] = (l.set j.toNat v).map (eL s b e) := Qck h1 h2 (Qbd (z := []) h1 h2) rfl
theorem Qlx {α : Type} {s : Nat} {b : Bool} {e : α → List AV} {x : List α} : Qcq [[.deep false b s (x.map e)]] = List.map (eL s b e) [x] := (rfl)
theorem Qlw {α : Type} {s : Nat} {b : Bool} {e : α → List AV} {x y : List α} : Qcq [[.deep false b s (x.map e)], [.deep false b s (y.map e)]] = List.map (eL s b e) [x, y] := (rfl)
theorem QwS {α : Type} {s : Nat} {b : Bool} {e : α → List AV} {x : List α} {l : List (List α)} : Qaj ((x :: l).map (eL s b e)) = true := (rfl)
theorem tbL {α : Type} {s : Nat} {b : Bool} {e : α → List AV} {l : List (List α)} : (l.map (eL s b e)).map (·.map QdT) = l.map (eL s true e) := by rw [List.map_map]; rfl
theorem Qyl {α : Type} {s : Nat} {b : Bool} {e : α → List AV} {q : QaI} {r : Nat} {l : List (List α)} : QnB true q r (l.map (eL s b e)) (Qaj (l.map (eL s b e))) = some (l.map (eL s true e), []) := by
 cases l with
 | nil => rfl
 | cons x l => rw [QwS, ← tbL (b := b)]; rfl
theorem Qy8 {α : Type} {k s : Nat} {e : α → List AV} {l : List (List α)} (h : ∀ x : List α, Qcr k (x.map e) = false) : Qcr (k + 1) (l.map (eL s false e)) = false := QcO (fun x => by simp only [eL, Qhz, Qvd, h, Bool.or_false, Bool.false_or]) l
theorem Qxm {α : Type} {s : Nat} {b : Bool} {e : α → List AV} {l : List (List α)} {v : List α} (h2 : (0 : Int) < (l.length : Int)) : Qaq (l.map (eL s b e)) 0 0 [.deep false b s (v.map e)] = (l.set (0 : Int).toNat v).map (eL s b e) := by have := Qck (e := eL s b e) (c := 0) (vs := [.deep false b s (v.map e)]) (Int.le_refl 0) h2 (Qbd (z := []) (Int.le_refl 0) h2) (y := v) rfl; exact this
structure QcI where
 f0 : Int
 f1 : Int
def Qj8 : QcI := ⟨(0 : Int), (0 : Int)⟩
def QcH (x : QcI) : List AV := [.i .i64 x.f0, .i .i64 x.f1]
def QcM (xs : List QcI) (i : Int) : QcI := xs.getD i.toNat Qj8
theorem QyG  {l : List QcI} {j : Int} (h1 : 0 ≤ j) (h2 : j < (l.length : Int)) : (l.map QcH)[0 + j.toNat]? = some (QcH (QcM l j)) := QbJ h1 h2
theorem QpQ {l : List QcI} (h2 : (0 : Int) < (l.length : Int)) : (l.map QcH)[0]? = some (QcH (QcM l 0)) := by have := QbJ (e := QcH) (z := Qj8) (j := 0) (l := l) (by omega) h2; exact this
theorem QpP {l : List QcI} (h2 : (1 : Int) < (l.length : Int)) : (l.map QcH)[1]? = some (QcH (QcM l 1)) := by have := QbJ (e := QcH) (z := Qj8) (j := 1) (l := l) (by omega) h2; exact this
theorem QpO {l : List QcI} (h2 : (2 : Int) < (l.length : Int)) : (l.map QcH)[2]? = some (QcH (QcM l 2)) := by have := QbJ (e := QcH) (z := Qj8) (j := 2) (l := l) (by omega) h2; exact this
theorem Qp5 {x : QcI} : (QcH x)[0]? = some (.i .i64 x.f0) := (rfl)
theorem Qp4 {x : QcI} : (QcH x)[1]? = some (.i .i64 x.f1) := (rfl)
theorem Qx2 {x : QcI} : (QcH x).length = 2 := (rfl)
theorem Qw8 {x : QcI} {r i pv : Nat} {q : QaI} {rs : Rs} : Qen (some 2) r q pv i 0 (some (QcH x)) rs = some (.agg [.i .i64 x.f0, .i .i64 x.f1], rs) := (rfl)
theorem QoD {l : List QcI} {j : Int} {v0 : Int} (h1 : 0 ≤ j) (h2 : j < (l.length : Int)) : Qaq (l.map QcH) (0 + j.toNat) 0 [.i .i64 v0] = (l.set j.toNat (⟨v0, (QcM l j).f1⟩ : QcI)).map QcH := Qck h1 h2 (Qbd (z := Qj8) h1 h2) rfl
theorem QoC {l : List QcI} {j : Int} {v1 : Int} (h1 : 0 ≤ j) (h2 : j < (l.length : Int)) : Qaq (l.map QcH) (0 + j.toNat) 1 [.i .i64 v1] = (l.set j.toNat (⟨(QcM l j).f0, v1⟩ : QcI)).map QcH := Qck h1 h2 (Qbd (z := Qj8) h1 h2) rfl
theorem Qxx {l : List QcI} {j : Int} {v0 : Int} {v1 : Int} (h1 : 0 ≤ j) (h2 : j < (l.length : Int)) : Qaq (l.map QcH) (0 + j.toNat) 0 [.i .i64 v0, .i .i64 v1] = (l.set j.toNat (⟨v0, v1⟩ : QcI)).map QcH := Qck h1 h2 (Qbd (z := Qj8) h1 h2) rfl
theorem litX_122_1 {v0_0 : Int} {v0_1 : Int} : Qcq [[.i .i64 v0_0, .i .i64 v0_1]] = List.map QcH [(⟨v0_0, v0_1⟩ : QcI)] := (rfl)
theorem litX_122_2 {v0_0 : Int} {v0_1 : Int} {v1_0 : Int} {v1_1 : Int} : Qcq [[.i .i64 v0_0, .i .i64 v0_1], [.i .i64 v1_0, .i .i64 v1_1]] = List.map QcH [(⟨v0_0, v0_1⟩ : QcI), (⟨v1_0, v1_1⟩ : QcI)] := (rfl)
theorem litX_122_3 {v0_0 : Int} {v0_1 : Int} {v1_0 : Int} {v1_1 : Int} {v2_0 : Int} {v2_1 : Int} : Qcq [[.i .i64 v0_0, .i .i64 v0_1], [.i .i64 v1_0, .i .i64 v1_1], [.i .i64 v2_0, .i .i64 v2_1]] = List.map QcH [(⟨v0_0, v0_1⟩ : QcI), (⟨v1_0, v1_1⟩ : QcI), (⟨v2_0, v2_1⟩ : QcI)] := (rfl)
theorem m122 {n sz by' : Nat} {k : IntKind} {m : Int} {l : List (Nat × Option Qan)} (h1 : 0 ≤ m) (h2 : m * by' ≤ 140737488355328) : QmM n sz by' [.i .i64 0, .i .i64 0] (.i k m) (rsL l) = some (.slc n [] 0 sz 0 (List.replicate m.toNat Qj8).length, rsL ((n, some ⟨true, sz, 0, (List.replicate m.toNat Qj8).map QcH⟩) :: l)) := QhW (e := QcH) rfl h1 h2
theorem az122 {n by' s : Nat} {k : AV} {m : Int} {l : List (Nat × Option Qan)} (h1 : 0 < m) (h2 : m.toNat * by' ≤ 140737488355328) : Qfv n by' [.i .i64 0, .i .i64 0] k (.nl s) (.i .i64 m) (rsL l) = some (.slc n [] 0 2 0 (List.replicate m.toNat Qj8).length, rsL ((n, some ⟨true, 2, 0, (List.replicate m.toNat Qj8).map QcH⟩) :: l)) := Qwd (e := QcH) rfl h1 h2
theorem Qjr {k : Nat} {l : List QcI} : Qcr (k + 1) (l.map QcH) = false := QcO (fun _ => rfl) l
theorem QpY {l : List QcI} : Qaj (l.map QcH) = false := QdK (fun _ => rfl) l
structure S81 where
 f0 : Int
 f1 : List Int
 f2 : Int
 f3 : Int
 f4 : Int
def z81 : S81 := ⟨(0 : Int), ([] : List Int), (0 : Int), (0 : Int), (0 : Int)⟩
def e81 (b : Bool) (x : S81) : List AV := [.i .i64 x.f0, .deep false b 1 (x.f1.map eI), .i .i64 x.f2, .i .i64 x.f3, .i .i64 x.f4]
def Qa7 (xs : List S81) (i : Int) : S81 := xs.getD i.toNat z81
theorem g81  {b : Bool} {l : List S81} {j : Int} (h1 : 0 ≤ j) (h2 : j < (l.length : Int)) : (l.map (e81 b))[0 + j.toNat]? = some ((e81 b) (Qa7 l j)) := QbJ h1 h2
theorem Qru {b : Bool} {l : List S81} (h2 : (0 : Int) < (l.length : Int)) : (l.map (e81 b))[0]? = some ((e81 b) (Qa7 l 0)) := by have := QbJ (e := (e81 b)) (z := z81) (j := 0) (l := l) (by omega) h2; exact this
theorem Quk {b : Bool} {l : List S81} (h2 : (1 : Int) < (l.length : Int)) : (l.map (e81 b))[1]? = some ((e81 b) (Qa7 l 1)) := by have := QbJ (e := (e81 b)) (z := z81) (j := 1) (l := l) (by omega) h2; exact this
theorem Quj {b : Bool} {l : List S81} (h2 : (2 : Int) < (l.length : Int)) : (l.map (e81 b))[2]? = some ((e81 b) (Qa7 l 2)) := by have := QbJ (e := (e81 b)) (z := z81) (j := 2) (l := l) (by omega) h2; exact this
theorem QuY {b : Bool} {x : S81} : ((e81 b) x)[0]? = some (.i .i64 x.f0) := (rfl)
theorem QuX {b : Bool} {x : S81} : ((e81 b) x)[1]? = some (.deep false b 1 (x.f1.map eI)) := (rfl)
theorem QuW {b : Bool} {x : S81} : ((e81 b) x)[2]? = some (.i .i64 x.f2) := (rfl)
theorem QuV {b : Bool} {x : S81} : ((e81 b) x)[3]? = some (.i .i64 x.f3) := (rfl)
theorem QuU {b : Bool} {x : S81} : ((e81 b) x)[4]? = some (.i .i64 x.f4) := (rfl)
theorem l81 {b : Bool} {x : S81} : ((e81 b) x).length = 5 := (rfl)
theorem w81 {x : S81} {b : Bool} {r i pv : Nat} {q : QaI} {rs : Rs} : Qen (some 5) r q pv i 0 (some ((e81 b) x)) rs = some (.agg [.i .i64 x.f0, .slc r (q ++ [(i, 1)]) pv 1 0 (x.f1.map eI).length, .i .i64 x.f2, .i .i64 x.f3, .i .i64 x.f4], rs) := (rfl)
theorem Qs4 {l : List S81} {j : Int} {v0 : Int} {b : Bool} (h1 : 0 ≤ j) (h2 : j < (l.length : Int)) : Qaq (l.map (e81 b)) (0 + j.toNat) 0 [.i .i64 v0] = (l.set j.toNat (⟨v0, (Qa7 l j).f1, (Qa7 l j).f2, (Qa7 l j).f3, (Qa7 l j).f4⟩ : S81)).map (e81 b) := Qck h1 h2 (Qbd (z := z81) h1 h2) rfl
theorem Qs3 {l : List S81} {j : Int} {v1 : List Int} {b : Bool} (h1 : 0 ≤ j) (h2 : j < (l.length : Int)) : Qaq (l.map (e81 b)) (0 + j.toNat) 1 [.deep false b 1 (v1.map eI)] = (l.set j.toNat (⟨(Qa7 l j).f0, v1, (Qa7 l j).f2, (Qa7 l j).f3, (Qa7 l j).f4⟩ : S81)).map (e81 b) := Qck h1 h2 (Qbd (z := z81) h1 h2) rfl
theorem Qs2 {l : List S81} {j : Int} {v2 : Int} {b : Bool} (h1 : 0 ≤ j) (h2 : j < (l.length : Int)) : Qaq (l.map (e81 b)) (0 + j.toNat) 2 [.i .i64 v2] = (l.set j.toNat (⟨(Qa7 l j).f0, (Qa7 l j).f1, v2, (Qa7 l j).f3, (Qa7 l j).f4⟩ : S81)).map (e81 b) := Qck h1 h2 (Qbd (z := z81) h1 h2) rfl
theorem Qs1 {l : List S81} {j : Int} {v3 : Int} {b : Bool} (h1 : 0 ≤ j) (h2 : j < (l.length : Int)) : Qaq (l.map (e81 b)) (0 + j.toNat) 3 [.i .i64 v3] = (l.set j.toNat (⟨(Qa7 l j).f0, (Qa7 l j).f1, (Qa7 l j).f2, v3, (Qa7 l j).f4⟩ : S81)).map (e81 b) := Qck h1 h2 (Qbd (z := z81) h1 h2) rfl
theorem Qs0 {l : List S81} {j : Int} {v4 : Int} {b : Bool} (h1 : 0 ≤ j) (h2 : j < (l.length : Int)) : Qaq (l.map (e81 b)) (0 + j.toNat) 4 [.i .i64 v4] = (l.set j.toNat (⟨(Qa7 l j).f0, (Qa7 l j).f1, (Qa7 l j).f2, (Qa7 l j).f3, v4⟩ : S81)).map (e81 b) := Qck h1 h2 (Qbd (z := z81) h1 h2) rfl
theorem s81 {l : List S81} {j : Int} {v0 : Int} {v1 : List Int} {v2 : Int} {v3 : Int} {v4 : Int} {b : Bool} (h1 : 0 ≤ j) (h2 : j < (l.length : Int)) : Qaq (l.map (e81 b)) (0 + j.toNat) 0 [.i .i64 v0, .deep false b 1 (v1.map eI), .i .i64 v2, .i .i64 v3, .i .i64 v4] = (l.set j.toNat (⟨v0, v1, v2, v3, v4⟩ : S81)).map (e81 b) := Qck h1 h2 (Qbd (z := z81) h1 h2) rfl
theorem Qts {l : List S81} {j : Int} {b : Bool} (h1 : 0 ≤ j) (h2 : j < (l.length : Int)) : QG (l.map (e81 b)) (0 + j.toNat) 1 = some (.deep false b 1 ((Qa7 l j).f1.map eI)) := QfZ (g81 h1 h2)
theorem QkY {l : List S81} {b : Bool} (h2 : (0 : Int) < (l.length : Int)) : QG (l.map (e81 b)) 0 1 = some (.deep false b 1 ((Qa7 l 0).f1.map eI)) := QfZ (Qru h2)
theorem litX_81_1 {v0_0 : Int} {v0_1 : List Int} {v0_2 : Int} {v0_3 : Int} {v0_4 : Int} {b : Bool} : Qcq [[.i .i64 v0_0, .deep false b 1 (v0_1.map eI), .i .i64 v0_2, .i .i64 v0_3, .i .i64 v0_4]] = List.map (e81 b) [(⟨v0_0, v0_1, v0_2, v0_3, v0_4⟩ : S81)] := (rfl)
theorem litX_81_2 {v0_0 : Int} {v0_1 : List Int} {v0_2 : Int} {v0_3 : Int} {v0_4 : Int} {v1_0 : Int} {v1_1 : List Int} {v1_2 : Int} {v1_3 : Int} {v1_4 : Int} {b : Bool} : Qcq [[.i .i64 v0_0, .deep false b 1 (v0_1.map eI), .i .i64 v0_2, .i .i64 v0_3, .i .i64 v0_4], [.i .i64 v1_0, .deep false b 1 (v1_1.map eI), .i .i64 v1_2, .i .i64 v1_3, .i .i64 v1_4]] = List.map (e81 b) [(⟨v0_0, v0_1, v0_2, v0_3, v0_4⟩ : S81), (⟨v1_0, v1_1, v1_2, v1_3, v1_4⟩ : S81)] := (rfl)
theorem litX_81_3 {v0_0 : Int} {v0_1 : List Int} {v0_2 : Int} {v0_3 : Int} {v0_4 : Int} {v1_0 : Int} {v1_1 : List Int} {v1_2 : Int} {v1_3 : Int} {v1_4 : Int} {v2_0 : Int} {v2_1 : List Int} {v2_2 : Int} {v2_3 : Int} {v2_4 : Int} {b : Bool} : Qcq [[.i .i64 v0_0, .deep false b 1 (v0_1.map eI), .i .i64 v0_2, .i .i64 v0_3, .i .i64 v0_4], [.i .i64 v1_0, .deep false b 1 (v1_1.map eI), .i .i64 v1_2, .i .i64 v1_3, .i .i64 v1_4], [.i .i64 v2_0, .deep false b 1 (v2_1.map eI), .i .i64 v2_2, .i .i64 v2_3, .i .i64 v2_4]] = List.map (e81 b) [(⟨v0_0, v0_1, v0_2, v0_3, v0_4⟩ : S81), (⟨v1_0, v1_1, v1_2, v1_3, v1_4⟩ : S81), (⟨v2_0, v2_1, v2_2, v2_3, v2_4⟩ : S81)] := (rfl)
theorem m81 {n sz by' : Nat} {k : IntKind} {m : Int} {l : List (Nat × Option Qan)} (h1 : 0 ≤ m) (h2 : m * by' ≤ 140737488355328) : QmM n sz by' [.i .i64 0, .deep false false 1 [], .i .i64 0, .i .i64 0, .i .i64 0] (.i k m) (rsL l) = some (.slc n [] 0 sz 0 (List.replicate m.toNat z81).length, rsL ((n, some ⟨true, sz, 0, (List.replicate m.toNat z81).map (e81 false)⟩) :: l)) := QhW (e := (e81 false)) rfl h1 h2
theorem az81 {n by' s : Nat} {k : AV} {m : Int} {l : List (Nat × Option Qan)} (h1 : 0 < m) (h2 : m.toNat * by' ≤ 140737488355328) : Qfv n by' [.i .i64 0, .deep false false 1 [], .i .i64 0, .i .i64 0, .i .i64 0] k (.nl s) (.i .i64 m) (rsL l) = some (.slc n [] 0 5 0 (List.replicate m.toNat z81).length, rsL ((n, some ⟨true, 5, 0, (List.replicate m.toNat z81).map (e81 false)⟩) :: l)) := Qwd (e := (e81 false)) rfl h1 h2
theorem QrG {x : S81} {l : List S81} {b : Bool} : Qaj ((x :: l).map (e81 b)) = true := (rfl)
theorem Qwh {l : List S81} {b : Bool} : (l.map (e81 b)).map (·.map QdT) = l.map (e81 true) := by rw [List.map_map]; rfl
theorem Que {q : QaI} {r : Nat} {l : List S81} : QnB true q r (l.map (e81 false)) (Qaj (l.map (e81 false))) = some (l.map (e81 true), []) := by
 cases l with
 | nil => rfl
 | cons x l => rw [QrG, ← Qwh]; rfl
theorem QrK {k : Nat} {l : List S81} : Qcr (k + 2) (l.map (e81 false)) = false := QcO (fun x => by simp only [e81, Qhz, Qwb, Qwa, Qv9, Qvd, Qn9, Qob, Qoa, Qn8, Qjr, Bool.or_false, Bool.false_or]) l
structure QQ where
 f0 : Int
 f1 : Int
def Qca : QQ := ⟨(0 : Int), (0 : Int)⟩
def QaA (x : QQ) : List AV := [.i .i64 x.f0, .i .i64 x.f1]
def Qap (xs : List QQ) (i : Int) : QQ := xs.getD i.toNat Qca
theorem QyH  {l : List QQ} {j : Int} (h1 : 0 ≤ j) (h2 : j < (l.length : Int)) : (l.map QaA)[0 + j.toNat]? = some (QaA (Qap l j)) := QbJ h1 h2
theorem QpT {l : List QQ} (h2 : (0 : Int) < (l.length : Int)) : (l.map QaA)[0]? = some (QaA (Qap l 0)) := by have := QbJ (e := QaA) (z := Qca) (j := 0) (l := l) (by omega) h2; exact this
theorem QpS {l : List QQ} (h2 : (1 : Int) < (l.length : Int)) : (l.map QaA)[1]? = some (QaA (Qap l 1)) := by have := QbJ (e := QaA) (z := Qca) (j := 1) (l := l) (by omega) h2; exact this
theorem QpR {l : List QQ} (h2 : (2 : Int) < (l.length : Int)) : (l.map QaA)[2]? = some (QaA (Qap l 2)) := by have := QbJ (e := QaA) (z := Qca) (j := 2) (l := l) (by omega) h2; exact this
theorem Qp7 {x : QQ} : (QaA x)[0]? = some (.i .i64 x.f0) := (rfl)
theorem Qp6 {x : QQ} : (QaA x)[1]? = some (.i .i64 x.f1) := (rfl)
theorem Qx3 {x : QQ} : (QaA x).length = 2 := (rfl)
theorem Qw9 {x : QQ} {r i pv : Nat} {q : QaI} {rs : Rs} : Qen (some 2) r q pv i 0 (some (QaA x)) rs = some (.agg [.i .i64 x.f0, .i .i64 x.f1], rs) := (rfl)
theorem QoF {l : List QQ} {j : Int} {v0 : Int} (h1 : 0 ≤ j) (h2 : j < (l.length : Int)) : Qaq (l.map QaA) (0 + j.toNat) 0 [.i .i64 v0] = (l.set j.toNat (⟨v0, (Qap l j).f1⟩ : QQ)).map QaA := Qck h1 h2 (Qbd (z := Qca) h1 h2) rfl
theorem QoE {l : List QQ} {j : Int} {v1 : Int} (h1 : 0 ≤ j) (h2 : j < (l.length : Int)) : Qaq (l.map QaA) (0 + j.toNat) 1 [.i .i64 v1] = (l.set j.toNat (⟨(Qap l j).f0, v1⟩ : QQ)).map QaA := Qck h1 h2 (Qbd (z := Qca) h1 h2) rfl
theorem Qxy {l : List QQ} {j : Int} {v0 : Int} {v1 : Int} (h1 : 0 ≤ j) (h2 : j < (l.length : Int)) : Qaq (l.map QaA) (0 + j.toNat) 0 [.i .i64 v0, .i .i64 v1] = (l.set j.toNat (⟨v0, v1⟩ : QQ)).map QaA := Qck h1 h2 (Qbd (z := Qca) h1 h2) rfl
theorem Qem {v0_0 : Int} {v0_1 : Int} : Qcq [[.i .i64 v0_0, .i .i64 v0_1]] = List.map QaA [(⟨v0_0, v0_1⟩ : QQ)] := (rfl)
theorem litX_105_2 {v0_0 : Int} {v0_1 : Int} {v1_0 : Int} {v1_1 : Int} : Qcq [[.i .i64 v0_0, .i .i64 v0_1], [.i .i64 v1_0, .i .i64 v1_1]] = List.map QaA [(⟨v0_0, v0_1⟩ : QQ), (⟨v1_0, v1_1⟩ : QQ)] := (rfl)
theorem litX_105_3 {v0_0 : Int} {v0_1 : Int} {v1_0 : Int} {v1_1 : Int} {v2_0 : Int} {v2_1 : Int} : Qcq [[.i .i64 v0_0, .i .i64 v0_1], [.i .i64 v1_0, .i .i64 v1_1], [.i .i64 v2_0, .i .i64 v2_1]] = List.map QaA [(⟨v0_0, v0_1⟩ : QQ), (⟨v1_0, v1_1⟩ : QQ), (⟨v2_0, v2_1⟩ : QQ)] := (rfl)
theorem QzL {n sz by' : Nat} {k : IntKind} {m : Int} {l : List (Nat × Option Qan)} (h1 : 0 ≤ m) (h2 : m * by' ≤ 140737488355328) : QmM n sz by' [.i .i64 0, .i .i64 0] (.i k m) (rsL l) = some (.slc n [] 0 sz 0 (List.replicate m.toNat Qca).length, rsL ((n, some ⟨true, sz, 0, (List.replicate m.toNat Qca).map QaA⟩) :: l)) := QhW (e := QaA) rfl h1 h2
theorem az105 {n by' s : Nat} {k : AV} {m : Int} {l : List (Nat × Option Qan)} (h1 : 0 < m) (h2 : m.toNat * by' ≤ 140737488355328) : Qfv n by' [.i .i64 0, .i .i64 0] k (.nl s) (.i .i64 m) (rsL l) = some (.slc n [] 0 2 0 (List.replicate m.toNat Qca).length, rsL ((n, some ⟨true, 2, 0, (List.replicate m.toNat Qca).map QaA⟩) :: l)) := Qwd (e := QaA) rfl h1 h2
theorem QmD {k : Nat} {l : List QQ} : Qcr (k + 1) (l.map QaA) = false := QcO (fun _ => rfl) l
theorem Qhv {l : List QQ} : Qaj (l.map QaA) = false := QdK (fun _ => rfl) l
structure S87 where
 f0 : Int
 f1 : List Int
 f2 : Int
 f3 : Int
 f4 : Int
def z87 : S87 := ⟨(0 : Int), ([] : List Int), (0 : Int), (0 : Int), (0 : Int)⟩
def e87 (b : Bool) (x : S87) : List AV := [.i .i64 x.f0, .deep false b 1 (x.f1.map eI), .i .i64 x.f2, .i .i64 x.f3, .i .i64 x.f4]
def QU (xs : List S87) (i : Int) : S87 := xs.getD i.toNat z87
theorem g87  {b : Bool} {l : List S87} {j : Int} (h1 : 0 ≤ j) (h2 : j < (l.length : Int)) : (l.map (e87 b))[0 + j.toNat]? = some ((e87 b) (QU l j)) := QbJ h1 h2
theorem Qrt {b : Bool} {l : List S87} (h2 : (0 : Int) < (l.length : Int)) : (l.map (e87 b))[0]? = some ((e87 b) (QU l 0)) := by have := QbJ (e := (e87 b)) (z := z87) (j := 0) (l := l) (by omega) h2; exact this
theorem Qui {b : Bool} {l : List S87} (h2 : (1 : Int) < (l.length : Int)) : (l.map (e87 b))[1]? = some ((e87 b) (QU l 1)) := by have := QbJ (e := (e87 b)) (z := z87) (j := 1) (l := l) (by omega) h2; exact this
theorem Quh {b : Bool} {l : List S87} (h2 : (2 : Int) < (l.length : Int)) : (l.map (e87 b))[2]? = some ((e87 b) (QU l 2)) := by have := QbJ (e := (e87 b)) (z := z87) (j := 2) (l := l) (by omega) h2; exact this
theorem QuT {b : Bool} {x : S87} : ((e87 b) x)[0]? = some (.i .i64 x.f0) := (rfl)
theorem QuS {b : Bool} {x : S87} : ((e87 b) x)[1]? = some (.deep false b 1 (x.f1.map eI)) := (rfl)
theorem QuR {b : Bool} {x : S87} : ((e87 b) x)[2]? = some (.i .i64 x.f2) := (rfl)
theorem QuQ {b : Bool} {x : S87} : ((e87 b) x)[3]? = some (.i .i64 x.f3) := (rfl)
theorem QuP {b : Bool} {x : S87} : ((e87 b) x)[4]? = some (.i .i64 x.f4) := (rfl)
theorem l87 {b : Bool} {x : S87} : ((e87 b) x).length = 5 := (rfl)
theorem w87 {x : S87} {b : Bool} {r i pv : Nat} {q : QaI} {rs : Rs} : Qen (some 5) r q pv i 0 (some ((e87 b) x)) rs = some (.agg [.i .i64 x.f0, .slc r (q ++ [(i, 1)]) pv 1 0 (x.f1.map eI).length, .i .i64 x.f2, .i .i64 x.f3, .i .i64 x.f4], rs) := (rfl)
theorem QsZ {l : List S87} {j : Int} {v0 : Int} {b : Bool} (h1 : 0 ≤ j) (h2 : j < (l.length : Int)) : Qaq (l.map (e87 b)) (0 + j.toNat) 0 [.i .i64 v0] = (l.set j.toNat (⟨v0, (QU l j).f1, (QU l j).f2, (QU l j).f3, (QU l j).f4⟩ : S87)).map (e87 b) := Qck h1 h2 (Qbd (z := z87) h1 h2) rfl
theorem QsY {l : List S87} {j : Int} {v1 : List Int} {b : Bool} (h1 : 0 ≤ j) (h2 : j < (l.length : Int)) : Qaq (l.map (e87 b)) (0 + j.toNat) 1 [.deep false b 1 (v1.map eI)] = (l.set j.toNat (⟨(QU l j).f0, v1, (QU l j).f2, (QU l j).f3, (QU l j).f4⟩ : S87)).map (e87 b) := Qck h1 h2 (Qbd (z := z87) h1 h2) rfl
theorem QsX {l : List S87} {j : Int} {v2 : Int} {b : Bool} (h1 : 0 ≤ j) (h2 : j < (l.length : Int)) : Qaq (l.map (e87 b)) (0 + j.toNat) 2 [.i .i64 v2] = (l.set j.toNat (⟨(QU l j).f0, (QU l j).f1, v2, (QU l j).f3, (QU l j).f4⟩ : S87)).map (e87 b) := Qck h1 h2 (Qbd (z := z87) h1 h2) rfl
theorem QsW {l : List S87} {j : Int} {v3 : Int} {b : Bool} (h1 : 0 ≤ j) (h2 : j < (l.length : Int)) : Qaq (l.map (e87 b)) (0 + j.toNat) 3 [.i .i64 v3] = (l.set j.toNat (⟨(QU l j).f0, (QU l j).f1, (QU l j).f2, v3, (QU l j).f4⟩ : S87)).map (e87 b) := Qck h1 h2 (Qbd (z := z87) h1 h2) rfl
theorem QsV {l : List S87} {j : Int} {v4 : Int} {b : Bool} (h1 : 0 ≤ j) (h2 : j < (l.length : Int)) : Qaq (l.map (e87 b)) (0 + j.toNat) 4 [.i .i64 v4] = (l.set j.toNat (⟨(QU l j).f0, (QU l j).f1, (QU l j).f2, (QU l j).f3, v4⟩ : S87)).map (e87 b) := Qck h1 h2 (Qbd (z := z87) h1 h2) rfl
theorem s87 {l : List S87} {j : Int} {v0 : Int} {v1 : List Int} {v2 : Int} {v3 : Int} {v4 : Int} {b : Bool} (h1 : 0 ≤ j) (h2 : j < (l.length : Int)) : Qaq (l.map (e87 b)) (0 + j.toNat) 0 [.i .i64 v0, .deep false b 1 (v1.map eI), .i .i64 v2, .i .i64 v3, .i .i64 v4] = (l.set j.toNat (⟨v0, v1, v2, v3, v4⟩ : S87)).map (e87 b) := Qck h1 h2 (Qbd (z := z87) h1 h2) rfl
theorem Qtr {l : List S87} {j : Int} {b : Bool} (h1 : 0 ≤ j) (h2 : j < (l.length : Int)) : QG (l.map (e87 b)) (0 + j.toNat) 1 = some (.deep false b 1 ((QU l j).f1.map eI)) := QfZ (g87 h1 h2)
theorem QkX {l : List S87} {b : Bool} (h2 : (0 : Int) < (l.length : Int)) : QG (l.map (e87 b)) 0 1 = some (.deep false b 1 ((QU l 0).f1.map eI)) := QfZ (Qrt h2)
theorem Qdk {v0_0 : Int} {v0_1 : List Int} {v0_2 : Int} {v0_3 : Int} {v0_4 : Int} {b : Bool} : Qcq [[.i .i64 v0_0, .deep false b 1 (v0_1.map eI), .i .i64 v0_2, .i .i64 v0_3, .i .i64 v0_4]] = List.map (e87 b) [(⟨v0_0, v0_1, v0_2, v0_3, v0_4⟩ : S87)] := (rfl)
theorem litX_87_2 {v0_0 : Int} {v0_1 : List Int} {v0_2 : Int} {v0_3 : Int} {v0_4 : Int} {v1_0 : Int} {v1_1 : List Int} {v1_2 : Int} {v1_3 : Int} {v1_4 : Int} {b : Bool} : Qcq [[.i .i64 v0_0, .deep false b 1 (v0_1.map eI), .i .i64 v0_2, .i .i64 v0_3, .i .i64 v0_4], [.i .i64 v1_0, .deep false b 1 (v1_1.map eI), .i .i64 v1_2, .i .i64 v1_3, .i .i64 v1_4]] = List.map (e87 b) [(⟨v0_0, v0_1, v0_2, v0_3, v0_4⟩ : S87), (⟨v1_0, v1_1, v1_2, v1_3, v1_4⟩ : S87)] := (rfl)
theorem litX_87_3 {v0_0 : Int} {v0_1 : List Int} {v0_2 : Int} {v0_3 : Int} {v0_4 : Int} {v1_0 : Int} {v1_1 : List Int} {v1_2 : Int} {v1_3 : Int} {v1_4 : Int} {v2_0 : Int} {v2_1 : List Int} {v2_2 : Int} {v2_3 : Int} {v2_4 : Int} {b : Bool} : Qcq [[.i .i64 v0_0, .deep false b 1 (v0_1.map eI), .i .i64 v0_2, .i .i64 v0_3, .i .i64 v0_4], [.i .i64 v1_0, .deep false b 1 (v1_1.map eI), .i .i64 v1_2, .i .i64 v1_3, .i .i64 v1_4], [.i .i64 v2_0, .deep false b 1 (v2_1.map eI), .i .i64 v2_2, .i .i64 v2_3, .i .i64 v2_4]] = List.map (e87 b) [(⟨v0_0, v0_1, v0_2, v0_3, v0_4⟩ : S87), (⟨v1_0, v1_1, v1_2, v1_3, v1_4⟩ : S87), (⟨v2_0, v2_1, v2_2, v2_3, v2_4⟩ : S87)] := (rfl)
theorem m87 {n sz by' : Nat} {k : IntKind} {m : Int} {l : List (Nat × Option Qan)} (h1 : 0 ≤ m) (h2 : m * by' ≤ 140737488355328) : QmM n sz by' [.i .i64 0, .deep false false 1 [], .i .i64 0, .i .i64 0, .i .i64 0] (.i k m) (rsL l) = some (.slc n [] 0 sz 0 (List.replicate m.toNat z87).length, rsL ((n, some ⟨true, sz, 0, (List.replicate m.toNat z87).map (e87 false)⟩) :: l)) := QhW (e := (e87 false)) rfl h1 h2
theorem QzP {n by' s : Nat} {k : AV} {m : Int} {l : List (Nat × Option Qan)} (h1 : 0 < m) (h2 : m.toNat * by' ≤ 140737488355328) : Qfv n by' [.i .i64 0, .deep false false 1 [], .i .i64 0, .i .i64 0, .i .i64 0] k (.nl s) (.i .i64 m) (rsL l) = some (.slc n [] 0 5 0 (List.replicate m.toNat z87).length, rsL ((n, some ⟨true, 5, 0, (List.replicate m.toNat z87).map (e87 false)⟩) :: l)) := Qwd (e := (e87 false)) rfl h1 h2
theorem QrF {x : S87} {l : List S87} {b : Bool} : Qaj ((x :: l).map (e87 b)) = true := (rfl)
theorem Qwg {l : List S87} {b : Bool} : (l.map (e87 b)).map (·.map QdT) = l.map (e87 true) := by rw [List.map_map]; rfl
theorem Qud {q : QaI} {r : Nat} {l : List S87} : QnB true q r (l.map (e87 false)) (Qaj (l.map (e87 false))) = some (l.map (e87 true), []) := by
 cases l with
 | nil => rfl
 | cons x l => rw [QrF, ← Qwg]; rfl
theorem Qu6 {k : Nat} {l : List S87} : Qcr (k + 2) (l.map (e87 false)) = false := QcO (fun x => by simp only [e87, Qhz, Qwb, Qwa, Qv9, Qvd, Qn9, Qob, Qoa, Qn8, Qjr, QrK, QmD, Bool.or_false, Bool.false_or]) l
theorem TN0 : type_of% (And.intro @gI <| And.intro @Qyy <| And.intro @Qyx <| And.intro @Qyw <| And.intro @g8 <| And.intro @QyF <| And.intro @QyE <| And.intro @QyD <| And.intro @gB <| And.intro @QyC <| And.intro @QyB <| And.intro @QyA <| And.intro @gS <| And.intro @Qyq <| And.intro @Qyp <| And.intro @Qyo <| And.intro @gL <| And.intro @QwH <| And.intro @Qyv <| And.intro @Qyu <| And.intro @Qy5 <| And.intro @lI <| And.intro @Qy7 <| And.intro @l8 <| And.intro @Qy6 <| And.intro @lB <| And.intro @Qy3 <| And.intro @lS <| And.intro @Qy4 <| And.intro @lL <| And.intro @sI <| And.intro @Qxn <| And.intro @s8 <| And.intro @Qxw <| And.intro @sB <| And.intro @Qxu <| And.intro @sS <| And.intro @Qxl <| And.intro @pL <| And.intro @QxG <| And.intro @sL <| And.intro @Qlx <| And.intro @Qlw <| And.intro @QwS <| And.intro @tbL <| And.intro @Qyl <| And.intro @List.map_nil.{0, 0} <| And.intro @implies_true.{1} <| And.intro @Qy8 <| And.intro @Qxm <| And.intro @QyG <| And.intro @QpQ <| And.intro @QpP <| And.intro @QpO <| And.intro @Qp5 <| And.intro @Qp4 <| And.intro @Qx2 <| And.intro @Qw8 <| And.intro @QoD <| And.intro @QoC <| And.intro @Qxx <| And.intro @Qjr <| And.intro @QpY <| And.intro @g81 <| And.intro @Qru <| And.intro @Quk <| And.intro @Quj <| And.intro @QuY <| And.intro @QuX <| And.intro @QuW <| And.intro @QuV <| And.intro @QuU <| And.intro @l81 <| And.intro @w81 <| And.intro @Qs4 <| And.intro @Qs3 <| And.intro @Qs2 <| And.intro @Qs1 <| And.intro @Qs0 <| And.intro @s81 <| And.intro @Qts <| And.intro @QkY <| And.intro @QrG <| And.intro @Qwh <| And.intro @Que <| And.intro @QrK <| And.intro @QyH <| And.intro @QpT <| And.intro @QpS <| And.intro @QpR <| And.intro @Qp7 <| And.intro @Qp6 <| And.intro @Qx3 <| And.intro @Qw9 <| And.intro @QoF <| And.intro @QoE <| And.intro @Qxy <| And.intro @QmD <| And.intro @Qhv <| And.intro @g87 <| And.intro @Qrt <| And.intro @Qui <| And.intro @Quh <| And.intro @QuT <| And.intro @QuS <| And.intro @QuR <| And.intro @QuQ <| And.intro @QuP <| And.intro @l87 <| And.intro @w87 <| And.intro @QsZ <| And.intro @QsY <| And.intro @QsX <| And.intro @QsW <| And.intro @QsV <| And.intro @s87 <| And.intro @Qtr <| And.intro @QkX <| And.intro @QrF <| And.intro @Qwg <| And.intro @Qud <| @Qu6) := And.intro @gI <| And.intro @Qyy <| And.intro @Qyx <| And.intro @Qyw <| And.intro @g8 <| And.intro @QyF <| And.intro @QyE <| And.intro @QyD <| And.intro @gB <| And.intro @QyC <| And.intro @QyB <| And.intro @QyA <| And.intro @gS <| And.intro @Qyq <| And.intro @Qyp <| And.intro @Qyo <| And.intro @gL <| And.intro @QwH <| And.intro @Qyv <| And.intro @Qyu <| And.intro @Qy5 <| And.intro @lI <| And.intro @Qy7 <| And.intro @l8 <| And.intro @Qy6 <| And.intro @lB <| And.intro @Qy3 <| And.intro @lS <| And.intro @Qy4 <| And.intro @lL <| And.intro @sI <| And.intro @Qxn <| And.intro @s8 <| And.intro @Qxw <| And.intro @sB <| And.intro @Qxu <| And.intro @sS <| And.intro @Qxl <| And.intro @pL <| And.intro @QxG <| And.intro @sL <| And.intro @Qlx <| And.intro @Qlw <| And.intro @QwS <| And.intro @tbL <| And.intro @Qyl <| And.intro @List.map_nil.{0, 0} <| And.intro @implies_true.{1} <| And.intro @Qy8 <| And.intro @Qxm <| And.intro @QyG <| And.intro @QpQ <| And.intro @QpP <| And.intro @QpO <| And.intro @Qp5 <| And.intro @Qp4 <| And.intro @Qx2 <| And.intro @Qw8 <| And.intro @QoD <| And.intro @QoC <| And.intro @Qxx <| And.intro @Qjr <| And.intro @QpY <| And.intro @g81 <| And.intro @Qru <| And.intro @Quk <| And.intro @Quj <| And.intro @QuY <| And.intro @QuX <| And.intro @QuW <| And.intro @QuV <| And.intro @QuU <| And.intro @l81 <| And.intro @w81 <| And.intro @Qs4 <| And.intro @Qs3 <| And.intro @Qs2 <| And.intro @Qs1 <| And.intro @Qs0 <| And.intro @s81 <| And.intro @Qts <| And.intro @QkY <| And.intro @QrG <| And.intro @Qwh <| And.intro @Que <| And.intro @QrK <| And.intro @QyH <| And.intro @QpT <| And.intro @QpS <| And.intro @QpR <| And.intro @Qp7 <| And.intro @Qp6 <| And.intro @Qx3 <| And.intro @Qw9 <| And.intro @QoF <| And.intro @QoE <| And.intro @Qxy <| And.intro @QmD <| And.intro @Qhv <| And.intro @g87 <| And.intro @Qrt <| And.intro @Qui <| And.intro @Quh <| And.intro @QuT <| And.intro @QuS <| And.intro @QuR <| And.intro @QuQ <| And.intro @QuP <| And.intro @l87 <| And.intro @w87 <| And.intro @QsZ <| And.intro @QsY <| And.intro @QsX <| And.intro @QsW <| And.intro @QsV <| And.intro @s87 <| And.intro @Qtr <| And.intro @QkX <| And.intro @QrF <| And.intro @Qwg <| And.intro @Qud <| @Qu6
theorem TN1 : type_of% (And.intro @ne_eq.{1} <| And.intro @eq_self.{1} <| And.intro @not_false_eq_true <| And.intro @not_true_eq_false @and_self) := And.intro @ne_eq.{1} <| And.intro @eq_self.{1} <| And.intro @not_false_eq_true <| And.intro @not_true_eq_false @and_self
theorem TN : type_of% (And.intro TN1 (And.intro RN <| And.intro RN2 <| And.intro RM TN0)) := And.intro TN1 (And.intro RN <| And.intro RN2 <| And.intro RM TN0)
end Go.Proofs.Ytinlbiphjgpmmaa.P
end
section
namespace Go.Proofs.Ytinlbiphjgpmmaa.V
open Go Go.RowKit
section
variable {call : QaZ} {n : Nat} {tm : Tm} {rs : Rs}
def Qv2 (sz0 : Nat) (x : AV) (lo hi mx : Option AV) (rs : Rs) : Option (AV × Rs) := match x with
 | .slc r q pv sz off len => if sz = sz0 then (QdI.bndv len mx len).bind fun m => (QdI.bndv m hi m).bind fun h => (QdI.bndv h lo 0).map fun _ => (.undef, rs) else none
 | _ => none
theorem QhZ {sz0 : Nat} {x : X} {lo hi mx : Option X} : evI call n tm rs (.slM sz0 x lo hi mx) = Qv2 sz0 (x.ev tm) (oX tm lo) (oX tm hi) (oX tm mx) rs := by
 simp only [evI, Qv2, Qoc, QjM]
 cases x.ev tm <;> rfl
theorem QsL {r : Nat} {q : QaI} {pv sz off len : Nat} {k1 k2 k3 : IntKind} {l h m : Int} (h0 : 0 ≤ l) (h1 : l ≤ h) (h2 : h ≤ m) (h3 : m ≤ (len : Int)) :
 Qv2 sz (.slc r q pv sz off len) (some (.i k1 l)) (some (.i k2 h)) (some (.i k3 m)) rs = some (.undef, rs) := by
 simp only [Qv2, QdI.bndv, ↓reduceIte, if_pos (show 0 ≤ m ∧ m ≤ (len : Int) from ⟨by omega, h3⟩), Option.bind_some, if_pos (show 0 ≤ h ∧ h ≤ ((m.toNat : Nat) : Int) from ⟨by omega, by omega⟩), if_pos (show 0 ≤ l ∧ l ≤ ((h.toNat : Nat) : Int) from ⟨h0, by omega⟩), Option.map_some]
def Qv0 (sz0 r pv sz off len : Nat) (lo hi : Option AV) (R : Option Qan) (rs : Rs) : Option (AV × Rs) := match R with
 | some R => if sz = sz0 then (QdI.bndv (max len (R.xs.length - off)) hi len).bind fun h => (QdI.bndv h lo 0).map fun l => (.slc r [] pv sz (off + l) (h - l), rs) else none
 | none => none
def Qv3 (sz0 : Nat) (x : AV) (lo hi : Option AV) (rs : Rs) : Option (AV × Rs) := match x with
 | .slc r q pv sz off len => (QcE rs r q pv).bind fun a => if sz = sz0 then (QdI.bndv (max len (a.2.2.2.length - off)) hi len).bind fun h => (QdI.bndv h lo 0).map fun l => (.slc r q pv sz (off + l) (h - l), rs) else none
 | _ => none
theorem Qh0 {sz0 : Nat} {x : X} {lo hi : Option X} : evI call n tm rs (.slC sz0 x lo hi) = Qv3 sz0 (x.ev tm) (oX tm lo) (oX tm hi) rs := by
 simp only [evI, Qv3, Qoc, QjM]
 cases x.ev tm <;> rfl
theorem QhK {sz0 r pv sz off len : Nat} {lo hi : Option AV} : Qv3 sz0 (.slc r [] pv sz off len) lo hi rs = Qv0 sz0 r pv sz off len lo hi (rs r) rs := by
 simp only [Qv3, QcE, Qv0]
 cases rs r <;> rfl
theorem Qug {r pv sz off len p : Nat} {xs : Els} {own : Bool} {k1 k2 : IntKind} {l h : Int} (h0 : 0 ≤ l) (h1 : l ≤ h) (h2 : h ≤ (max len (xs.length - off) : Nat)) :
 Qv0 sz r pv sz off len (some (.i k1 l)) (some (.i k2 h)) (some ⟨own, sz, p, xs⟩) rs = some (.slc r [] pv sz (off + l.toNat) (h.toNat - l.toNat), rs) := by
 simp only [Qv0, QdI.bndv, ↓reduceIte]
 rw [if_pos (show 0 ≤ h ∧ h ≤ ((max len (xs.length - off) : Nat) : Int) from ⟨by omega, h2⟩)]
 simp only [Option.bind_some]
 rw [if_pos (show 0 ≤ l ∧ l ≤ ((h.toNat : Nat) : Int) from ⟨h0, by omega⟩)]
 rfl
def Qup (zero : List AV) (x : AV) (rs : Rs) : Option (AV × Rs) := match x with
 | .slc r q pv sz off len => if q = [] ∧ sz = zero.length then (rs r).bind fun R =>
  if R.own = true ∧ Qaj (List.replicate len zero) = false then some (.undef, up' rs r (some { R with xs := Qdg off (List.replicate len zero) R.xs })) else none
  else none
 | _ => none
theorem Qh1 {zero : List AV} {x : X} : evI call n tm rs (.clr zero x) = Qup zero (x.ev tm) rs := by
 simp only [evI, Qup]
 cases x.ev tm <;> rfl
theorem Qo9 {zero : List AV} (hz : Qa2 zero = false) (len : Nat) : Qaj (List.replicate len zero) = false := by
 simp only [Qaj, List.any_eq_false]
 intro x hx
 rw [(List.mem_replicate.1 hx).2, hz]; simp
theorem QwY {zero : List AV} {r pv sz off len s p : Nat} {xs : Els} {m : List (Nat × Option Qan)} (hs : sz = zero.length) (hr : rsL m r = some ⟨true, s, p, xs⟩) (hz : Qa2 zero = false) :
 Qup zero (.slc r [] pv sz off len) (rsL m) = some (.undef, rsL ((r, some ⟨true, s, p, Qdg off (List.replicate len zero) xs⟩) :: m)) := by
 simp only [Qup, hr, hs, and_self, ↓reduceIte, Option.bind_some, Qo9 hz, QcB]
theorem QwX {zero : List AV} {r pv sz off len s p : Nat} {xs : Els} {m : List (Nat × Option Qan)} (hs : sz = zero.length) (hz : Qa2 zero = false) :
 Qup zero (.slc r [] pv sz off len) (rsL ((r, some ⟨true, s, p, xs⟩) :: m)) = some (.undef, rsL ((r, some ⟨true, s, p, Qdg off (List.replicate len zero) xs⟩) :: (r, some ⟨true, s, p, xs⟩) :: m)) := QwY hs (by simp only [Qe0, ↓reduceIte]) hz
theorem Qw2 {x : Int} {r off sz k : Nat} (h : 0 ≤ x) : Qcx .gtr 0 (.i .i64 x) (.cv 0 r off sz k) rs = some (.cv 1 r off sz x.toNat, rs) := by simp [Qcx, Qbr, Qd9, h]
theorem Qoi {E : Env} {x : X} {a b : C} {st : St} {Q : Pst} {r off sz k : Nat} : WC E x (.cv 1 r off sz k) a b st Q = (W E a (tok x 3 r off sz k st) Q ∧ W E b (tok x 2 r off sz k st) Q) := (rfl)
theorem QmU {c k r off sz m nx : Nat} {l : List (Nat × AV)} : tok (.t c) k r off sz m ⟨Qaw l, rs, nx⟩ = ⟨Qaw ((c, .cv k r off sz m) :: l), rs, nx⟩ := (rfl)
def QnE (fresh by' : Nat) (zero : List AV) (off len n : Nat) (m : Int) (R : Option Qan) (rs : Rs) : Option (AV × Rs) := match R with
 | some R => if 0 < m ∧ R.own = true ∧ Qaj (wnd R.xs off len) = false ∧ n ≤ len + m.toNat ∧ off < R.xs.length ∧ (len + m.toNat) * by' ≤ 140737488355328 then
             some (.slc fresh [] 0 zero.length 0 (len + m.toNat), up' rs fresh (some ⟨true, zero.length, 0, wnd R.xs off len ++ List.replicate m.toNat zero⟩)) else none
 | none => none
theorem Qjx {fresh by' r off sz k pv len : Nat} {zero : List AV} {m : Int} (hs : sz = zero.length) : Qfv fresh by' zero (.cv 3 r off sz k) (.slc r [] pv sz off len) (.i .i64 m) rs = QnE fresh by' zero off len k m (rs r) rs := by
 subst hs
 simp only [Qfv, and_self, ↓reduceIte, QnE]
 cases rs r with
 | none => split <;> rfl
 | some R => by_cases h : 0 < m <;> simp only [h, ↓reduceIte, true_and, false_and, Option.bind_some]
theorem Qrs {fresh by' off len k s p : Nat} {zero : List AV} {m : Int} {xs : Els} {l : List (Nat × Option Qan)} (h0 : 0 < m) (h1 : Qaj (wnd xs off len) = false) (h2 : k ≤ len + m.toNat) (h3 : off < xs.length) (h4 : (len + m.toNat) * by' ≤ 140737488355328) :
 QnE fresh by' zero off len k m (some ⟨true, s, p, xs⟩) (rsL l) = some (.slc fresh [] 0 zero.length 0 (len + m.toNat), rsL ((fresh, some ⟨true, zero.length, 0, wnd xs off len ++ List.replicate m.toNat zero⟩) :: l)) := by
 simp only [QnE]; rw [if_pos ⟨h0, trivial, h1, h2, h3, h4⟩, QcB]
def QwI (fresh sz : Nat) (k x hi : AV) (rs : Rs) : Option (AV × Rs) := match k, x, hi with
 | .cv 2 r off sz1 n, .slc r1 q pv sz2 off1 len, .i _ h => if r = r1 ∧ q = [] ∧ sz1 = sz ∧ sz2 = sz ∧ off = off1 ∧ 0 < len ∧ 0 ≤ h ∧ h ≤ n then (rs r).bind fun R =>
  if R.own = true then some (.slc fresh [] 0 sz off h.toNat, up' (kill rs [r]) fresh (some ⟨true, sz, 0, R.xs ++ List.replicate (off + h.toNat - R.xs.length) (List.replicate sz .undef)⟩)) else none
  else none
 | _, _, _ => none
theorem Qnw {sz : Nat} {k x hi : X} : evI call n tm rs (.slX sz k x hi) = QwI n sz (k.ev tm) (x.ev tm) (hi.ev tm) rs := (rfl)
def QvZ (fresh sz r off h : Nat) (R : Option Qan) (rs : Rs) : Option (AV × Rs) := match R with
 | some R => if R.own = true then some (.slc fresh [] 0 sz off h, up' (kill rs [r]) fresh (some ⟨true, sz, 0, R.xs ++ List.replicate (off + h - R.xs.length) (List.replicate sz .undef)⟩)) else none
 | none => none
theorem Qwl {fresh sz r off k pv len : Nat} {kk : IntKind} {h : Int} (h1 : 0 < len) (h2 : 0 ≤ h) (h3 : h ≤ (k : Int)) : QwI fresh sz (.cv 2 r off sz k) (.slc r [] pv sz off len) (.i kk h) rs = QvZ fresh sz r off h.toNat (rs r) rs := by
 simp only [QwI, true_and, h1, h2, h3, and_self, ↓reduceIte, QvZ]
 cases rs r <;> rfl
theorem Qi9 {fresh sz r off h s p : Nat} {xs : Els} {l : List (Nat × Option Qan)} : QvZ fresh sz r off h (some ⟨true, s, p, xs⟩) (rsL l) = some (.slc fresh [] 0 sz off h, rsL ((fresh, some ⟨true, sz, 0, xs ++ List.replicate (off + h - xs.length) (List.replicate sz .undef)⟩) :: (r, none) :: l)) := by
 simp only [QvZ, ↓reduceIte, QbV, Qbt, QcB]
def QwJ (sz : Nat) (x y : AV) (rs : Rs) : Option (AV × Rs) := match x, y with
 | .slc r q pv sz1 off len, .slc r2 q2 pv2 sz2 off2 len2 => if q = [] ∧ q2 = [] ∧ r ≠ r2 ∧ sz1 = sz ∧ sz2 = sz ∧ 0 < len ∧ 0 < len2 then ((rs r).bind fun R => (rs r2).bind fun R2 => if R.own = true then some (AV.b false) else none).map (·, rs) else none
 | _, _ => none
theorem Qnx {sz : Nat} {x y : X} : evI call n tm rs (.ovl sz x y) = QwJ sz (x.ev tm) (y.ev tm) rs := (rfl)
def QwG (R R2 : Option Qan) (rs : Rs) : Option (AV × Rs) := match R, R2 with
 | some R, some _ => if R.own = true then some (.b false, rs) else none
 | _, _ => none
theorem Qwq {sz r pv off len r2 pv2 off2 len2 : Nat} (h : decide (r ≠ r2) = true) (h1 : 0 < len) (h2 : 0 < len2) : QwJ sz (.slc r [] pv sz off len) (.slc r2 [] pv2 sz off2 len2) rs = QwG (rs r) (rs r2) rs := by
 have h' : r ≠ r2 := by simpa using h
 simp only [QwJ, true_and, h', ne_eq, not_false_eq_true, h1, h2, and_self, ↓reduceIte, QwG]
 cases rs r with
 | none => rfl
 | some R => cases rs r2 with
  | none => rfl
  | some R2 => simp only [Option.bind_some]; split <;> rfl
theorem Qja {s p : Nat} {xs : Els} {R2 : Qan} : QwG (some ⟨true, s, p, xs⟩) (some R2) rs = some (.b false, rs) := (rfl)
def QnI (sz : Nat) (x y : AV) (rs : Rs) : Option (AV × Rs) := match x with
 | .slc r q pv sz' off len => match y with
  | .slc r2 q2 pv2 sz2 off2 len2 => if q = [] ∧ sz' = sz ∧ sz2 = sz then (rs r).bind fun R => (QcE rs r2 q2 pv2).bind fun a =>
   if R.own = true ∧ Qaj (wnd a.2.2.2 off2 (min len2 len)) = false then some (.i .i64 (min len2 len : Nat), up' rs r (some { R with xs := Qdg off (wnd a.2.2.2 off2 (min len2 len)) R.xs })) else none
   else none
  | _ => none
 | _ => none
theorem Qi4 {sz : Nat} {x y : X} : evI call n tm rs (.copy sz x y) = QnI sz (x.ev tm) (y.ev tm) rs := by
 simp only [evI, QnI]
 cases x.ev tm <;> rfl
def QnD (r off len off2 len2 : Nat) (R R2 : Option Qan) (rs : Rs) : Option (AV × Rs) := match R, R2 with
 | some R, some R2 => if R.own = true ∧ Qaj (wnd R2.xs off2 (min len2 len)) = false then some (.i .i64 (min len2 len : Nat), up' rs r (some { R with xs := Qdg off (wnd R2.xs off2 (min len2 len)) R.xs })) else none
 | _, _ => none
theorem Qjo {sz r pv off len r2 pv2 off2 len2 : Nat} : QnI sz (.slc r [] pv sz off len) (.slc r2 [] pv2 sz off2 len2) rs = QnD r off len off2 len2 (rs r) (rs r2) rs := by
 simp only [QnI, true_and, and_self, ↓reduceIte, QnD, QcE]
 cases rs r with
 | none => rfl
 | some R => cases rs r2 <;> rfl
theorem Ql8 {r off len off2 len2 s p s2 p2 : Nat} {own2 : Bool} {xs ys : Els} {l : List (Nat × Option Qan)} (h : Qaj (wnd ys off2 (min len2 len)) = false) :
 QnD r off len off2 len2 (some ⟨true, s, p, xs⟩) (some ⟨own2, s2, p2, ys⟩) (rsL l) = some (.i .i64 (min len2 len : Nat), rsL ((r, some ⟨true, s, p, Qdg off (wnd ys off2 (min len2 len)) xs⟩) :: l)) := by
 simp only [QnD, h, and_self, ↓reduceIte, QcB]
def Qje (sz : Nat) (x y : AV) (rs : Rs) : Option (AV × Rs) := match x with
 | .slc r q pv sz' off len => match y with
  | .slc r2 q2 pv2 sz2 off2 len2 => if q = [] ∧ q2 = [] ∧ r ≠ r2 ∧ sz' = sz ∧ sz2 = sz then (rs r).bind fun R => (rs r2).bind fun R2 =>
   if R.own = true ∧ Qaj (wnd R2.xs off2 (min len2 len)) = false then some (.i .i64 (min len2 len : Nat), kill (up' rs r (some { R with xs := Qdg off (wnd R2.xs off2 (min len2 len)) R.xs })) [r2]) else none
   else none
  | _ => none
 | _ => none
theorem Qgz {sz : Nat} {x y : X} : evI call n tm rs (.copyK sz x y) = Qje sz (x.ev tm) (y.ev tm) rs := by
 simp only [evI, Qje]
 cases x.ev tm <;> rfl
def Qjb (r off len r2 off2 len2 : Nat) (R R2 : Option Qan) (rs : Rs) : Option (AV × Rs) := match R, R2 with
 | some R, some R2 => if R.own = true ∧ Qaj (wnd R2.xs off2 (min len2 len)) = false then some (.i .i64 (min len2 len : Nat), kill (up' rs r (some { R with xs := Qdg off (wnd R2.xs off2 (min len2 len)) R.xs })) [r2]) else none
 | _, _ => none
theorem QgF {sz r pv off len r2 pv2 off2 len2 : Nat} (h : decide (r ≠ r2) = true) : Qje sz (.slc r [] pv sz off len) (.slc r2 [] pv2 sz off2 len2) rs = Qjb r off len r2 off2 len2 (rs r) (rs r2) rs := by
 have h' : r ≠ r2 := by simpa using h
 simp only [Qje, true_and, h', ne_eq, not_false_eq_true, and_self, ↓reduceIte, Qjb]
 cases rs r with
 | none => rfl
 | some R => cases rs r2 <;> rfl
theorem QnC {r off len r2 off2 len2 s p s2 p2 : Nat} {own2 : Bool} {xs ys : Els} {l : List (Nat × Option Qan)} (h : Qaj (wnd ys off2 (min len2 len)) = false) :
 Qjb r off len r2 off2 len2 (some ⟨true, s, p, xs⟩) (some ⟨own2, s2, p2, ys⟩) (rsL l) = some (.i .i64 (min len2 len : Nat), rsL ((r2, none) :: (r, some ⟨true, s, p, Qdg off (wnd ys off2 (min len2 len)) xs⟩) :: l)) := by
 simp only [Qjb, h, and_self, ↓reduceIte, QcB, QbV, Qbt]
theorem QvG {sz by' : Nat} {ys pre post : Els} {r0 : Option Nat} {m : List (Nat × Option Qan)} (h : (pre.length + ys.length) * by' ≤ 140737488355328) :
 QfS n sz by' (some (ys, [])) (QeE pre post (rsL m) r0) = some (.slc n [] 0 sz 0 (pre.length + ys.length), rsL ((n, some ⟨true, sz, 0, pre ++ ys ++ post.drop ys.length⟩) :: m)) := by
 simp [QfS, QeE, h, Qbt, QcB]
end
def Qv7 (sz by' : Nat) (zero : List AV) : C := (.seq (.kp [0, 1, 2] (.ops [o 6 (.mv (.k (.nl sz)))])) (.seq (.kp [0, 1, 2] (.ops [o 8 (.mv (.t 0)), o 9 (.mv (.t 1)), o 10 (.mv (.t 2)), o 11 (.mv (.t 0)), o 12 (.len false (.t 11)), o 13 (.slM sz (.t 8) (some (.t 9)) (some (.t 10)) (some (.t 12)))])) (.seq (.seq (.kp [0, 1, 2, 16] (.ops [o 14 (.mv (.t 1)), o 15 (.mv (.t 2)), o 16 (.bin .eql 0 (.t 14) (.t 15))])) (.cond (.t 16) (.seq (.kp [6] (.ops [o 17 (.mv (.t 0)), o 6 (.mv (.t 17))])) C.ret) C.skip)) (.seq (.kp [0, 1, 2, 7] (.ops [o 18 (.mv (.t 0)), o 19 (.len false (.t 18)), o 7 (.mv (.t 19))])) (.seq (.kp [0, 7] (.draw (sq 8) [o 20 (.mv (.t 0)), o 21 (.mv (.t 1)), o 22 (.slR sz (.t 20) none (some (.t 21))), o 23 (.mv (.t 0)), o 24 (.mv (.t 2)), o 25 (.slR sz (.t 23) (some (.t 24)) none), o 26 (.app sz by' (.t 22) (.t 25)), o 0 (.mv (.t 26))])) (.seq (.kp [0] (.ops [o 27 (.mv (.t 0)), o 28 (.mv (.t 0)), o 29 (.len false (.t 28)), o 30 (.mv (.t 7)), o 31 (.slC sz (.t 27) (some (.t 29)) (some (.t 30))), oz none none [] (.clr zero (.t 31))])) (.seq (.kp [6] (.ops [o 32 (.mv (.t 0)), o 6 (.mv (.t 32))])) C.ret)))))))
def QwT (sz by' : Nat) (zero : List AV) : Fn := ⟨1, Qv7 sz by' zero, [.t 6]⟩
theorem QrH {z : List AV} {xs : Els} {i j : Nat} (h1 : i ≤ j) (h2 : j ≤ xs.length) : wnd (Qdg (0 + (i + (xs.length - j))) (List.replicate (xs.length - (i + (xs.length - j))) z) (wnd xs 0 i ++ wnd xs j (xs.length - j) ++ (xs.drop (0 + i)).drop (wnd xs j (xs.length - j)).length)) 0 (i + (xs.length - j)) = xs.take i ++ xs.drop j := by
 have e1 : wnd xs 0 i = xs.take i := by simp [wnd]
 have e2 : wnd xs j (xs.length - j) = xs.drop j := by rw [wnd, List.take_of_length_le (by simp)]
 have l1 : (xs.take i).length = i := by simp; omega
 have l2 : (xs.drop j).length = xs.length - j := by simp
 rw [e1, e2]
 have l3 : (xs.take i ++ xs.drop j).length = i + (xs.length - j) := by rw [List.length_append, l1, l2]
 simp only [wnd, Qdg, List.drop_zero, Nat.zero_add, List.append_assoc]
 generalize List.drop (List.drop j xs).length (List.drop i xs) = r1
 rw [← List.append_assoc (List.take i xs)]
 generalize List.take i xs ++ List.drop j xs = A at *
 rw [← l3]
 simp
theorem Qn4 {E : Env} {f sz by' : Nat} {zero : List AV} (hE : E.ext f = none) (hF : E.fns f = some (QwT sz by' zero)) (hz : zero.length = sz) (hzd : Qa2 zero = false) {xs : Els} (hd : Qaj xs = false) {i j : Int} (h0 : 0 ≤ i) (h1 : i ≤ j) (h2 : j ≤ (xs.length : Int)) (hb : xs.length * by' ≤ 140737488355328) :
 Qat E f [.deep false false sz xs, .i .i64 i, .i .i64 j] = some ([.deep false false sz (xs.take i.toNat ++ xs.drop j.toNat)], [none]) := by
 refine Qy (F := QwT sz by' zero) (tm := Qaw [(0, .slc 0 [] 0 sz 0 xs.length), (1, .i .i64 i), (2, .i .i64 j)]) (rs := rsL [(0, some ⟨true, sz, 0, xs⟩)]) (nx := 1) (ow := [true]) hE hF (by simp only [SN]) (by simp only [SN]) (Nat.le_refl 1) ?_
 show W E (Qv7 sz by' zero) _ (Qf [.t 6] [true] _)
 unfold Qv7
 have hi : i ≤ (xs.length : Int) := by omega
 have hj : 0 ≤ j := by omega
 have hdw : ∀ off len, Qaj (wnd xs off len) = false := fun off len => by
  simp only [Qaj, List.any_eq_false] at hd ⊢
  exact fun x hx => hd x (List.mem_of_mem_drop (List.mem_of_mem_take hx))
 have hl1 : (wnd xs 0 i.toNat).length = i.toNat := QaJ (by omega)
 have hl2 : (wnd xs (0 + j.toNat) (xs.length - j.toNat)).length = xs.length - j.toNat := QaJ (by omega)
 have hbb : ((wnd xs 0 i.toNat).length + (wnd xs (0 + j.toNat) (xs.length - j.toNat)).length) * by' ≤ 140737488355328 := by
  rw [hl1, hl2]; exact Nat.le_trans (Nat.mul_le_mul_right _ (by omega)) hb
 by_cases hij : i = j
 ·simp only [RN, QhZ, Qh0, QhK, Qh1, ↓reduceIte, Nat.reduceEqDiff, Nat.reduceAdd, Nat.reduceMul, Nat.reduceSub, Nat.reduceLeDiff, Nat.reduceLT, Nat.reduceBEq, Nat.reduceBNe, Int.reduceLE, Int.reduceLT, Int.reduceEq, Int.reduceToNat, ne_eq, not_false_eq_true, not_true_eq_false, reduceCtorEq, and_self, eq_self, QsL h0 h1 h2 (Int.le_refl _), eq_true hij]
  subst hij
  have e1 : wnd xs 0 xs.length = xs := by simp [wnd]
  rw [e1, List.take_append_drop]
 ·simp only [RN, QhZ, Qh0, QhK, Qh1, ↓reduceIte, Nat.reduceEqDiff, Nat.reduceAdd, Nat.reduceMul, Nat.reduceSub, Nat.reduceLeDiff, Nat.reduceLT, Nat.reduceBEq, Nat.reduceBNe, Int.reduceLE, Int.reduceLT, Int.reduceEq, Int.reduceToNat, ne_eq, not_false_eq_true, not_true_eq_false, reduceCtorEq, and_self, eq_self, QsL h0 h1 h2 (Int.le_refl _), hij, h0, hi, hj, h2, hdw, QvG hbb]
  have hcut := QrH (z := zero) (xs := xs) (i := i.toNat) (j := j.toNat) (by omega) (by omega)
  have hly : (wnd xs 0 i.toNat ++ wnd xs (0 + j.toNat) (xs.length - j.toNat) ++ List.drop (wnd xs (0 + j.toNat) (xs.length - j.toNat)).length (List.drop (0 + i.toNat) xs)).length = xs.length := by
   simp only [List.length_append, List.length_drop, hl1, hl2]; omega
  rw [Nat.zero_add (j.toNat)] at hl2 hly ⊢
  rw [hl1, hl2] at *
  generalize hY : wnd xs 0 i.toNat ++ wnd xs j.toNat (xs.length - j.toNat) ++ List.drop (xs.length - j.toNat) (List.drop (0 + i.toNat) xs) = Y at *
  generalize hN : i.toNat + (xs.length - j.toNat) = N at *
  have hNl : N ≤ xs.length := by omega
  rw [Qug (by omega) (by omega) (by omega)]
  simp only [RN, QhZ, Qh0, QhK, Qh1, ↓reduceIte, Nat.reduceEqDiff, Nat.reduceAdd, Nat.reduceMul, Nat.reduceSub, Nat.reduceLeDiff, Nat.reduceLT, Nat.reduceBEq, Nat.reduceBNe, Int.reduceLE, Int.reduceLT, Int.reduceEq, Int.reduceToNat, ne_eq, not_false_eq_true, not_true_eq_false, reduceCtorEq, and_self, eq_self, QwX hz.symm hzd]
  simp only [Int.toNat_natCast, Nat.zero_add]
  rw [Nat.zero_add] at hcut
  rw [← hcut]; rfl
def QvX (sz by' : Nat) (zero : List AV) (rot : Nat) : C := (.seq (.kp [0, 1, 2] (.ops [o 6 (.mv (.k (.nl sz)))])) (.seq (.kp [0, 1, 2] (.ops [o 10 (.mv (.t 0)), o 11 (.mv (.t 1)), o 12 (.slR sz (.t 10) (some (.t 11)) none)])) (.seq (.kp [0, 1, 2, 7] (.ops [o 13 (.mv (.t 2)), o 14 (.len false (.t 13)), o 7 (.mv (.t 14))])) (.seq (.seq (.kp [0, 1, 2, 7, 16] (.ops [o 15 (.mv (.t 7)), o 16 (.bin .eql 0 (.t 15) (.k (.i .i64 0)))])) (.cond (.t 16) (.seq (.kp [6] (.ops [o 17 (.mv (.t 0)), o 6 (.mv (.t 17))])) C.ret) C.skip)) (.seq (.kp [0, 1, 2, 7, 8] (.ops [o 18 (.mv (.t 0)), o 19 (.len false (.t 18)), o 8 (.mv (.t 19))])) (.seq (.seq (.kp [0, 1, 2, 7, 8, 22] (.ops [o 20 (.mv (.t 1)), o 21 (.mv (.t 8)), o 22 (.bin .eql 0 (.t 20) (.t 21))])) (.cond (.t 22) (.seq (.kp [6] (.ops [o 23 (.mv (.t 0)), o 24 (.mv (.t 2)), o 25 (.app sz by' (.t 23) (.t 24)), o 6 (.mv (.t 25))])) C.ret) C.skip)) (.seq (.seq (.kp [0, 1, 2, 7, 8, 31] (.ops [o 26 (.mv (.t 8)), o 27 (.mv (.t 7)), o 28 (.bin .add 0 (.t 26) (.t 27)), o 29 (.mv (.t 0)), o 30 (.cap (.t 29)), o 31 (.bin .gtr 0 (.t 28) (.t 30))])) (.cond (.t 31) (.seq (.kp [0, 1, 2, 7, 9] (.ops [o 32 (.mv (.t 0)), o 33 (.mv (.t 1)), o 34 (.slR sz (.t 32) none (some (.t 33))), o 35 (.mv (.t 8)), o 36 (.mv (.t 7)), o 37 (.bin .add 0 (.t 35) (.t 36)), o 38 (.mv (.t 1)), o 39 (.bin .sub 0 (.t 37) (.t 38)), o 40 (.appZ by' zero (.t 31) (.t 34) (.t 39)), o 9 (.mv (.t 40))])) (.seq (.kp [0, 1, 7, 9] (.ops [o 41 (.mv (.t 9)), o 42 (.mv (.t 1)), o 43 (.slR sz (.t 41) (some (.t 42)) none), o 44 (.mv (.t 2)), o 45 (.copy sz (.t 43) (.t 44))])) (.seq (.kp [9] (.draw (sq 9) [o 46 (.mv (.t 9)), o 47 (.mv (.t 1)), o 48 (.mv (.t 7)), o 49 (.bin .add 0 (.t 47) (.t 48)), o 50 (.slR sz (.t 46) (some (.t 49)) none), o 51 (.mv (.t 0)), o 52 (.mv (.t 1)), o 53 (.slR sz (.t 51) (some (.t 52)) none), o 54 (.copyK sz (.t 50) (.t 53))])) (.seq (.kp [6] (.ops [o 55 (.mv (.t 9)), o 6 (.mv (.t 55))])) C.ret)))) C.skip)) (.seq (.kp [0, 1, 2, 7, 8] (.ops [o 56 (.mv (.t 0)), o 57 (.mv (.t 8)), o 58 (.mv (.t 7)), o 59 (.bin .add 0 (.t 57) (.t 58)), o 60 (.slX sz (.t 31) (.t 56) (.t 59)), o 0 (.mv (.t 60))])) (.seq (.seq (.kp [0, 1, 2, 7, 8, 68] (.ops [o 61 (.mv (.t 2)), o 62 (.mv (.t 0)), o 63 (.mv (.t 1)), o 64 (.mv (.t 7)), o 65 (.bin .add 0 (.t 63) (.t 64)), o 66 (.slR sz (.t 62) (some (.t 65)) none), o 67 (.ovl sz (.t 61) (.t 66)), o 68 (.un .not (.t 67))])) (.cond (.t 68) (.seq (.kp [0, 1, 2] (.draw (sq 9) [o 69 (.mv (.t 0)), o 70 (.mv (.t 1)), o 71 (.mv (.t 7)), o 72 (.bin .add 0 (.t 70) (.t 71)), o 73 (.slR sz (.t 69) (some (.t 72)) none), o 74 (.mv (.t 0)), o 75 (.mv (.t 1)), o 76 (.slR sz (.t 74) (some (.t 75)) none), o 77 (.copy sz (.t 73) (.t 76))])) (.seq (.kp [0] (.ops [o 78 (.mv (.t 0)), o 79 (.mv (.t 1)), o 80 (.slR sz (.t 78) (some (.t 79)) none), o 81 (.mv (.t 2)), o 82 (.copy sz (.t 80) (.t 81))])) (.seq (.kp [6] (.ops [o 83 (.mv (.t 0)), o 6 (.mv (.t 83))])) C.ret))) C.skip)) (.seq (.kp [0, 1, 7] (.ops [o 84 (.mv (.t 0)), o 85 (.mv (.t 8)), o 86 (.slR sz (.t 84) (some (.t 85)) none), o 87 (.mv (.t 2)), o 88 (.copy sz (.t 86) (.t 87))])) (.seq (.kp [0] (.ops [o 89 (.mv (.t 0)), o 90 (.mv (.t 1)), o 91 (.slR sz (.t 89) (some (.t 90)) none), o 92 (.mv (.t 7)), o 93 (.call rot [true, false] [.t 91, .t 92])])) (.seq (.kp [6] (.ops [o 94 (.mv (.t 0)), o 6 (.mv (.t 94))])) C.ret))))))))))))
def Qwx (sz by' : Nat) (zero : List AV) (rot : Nat) : Fn := ⟨2, QvX sz by' zero rot, [.t 6]⟩
theorem QeN {A V Z : Els} {n : Nat} (h : n = A.length) : Qdg n V (A ++ Z) = A ++ V ++ Z.drop V.length := by
 subst h
 simp only [Qdg, List.take_left', List.append_assoc, List.append_cancel_left_eq]
 rw [List.drop_append, List.drop_of_length_le (by omega), Nat.add_sub_cancel_left, List.nil_append]
theorem Qke {A Z : Els} {n : Nat} (h : n = A.length) : wnd (A ++ Z) 0 n = A := by subst h; simp [wnd]
theorem Qrj {xs vs Z : Els} {k : Nat} (h : k ≤ xs.length) (hZ : True) :
 wnd (Qdg (0 + (k + vs.length)) (xs.drop k) (Qdg (0 + k) vs (xs.take k ++ Z))) 0 (xs.length + vs.length) = xs.take k ++ vs ++ xs.drop k := by
 have l1 : (xs.take k).length = k := by simp; omega
 rw [Nat.zero_add, Nat.zero_add, QeN l1.symm, QeN (by rw [List.length_append, l1]), Qke (by simp only [List.length_append, l1, List.length_drop]; omega)]
theorem Qns {xs vs U : Els} {k : Nat} (h : k ≤ xs.length) (hU : vs.length ≤ U.length) :
 wnd (Qdg (0 + k) vs (Qdg (0 + (k + vs.length)) (xs.drop k) (xs ++ U))) 0 (xs.length + vs.length) = xs.take k ++ vs ++ xs.drop k := by
 rw [Nat.zero_add, Nat.zero_add]
 have l1 : (xs.take k).length = k := by simp; omega
 have e0 : xs ++ U = (xs ++ U).take (k + vs.length) ++ (xs ++ U).drop (k + vs.length) := (List.take_append_drop _ _).symm
 have l2 : ((xs ++ U).take (k + vs.length)).length = k + vs.length := by simp; omega
 have e1 : (xs ++ U).take (k + vs.length) = xs.take k ++ ((xs ++ U).take (k + vs.length)).drop k := by
  have := List.take_append_drop k ((xs ++ U).take (k + vs.length))
  rw [List.take_take, Nat.min_eq_left (by omega), List.take_append_of_le_length h] at this
  exact this.symm
 rw [e0, QeN l2.symm, e1, List.append_assoc, List.append_assoc (xs.take k), QeN l1.symm]
 have l3 : (((xs ++ U).take (k + vs.length)).drop k).length = vs.length := by rw [List.length_drop, l2]; omega
 rw [List.drop_append, List.drop_of_length_le (by omega), l3, Nat.sub_self, List.drop_zero, List.nil_append]
 rw [← List.append_assoc, Qke]
 simp only [List.length_append, l1, List.length_drop]; omega
theorem Qnr {E : Env} {f sz by' rot : Nat} {zero : List AV} (hE : E.ext f = none) (hF : E.fns f = some (Qwx sz by' zero rot)) (hz : zero.length = sz) (hzd : Qa2 zero = false) (hby : 0 < by') {xs vs : Els} (hd : Qaj xs = false) (hdv : Qaj vs = false) (hv : 0 < vs.length) {i : Int} (h0 : 0 ≤ i) (h1 : i ≤ (xs.length : Int)) (hb : (xs.length + vs.length) * by' ≤ 140737488355328) :
 Qat E f [.deep false false sz xs, .i .i64 i, .deep false false sz vs] = some ([.deep false false sz (xs.take i.toNat ++ vs ++ xs.drop i.toNat)], [none, some vs]) := by
 subst hz
 obtain ⟨k, rfl⟩ : ∃ k : Nat, i = k := ⟨i.toNat, by omega⟩
 simp only [Int.toNat_natCast]
 refine Qy (F := Qwx zero.length by' zero rot) (tm := Qaw [(0, .slc 0 [] 0 zero.length 0 xs.length), (1, .i .i64 k), (2, .slc 1 [] 0 zero.length 0 vs.length)]) (rs := rsL [(0, some ⟨true, zero.length, 0, xs⟩), (1, some ⟨true, zero.length, 0, vs⟩)]) (nx := 2) (ow := [true, true]) hE hF (by simp only [SN]) (by simp only [SN]) (Nat.le_refl 2) ?_
 show W E (QvX zero.length by' zero rot) _ (Qf [.t 6] [true, true] _)
 unfold QvX
 have hsm : xs.length + vs.length ≤ 140737488355328 := Nat.le_trans (Nat.le_mul_of_pos_right _ hby) hb
 have hm0 : ¬ ((vs.length : Int) = 0) := by omega
 have hdw : ∀ {xs : Els}, Qaj xs = false → ∀ off len, Qaj (wnd xs off len) = false := fun {xs} hd off len => by
  simp only [Qaj, List.any_eq_false] at hd ⊢
  exact fun x hx => hd x (List.mem_of_mem_drop (List.mem_of_mem_take hx))
 have w0 : ∀ {xs : Els}, wnd xs 0 xs.length = xs := fun {xs} => by simp [wnd]
 by_cases hkn : (k : Int) = (xs.length : Int)
 ·simp only [RN, QhZ, Qh0, QhK, Qh1, QjR, QfP, Qjx, Qnw, Qnx, Qi4, Qjo, Qgz, QgF, Qja, Qi9, Qoi, QmU, ↓reduceIte, Nat.reduceEqDiff, Nat.reduceAdd, Nat.reduceMul, Nat.reduceSub, Nat.reduceLeDiff, Nat.reduceLT, Nat.reduceBEq, Nat.reduceBNe, Int.reduceLE, Int.reduceLT, Int.reduceEq, Int.reduceToNat, ne_eq, not_false_eq_true, not_true_eq_false, reduceCtorEq, and_self, eq_self, h0, h1, hm0, eq_true hkn, hd, hdv, w0, QvG hb]
  have hk : k = xs.length := by omega
  subst hk
  rw [List.take_length, List.drop_length, List.append_nil]
  have e1 : List.take (xs.length + vs.length) (xs ++ vs) = xs ++ vs := List.take_of_length_le (by simp)
  simp [wnd, bkX, e1]
 ·have hx0 : 0 < xs.length := by omega
  have hnn : (0 : Int) ≤ ((xs.length + vs.length : Nat) : Int) := by omega
  have hw1 : wrap64 ((xs.length : Int) + (vs.length : Int)) = ((xs.length + vs.length : Nat) : Int) := by unfold wrap64; omega
  simp only [RN, QhZ, Qh0, QhK, Qh1, QjR, QfP, Qjx, Qnw, Qnx, Qi4, Qjo, Qgz, QgF, Qja, Qi9, Qoi, QmU, ↓reduceIte, Nat.reduceEqDiff, Nat.reduceAdd, Nat.reduceMul, Nat.reduceSub, Nat.reduceLeDiff, Nat.reduceLT, Nat.reduceBEq, Nat.reduceBNe, Int.reduceLE, Int.reduceLT, Int.reduceEq, Int.reduceToNat, ne_eq, not_false_eq_true, not_true_eq_false, reduceCtorEq, and_self, eq_self, h0, h1, hm0, hkn, hw1, QwZ hx0, hnn, Qw2, Int.toNat_natCast]
  refine ⟨?_, ?_⟩
  ·have hw2 : wrap64 (((xs.length + vs.length : Nat) : Int) - (k : Int)) = ((xs.length + vs.length - k : Nat) : Int) := by unfold wrap64; omega
   have hw3 : wrap64 ((k : Int) + (vs.length : Int)) = ((k + vs.length : Nat) : Int) := by unfold wrap64; omega
   have f1 : (0 : Int) < ((xs.length + vs.length - k : Nat) : Int) := by omega
   have f3 : xs.length + vs.length ≤ k + (xs.length + vs.length - k) := by omega
   have f4 : (k + (xs.length + vs.length - k)) * by' ≤ 140737488355328 := Nat.le_trans (Nat.mul_le_mul_right _ (by omega)) hb
   have g1 : (k : Int) ≤ ((k + (xs.length + vs.length - k) : Nat) : Int) := by omega
   have g2 : (0 : Int) ≤ ((k + vs.length : Nat) : Int) := by omega
   have g3 : ((k + vs.length : Nat) : Int) ≤ ((k + (xs.length + vs.length - k) : Nat) : Int) := by omega
   simp only [RN, QhZ, Qh0, QhK, Qh1, QjR, QfP, Qjx, Qnw, Qnx, Qi4, Qjo, Qgz, QgF, Qja, Qi9, Qoi, QmU, ↓reduceIte, Nat.reduceEqDiff, Nat.reduceAdd, Nat.reduceMul, Nat.reduceSub, Nat.reduceLeDiff, Nat.reduceLT, Nat.reduceBEq, Nat.reduceBNe, Int.reduceLE, Int.reduceLT, Int.reduceEq, Int.reduceToNat, ne_eq, not_false_eq_true, not_true_eq_false, reduceCtorEq, and_self, eq_self, h0, h1, hw1, hw2, hw3, Int.toNat_natCast, Qrs f1 (hdw hd 0 k) (by rw [Int.toNat_natCast]; exact f3) hx0 (by rw [Int.toNat_natCast]; exact f4), g1, g2, g3, Ql8, QnC, hdw hd, hdw hdv]
   have e1 : wnd xs (0 + k) (min (xs.length - k) (k + (xs.length + vs.length - k) - (k + vs.length))) = xs.drop k := by
    rw [Nat.zero_add, wnd, List.take_of_length_le (by rw [List.length_drop]; omega)]
   have e2 : wnd vs 0 (min vs.length (k + (xs.length + vs.length - k) - k)) = vs := by
    rw [wnd, List.drop_zero, List.take_of_length_le (by omega)]
   have e3 : wnd xs 0 k = xs.take k := by simp [wnd]
   rw [e1, e2, e3, show k + (xs.length + vs.length - k) = xs.length + vs.length by omega, Qrj (by omega) trivial]
   rfl
  ·have hw3 : wrap64 ((k : Int) + (vs.length : Int)) = ((k + vs.length : Nat) : Int) := by unfold wrap64; omega
   have g0 : ((xs.length + vs.length : Nat) : Int) ≤ ((xs.length + vs.length : Nat) : Int) := Int.le_refl _
   have g2 : (0 : Int) ≤ ((k + vs.length : Nat) : Int) := by omega
   have g3 : ((k + vs.length : Nat) : Int) ≤ ((xs.length + vs.length : Nat) : Int) := by omega
   have g4 : (k : Int) ≤ ((xs.length + vs.length : Nat) : Int) := by omega
   have g5 : 0 < xs.length + vs.length - (k + vs.length) := by omega
   have hdU : Qaj (xs ++ List.replicate (0 + (xs.length + vs.length) - xs.length) (List.replicate zero.length .undef)) = false := by
    refine Qfp hd (Qo9 ?_ _)
    simp only [Qa2, List.any_eq_false]
    intro x hx
    rw [(List.mem_replicate.1 hx).2]; simp [AV.isDeep]
   simp only [RN, QhZ, Qh0, QhK, Qh1, QjR, QfP, Qjx, Qnw, Qnx, Qi4, Qjo, Qgz, QgF, Qja, Qi9, Qoi, QmU, ↓reduceIte, Nat.reduceEqDiff, Nat.reduceAdd, Nat.reduceMul, Nat.reduceSub, Nat.reduceLeDiff, Nat.reduceLT, Nat.reduceBEq, Nat.reduceBNe, Int.reduceLE, Int.reduceLT, Int.reduceEq, Int.reduceToNat, ne_eq, not_false_eq_true, not_true_eq_false, reduceCtorEq, and_self, eq_self, h0, h1, hw1, hw3, Qwl hx0 hnn g0, Int.toNat_natCast, g2, g3, g4, g5, hv, Qwq, Ql8, hdw hdU, hdw hdv]
   generalize hU : List.replicate (0 + (xs.length + vs.length) - xs.length) (List.replicate zero.length AV.undef) = U
   have hUl : U.length = vs.length := by rw [← hU, List.length_replicate]; omega
   have e1 : wnd (xs ++ U) (0 + k) (min (xs.length + vs.length - k) (xs.length + vs.length - (k + vs.length))) = xs.drop k := by
    rw [Nat.zero_add, wnd, List.drop_append_of_le_length (by omega), List.take_append_of_le_length (by rw [List.length_drop]; omega), List.take_of_length_le (by rw [List.length_drop]; omega)]
   have e2 : wnd vs 0 (min vs.length (xs.length + vs.length - k)) = vs := by
    rw [wnd, List.drop_zero, List.take_of_length_le (by omega)]
   rw [e1, e2, Qns (by omega) (by omega)]
   rfl
end Go.Proofs.Ytinlbiphjgpmmaa.V
end
