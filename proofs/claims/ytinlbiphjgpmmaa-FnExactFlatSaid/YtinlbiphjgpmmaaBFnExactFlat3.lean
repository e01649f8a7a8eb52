/- FnExactFlat: WL LC L69 L32 L8 L75 L36 L10 L81 L40 L12 L33 L106 L103 L70 L71 L34 L104 L105 L72 L85 L86 L131 L118 L120 L116 L117 L119 L97 L73 L74 L35 L9 L13 L41 L15 L37 L76. -/
import Derived.Test.YtinlbiphjgpmmaaBFnExactFlat2
import Derived.Test.YtinlbiphjgpmmaaProg
import Derived.KernelRfl
section YtinlbiphjgpmmaaWL
namespace Go.Proofs.Ytinlbiphjgpmmaa.V
open Go Go.RowKit
set_option linter.unusedVariables false
set_option linter.unusedSimpArgs false
set_option linter.all false

section
variable {call : CallF} {n : Nat} {tm : Tm} {rs : Rs}
def fSlM (sz0 : Nat) (x : AV) (lo hi mx : Option AV) (rs : Rs) : Option (AV × Rs) := match x with
    | .slc r q pv sz off len => if sz = sz0 then (fSlS.bndv len mx len).bind fun m => (fSlS.bndv m hi m).bind fun h => (fSlS.bndv h lo 0).map fun _ => (.undef, rs) else none
    | _ => none
theorem i_slM {sz0 : Nat} {x : X} {lo hi mx : Option X} : evI call n tm rs (.slM sz0 x lo hi mx) = fSlM sz0 (x.ev tm) (oX tm lo) (oX tm hi) (oX tm mx) rs := by
  simp only [evI, fSlM, bnd_v, oX_eq]
  cases x.ev tm <;> rfl
theorem slM_c {r : Nat} {q : Path} {pv sz off len : Nat} {k1 k2 k3 : IntKind} {l h m : Int} (h0 : 0 ≤ l) (h1 : l ≤ h) (h2 : h ≤ m) (h3 : m ≤ (len : Int)) :
    fSlM sz (.slc r q pv sz off len) (some (.i k1 l)) (some (.i k2 h)) (some (.i k3 m)) rs = some (.undef, rs) := by
  simp only [fSlM, fSlS.bndv, ↓reduceIte, if_pos (show 0 ≤ m ∧ m ≤ (len : Int) from ⟨by omega, h3⟩), Option.bind_some, if_pos (show 0 ≤ h ∧ h ≤ ((m.toNat : Nat) : Int) from ⟨by omega, by omega⟩), if_pos (show 0 ≤ l ∧ l ≤ ((h.toNat : Nat) : Int) from ⟨h0, by omega⟩), Option.map_some]
def gSlC (sz0 r pv sz off len : Nat) (lo hi : Option AV) (R : Option Root) (rs : Rs) : Option (AV × Rs) := match R with
    | some R => if sz = sz0 then (fSlS.bndv (max len (R.xs.length - off)) hi len).bind fun h => (fSlS.bndv h lo 0).map fun l => (.slc r [] pv sz (off + l) (h - l), rs) else none
    | none => none
def fSlC (sz0 : Nat) (x : AV) (lo hi : Option AV) (rs : Rs) : Option (AV × Rs) := match x with
    | .slc r q pv sz off len => (look rs r q pv).bind fun a => if sz = sz0 then (fSlS.bndv (max len (a.2.2.2.length - off)) hi len).bind fun h => (fSlS.bndv h lo 0).map fun l => (.slc r q pv sz (off + l) (h - l), rs) else none
    | _ => none
theorem i_slC {sz0 : Nat} {x : X} {lo hi : Option X} : evI call n tm rs (.slC sz0 x lo hi) = fSlC sz0 (x.ev tm) (oX tm lo) (oX tm hi) rs := by
  simp only [evI, fSlC, bnd_v, oX_eq]
  cases x.ev tm <;> rfl
theorem slC_s {sz0 r pv sz off len : Nat} {lo hi : Option AV} : fSlC sz0 (.slc r [] pv sz off len) lo hi rs = gSlC sz0 r pv sz off len lo hi (rs r) rs := by
  simp only [fSlC, look, gSlC]
  cases rs r <;> rfl
theorem gSlC_c {r pv sz off len p : Nat} {xs : Els} {own : Bool} {k1 k2 : IntKind} {l h : Int} (h0 : 0 ≤ l) (h1 : l ≤ h) (h2 : h ≤ (max len (xs.length - off) : Nat)) :
    gSlC sz r pv sz off len (some (.i k1 l)) (some (.i k2 h)) (some ⟨own, sz, p, xs⟩) rs = some (.slc r [] pv sz (off + l.toNat) (h.toNat - l.toNat), rs) := by
  simp only [gSlC, fSlS.bndv, ↓reduceIte]
  rw [if_pos (show 0 ≤ h ∧ h ≤ ((max len (xs.length - off) : Nat) : Int) from ⟨by omega, h2⟩)]
  simp only [Option.bind_some]
  rw [if_pos (show 0 ≤ l ∧ l ≤ ((h.toNat : Nat) : Int) from ⟨h0, by omega⟩)]
  rfl
/-- A window of an own array is set. -/
def fClr (zero : List AV) (x : AV) (rs : Rs) : Option (AV × Rs) := match x with
    | .slc r q pv sz off len => if q = [] ∧ sz = zero.length then (rs r).bind fun R =>
          if R.own = true ∧ anyDeeps (List.replicate len zero) = false then some (.undef, up' rs r (some { R with xs := repl off (List.replicate len zero) R.xs })) else none
        else none
    | _ => none
theorem i_clr {zero : List AV} {x : X} : evI call n tm rs (.clr zero x) = fClr zero (x.ev tm) rs := by
  simp only [evI, fClr]
  cases x.ev tm <;> rfl
theorem no_rep {zero : List AV} (hz : anyDeep zero = false) (len : Nat) : anyDeeps (List.replicate len zero) = false := by
  simp only [anyDeeps, List.any_eq_false]
  intro x hx
  rw [(List.mem_replicate.1 hx).2, hz]; simp
theorem clr_c {zero : List AV} {r pv sz off len s p : Nat} {xs : Els} {m : List (Nat × Option Root)} (hs : sz = zero.length) (hr : rsL m r = some ⟨true, s, p, xs⟩) (hz : anyDeep zero = false) :
    fClr zero (.slc r [] pv sz off len) (rsL m) = some (.undef, rsL ((r, some ⟨true, s, p, repl off (List.replicate len zero) xs⟩) :: m)) := by
  simp only [fClr, hr, hs, and_self, ↓reduceIte, Option.bind_some, no_rep hz, rs_up]
theorem clr_h {zero : List AV} {r pv sz off len s p : Nat} {xs : Els} {m : List (Nat × Option Root)} (hs : sz = zero.length) (hz : anyDeep zero = false) :
    fClr zero (.slc r [] pv sz off len) (rsL ((r, some ⟨true, s, p, xs⟩) :: m)) = some (.undef, rsL ((r, some ⟨true, s, p, repl off (List.replicate len zero) xs⟩) :: (r, some ⟨true, s, p, xs⟩) :: m)) := clr_c hs (by simp only [rs_get, ↓reduceIte]) hz
def fCap (x : AV) (rs : Rs) : Option (AV × Rs) := match x with
    | .nl _ => some (.i .i64 0, rs)
    | .slc r q pv sz off len => if q = [] ∧ 0 < len then some (.cv 0 r off sz 0, rs) else none
    | _ => none
theorem i_cap {x : X} : evI call n tm rs (.cap x) = fCap (x.ev tm) rs := (rfl)
theorem cap_n {sz : Nat} : fCap (.nl sz) rs = some (.i .i64 0, rs) := (rfl)
theorem cap_c {r pv sz off len : Nat} (h : 0 < len) : fCap (.slc r [] pv sz off len) rs = some (.cv 0 r off sz 0, rs) := by simp [fCap, h]
theorem b_cap {x : Int} {r off sz k : Nat} (h : 0 ≤ x) : fBin .gtr 0 (.i .i64 x) (.cv 0 r off sz k) rs = some (.cv 1 r off sz x.toNat, rs) := by simp [fBin, formKd, aBin, h]
theorem WC_cv {E : Env} {x : X} {a b : C} {st : St} {Q : Pst} {r off sz k : Nat} : WC E x (.cv 1 r off sz k) a b st Q = (W E a (tok x 3 r off sz k st) Q ∧ W E b (tok x 2 r off sz k st) Q) := (rfl)
theorem tok_c {c k r off sz m nx : Nat} {l : List (Nat × AV)} : tok (.t c) k r off sz m ⟨tmOf l, rs, nx⟩ = ⟨tmOf ((c, .cv k r off sz m) :: l), rs, nx⟩ := (rfl)
def fAppZ (fresh by' : Nat) (zero : List AV) (k x y : AV) (rs : Rs) : Option (AV × Rs) := match y with
    | .i .i64 m => if 0 < m then match x with
      | .nl _ => if m.toNat * by' ≤ 140737488355328 then some (.slc fresh [] 0 zero.length 0 m.toNat, up' rs fresh (some ⟨true, zero.length, 0, List.replicate m.toNat zero⟩)) else none
      | .slc r1 q pv sz2 off1 len => match k with
        | .cv 3 r off sz1 n => if r = r1 ∧ q = [] ∧ sz1 = zero.length ∧ sz2 = zero.length ∧ off = off1 then (rs r).bind fun R =>
            if R.own = true ∧ anyDeeps (wnd R.xs off len) = false ∧ n ≤ len + m.toNat ∧ off < R.xs.length ∧ (len + m.toNat) * by' ≤ 140737488355328 then
              some (.slc fresh [] 0 zero.length 0 (len + m.toNat), up' rs fresh (some ⟨true, zero.length, 0, wnd R.xs off len ++ List.replicate m.toNat zero⟩)) else none
          else none
        | _ => none
      | _ => none
      else none
    | _ => none
theorem i_appZ {by' : Nat} {zero : List AV} {k x y : X} : evI call n tm rs (.appZ by' zero k x y) = fAppZ n by' zero (k.ev tm) (x.ev tm) (y.ev tm) rs := (rfl)
def gAppZ (fresh by' : Nat) (zero : List AV) (off len n : Nat) (m : Int) (R : Option Root) (rs : Rs) : Option (AV × Rs) := match R with
  | some R => if 0 < m ∧ R.own = true ∧ anyDeeps (wnd R.xs off len) = false ∧ n ≤ len + m.toNat ∧ off < R.xs.length ∧ (len + m.toNat) * by' ≤ 140737488355328 then
              some (.slc fresh [] 0 zero.length 0 (len + m.toNat), up' rs fresh (some ⟨true, zero.length, 0, wnd R.xs off len ++ List.replicate m.toNat zero⟩)) else none
  | none => none
theorem appZ_s {fresh by' r off sz k pv len : Nat} {zero : List AV} {m : Int} (hs : sz = zero.length) : fAppZ fresh by' zero (.cv 3 r off sz k) (.slc r [] pv sz off len) (.i .i64 m) rs = gAppZ fresh by' zero off len k m (rs r) rs := by
  subst hs
  simp only [fAppZ, and_self, ↓reduceIte, gAppZ]
  cases rs r with
  | none => split <;> rfl
  | some R => by_cases h : 0 < m <;> simp only [h, ↓reduceIte, true_and, false_and, Option.bind_some]
theorem gAppZ_c {fresh by' off len k s p : Nat} {zero : List AV} {m : Int} {xs : Els} {l : List (Nat × Option Root)} (h0 : 0 < m) (h1 : anyDeeps (wnd xs off len) = false) (h2 : k ≤ len + m.toNat) (h3 : off < xs.length) (h4 : (len + m.toNat) * by' ≤ 140737488355328) :
    gAppZ fresh by' zero off len k m (some ⟨true, s, p, xs⟩) (rsL l) = some (.slc fresh [] 0 zero.length 0 (len + m.toNat), rsL ((fresh, some ⟨true, zero.length, 0, wnd xs off len ++ List.replicate m.toNat zero⟩) :: l)) := by
  simp only [gAppZ]; rw [if_pos ⟨h0, trivial, h1, h2, h3, h4⟩, rs_up]
theorem appZ_n {fresh by' sz : Nat} {zero : List AV} {k : AV} {m : Int} {l : List (Nat × Option Root)} (h0 : 0 < m) (h1 : m.toNat * by' ≤ 140737488355328) :
    fAppZ fresh by' zero k (.nl sz) (.i .i64 m) (rsL l) = some (.slc fresh [] 0 zero.length 0 m.toNat, rsL ((fresh, some ⟨true, zero.length, 0, List.replicate m.toNat zero⟩) :: l)) := by
  simp only [fAppZ]; rw [if_pos h0, if_pos h1, rs_up]
def fSlX (fresh sz : Nat) (k x hi : AV) (rs : Rs) : Option (AV × Rs) := match k, x, hi with
    | .cv 2 r off sz1 n, .slc r1 q pv sz2 off1 len, .i _ h => if r = r1 ∧ q = [] ∧ sz1 = sz ∧ sz2 = sz ∧ off = off1 ∧ 0 < len ∧ 0 ≤ h ∧ h ≤ n then (rs r).bind fun R =>
        if R.own = true then some (.slc fresh [] 0 sz off h.toNat, up' (kill rs [r]) fresh (some ⟨true, sz, 0, R.xs ++ List.replicate (off + h.toNat - R.xs.length) (List.replicate sz .undef)⟩)) else none
      else none
    | _, _, _ => none
theorem i_slX {sz : Nat} {k x hi : X} : evI call n tm rs (.slX sz k x hi) = fSlX n sz (k.ev tm) (x.ev tm) (hi.ev tm) rs := (rfl)
def gSlX (fresh sz r off h : Nat) (R : Option Root) (rs : Rs) : Option (AV × Rs) := match R with
  | some R => if R.own = true then some (.slc fresh [] 0 sz off h, up' (kill rs [r]) fresh (some ⟨true, sz, 0, R.xs ++ List.replicate (off + h - R.xs.length) (List.replicate sz .undef)⟩)) else none
  | none => none
theorem slX_s {fresh sz r off k pv len : Nat} {kk : IntKind} {h : Int} (h1 : 0 < len) (h2 : 0 ≤ h) (h3 : h ≤ (k : Int)) : fSlX fresh sz (.cv 2 r off sz k) (.slc r [] pv sz off len) (.i kk h) rs = gSlX fresh sz r off h.toNat (rs r) rs := by
  simp only [fSlX, true_and, h1, h2, h3, and_self, ↓reduceIte, gSlX]
  cases rs r <;> rfl
theorem gSlX_c {fresh sz r off h s p : Nat} {xs : Els} {l : List (Nat × Option Root)} : gSlX fresh sz r off h (some ⟨true, s, p, xs⟩) (rsL l) = some (.slc fresh [] 0 sz off h, rsL ((fresh, some ⟨true, sz, 0, xs ++ List.replicate (off + h - xs.length) (List.replicate sz .undef)⟩) :: (r, none) :: l)) := by
  simp only [gSlX, ↓reduceIte, kill_cons', kill_nil', rs_up]
def fOvl (sz : Nat) (x y : AV) (rs : Rs) : Option (AV × Rs) := match x, y with
    | .slc r q pv sz1 off len, .slc r2 q2 pv2 sz2 off2 len2 => if q = [] ∧ q2 = [] ∧ r ≠ r2 ∧ sz1 = sz ∧ sz2 = sz ∧ 0 < len ∧ 0 < len2 then ((rs r).bind fun R => (rs r2).bind fun R2 => if R.own = true then some (AV.b false) else none).map (·, rs) else none
    | _, _ => none
theorem i_ovl {sz : Nat} {x y : X} : evI call n tm rs (.ovl sz x y) = fOvl sz (x.ev tm) (y.ev tm) rs := (rfl)
def gOvl (R R2 : Option Root) (rs : Rs) : Option (AV × Rs) := match R, R2 with
  | some R, some _ => if R.own = true then some (.b false, rs) else none
  | _, _ => none
theorem ovl_s {sz r pv off len r2 pv2 off2 len2 : Nat} (h : decide (r ≠ r2) = true) (h1 : 0 < len) (h2 : 0 < len2) : fOvl sz (.slc r [] pv sz off len) (.slc r2 [] pv2 sz off2 len2) rs = gOvl (rs r) (rs r2) rs := by
  have h' : r ≠ r2 := by simpa using h
  simp only [fOvl, true_and, h', ne_eq, not_false_eq_true, h1, h2, and_self, ↓reduceIte, gOvl]
  cases rs r with
  | none => rfl
  | some R => cases rs r2 with
    | none => rfl
    | some R2 => simp only [Option.bind_some]; split <;> rfl
theorem gOvl_c {s p : Nat} {xs : Els} {R2 : Root} : gOvl (some ⟨true, s, p, xs⟩) (some R2) rs = some (.b false, rs) := (rfl)
def fCopy (sz : Nat) (x y : AV) (rs : Rs) : Option (AV × Rs) := match x with
    | .slc r q pv sz' off len => match y with
      | .slc r2 q2 pv2 sz2 off2 len2 => if q = [] ∧ sz' = sz ∧ sz2 = sz then (rs r).bind fun R => (look rs r2 q2 pv2).bind fun a =>
          if R.own = true ∧ anyDeeps (wnd a.2.2.2 off2 (min len2 len)) = false then some (.i .i64 (min len2 len : Nat), up' rs r (some { R with xs := repl off (wnd a.2.2.2 off2 (min len2 len)) R.xs })) else none
        else none
      | _ => none
    | _ => none
theorem i_copy {sz : Nat} {x y : X} : evI call n tm rs (.copy sz x y) = fCopy sz (x.ev tm) (y.ev tm) rs := by
  simp only [evI, fCopy]
  cases x.ev tm <;> rfl
def gCopy (r off len off2 len2 : Nat) (R R2 : Option Root) (rs : Rs) : Option (AV × Rs) := match R, R2 with
  | some R, some R2 => if R.own = true ∧ anyDeeps (wnd R2.xs off2 (min len2 len)) = false then some (.i .i64 (min len2 len : Nat), up' rs r (some { R with xs := repl off (wnd R2.xs off2 (min len2 len)) R.xs })) else none
  | _, _ => none
theorem copy_s {sz r pv off len r2 pv2 off2 len2 : Nat} : fCopy sz (.slc r [] pv sz off len) (.slc r2 [] pv2 sz off2 len2) rs = gCopy r off len off2 len2 (rs r) (rs r2) rs := by
  simp only [fCopy, true_and, and_self, ↓reduceIte, gCopy, look]
  cases rs r with
  | none => rfl
  | some R => cases rs r2 <;> rfl
theorem gCopy_c {r off len off2 len2 s p s2 p2 : Nat} {own2 : Bool} {xs ys : Els} {l : List (Nat × Option Root)} (h : anyDeeps (wnd ys off2 (min len2 len)) = false) :
    gCopy r off len off2 len2 (some ⟨true, s, p, xs⟩) (some ⟨own2, s2, p2, ys⟩) (rsL l) = some (.i .i64 (min len2 len : Nat), rsL ((r, some ⟨true, s, p, repl off (wnd ys off2 (min len2 len)) xs⟩) :: l)) := by
  simp only [gCopy, h, and_self, ↓reduceIte, rs_up]
def fCopyK (sz : Nat) (x y : AV) (rs : Rs) : Option (AV × Rs) := match x with
    | .slc r q pv sz' off len => match y with
      | .slc r2 q2 pv2 sz2 off2 len2 => if q = [] ∧ q2 = [] ∧ r ≠ r2 ∧ sz' = sz ∧ sz2 = sz then (rs r).bind fun R => (rs r2).bind fun R2 =>
          if R.own = true ∧ anyDeeps (wnd R2.xs off2 (min len2 len)) = false then some (.i .i64 (min len2 len : Nat), kill (up' rs r (some { R with xs := repl off (wnd R2.xs off2 (min len2 len)) R.xs })) [r2]) else none
        else none
      | _ => none
    | _ => none
theorem i_copyK {sz : Nat} {x y : X} : evI call n tm rs (.copyK sz x y) = fCopyK sz (x.ev tm) (y.ev tm) rs := by
  simp only [evI, fCopyK]
  cases x.ev tm <;> rfl
def gCopyK (r off len r2 off2 len2 : Nat) (R R2 : Option Root) (rs : Rs) : Option (AV × Rs) := match R, R2 with
  | some R, some R2 => if R.own = true ∧ anyDeeps (wnd R2.xs off2 (min len2 len)) = false then some (.i .i64 (min len2 len : Nat), kill (up' rs r (some { R with xs := repl off (wnd R2.xs off2 (min len2 len)) R.xs })) [r2]) else none
  | _, _ => none
theorem copyK_s {sz r pv off len r2 pv2 off2 len2 : Nat} (h : decide (r ≠ r2) = true) : fCopyK sz (.slc r [] pv sz off len) (.slc r2 [] pv2 sz off2 len2) rs = gCopyK r off len r2 off2 len2 (rs r) (rs r2) rs := by
  have h' : r ≠ r2 := by simpa using h
  simp only [fCopyK, true_and, h', ne_eq, not_false_eq_true, and_self, ↓reduceIte, gCopyK]
  cases rs r with
  | none => rfl
  | some R => cases rs r2 <;> rfl
theorem gCopyK_c {r off len r2 off2 len2 s p s2 p2 : Nat} {own2 : Bool} {xs ys : Els} {l : List (Nat × Option Root)} (h : anyDeeps (wnd ys off2 (min len2 len)) = false) :
    gCopyK r off len r2 off2 len2 (some ⟨true, s, p, xs⟩) (some ⟨own2, s2, p2, ys⟩) (rsL l) = some (.i .i64 (min len2 len : Nat), rsL ((r2, none) :: (r, some ⟨true, s, p, repl off (wnd ys off2 (min len2 len)) xs⟩) :: l)) := by
  simp only [gCopyK, h, and_self, ↓reduceIte, rs_up, kill_cons', kill_nil']
theorem app_g {sz by' : Nat} {ys pre post : Els} {r0 : Option Nat} {m : List (Nat × Option Root)} (h : (pre.length + ys.length) * by' ≤ 140737488355328) :
    fApp n sz by' (some (ys, [])) (fBas pre post (rsL m) r0) = some (.slc n [] 0 sz 0 (pre.length + ys.length), rsL ((n, some ⟨true, sz, 0, pre ++ ys ++ post.drop ys.length⟩) :: m)) := by
  simp [fApp, fBas, h, kill_nil', rs_up]
end

def delB (sz by' : Nat) (zero : List AV) : C := (.seq (.kp [0, 1, 2] (.ops [o 6 (.mv (.k (.nl sz)))])) (.seq (.kp [0, 1, 2] (.ops [o 8 (.mv (.t 0)), o 9 (.mv (.t 1)), o 10 (.mv (.t 2)), o 11 (.mv (.t 0)), o 12 (.len false (.t 11)), o 13 (.slM sz (.t 8) (some (.t 9)) (some (.t 10)) (some (.t 12)))])) (.seq (.seq (.kp [0, 1, 2, 16] (.ops [o 14 (.mv (.t 1)), o 15 (.mv (.t 2)), o 16 (.bin .eql 0 (.t 14) (.t 15))])) (.cond (.t 16) (.seq (.kp [6] (.ops [o 17 (.mv (.t 0)), o 6 (.mv (.t 17))])) C.ret) C.skip)) (.seq (.kp [0, 1, 2, 7] (.ops [o 18 (.mv (.t 0)), o 19 (.len false (.t 18)), o 7 (.mv (.t 19))])) (.seq (.kp [0, 7] (.draw (sq 8) [o 20 (.mv (.t 0)), o 21 (.mv (.t 1)), o 22 (.slR sz (.t 20) none (some (.t 21))), o 23 (.mv (.t 0)), o 24 (.mv (.t 2)), o 25 (.slR sz (.t 23) (some (.t 24)) none), o 26 (.app sz by' (.t 22) (.t 25)), o 0 (.mv (.t 26))])) (.seq (.kp [0] (.ops [o 27 (.mv (.t 0)), o 28 (.mv (.t 0)), o 29 (.len false (.t 28)), o 30 (.mv (.t 7)), o 31 (.slC sz (.t 27) (some (.t 29)) (some (.t 30))), oz none none [] (.clr zero (.t 31))])) (.seq (.kp [6] (.ops [o 32 (.mv (.t 0)), o 6 (.mv (.t 32))])) C.ret)))))))
def delF (sz by' : Nat) (zero : List AV) : Fn := ⟨1, delB sz by' zero, [.t 6]⟩

theorem del_cut {z : List AV} {xs : Els} {i j : Nat} (h1 : i ≤ j) (h2 : j ≤ xs.length) : wnd (repl (0 + (i + (xs.length - j))) (List.replicate (xs.length - (i + (xs.length - j))) z) (wnd xs 0 i ++ wnd xs j (xs.length - j) ++ (xs.drop (0 + i)).drop (wnd xs j (xs.length - j)).length)) 0 (i + (xs.length - j)) = xs.take i ++ xs.drop j := by
  have e1 : wnd xs 0 i = xs.take i := by simp [wnd]
  have e2 : wnd xs j (xs.length - j) = xs.drop j := by rw [wnd, List.take_of_length_le (by simp)]
  have l1 : (xs.take i).length = i := by simp; omega
  have l2 : (xs.drop j).length = xs.length - j := by simp
  rw [e1, e2]
  have l3 : (xs.take i ++ xs.drop j).length = i + (xs.length - j) := by rw [List.length_append, l1, l2]
  simp only [wnd, repl, List.drop_zero, Nat.zero_add, List.append_assoc]
  generalize List.drop (List.drop j xs).length (List.drop i xs) = r1
  rw [← List.append_assoc (List.take i xs)]
  generalize List.take i xs ++ List.drop j xs = A at *
  rw [← l3]
  simp

set_option maxHeartbeats 4000000 in
theorem del_link {E : Env} {f sz by' : Nat} {zero : List AV} (hE : E.ext f = none) (hF : E.fns f = some (delF sz by' zero)) (hz : zero.length = sz) (hzd : anyDeep zero = false) {xs : Els} (hd : anyDeeps xs = false) {i j : Int} (h0 : 0 ≤ i) (h1 : i ≤ j) (h2 : j ≤ (xs.length : Int)) (hb : xs.length * by' ≤ 140737488355328) :
    callW E f [.deep false false sz xs, .i .i64 i, .i .i64 j] = some ([.deep false false sz (xs.take i.toNat ++ xs.drop j.toNat)], [none]) := by
  refine callW_fn' (F := delF sz by' zero) (tm := tmOf [(0, .slc 0 [] 0 sz 0 xs.length), (1, .i .i64 i), (2, .i .i64 j)]) (rs := rsL [(0, some ⟨true, sz, 0, xs⟩)]) (nx := 1) (ow := [true]) hE hF (by simp only [SN]) (by simp only [SN]) (Nat.le_refl 1) ?_
  show W E (delB sz by' zero) _ (Qf [.t 6] [true] _)
  unfold delB
  have hi : i ≤ (xs.length : Int) := by omega
  have hj : 0 ≤ j := by omega
  have hdw : ∀ off len, anyDeeps (wnd xs off len) = false := fun off len => by
    simp only [anyDeeps, List.any_eq_false] at hd ⊢
    exact fun x hx => hd x (List.mem_of_mem_drop (List.mem_of_mem_take hx))
  have hl1 : (wnd xs 0 i.toNat).length = i.toNat := wnd_length (by omega)
  have hl2 : (wnd xs (0 + j.toNat) (xs.length - j.toNat)).length = xs.length - j.toNat := wnd_length (by omega)
  have hbb : ((wnd xs 0 i.toNat).length + (wnd xs (0 + j.toNat) (xs.length - j.toNat)).length) * by' ≤ 140737488355328 := by
    rw [hl1, hl2]; exact Nat.le_trans (Nat.mul_le_mul_right _ (by omega)) hb
  by_cases hij : i = j
  · simp only [RN, i_slM, i_slC, slC_s, i_clr, ↓reduceIte, Nat.reduceEqDiff, Nat.reduceAdd, Nat.reduceMul, Nat.reduceSub, Nat.reduceLeDiff, Nat.reduceLT, Nat.reduceBEq, Nat.reduceBNe, Int.reduceLE, Int.reduceLT, Int.reduceEq, Int.reduceToNat, ne_eq, not_false_eq_true, not_true_eq_false, reduceCtorEq, and_self, eq_self, slM_c h0 h1 h2 (Int.le_refl _), eq_true hij]
    subst hij
    have e1 : wnd xs 0 xs.length = xs := by simp [wnd]
    rw [e1, List.take_append_drop]
  · simp only [RN, i_slM, i_slC, slC_s, i_clr, ↓reduceIte, Nat.reduceEqDiff, Nat.reduceAdd, Nat.reduceMul, Nat.reduceSub, Nat.reduceLeDiff, Nat.reduceLT, Nat.reduceBEq, Nat.reduceBNe, Int.reduceLE, Int.reduceLT, Int.reduceEq, Int.reduceToNat, ne_eq, not_false_eq_true, not_true_eq_false, reduceCtorEq, and_self, eq_self, slM_c h0 h1 h2 (Int.le_refl _), hij, h0, hi, hj, h2, hdw, app_g hbb]
    have hcut := del_cut (z := zero) (xs := xs) (i := i.toNat) (j := j.toNat) (by omega) (by omega)
    have hly : (wnd xs 0 i.toNat ++ wnd xs (0 + j.toNat) (xs.length - j.toNat) ++ List.drop (wnd xs (0 + j.toNat) (xs.length - j.toNat)).length (List.drop (0 + i.toNat) xs)).length = xs.length := by
      simp only [List.length_append, List.length_drop, hl1, hl2]; omega
    rw [Nat.zero_add (j.toNat)] at hl2 hly ⊢
    rw [hl1, hl2] at *
    generalize hY : wnd xs 0 i.toNat ++ wnd xs j.toNat (xs.length - j.toNat) ++ List.drop (xs.length - j.toNat) (List.drop (0 + i.toNat) xs) = Y at *
    generalize hN : i.toNat + (xs.length - j.toNat) = N at *
    have hNl : N ≤ xs.length := by omega
    rw [gSlC_c (by omega) (by omega) (by omega)]
    simp only [RN, i_slM, i_slC, slC_s, i_clr, ↓reduceIte, Nat.reduceEqDiff, Nat.reduceAdd, Nat.reduceMul, Nat.reduceSub, Nat.reduceLeDiff, Nat.reduceLT, Nat.reduceBEq, Nat.reduceBNe, Int.reduceLE, Int.reduceLT, Int.reduceEq, Int.reduceToNat, ne_eq, not_false_eq_true, not_true_eq_false, reduceCtorEq, and_self, eq_self, clr_h hz.symm hzd]
    simp only [Int.toNat_natCast, Nat.zero_add]
    rw [Nat.zero_add] at hcut
    rw [← hcut]; rfl

def insB (sz by' : Nat) (zero : List AV) (rot : Nat) : C := (.seq (.kp [0, 1, 2] (.ops [o 6 (.mv (.k (.nl sz)))])) (.seq (.kp [0, 1, 2] (.ops [o 10 (.mv (.t 0)), o 11 (.mv (.t 1)), o 12 (.slR sz (.t 10) (some (.t 11)) none)])) (.seq (.kp [0, 1, 2, 7] (.ops [o 13 (.mv (.t 2)), o 14 (.len false (.t 13)), o 7 (.mv (.t 14))])) (.seq (.seq (.kp [0, 1, 2, 7, 16] (.ops [o 15 (.mv (.t 7)), o 16 (.bin .eql 0 (.t 15) (.k (.i .i64 0)))])) (.cond (.t 16) (.seq (.kp [6] (.ops [o 17 (.mv (.t 0)), o 6 (.mv (.t 17))])) C.ret) C.skip)) (.seq (.kp [0, 1, 2, 7, 8] (.ops [o 18 (.mv (.t 0)), o 19 (.len false (.t 18)), o 8 (.mv (.t 19))])) (.seq (.seq (.kp [0, 1, 2, 7, 8, 22] (.ops [o 20 (.mv (.t 1)), o 21 (.mv (.t 8)), o 22 (.bin .eql 0 (.t 20) (.t 21))])) (.cond (.t 22) (.seq (.kp [6] (.ops [o 23 (.mv (.t 0)), o 24 (.mv (.t 2)), o 25 (.app sz by' (.t 23) (.t 24)), o 6 (.mv (.t 25))])) C.ret) C.skip)) (.seq (.seq (.kp [0, 1, 2, 7, 8, 31] (.ops [o 26 (.mv (.t 8)), o 27 (.mv (.t 7)), o 28 (.bin .add 0 (.t 26) (.t 27)), o 29 (.mv (.t 0)), o 30 (.cap (.t 29)), o 31 (.bin .gtr 0 (.t 28) (.t 30))])) (.cond (.t 31) (.seq (.kp [0, 1, 2, 7, 9] (.ops [o 32 (.mv (.t 0)), o 33 (.mv (.t 1)), o 34 (.slR sz (.t 32) none (some (.t 33))), o 35 (.mv (.t 8)), o 36 (.mv (.t 7)), o 37 (.bin .add 0 (.t 35) (.t 36)), o 38 (.mv (.t 1)), o 39 (.bin .sub 0 (.t 37) (.t 38)), o 40 (.appZ by' zero (.t 31) (.t 34) (.t 39)), o 9 (.mv (.t 40))])) (.seq (.kp [0, 1, 7, 9] (.ops [o 41 (.mv (.t 9)), o 42 (.mv (.t 1)), o 43 (.slR sz (.t 41) (some (.t 42)) none), o 44 (.mv (.t 2)), o 45 (.copy sz (.t 43) (.t 44))])) (.seq (.kp [9] (.draw (sq 9) [o 46 (.mv (.t 9)), o 47 (.mv (.t 1)), o 48 (.mv (.t 7)), o 49 (.bin .add 0 (.t 47) (.t 48)), o 50 (.slR sz (.t 46) (some (.t 49)) none), o 51 (.mv (.t 0)), o 52 (.mv (.t 1)), o 53 (.slR sz (.t 51) (some (.t 52)) none), o 54 (.copyK sz (.t 50) (.t 53))])) (.seq (.kp [6] (.ops [o 55 (.mv (.t 9)), o 6 (.mv (.t 55))])) C.ret)))) C.skip)) (.seq (.kp [0, 1, 2, 7, 8] (.ops [o 56 (.mv (.t 0)), o 57 (.mv (.t 8)), o 58 (.mv (.t 7)), o 59 (.bin .add 0 (.t 57) (.t 58)), o 60 (.slX sz (.t 31) (.t 56) (.t 59)), o 0 (.mv (.t 60))])) (.seq (.seq (.kp [0, 1, 2, 7, 8, 68] (.ops [o 61 (.mv (.t 2)), o 62 (.mv (.t 0)), o 63 (.mv (.t 1)), o 64 (.mv (.t 7)), o 65 (.bin .add 0 (.t 63) (.t 64)), o 66 (.slR sz (.t 62) (some (.t 65)) none), o 67 (.ovl sz (.t 61) (.t 66)), o 68 (.un .not (.t 67))])) (.cond (.t 68) (.seq (.kp [0, 1, 2] (.draw (sq 9) [o 69 (.mv (.t 0)), o 70 (.mv (.t 1)), o 71 (.mv (.t 7)), o 72 (.bin .add 0 (.t 70) (.t 71)), o 73 (.slR sz (.t 69) (some (.t 72)) none), o 74 (.mv (.t 0)), o 75 (.mv (.t 1)), o 76 (.slR sz (.t 74) (some (.t 75)) none), o 77 (.copy sz (.t 73) (.t 76))])) (.seq (.kp [0] (.ops [o 78 (.mv (.t 0)), o 79 (.mv (.t 1)), o 80 (.slR sz (.t 78) (some (.t 79)) none), o 81 (.mv (.t 2)), o 82 (.copy sz (.t 80) (.t 81))])) (.seq (.kp [6] (.ops [o 83 (.mv (.t 0)), o 6 (.mv (.t 83))])) C.ret))) C.skip)) (.seq (.kp [0, 1, 7] (.ops [o 84 (.mv (.t 0)), o 85 (.mv (.t 8)), o 86 (.slR sz (.t 84) (some (.t 85)) none), o 87 (.mv (.t 2)), o 88 (.copy sz (.t 86) (.t 87))])) (.seq (.kp [0] (.ops [o 89 (.mv (.t 0)), o 90 (.mv (.t 1)), o 91 (.slR sz (.t 89) (some (.t 90)) none), o 92 (.mv (.t 7)), o 93 (.call rot [true, false] [.t 91, .t 92])])) (.seq (.kp [6] (.ops [o 94 (.mv (.t 0)), o 6 (.mv (.t 94))])) C.ret))))))))))))
def insF (sz by' : Nat) (zero : List AV) (rot : Nat) : Fn := ⟨2, insB sz by' zero rot, [.t 6]⟩

theorem repl_mid {A V Z : Els} {n : Nat} (h : n = A.length) : repl n V (A ++ Z) = A ++ V ++ Z.drop V.length := by
  subst h
  simp only [repl, List.take_left', List.append_assoc, List.append_cancel_left_eq]
  rw [List.drop_append, List.drop_of_length_le (by omega), Nat.add_sub_cancel_left, List.nil_append]
theorem wnd_pre {A Z : Els} {n : Nat} (h : n = A.length) : wnd (A ++ Z) 0 n = A := by subst h; simp [wnd]
theorem ins_cut {xs vs Z : Els} {k : Nat} (h : k ≤ xs.length) (hZ : True) :
    wnd (repl (0 + (k + vs.length)) (xs.drop k) (repl (0 + k) vs (xs.take k ++ Z))) 0 (xs.length + vs.length) = xs.take k ++ vs ++ xs.drop k := by
  have l1 : (xs.take k).length = k := by simp; omega
  rw [Nat.zero_add, Nat.zero_add, repl_mid l1.symm, repl_mid (by rw [List.length_append, l1]), wnd_pre (by simp only [List.length_append, l1, List.length_drop]; omega)]
theorem ins_cut2 {xs vs U : Els} {k : Nat} (h : k ≤ xs.length) (hU : vs.length ≤ U.length) :
    wnd (repl (0 + k) vs (repl (0 + (k + vs.length)) (xs.drop k) (xs ++ U))) 0 (xs.length + vs.length) = xs.take k ++ vs ++ xs.drop k := by
  rw [Nat.zero_add, Nat.zero_add]
  have l1 : (xs.take k).length = k := by simp; omega
  have e0 : xs ++ U = (xs ++ U).take (k + vs.length) ++ (xs ++ U).drop (k + vs.length) := (List.take_append_drop _ _).symm
  have l2 : ((xs ++ U).take (k + vs.length)).length = k + vs.length := by simp; omega
  have e1 : (xs ++ U).take (k + vs.length) = xs.take k ++ ((xs ++ U).take (k + vs.length)).drop k := by
    have := List.take_append_drop k ((xs ++ U).take (k + vs.length))
    rw [List.take_take, Nat.min_eq_left (by omega), List.take_append_of_le_length h] at this
    exact this.symm
  rw [e0, repl_mid l2.symm, e1, List.append_assoc, List.append_assoc (xs.take k), repl_mid l1.symm]
  have l3 : (((xs ++ U).take (k + vs.length)).drop k).length = vs.length := by rw [List.length_drop, l2]; omega
  rw [List.drop_append, List.drop_of_length_le (by omega), l3, Nat.sub_self, List.drop_zero, List.nil_append]
  rw [← List.append_assoc, wnd_pre]
  simp only [List.length_append, l1, List.length_drop]; omega

set_option maxHeartbeats 4000000 in
theorem ins_link {E : Env} {f sz by' rot : Nat} {zero : List AV} (hE : E.ext f = none) (hF : E.fns f = some (insF sz by' zero rot)) (hz : zero.length = sz) (hzd : anyDeep zero = false) (hby : 0 < by') {xs vs : Els} (hd : anyDeeps xs = false) (hdv : anyDeeps vs = false) (hv : 0 < vs.length) {i : Int} (h0 : 0 ≤ i) (h1 : i ≤ (xs.length : Int)) (hb : (xs.length + vs.length) * by' ≤ 140737488355328) :
    callW E f [.deep false false sz xs, .i .i64 i, .deep false false sz vs] = some ([.deep false false sz (xs.take i.toNat ++ vs ++ xs.drop i.toNat)], [none, some vs]) := by
  subst hz
  obtain ⟨k, rfl⟩ : ∃ k : Nat, i = k := ⟨i.toNat, by omega⟩
  simp only [Int.toNat_natCast]
  refine callW_fn' (F := insF zero.length by' zero rot) (tm := tmOf [(0, .slc 0 [] 0 zero.length 0 xs.length), (1, .i .i64 k), (2, .slc 1 [] 0 zero.length 0 vs.length)]) (rs := rsL [(0, some ⟨true, zero.length, 0, xs⟩), (1, some ⟨true, zero.length, 0, vs⟩)]) (nx := 2) (ow := [true, true]) hE hF (by simp only [SN]) (by simp only [SN]) (Nat.le_refl 2) ?_
  show W E (insB zero.length by' zero rot) _ (Qf [.t 6] [true, true] _)
  unfold insB
  have hsm : xs.length + vs.length ≤ 140737488355328 := Nat.le_trans (Nat.le_mul_of_pos_right _ hby) hb
  have hm0 : ¬ ((vs.length : Int) = 0) := by omega
  have hdw : ∀ {xs : Els}, anyDeeps xs = false → ∀ off len, anyDeeps (wnd xs off len) = false := fun {xs} hd off len => by
    simp only [anyDeeps, List.any_eq_false] at hd ⊢
    exact fun x hx => hd x (List.mem_of_mem_drop (List.mem_of_mem_take hx))
  have w0 : ∀ {xs : Els}, wnd xs 0 xs.length = xs := fun {xs} => by simp [wnd]
  by_cases hkn : (k : Int) = (xs.length : Int)
  · simp only [RN, i_slM, i_slC, slC_s, i_clr, i_cap, i_appZ, appZ_s, i_slX, i_ovl, i_copy, copy_s, i_copyK, copyK_s, gOvl_c, gSlX_c, WC_cv, tok_c, ↓reduceIte, Nat.reduceEqDiff, Nat.reduceAdd, Nat.reduceMul, Nat.reduceSub, Nat.reduceLeDiff, Nat.reduceLT, Nat.reduceBEq, Nat.reduceBNe, Int.reduceLE, Int.reduceLT, Int.reduceEq, Int.reduceToNat, ne_eq, not_false_eq_true, not_true_eq_false, reduceCtorEq, and_self, eq_self, h0, h1, hm0, eq_true hkn, hd, hdv, w0, app_g hb]
    have hk : k = xs.length := by omega
    subst hk
    rw [List.take_length, List.drop_length, List.append_nil]
    have e1 : List.take (xs.length + vs.length) (xs ++ vs) = xs ++ vs := List.take_of_length_le (by simp)
    simp [wnd, bkX, e1]
  · have hx0 : 0 < xs.length := by omega
    have hnn : (0 : Int) ≤ ((xs.length + vs.length : Nat) : Int) := by omega
    have hw1 : wrap64 ((xs.length : Int) + (vs.length : Int)) = ((xs.length + vs.length : Nat) : Int) := by unfold wrap64; omega
    simp only [RN, i_slM, i_slC, slC_s, i_clr, i_cap, i_appZ, appZ_s, i_slX, i_ovl, i_copy, copy_s, i_copyK, copyK_s, gOvl_c, gSlX_c, WC_cv, tok_c, ↓reduceIte, Nat.reduceEqDiff, Nat.reduceAdd, Nat.reduceMul, Nat.reduceSub, Nat.reduceLeDiff, Nat.reduceLT, Nat.reduceBEq, Nat.reduceBNe, Int.reduceLE, Int.reduceLT, Int.reduceEq, Int.reduceToNat, ne_eq, not_false_eq_true, not_true_eq_false, reduceCtorEq, and_self, eq_self, h0, h1, hm0, hkn, hw1, cap_c hx0, hnn, b_cap, Int.toNat_natCast]
    refine ⟨?_, ?_⟩
    · have hw2 : wrap64 (((xs.length + vs.length : Nat) : Int) - (k : Int)) = ((xs.length + vs.length - k : Nat) : Int) := by unfold wrap64; omega
      have hw3 : wrap64 ((k : Int) + (vs.length : Int)) = ((k + vs.length : Nat) : Int) := by unfold wrap64; omega
      have f1 : (0 : Int) < ((xs.length + vs.length - k : Nat) : Int) := by omega
      have f3 : xs.length + vs.length ≤ k + (xs.length + vs.length - k) := by omega
      have f4 : (k + (xs.length + vs.length - k)) * by' ≤ 140737488355328 := Nat.le_trans (Nat.mul_le_mul_right _ (by omega)) hb
      have g1 : (k : Int) ≤ ((k + (xs.length + vs.length - k) : Nat) : Int) := by omega
      have g2 : (0 : Int) ≤ ((k + vs.length : Nat) : Int) := by omega
      have g3 : ((k + vs.length : Nat) : Int) ≤ ((k + (xs.length + vs.length - k) : Nat) : Int) := by omega
      simp only [RN, i_slM, i_slC, slC_s, i_clr, i_cap, i_appZ, appZ_s, i_slX, i_ovl, i_copy, copy_s, i_copyK, copyK_s, gOvl_c, gSlX_c, WC_cv, tok_c, ↓reduceIte, Nat.reduceEqDiff, Nat.reduceAdd, Nat.reduceMul, Nat.reduceSub, Nat.reduceLeDiff, Nat.reduceLT, Nat.reduceBEq, Nat.reduceBNe, Int.reduceLE, Int.reduceLT, Int.reduceEq, Int.reduceToNat, ne_eq, not_false_eq_true, not_true_eq_false, reduceCtorEq, and_self, eq_self, h0, h1, hw1, hw2, hw3, Int.toNat_natCast, gAppZ_c f1 (hdw hd 0 k) (by rw [Int.toNat_natCast]; exact f3) hx0 (by rw [Int.toNat_natCast]; exact f4), g1, g2, g3, gCopy_c, gCopyK_c, hdw hd, hdw hdv]
      have e1 : wnd xs (0 + k) (min (xs.length - k) (k + (xs.length + vs.length - k) - (k + vs.length))) = xs.drop k := by
        rw [Nat.zero_add, wnd, List.take_of_length_le (by rw [List.length_drop]; omega)]
      have e2 : wnd vs 0 (min vs.length (k + (xs.length + vs.length - k) - k)) = vs := by
        rw [wnd, List.drop_zero, List.take_of_length_le (by omega)]
      have e3 : wnd xs 0 k = xs.take k := by simp [wnd]
      rw [e1, e2, e3, show k + (xs.length + vs.length - k) = xs.length + vs.length by omega, ins_cut (by omega) trivial]
      rfl
    · have hw3 : wrap64 ((k : Int) + (vs.length : Int)) = ((k + vs.length : Nat) : Int) := by unfold wrap64; omega
      have g0 : ((xs.length + vs.length : Nat) : Int) ≤ ((xs.length + vs.length : Nat) : Int) := Int.le_refl _
      have g2 : (0 : Int) ≤ ((k + vs.length : Nat) : Int) := by omega
      have g3 : ((k + vs.length : Nat) : Int) ≤ ((xs.length + vs.length : Nat) : Int) := by omega
      have g4 : (k : Int) ≤ ((xs.length + vs.length : Nat) : Int) := by omega
      have g5 : 0 < xs.length + vs.length - (k + vs.length) := by omega
      have hdU : anyDeeps (xs ++ List.replicate (0 + (xs.length + vs.length) - xs.length) (List.replicate zero.length .undef)) = false := by
        refine anyDeeps_append hd (no_rep ?_ _)
        simp only [anyDeep, List.any_eq_false]
        intro x hx
        rw [(List.mem_replicate.1 hx).2]; simp [AV.isDeep]
      simp only [RN, i_slM, i_slC, slC_s, i_clr, i_cap, i_appZ, appZ_s, i_slX, i_ovl, i_copy, copy_s, i_copyK, copyK_s, gOvl_c, gSlX_c, WC_cv, tok_c, ↓reduceIte, Nat.reduceEqDiff, Nat.reduceAdd, Nat.reduceMul, Nat.reduceSub, Nat.reduceLeDiff, Nat.reduceLT, Nat.reduceBEq, Nat.reduceBNe, Int.reduceLE, Int.reduceLT, Int.reduceEq, Int.reduceToNat, ne_eq, not_false_eq_true, not_true_eq_false, reduceCtorEq, and_self, eq_self, h0, h1, hw1, hw3, slX_s hx0 hnn g0, Int.toNat_natCast, g2, g3, g4, g5, hv, ovl_s, gCopy_c, hdw hdU, hdw hdv]
      generalize hU : List.replicate (0 + (xs.length + vs.length) - xs.length) (List.replicate zero.length AV.undef) = U
      have hUl : U.length = vs.length := by rw [← hU, List.length_replicate]; omega
      have e1 : wnd (xs ++ U) (0 + k) (min (xs.length + vs.length - k) (xs.length + vs.length - (k + vs.length))) = xs.drop k := by
        rw [Nat.zero_add, wnd, List.drop_append_of_le_length (by omega), List.take_append_of_le_length (by rw [List.length_drop]; omega), List.take_of_length_le (by rw [List.length_drop]; omega)]
      have e2 : wnd vs 0 (min vs.length (xs.length + vs.length - k)) = vs := by
        rw [wnd, List.drop_zero, List.take_of_length_le (by omega)]
      rw [e1, e2, ins_cut2 (by omega) (by omega)]
      rfl
end Go.Proofs.Ytinlbiphjgpmmaa.V
end YtinlbiphjgpmmaaWL
section YtinlbiphjgpmmaaLC
namespace Go.Proofs.Ytinlbiphjgpmmaa.P
open Go Go.RowKit Go.Proofs.Ytinlbiphjgpmmaa.V
set_option linter.unusedVariables false
set_option linter.unusedSimpArgs false
set_option linter.all false
set_option maxRecDepth 100000
def laws_szRev.B : C := (.seq (.kp [1, 2] (.ops [o 2 (.boxK (.t 0)), o 4 (.mv (.k (.i .i64 0)))])) (.seq (.kp [1] (.ops [o 5 (.mv (.t 1)), o 6 (.faddr 1 (.t 2)), o 7 (.load none (.t 6)), o 8 (.len true (.t 7)), o 9 (.bin .sub 0 (.t 5) (.t 8)), o 1 (.mv (.t 9))])) (.seq (.seq (.kp [1, 11] (.ops [o 10 (.mv (.t 1)), o 11 (.bin .lss 0 (.t 10) (.k (.i .i64 0)))])) (.cond (.t 11) (.seq (.kp [4] (.ops [o 4 (.mv (.k (.i .i64 (-1))))])) C.ret) C.skip)) (.seq (.kp [4] (.ops [o 12 (.mv (.t 1)), o 4 (.mv (.t 12))])) C.ret))))
def laws_szRev.F : V.Fn := ⟨0, laws_szRev.B, [.t 4]⟩
def laws_szRevS.c0 : C := (.seq (.kp [4] (.ops [o 26 (.mv (.t 1)), o 4 (.mv (.t 26))])) C.ret)
def laws_szRevS.d1 : C := (.seq (.seq (.kp [0, 1, 5, 15] (.ops [o 12 (.mv (.t 5)), o 13 (.mv (.t 0)), o 14 (.len false (.t 13)), o 15 (.bin .lss 0 (.t 12) (.t 14))])) (.cond (.t 15) C.skip (.exit 0))) (.seq (.blk 1 (.seq (.kp [0, 1, 5] (.ops [o 18 (.mv (.t 0)), o 19 (.mv (.t 5)), o 20 (.iaddr 2 (.t 18) (.t 19)), o 21 (.load (some 2) (.t 20)), o 22 (.mv (.t 1)), o 23 (.call 69 [false, false] [.t 21, .t 22]), o 1 (.mv (.t 23))])) (.seq (.kp [0, 1, 5, 25] (.ops [o 24 (.mv (.t 1)), o 25 (.bin .lss 0 (.t 24) (.k (.i .i64 0)))])) (.cond (.t 25) (.seq (.kp [4] (.ops [o 4 (.mv (.k (.i .i64 (-1))))])) C.ret) C.skip)))) (.kp [0, 1, 5] (.ops [o 16 (.mv (.t 5)), o 17 (.bin .add 0 (.t 16) (.k (.i .i64 1))), o 5 (.mv (.t 17))]))))
def laws_szRevS.c1 : C := .loop 1 [0, 1, 5] laws_szRevS.d1
def laws_szRevS.B : C := (.seq (.kp [0, 1] (.ops [o 4 (.mv (.k (.i .i64 0)))])) (.seq (.kp [0, 1] (.ops [o 6 (.mv (.t 1)), o 7 (.mv (.t 0)), o 8 (.len false (.t 7)), o 9 (.bin .sub 0 (.t 6) (.t 8)), o 1 (.mv (.t 9))])) (.seq (.seq (.kp [0, 1, 11] (.ops [o 10 (.mv (.t 1)), o 11 (.bin .lss 0 (.t 10) (.k (.i .i64 0)))])) (.cond (.t 11) (.seq (.kp [4] (.ops [o 4 (.mv (.k (.i .i64 (-1))))])) C.ret) C.skip)) (.seq (.seq (.kp [0, 1, 5] (.ops [o 5 (.mv (.k (.i .i64 0)))])) (.blk 0 laws_szRevS.c1)) laws_szRevS.c0))))
def laws_szRevS.F : V.Fn := ⟨1, laws_szRevS.B, [.t 4]⟩
def laws_szRepo.B : C := (.seq (.kp [1, 2] (.ops [o 2 (.boxK (.t 0)), o 4 (.mv (.k (.i .i64 0)))])) (.seq (.kp [1] (.ops [o 5 (.faddr 0 (.t 2)), o 6 (.load none (.t 5)), o 7 (.mv (.t 1)), o 8 (.call 32 [false, false] [.t 6, .t 7]), o 1 (.mv (.t 8))])) (.seq (.seq (.kp [1, 10] (.ops [o 9 (.mv (.t 1)), o 10 (.bin .lss 0 (.t 9) (.k (.i .i64 0)))])) (.cond (.t 10) (.seq (.kp [4] (.ops [o 4 (.mv (.k (.i .i64 (-1))))])) C.ret) C.skip)) (.seq (.kp [4] (.ops [o 11 (.mv (.t 1)), o 4 (.mv (.t 11))])) C.ret))))
def laws_szRepo.F : V.Fn := ⟨1, laws_szRepo.B, [.t 4]⟩
def laws_toRev.B : C := (.seq (.kp [1, 2] (.ops [o 1 (.boxK (.t 0)), o 2 (.alloc [.i .i64 0, .s ⟨#[]⟩])])) (.seq (.kp [1, 2, 3] (.ops [o 3 (.alloc [.i .i64 0, .s ⟨#[]⟩])])) (.seq (.kp [1, 2, 3] (.ops [o 4 (.faddr 0 (.t 1)), o 5 (.load none (.t 4)), o 6 (.faddr 0 (.t 3)), oz none none [] (.store 1 (.t 6) (.t 5))])) (.seq (.kp [2, 3] (.ops [o 7 (.faddr 1 (.t 1)), o 8 (.load none (.t 7)), o 9 (.faddr 1 (.t 3)), oz none none [] (.store 1 (.t 9) (.t 8))])) (.seq (.kp [2] (.ops [o 10 (.load (some 2) (.t 3)), oz none none [] (.store 2 (.t 2) (.t 10))])) C.ret)))))
def laws_toRev.F : V.Fn := ⟨0, laws_toRev.B, [.cell 2 (some 2)]⟩
def laws_toRevS.c0 : C := (.seq (.kp [2] (.ops [o 22 (.mv (.t 3)), o 2 (.mv (.t 22))])) C.ret)
def laws_toRevS.d1 : C := (.seq (.seq (.kp [0, 3, 4, 11] (.ops [o 8 (.mv (.t 4)), o 9 (.mv (.t 0)), o 10 (.len false (.t 9)), o 11 (.bin .lss 0 (.t 8) (.t 10))])) (.cond (.t 11) C.skip (.exit 0))) (.seq (.blk 1 (.kp [0, 3, 4] (.ops [o 14 (.mv (.t 3)), o 15 (.mv (.t 4)), o 16 (.mv (.t 0)), o 17 (.mv (.t 4)), o 18 (.iaddr 2 (.t 16) (.t 17)), o 19 (.load (some 2) (.t 18)), o 20 (.call 75 [false] [.t 19]), o 21 (.iaddr 2 (.t 14) (.t 15)), oz none none [] (.store 2 (.t 21) (.t 20))]))) (.kp [0, 3, 4] (.ops [o 12 (.mv (.t 4)), o 13 (.bin .add 0 (.t 12) (.k (.i .i64 1))), o 4 (.mv (.t 13))]))))
def laws_toRevS.c1 : C := .loop 1 [0, 3, 4] laws_toRevS.d1
def laws_toRevS.B : C := (.seq (.kp [0] (.ops [o 2 (.mv (.k (.nl 2)))])) (.seq (.kp [0, 3] (.ops [o 5 (.mv (.t 0)), o 6 (.len false (.t 5)), o 7 (.mks 2 24 [.i .i64 0, .s ⟨#[]⟩] (.t 6)), o 3 (.mv (.t 7))])) (.seq (.seq (.kp [0, 3, 4] (.ops [o 4 (.mv (.k (.i .i64 0)))])) (.blk 0 laws_toRevS.c1)) laws_toRevS.c0)))
def laws_toRevS.F : V.Fn := ⟨1, laws_toRevS.B, [.t 2]⟩
def laws_toRepo.B : C := (.seq (.kp [1, 2] (.ops [o 1 (.boxK (.t 0)), o 2 (.alloc [.deep false false 2 []])])) (.seq (.kp [1, 2, 3] (.ops [o 3 (.alloc [.deep false false 2 []])])) (.seq (.kp [2, 3] (.ops [o 4 (.faddr 0 (.t 1)), o 5 (.load none (.t 4)), o 6 (.call 36 [false] [.t 5]), o 7 (.faddr 0 (.t 3)), oz none none [] (.store 1 (.t 7) (.t 6))])) (.seq (.kp [2] (.ops [o 8 (.load (some 1) (.t 3)), oz none none [8] (.store 1 (.t 2) (.t 8))])) C.ret))))
def laws_toRepo.F : V.Fn := ⟨1, laws_toRepo.B, [.cell 2 (some 1)]⟩
def spec_l30Copy.B : C := (.seq (.kp [1, 2] (.ops [o 1 (.boxK (.t 0)), o 2 (.alloc [.deep false false 2 []])])) (.seq (.kp [2] (.ops [o 3 (.lit 2 0 [.i .i64 0, .s ⟨#[]⟩] []), o 4 (.faddr 0 (.t 1)), o 5 (.load none (.t 4)), o 6 (.app 2 24 (.t 3) (.t 5)), o 7 (.build [.nl 2] [(0, 1, .t 6)]), oz none none [] (.store 1 (.t 2) (.t 7))])) C.ret))
def spec_l30Copy.F : V.Fn := ⟨1, spec_l30Copy.B, [.cell 2 (some 1)]⟩
def spec_l1In.B : C := (.seq (.kp [0, 1, 2] (.ops [o 6 (.mv (.k (.b false)))])) (.seq (.kp [6] (.ops [o 7 (.mv (.t 0)), o 8 (.mv (.t 1)), o 9 (.bin .geq 0 (.t 7) (.t 8)), o 10 (.mv (.t 9)), og 11 10 true (.mv (.t 0)), og 12 10 true (.mv (.t 2)), og 13 10 true (.bin .leq 0 (.t 11) (.t 12)), o 14 (.pick (.t 10) (.t 13) (.k (.b false))), o 6 (.mv (.t 14))])) C.ret))
def spec_l1In.F : V.Fn := ⟨0, spec_l1In.B, [.t 6]⟩
def spec_Var.c0 : C := (.seq (.kp [2] (.ops [o 19 (.mv (.t 3)), o 20 (.mv (.t 0)), o 21 (.conv .u8 (.t 20)), o 22 (.lit 1 1 [.i .u8 0] [(0, .t 21)]), o 23 (.app 1 1 (.t 19) (.t 22)), o 24 (.bts (.t 23)), o 2 (.mv (.t 24))])) C.ret)
def spec_Var.d1 : C := (.seq (.seq (.kp [0, 3, 9] (.ops [o 8 (.mv (.t 0)), o 9 (.bin .geq 0 (.t 8) (.k (.i .i64 128)))])) (.cond (.t 9) C.skip (.exit 0))) (.blk 1 (.seq (.kp [0, 3] (.ops [o 10 (.mv (.t 3)), o 11 (.mv (.t 0)), o 12 (.bin .rem 0 (.t 11) (.k (.i .i64 128))), o 13 (.bin .add 0 (.k (.i .i64 128)) (.t 12)), o 14 (.conv .u8 (.t 13)), o 15 (.lit 1 1 [.i .u8 0] [(0, .t 14)]), o 16 (.app 1 1 (.t 10) (.t 15)), o 3 (.mv (.t 16))])) (.kp [0, 3] (.ops [o 17 (.mv (.t 0)), o 18 (.bin .quo 0 (.t 17) (.k (.i .i64 128))), o 0 (.mv (.t 18))])))))
def spec_Var.c1 : C := .loop 0 [0, 3] spec_Var.d1
def spec_Var.B : C := (.seq (.kp [0] (.ops [o 2 (.mv (.k (.s ⟨#[]⟩)))])) (.seq (.seq (.kp [0, 6] (.ops [o 4 (.mv (.t 0)), o 5 (.call 33 [false, false, false] [.t 4, .k (.i .i64 0), .k (.i .i64 562949953421311)]), o 6 (.un .not (.t 5))])) (.cond (.t 6) (.seq (.kp [2] (.ops [o 2 (.mv (.k (.s ⟨#[]⟩)))])) C.ret) C.skip)) (.seq (.kp [0, 3] (.ops [o 7 (.lit 1 0 [.i .u8 0] []), o 3 (.mv (.t 7))])) (.seq (.blk 0 spec_Var.c1) spec_Var.c0))))
def spec_Var.F : V.Fn := ⟨0, spec_Var.B, [.t 2]⟩
def spec_ReadVar.c0 : C := (.seq (.kp [2, 3] (.ops [o 2 (.mv (.k (.i .i64 0))), o 3 (.mv (.k (.i .i64 0)))])) C.ret)
def spec_ReadVar.d4 : C := (.seq (.seq (.kp [0, 4, 5, 6, 20] (.ops [o 19 (.mv (.t 6)), o 20 (.bin .geq 0 (.t 19) (.k (.i .i64 0)))])) (.cond (.t 20) C.skip (.exit 2))) (.seq (.blk 3 (.kp [0, 4, 5, 6] (.ops [o 23 (.mv (.t 5)), o 24 (.bin .mul 0 (.t 23) (.k (.i .i64 128))), o 25 (.mv (.t 0)), o 26 (.mv (.t 6)), o 27 (.idxS (.t 25) (.t 26)), o 28 (.conv .i64 (.t 27)), o 29 (.bin .rem 0 (.t 28) (.k (.i .i64 128))), o 30 (.bin .add 0 (.t 24) (.t 29)), o 5 (.mv (.t 30))]))) (.kp [0, 4, 5, 6] (.ops [o 21 (.mv (.t 6)), o 22 (.bin .sub 0 (.t 21) (.k (.i .i64 1))), o 6 (.mv (.t 22))]))))
def spec_ReadVar.c4 : C := .loop 0 [0, 4, 5, 6] spec_ReadVar.d4
def spec_ReadVar.c3 : C := (.seq (.kp [0, 4, 5, 36] (.draw (tk [0, 2, 3, 4, 1, 5] .done) [o 31 (.mv (.t 5)), o 32 (.call 106 [false] [.t 31]), o 33 (.mv (.t 0)), o 34 (.mv (.t 4)), o 35 (.slS (.t 33) none (some (.t 34))), o 36 (.bin .eql 0 (.t 32) (.t 35))])) (.cond (.t 36) (.seq (.kp [2, 3] (.ops [o 37 (.mv (.t 5)), o 38 (.mv (.t 4)), o 2 (.mv (.t 37)), o 3 (.mv (.t 38))])) C.ret) C.skip))
def spec_ReadVar.c2 : C := (.kp [0, 4] (.ops [o 15 (.mv (.t 4)), o 16 (.bin .add 0 (.t 15) (.k (.i .i64 1))), o 4 (.mv (.t 16))]))
def spec_ReadVar.d1 : C := (.seq (.seq (.kp [0, 4, 14] (.ops [o 7 (.mv (.t 4)), o 8 (.bin .leq 0 (.t 7) (.k (.i .i64 7))), o 9 (.mv (.t 8)), og 10 9 true (.mv (.t 4)), og 11 9 true (.mv (.t 0)), og 12 9 true (.len true (.t 11)), og 13 9 true (.bin .leq 0 (.t 10) (.t 12)), o 14 (.pick (.t 9) (.t 13) (.k (.b false)))])) (.cond (.t 14) C.skip (.exit 0))) (.seq (.blk 1 (.seq (.kp [0, 4, 5] (.ops [o 5 (.mv (.k (.i .i64 0)))])) (.seq (.seq (.kp [0, 4, 5, 6] (.ops [o 17 (.mv (.t 4)), o 18 (.bin .sub 0 (.t 17) (.k (.i .i64 1))), o 6 (.mv (.t 18))])) (.blk 2 spec_ReadVar.c4)) spec_ReadVar.c3))) spec_ReadVar.c2))
def spec_ReadVar.c1 : C := .loop 0 [0, 4] spec_ReadVar.d1
def spec_ReadVar.B : C := (.seq (.kp [0] (.ops [o 2 (.mv (.k (.i .i64 0))), o 3 (.mv (.k (.i .i64 0)))])) (.seq (.seq (.kp [0, 4] (.ops [o 4 (.mv (.k (.i .i64 1)))])) (.blk 0 spec_ReadVar.c1)) spec_ReadVar.c0))
def spec_ReadVar.F : V.Fn := ⟨0, spec_ReadVar.B, [.t 2, .t 3]⟩
def spec_l4Num.B : C := (.seq (.kp [0, 1] (.ops [o 4 (.mv (.k (.i .i64 0))), o 5 (.mv (.k (.i .i64 0)))])) (.seq (.kp [1, 6, 7] (.ops [o 9 (.mv (.t 0)), o 10 (.mv (.t 1)), o 11 (.slS (.t 9) (some (.t 10)) none), o 12 (.call 103 [false] [.t 11]), o 8 (.mv (.t 12)), o 13 (.ext 0 (.t 8)), o 14 (.ext 1 (.t 8)), o 6 (.mv (.t 13)), o 7 (.mv (.t 14))])) (.seq (.seq (.kp [1, 6, 7, 16] (.ops [o 15 (.mv (.t 7)), o 16 (.bin .eql 0 (.t 15) (.k (.i .i64 0)))])) (.cond (.t 16) (.seq (.kp [4, 5] (.ops [o 4 (.mv (.k (.i .i64 0))), o 5 (.mv (.k (.i .i64 (-1))))])) C.ret) C.skip)) (.seq (.kp [4, 5] (.ops [o 17 (.mv (.t 6)), o 18 (.mv (.t 1)), o 19 (.mv (.t 7)), o 20 (.bin .add 0 (.t 18) (.t 19)), o 4 (.mv (.t 17)), o 5 (.mv (.t 20))])) C.ret))))
def spec_l4Num.F : V.Fn := ⟨0, spec_l4Num.B, [.t 4, .t 5]⟩
def spec_LabelOk.B : C := (.seq (.kp [0] (.ops [o 2 (.mv (.k (.b false)))])) (.seq (.kp [2] (.ops [o 3 (.mv (.t 0)), o 4 (.call 33 [false, false, false] [.t 3, .k (.i .i64 0), .k (.i .i64 5)]), o 2 (.mv (.t 4))])) C.ret))
def spec_LabelOk.F : V.Fn := ⟨0, spec_LabelOk.B, [.t 2]⟩
def spec_GetTree.c0 : C := (.seq (.seq (.kp [4, 86] (.ops [o 83 (.mv (.t 6)), o 84 (.mv (.t 0)), o 85 (.len true (.t 84)), o 86 (.bin .neq 0 (.t 83) (.t 85))])) (.cond (.t 86) (.seq (.kp [2, 3] (.ops [o 87 (.lit 2 0 [.i .i64 0, .i .i64 0] []), o 2 (.mv (.t 87)), o 3 (.mv (.k (.i .i64 6)))])) C.ret) C.skip)) (.seq (.kp [2, 3] (.ops [o 88 (.mv (.t 4)), o 2 (.mv (.t 88)), o 3 (.mv (.k (.i .i64 0)))])) C.ret))
def spec_GetTree.d1 : C := (.seq (.seq (.kp [0, 4, 5, 6, 7, 27] (.ops [o 25 (.mv (.t 7)), o 26 (.mv (.t 5)), o 27 (.bin .lss 0 (.t 25) (.t 26))])) (.cond (.t 27) C.skip (.exit 0))) (.seq (.blk 1 (.seq (.kp [0, 4, 5, 7, 8, 9] (.ops [o 31 (.mv (.t 0)), o 32 (.mv (.t 6)), o 33 (.call 70 [false, false] [.t 31, .t 32]), o 30 (.mv (.t 33)), o 34 (.ext 0 (.t 30)), o 35 (.ext 1 (.t 30)), o 8 (.mv (.t 34)), o 9 (.mv (.t 35))])) (.seq (.seq (.kp [0, 4, 5, 7, 8, 9, 37] (.ops [o 36 (.mv (.t 9)), o 37 (.bin .lss 0 (.t 36) (.k (.i .i64 0)))])) (.cond (.t 37) (.seq (.kp [2, 3] (.ops [o 38 (.lit 2 0 [.i .i64 0, .i .i64 0] []), o 2 (.mv (.t 38)), o 3 (.mv (.k (.i .i64 1)))])) C.ret) C.skip)) (.seq (.seq (.kp [0, 4, 5, 7, 8, 9, 41] (.ops [o 39 (.mv (.t 8)), o 40 (.call 71 [false] [.t 39]), o 41 (.un .not (.t 40))])) (.cond (.t 41) (.seq (.kp [2, 3] (.ops [o 42 (.lit 2 0 [.i .i64 0, .i .i64 0] []), o 2 (.mv (.t 42)), o 3 (.mv (.k (.i .i64 3)))])) C.ret) C.skip)) (.seq (.kp [0, 4, 5, 7, 8, 10, 11] (.ops [o 44 (.mv (.t 0)), o 45 (.mv (.t 9)), o 46 (.call 70 [false, false] [.t 44, .t 45]), o 43 (.mv (.t 46)), o 47 (.ext 0 (.t 43)), o 48 (.ext 1 (.t 43)), o 10 (.mv (.t 47)), o 11 (.mv (.t 48))])) (.seq (.seq (.kp [0, 4, 5, 7, 8, 10, 11, 50] (.ops [o 49 (.mv (.t 11)), o 50 (.bin .lss 0 (.t 49) (.k (.i .i64 0)))])) (.cond (.t 50) (.seq (.kp [2, 3] (.ops [o 51 (.lit 2 0 [.i .i64 0, .i .i64 0] []), o 2 (.mv (.t 51)), o 3 (.mv (.k (.i .i64 1)))])) C.ret) C.skip)) (.seq (.seq (.kp [0, 4, 5, 7, 8, 10, 11, 53] (.ops [o 52 (.mv (.t 10)), o 53 (.bin .gtr 0 (.t 52) (.k (.i .i64 12)))])) (.cond (.t 53) (.seq (.kp [2, 3] (.ops [o 54 (.lit 2 0 [.i .i64 0, .i .i64 0] []), o 2 (.mv (.t 54)), o 3 (.mv (.k (.i .i64 4)))])) C.ret) C.skip)) (.seq (.seq (.kp [0, 4, 5, 7, 8, 10, 11, 74] (.ops [o 55 (.mv (.t 10)), o 56 (.bin .eql 0 (.t 55) (.k (.i .i64 0))), o 57 (.mv (.t 7)), o 58 (.bin .eql 0 (.t 57) (.k (.i .i64 0))), o 59 (.bin .neq 1 (.t 56) (.t 58)), o 60 (.mv (.t 59)), og 61 60 false (.mv (.t 7)), og 62 60 false (.bin .gtr 0 (.t 61) (.k (.i .i64 0))), og 63 60 false (.mv (.t 62)), og 64 63 true (.mv (.t 10)), og 65 63 true (.mv (.t 4)), og 66 63 true (.mv (.t 7)), og 67 63 true (.bin .sub 0 (.t 66) (.k (.i .i64 1))), og 68 63 true (.iaddr 2 (.t 65) (.t 67)), og 69 63 true (.faddr 1 (.t 68)), og 70 63 true (.load none (.t 69)), og 71 63 true (.bin .add 0 (.t 70) (.k (.i .i64 1))), og 72 63 true (.bin .gtr 0 (.t 64) (.t 71)), og 73 60 false (.pick (.t 63) (.t 72) (.k (.b false))), o 74 (.pick (.t 60) (.k (.b true)) (.t 73))])) (.cond (.t 74) (.seq (.kp [2, 3] (.ops [o 75 (.lit 2 0 [.i .i64 0, .i .i64 0] []), o 2 (.mv (.t 75)), o 3 (.mv (.k (.i .i64 5)))])) C.ret) C.skip)) (.seq (.kp [0, 4, 5, 7, 11] (.ops [o 76 (.mv (.t 4)), o 77 (.mv (.t 8)), o 78 (.mv (.t 10)), o 79 (.build [.i .i64 0, .i .i64 0] [(0, 1, .t 77), (1, 1, .t 78)]), o 80 (.lit 2 1 [.i .i64 0, .i .i64 0] [(0, .t 79)]), o 81 (.app 2 16 (.t 76) (.t 80)), o 4 (.mv (.t 81))])) (.kp [0, 4, 5, 6, 7] (.ops [o 82 (.mv (.t 11)), o 6 (.mv (.t 82))]))))))))))) (.kp [0, 4, 5, 6, 7] (.ops [o 28 (.mv (.t 7)), o 29 (.bin .add 0 (.t 28) (.k (.i .i64 1))), o 7 (.mv (.t 29))]))))
def spec_GetTree.c1 : C := .loop 0 [0, 4, 5, 6, 7] spec_GetTree.d1
def spec_GetTree.B : C := (.seq (.kp [0] (.ops [o 2 (.mv (.k (.nl 2))), o 3 (.mv (.k (.i .i64 0)))])) (.seq (.kp [0, 4] (.ops [o 12 (.lit 2 0 [.i .i64 0, .i .i64 0] []), o 4 (.mv (.t 12))])) (.seq (.kp [0, 4, 5, 6] (.ops [o 14 (.mv (.t 0)), o 15 (.call 70 [false, false] [.t 14, .k (.i .i64 0)]), o 13 (.mv (.t 15)), o 16 (.ext 0 (.t 13)), o 17 (.ext 1 (.t 13)), o 5 (.mv (.t 16)), o 6 (.mv (.t 17))])) (.seq (.seq (.kp [0, 4, 5, 6, 19] (.ops [o 18 (.mv (.t 6)), o 19 (.bin .lss 0 (.t 18) (.k (.i .i64 0)))])) (.cond (.t 19) (.seq (.kp [2, 3] (.ops [o 20 (.mv (.t 4)), o 2 (.mv (.t 20)), o 3 (.mv (.k (.i .i64 1)))])) C.ret) C.skip)) (.seq (.seq (.kp [0, 4, 5, 6, 23] (.ops [o 21 (.mv (.t 5)), o 22 (.call 33 [false, false, false] [.t 21, .k (.i .i64 1), .k (.i .i64 24)]), o 23 (.un .not (.t 22))])) (.cond (.t 23) (.seq (.kp [2, 3] (.ops [o 24 (.mv (.t 4)), o 2 (.mv (.t 24)), o 3 (.mv (.k (.i .i64 2)))])) C.ret) C.skip)) (.seq (.seq (.kp [0, 4, 5, 6, 7] (.ops [o 7 (.mv (.k (.i .i64 0)))])) (.blk 0 spec_GetTree.c1)) spec_GetTree.c0))))))
def spec_GetTree.F : V.Fn := ⟨0, spec_GetTree.B, [.t 2, .t 3]⟩
def spec_l15Num.B : C := (.seq (.kp [0, 1, 2] (.ops [o 6 (.mv (.k (.i .i64 0)))])) (.seq (.seq (.kp [0, 1, 2, 13] (.ops [o 9 (.mv (.t 0)), o 10 (.nilc (.t 9)), o 11 (.faddr 2 (.t 10)), o 12 (.load none (.t 11)), o 13 (.bin .neq 0 (.t 12) (.k (.i .i64 0)))])) (.cond (.t 13) (.seq (.kp [6] (.ops [o 6 (.mv (.k (.i .i64 0)))])) C.ret) C.skip)) (.seq (.kp [0, 1, 2, 7, 8] (.draw (sq 14) [o 15 (.mv (.t 0)), o 16 (.nilc (.t 15)), o 17 (.faddr 0 (.t 16)), o 18 (.load none (.t 17)), o 19 (.mv (.t 0)), o 20 (.nilc (.t 19)), o 21 (.faddr 1 (.t 20)), o 22 (.load none (.t 21)), o 23 (.call 70 [false, false] [.t 18, .t 22]), o 14 (.mv (.t 23)), o 24 (.ext 0 (.t 14)), o 25 (.ext 1 (.t 14)), o 7 (.mv (.t 24)), o 8 (.mv (.t 25))])) (.seq (.seq (.kp [0, 1, 2, 7, 8, 27] (.ops [o 26 (.mv (.t 8)), o 27 (.bin .lss 0 (.t 26) (.k (.i .i64 0)))])) (.cond (.t 27) (.seq (.kp [] (.ops [o 28 (.mv (.t 0)), o 29 (.nilc (.t 28)), o 30 (.faddr 2 (.t 29)), oz none none [] (.store 1 (.t 30) (.k (.i .i64 1)))])) (.seq (.kp [6] (.ops [o 6 (.mv (.k (.i .i64 0)))])) C.ret)) C.skip)) (.seq (.seq (.kp [0, 2, 7, 8, 33] (.ops [o 31 (.mv (.t 7)), o 32 (.mv (.t 1)), o 33 (.bin .gtr 0 (.t 31) (.t 32))])) (.cond (.t 33) (.seq (.kp [] (.ops [o 34 (.mv (.t 0)), o 35 (.mv (.t 2)), o 36 (.nilc (.t 34)), o 37 (.faddr 2 (.t 36)), oz none none [] (.store 1 (.t 37) (.t 35))])) (.seq (.kp [6] (.ops [o 6 (.mv (.k (.i .i64 0)))])) C.ret)) C.skip)) (.seq (.kp [7] (.ops [o 38 (.mv (.t 0)), o 39 (.mv (.t 8)), o 40 (.nilc (.t 38)), o 41 (.faddr 1 (.t 40)), oz none none [] (.store 1 (.t 41) (.t 39))])) (.seq (.kp [6] (.ops [o 42 (.mv (.t 7)), o 6 (.mv (.t 42))])) C.ret)))))))
def spec_l15Num.F : V.Fn := ⟨1, spec_l15Num.B, [.t 6]⟩
def spec_l15Get.d2 : C := (.seq (.seq (.kp [0, 2, 3, 4, 24] (.ops [o 23 (.mv (.t 4)), o 24 (.bin .gtr 0 (.t 23) (.k (.i .i64 0)))])) (.cond (.t 24) C.skip (.exit 0))) (.seq (.blk 1 (.kp [0, 2, 3, 4] (.draw (tk [0, 2] (.alt (tk [1, 3, 4, 5, 6, 7] .done) (tk [3] (.alt (tk [1, 4, 5, 6, 7] .done) (tk [4, 1, 5, 6, 7] .done))))) [o 27 (.faddr 1 (.t 3)), o 28 (.load none (.t 27)), o 29 (.mv (.t 0)), o 30 (.call 104 [true, false, false] [.t 29, .k (.i .i64 24), .k (.i .i64 4)]), o 31 (.lit 1 1 [.i .i64 0] [(0, .t 30)]), o 32 (.app 1 8 (.t 28) (.t 31)), o 33 (.faddr 1 (.t 3)), oz none none [] (.store 1 (.t 33) (.t 32))]))) (.kp [0, 2, 3, 4] (.ops [o 25 (.mv (.t 4)), o 26 (.bin .sub 0 (.t 25) (.k (.i .i64 1))), o 4 (.mv (.t 26))]))))
def spec_l15Get.c2 : C := .loop 1 [0, 2, 3, 4] spec_l15Get.d2
def spec_l15Get.c1 : C := (.seq (.seq (.kp [0, 2, 3, 36] (.ops [o 34 (.faddr 0 (.t 3)), o 35 (.load none (.t 34)), o 36 (.bin .neq 0 (.t 35) (.k (.i .i64 2)))])) (.cond (.t 36) (.kp [0, 2, 3] (.ops [o 37 (.mv (.t 0)), o 38 (.call 104 [true, false, false] [.t 37, .k (.i .i64 5), .k (.i .i64 5)]), o 39 (.faddr 2 (.t 3)), oz none none [] (.store 1 (.t 39) (.t 38))])) C.skip)) (.seq (.seq (.kp [0, 2, 3, 42] (.ops [o 40 (.faddr 0 (.t 3)), o 41 (.load none (.t 40)), o 42 (.bin .eql 0 (.t 41) (.k (.i .i64 3)))])) (.cond (.t 42) (.seq (.kp [0, 2, 3] (.ops [o 43 (.mv (.t 0)), o 44 (.call 104 [true, false, false] [.t 43, .k (.i .i64 24), .k (.i .i64 6)]), o 45 (.faddr 3 (.t 3)), oz none none [] (.store 1 (.t 45) (.t 44))])) (.kp [2, 3] (.ops [o 46 (.mv (.t 0)), o 47 (.call 104 [true, false, false] [.t 46, .k (.i .i64 24), .k (.i .i64 6)]), o 48 (.faddr 4 (.t 3)), oz none none [] (.store 1 (.t 48) (.t 47))]))) C.skip)) (.seq (.kp [2] (.ops [o 49 (.load (some 5) (.t 3)), oz none none [49] (.store 5 (.t 2) (.t 49))])) C.ret)))
def spec_l15Get.c0 : C := (.seq (.seq (.kp [0, 2, 3, 4] (.ops [o 21 (.mv (.t 0)), o 22 (.call 104 [true, false, false] [.t 21, .k (.i .i64 12), .k (.i .i64 4)]), o 4 (.mv (.t 22))])) (.blk 0 spec_l15Get.c2)) spec_l15Get.c1)
def spec_l15Get.B : C := (.seq (.kp [0, 2] (.ops [o 2 (.alloc [.i .i64 0, .deep false false 1 [], .i .i64 0, .i .i64 0, .i .i64 0])])) (.seq (.kp [0, 2, 3] (.ops [o 5 (.mv (.t 0)), o 6 (.call 104 [true, false, false] [.t 5, .k (.i .i64 3), .k (.i .i64 3)]), o 7 (.build [.i .i64 0, .nl 1, .i .i64 0, .i .i64 0, .i .i64 0] [(0, 1, .t 6)]), o 3 (.alloc [.i .i64 0, .deep false false 1 [], .i .i64 0, .i .i64 0, .i .i64 0]), oz none none [] (.store 5 (.t 3) (.t 7))])) (.seq (.jn 1 [0, 2, 3] (.seq (.kp [0, 2, 3, 17] (.ops [o 8 (.mv (.t 0)), o 9 (.nilc (.t 8)), o 10 (.faddr 2 (.t 9)), o 11 (.load none (.t 10)), o 12 (.bin .eql 0 (.t 11) (.k (.i .i64 0))), o 13 (.mv (.t 12)), og 14 13 true (.faddr 0 (.t 3)), og 15 13 true (.load none (.t 14)), og 16 13 true (.bin .eql 0 (.t 15) (.k (.i .i64 0))), o 17 (.pick (.t 13) (.t 16) (.k (.b false)))])) (.cond (.t 17) (.kp [0, 2, 3] (.ops [o 18 (.mv (.t 0)), o 19 (.nilc (.t 18)), o 20 (.faddr 2 (.t 19)), oz none none [] (.store 1 (.t 20) (.k (.i .i64 3)))])) C.skip))) spec_l15Get.c0)))
def spec_l15Get.F : V.Fn := ⟨1, spec_l15Get.B, [.cell 2 (some 5)]⟩
def spec_GetScript.c0 : C := (.seq (.seq (.kp [4, 5, 42] (.ops [o 29 (.mv (.t 4)), o 30 (.nilc (.t 29)), o 31 (.faddr 2 (.t 30)), o 32 (.load none (.t 31)), o 33 (.bin .eql 0 (.t 32) (.k (.i .i64 0))), o 34 (.mv (.t 33)), og 35 34 true (.mv (.t 4)), og 36 34 true (.nilc (.t 35)), og 37 34 true (.faddr 1 (.t 36)), og 38 34 true (.load none (.t 37)), og 39 34 true (.mv (.t 0)), og 40 34 true (.len true (.t 39)), og 41 34 true (.bin .neq 0 (.t 38) (.t 40)), o 42 (.pick (.t 34) (.t 41) (.k (.b false)))])) (.cond (.t 42) (.kp [4, 5] (.ops [o 43 (.mv (.t 4)), o 44 (.nilc (.t 43)), o 45 (.faddr 2 (.t 44)), oz none none [] (.store 1 (.t 45) (.k (.i .i64 7)))])) C.skip)) (.seq (.seq (.kp [4, 5, 50] (.ops [o 46 (.mv (.t 4)), o 47 (.nilc (.t 46)), o 48 (.faddr 2 (.t 47)), o 49 (.load none (.t 48)), o 50 (.bin .neq 0 (.t 49) (.k (.i .i64 0)))])) (.cond (.t 50) (.seq (.kp [2, 3] (.draw (tk [1, 2, 3] (.alt (tk [0, 4, 5, 6] .done) (tk [4, 0, 5, 6] .done))) [o 51 (.lit 5 0 [.i .i64 0, .deep false false 1 [], .i .i64 0, .i .i64 0, .i .i64 0] []), o 52 (.mv (.t 4)), o 53 (.nilc (.t 52)), o 54 (.faddr 2 (.t 53)), o 55 (.load none (.t 54)), o 2 (.mv (.t 51)), o 3 (.mv (.t 55))])) C.ret) C.skip)) (.seq (.kp [2, 3] (.ops [o 56 (.mv (.t 5)), o 2 (.mv (.t 56)), o 3 (.mv (.k (.i .i64 0)))])) C.ret)))
def spec_GetScript.d1 : C := (.seq (.seq (.kp [0, 4, 5, 6, 21] (.ops [o 13 (.mv (.t 6)), o 14 (.bin .gtr 0 (.t 13) (.k (.i .i64 0))), o 15 (.mv (.t 14)), og 16 15 true (.mv (.t 4)), og 17 15 true (.nilc (.t 16)), og 18 15 true (.faddr 2 (.t 17)), og 19 15 true (.load none (.t 18)), og 20 15 true (.bin .eql 0 (.t 19) (.k (.i .i64 0))), o 21 (.pick (.t 15) (.t 20) (.k (.b false)))])) (.cond (.t 21) C.skip (.exit 0))) (.seq (.blk 1 (.kp [0, 4, 5, 6] (.ops [o 24 (.mv (.t 5)), o 25 (.mv (.t 4)), o 26 (.call 105 [true] [.t 25]), o 27 (.lit 5 1 [.i .i64 0, .deep false false 1 [], .i .i64 0, .i .i64 0, .i .i64 0] [(0, .t 26)]), o 28 (.app 5 56 (.t 24) (.t 27)), o 5 (.mv (.t 28))]))) (.kp [0, 4, 5, 6] (.ops [o 22 (.mv (.t 6)), o 23 (.bin .sub 0 (.t 22) (.k (.i .i64 1))), o 6 (.mv (.t 23))]))))
def spec_GetScript.c1 : C := .loop 0 [0, 4, 5, 6] spec_GetScript.d1
def spec_GetScript.B : C := (.seq (.kp [0] (.ops [o 2 (.mv (.k (.nl 5))), o 3 (.mv (.k (.i .i64 0)))])) (.seq (.kp [0, 4] (.ops [o 7 (.mv (.t 0)), o 8 (.build [.s ⟨#[]⟩, .i .i64 0, .i .i64 0] [(0, 1, .t 7)]), o 9 (.box 3 (.t 8)), o 4 (.mv (.t 9))])) (.seq (.kp [0, 4, 5] (.ops [o 10 (.lit 5 0 [.i .i64 0, .deep false false 1 [], .i .i64 0, .i .i64 0, .i .i64 0] []), o 5 (.mv (.t 10))])) (.seq (.seq (.kp [0, 4, 5, 6] (.ops [o 11 (.mv (.t 4)), o 12 (.call 104 [true, false, false] [.t 11, .k (.i .i64 60), .k (.i .i64 2)]), o 6 (.mv (.t 12))])) (.blk 0 spec_GetScript.c1)) spec_GetScript.c0))))
def spec_GetScript.F : V.Fn := ⟨0, spec_GetScript.B, [.t 2, .t 3]⟩
def spec_TreeOk.c0 : C := (.seq (.kp [2] (.ops [o 56 (.mv (.t 0)), o 57 (.len false (.t 56)), o 58 (.call 33 [false, false, false] [.t 57, .k (.i .i64 1), .k (.i .i64 24)]), o 2 (.mv (.t 58))])) C.ret)
def spec_TreeOk.d1 : C := (.seq (.seq (.kp [0, 3, 7] (.ops [o 4 (.mv (.t 3)), o 5 (.mv (.t 0)), o 6 (.len false (.t 5)), o 7 (.bin .lss 0 (.t 4) (.t 6))])) (.cond (.t 7) C.skip (.exit 0))) (.seq (.blk 1 (.seq (.kp [0, 3, 55] (.draw (sq 46) [o 10 (.mv (.t 0)), o 11 (.mv (.t 3)), o 12 (.iaddr 2 (.t 10) (.t 11)), o 13 (.faddr 0 (.t 12)), o 14 (.load none (.t 13)), o 15 (.call 71 [false] [.t 14]), o 16 (.un .not (.t 15)), o 17 (.mv (.t 16)), og 18 17 false (.mv (.t 0)), og 19 17 false (.mv (.t 3)), og 20 17 false (.iaddr 2 (.t 18) (.t 19)), og 21 17 false (.faddr 1 (.t 20)), og 22 17 false (.load none (.t 21)), og 23 17 false (.call 33 [false, false, false] [.t 22, .k (.i .i64 0), .k (.i .i64 12)]), og 24 17 false (.un .not (.t 23)), o 25 (.pick (.t 17) (.k (.b true)) (.t 24)), o 26 (.mv (.t 25)), og 27 26 false (.mv (.t 0)), og 28 26 false (.mv (.t 3)), og 29 26 false (.iaddr 2 (.t 27) (.t 28)), og 30 26 false (.faddr 1 (.t 29)), og 31 26 false (.load none (.t 30)), og 32 26 false (.bin .eql 0 (.t 31) (.k (.i .i64 0))), og 33 26 false (.mv (.t 3)), og 34 26 false (.bin .eql 0 (.t 33) (.k (.i .i64 0))), og 35 26 false (.bin .neq 1 (.t 32) (.t 34)), o 36 (.pick (.t 26) (.k (.b true)) (.t 35)), o 37 (.mv (.t 36)), og 38 37 false (.mv (.t 3)), og 39 37 false (.bin .gtr 0 (.t 38) (.k (.i .i64 0))), og 40 37 false (.mv (.t 39)), og 41 40 true (.mv (.t 0)), og 42 40 true (.mv (.t 3)), og 43 40 true (.iaddr 2 (.t 41) (.t 42)), og 44 40 true (.faddr 1 (.t 43)), og 45 40 true (.load none (.t 44)), og 46 40 true (.mv (.t 0)), og 47 40 true (.mv (.t 3)), og 48 40 true (.bin .sub 0 (.t 47) (.k (.i .i64 1))), og 49 40 true (.iaddr 2 (.t 46) (.t 48)), og 50 40 true (.faddr 1 (.t 49)), og 51 40 true (.load none (.t 50)), og 52 40 true (.bin .add 0 (.t 51) (.k (.i .i64 1))), og 53 40 true (.bin .gtr 0 (.t 45) (.t 52)), og 54 37 false (.pick (.t 40) (.t 53) (.k (.b false))), o 55 (.pick (.t 37) (.k (.b true)) (.t 54))])) (.cond (.t 55) (.seq (.kp [2] (.ops [o 2 (.mv (.k (.b false)))])) C.ret) C.skip))) (.kp [0, 3] (.ops [o 8 (.mv (.t 3)), o 9 (.bin .add 0 (.t 8) (.k (.i .i64 1))), o 3 (.mv (.t 9))]))))
def spec_TreeOk.c1 : C := .loop 1 [0, 3] spec_TreeOk.d1
def spec_TreeOk.B : C := (.seq (.kp [0] (.ops [o 2 (.mv (.k (.b false)))])) (.seq (.seq (.kp [0, 3] (.ops [o 3 (.mv (.k (.i .i64 0)))])) (.blk 0 spec_TreeOk.c1)) spec_TreeOk.c0))
def spec_TreeOk.F : V.Fn := ⟨1, spec_TreeOk.B, [.t 2]⟩
def spec_l3Copy.B : C := (.seq (.kp [0] (.ops [o 2 (.mv (.k (.nl 2)))])) (.seq (.kp [2] (.ops [o 3 (.lit 2 0 [.i .i64 0, .i .i64 0] []), o 4 (.mv (.t 0)), o 5 (.app 2 16 (.t 3) (.t 4)), o 2 (.mv (.t 5))])) C.ret))
def spec_l3Copy.F : V.Fn := ⟨1, spec_l3Copy.B, [.t 2]⟩
def spec_l3At.B : C := (.seq (.kp [0, 1] (.ops [o 4 (.mv (.k (.b false)))])) (.seq (.kp [4] (.ops [o 5 (.mv (.t 0)), o 6 (.call 86 [false] [.t 5]), o 7 (.mv (.t 6)), og 8 7 true (.mv (.t 1)), og 9 7 true (.mv (.t 0)), og 10 7 true (.len false (.t 9)), og 11 7 true (.bin .sub 0 (.t 10) (.k (.i .i64 1))), og 12 7 true (.call 33 [false, false, false] [.t 8, .k (.i .i64 0), .t 11]), o 13 (.pick (.t 7) (.t 12) (.k (.b false))), o 4 (.mv (.t 13))])) C.ret))
def spec_l3At.F : V.Fn := ⟨1, spec_l3At.B, [.t 4]⟩
def spec_EndOf.c0 : C := (.seq (.kp [4] (.ops [o 31 (.mv (.t 5)), o 4 (.mv (.t 31))])) C.ret)
def spec_EndOf.d1 : C := (.seq (.seq (.kp [0, 1, 5, 28] (.draw (sq 17) [o 12 (.mv (.t 5)), o 13 (.mv (.t 0)), o 14 (.len false (.t 13)), o 15 (.bin .lss 0 (.t 12) (.t 14)), o 16 (.mv (.t 15)), og 17 16 true (.mv (.t 0)), og 18 16 true (.mv (.t 5)), og 19 16 true (.iaddr 2 (.t 17) (.t 18)), og 20 16 true (.faddr 1 (.t 19)), og 21 16 true (.load none (.t 20)), og 22 16 true (.mv (.t 0)), og 23 16 true (.mv (.t 1)), og 24 16 true (.iaddr 2 (.t 22) (.t 23)), og 25 16 true (.faddr 1 (.t 24)), og 26 16 true (.load none (.t 25)), og 27 16 true (.bin .gtr 0 (.t 21) (.t 26)), o 28 (.pick (.t 16) (.t 27) (.k (.b false)))])) (.cond (.t 28) C.skip (.exit 0))) (.blk 1 (.kp [0, 1, 5] (.ops [o 29 (.mv (.t 5)), o 30 (.bin .add 0 (.t 29) (.k (.i .i64 1))), o 5 (.mv (.t 30))]))))
def spec_EndOf.c1 : C := .loop 1 [0, 1, 5] spec_EndOf.d1
def spec_EndOf.B : C := (.seq (.kp [0, 1] (.ops [o 4 (.mv (.k (.i .i64 0)))])) (.seq (.seq (.kp [0, 1, 9] (.ops [o 6 (.mv (.t 0)), o 7 (.mv (.t 1)), o 8 (.call 131 [false, false] [.t 6, .t 7]), o 9 (.un .not (.t 8))])) (.cond (.t 9) (.seq (.kp [4] (.ops [o 4 (.mv (.k (.i .i64 (-1))))])) C.ret) C.skip)) (.seq (.kp [0, 1, 5] (.ops [o 10 (.mv (.t 1)), o 11 (.bin .add 0 (.t 10) (.k (.i .i64 1))), o 5 (.mv (.t 11))])) (.seq (.blk 0 spec_EndOf.c1) spec_EndOf.c0))))
def spec_EndOf.F : V.Fn := ⟨1, spec_EndOf.B, [.t 4]⟩
def spec_KidsOf.c0 : C := (.seq (.kp [4] (.ops [o 38 (.mv (.t 5)), o 4 (.mv (.t 38))])) C.ret)
def spec_KidsOf.d1 : C := (.seq (.seq (.kp [0, 1, 5, 6, 19] (.ops [o 10 (.mv (.t 0)), o 11 (.mv (.t 1)), o 12 (.call 131 [false, false] [.t 10, .t 11]), o 13 (.mv (.t 12)), og 14 13 true (.mv (.t 6)), og 15 13 true (.mv (.t 0)), og 16 13 true (.mv (.t 1)), og 17 13 true (.call 118 [false, false] [.t 15, .t 16]), og 18 13 true (.bin .lss 0 (.t 14) (.t 17)), o 19 (.pick (.t 13) (.t 18) (.k (.b false)))])) (.cond (.t 19) C.skip (.exit 0))) (.seq (.blk 1 (.seq (.kp [0, 1, 5, 6, 33] (.draw (sq 12) [o 22 (.mv (.t 0)), o 23 (.mv (.t 6)), o 24 (.iaddr 2 (.t 22) (.t 23)), o 25 (.faddr 1 (.t 24)), o 26 (.load none (.t 25)), o 27 (.mv (.t 0)), o 28 (.mv (.t 1)), o 29 (.iaddr 2 (.t 27) (.t 28)), o 30 (.faddr 1 (.t 29)), o 31 (.load none (.t 30)), o 32 (.bin .add 0 (.t 31) (.k (.i .i64 1))), o 33 (.bin .eql 0 (.t 26) (.t 32))])) (.cond (.t 33) (.kp [0, 1, 5, 6] (.ops [o 34 (.mv (.t 5)), o 35 (.mv (.t 6)), o 36 (.lit 1 1 [.i .i64 0] [(0, .t 35)]), o 37 (.app 1 8 (.t 34) (.t 36)), o 5 (.mv (.t 37))])) C.skip))) (.kp [0, 1, 5, 6] (.ops [o 20 (.mv (.t 6)), o 21 (.bin .add 0 (.t 20) (.k (.i .i64 1))), o 6 (.mv (.t 21))]))))
def spec_KidsOf.c1 : C := .loop 1 [0, 1, 5, 6] spec_KidsOf.d1
def spec_KidsOf.B : C := (.seq (.kp [0, 1] (.ops [o 4 (.mv (.k (.nl 1)))])) (.seq (.kp [0, 1, 5] (.ops [o 7 (.lit 1 0 [.i .i64 0] []), o 5 (.mv (.t 7))])) (.seq (.seq (.kp [0, 1, 5, 6] (.ops [o 8 (.mv (.t 1)), o 9 (.bin .add 0 (.t 8) (.k (.i .i64 1))), o 6 (.mv (.t 9))])) (.blk 0 spec_KidsOf.c1)) spec_KidsOf.c0)))
def spec_KidsOf.F : V.Fn := ⟨1, spec_KidsOf.B, [.t 4]⟩
def spec_NodeAt.c0 : C := (.seq (.kp [4] (.ops [o 36 (.mv (.t 5)), o 4 (.mv (.t 36))])) C.ret)
def spec_NodeAt.d1 : C := (.seq (.seq (.kp [0, 1, 5, 6, 14] (.ops [o 11 (.mv (.t 6)), o 12 (.mv (.t 1)), o 13 (.len false (.t 12)), o 14 (.bin .lss 0 (.t 11) (.t 13))])) (.cond (.t 14) C.skip (.exit 0))) (.seq (.blk 1 (.seq (.kp [0, 1, 6, 7] (.ops [o 17 (.mv (.t 0)), o 18 (.mv (.t 5)), o 19 (.call 120 [false, false] [.t 17, .t 18]), o 7 (.mv (.t 19))])) (.seq (.seq (.kp [0, 1, 6, 7, 28] (.ops [o 20 (.mv (.t 1)), o 21 (.mv (.t 6)), o 22 (.iaddr 1 (.t 20) (.t 21)), o 23 (.load none (.t 22)), o 24 (.mv (.t 7)), o 25 (.len false (.t 24)), o 26 (.bin .sub 0 (.t 25) (.k (.i .i64 1))), o 27 (.call 33 [false, false, false] [.t 23, .k (.i .i64 0), .t 26]), o 28 (.un .not (.t 27))])) (.cond (.t 28) (.seq (.kp [4] (.ops [o 4 (.mv (.k (.i .i64 (-1))))])) C.ret) C.skip)) (.kp [0, 1, 5, 6] (.ops [o 29 (.mv (.t 7)), o 30 (.mv (.t 1)), o 31 (.mv (.t 6)), o 32 (.iaddr 1 (.t 30) (.t 31)), o 33 (.load none (.t 32)), o 34 (.iaddr 1 (.t 29) (.t 33)), o 35 (.load none (.t 34)), o 5 (.mv (.t 35))]))))) (.kp [0, 1, 5, 6] (.ops [o 15 (.mv (.t 6)), o 16 (.bin .add 0 (.t 15) (.k (.i .i64 1))), o 6 (.mv (.t 16))]))))
def spec_NodeAt.c1 : C := .loop 2 [0, 1, 5, 6] spec_NodeAt.d1
def spec_NodeAt.B : C := (.seq (.kp [0, 1] (.ops [o 4 (.mv (.k (.i .i64 0)))])) (.seq (.seq (.kp [0, 1, 10] (.ops [o 8 (.mv (.t 0)), o 9 (.call 86 [false] [.t 8]), o 10 (.un .not (.t 9))])) (.cond (.t 10) (.seq (.kp [4] (.ops [o 4 (.mv (.k (.i .i64 (-1))))])) C.ret) C.skip)) (.seq (.kp [0, 1, 5] (.ops [o 5 (.mv (.k (.i .i64 0)))])) (.seq (.seq (.kp [0, 1, 5, 6] (.ops [o 6 (.mv (.k (.i .i64 0)))])) (.blk 0 spec_NodeAt.c1)) spec_NodeAt.c0))))
def spec_NodeAt.F : V.Fn := ⟨2, spec_NodeAt.B, [.t 4]⟩
def spec_l13Code.c0 : C := (.seq (.seq (.kp [10, 11, 107] (.ops [o 106 (.mv (.t 12)), o 107 (.bin .gtr 0 (.t 106) (.k (.i .i64 12)))])) (.cond (.t 107) (.seq (.kp [6, 7, 8] (.ops [o 6 (.mv (.k (.i .i64 7))), o 7 (.mv (.k (.i .i64 0))), o 8 (.mv (.k (.i .i64 0)))])) C.ret) C.skip)) (.seq (.kp [6, 7, 8] (.ops [o 108 (.mv (.t 10)), o 109 (.mv (.t 11)), o 6 (.mv (.k (.i .i64 0))), o 7 (.mv (.t 108)), o 8 (.mv (.t 109))])) C.ret))
def spec_l13Code.d1 : C := (.seq (.seq (.kp [0, 10, 11, 12, 13, 95] (.ops [o 93 (.mv (.t 13)), o 94 (.mv (.t 11)), o 95 (.bin .lss 0 (.t 93) (.t 94))])) (.cond (.t 95) C.skip (.exit 1))) (.seq (.blk 2 (.kp [0, 10, 11, 12, 13] (.ops [o 98 (.mv (.t 12)), o 99 (.mv (.t 0)), o 100 (.mv (.t 13)), o 101 (.iaddr 2 (.t 99) (.t 100)), o 102 (.faddr 1 (.t 101)), o 103 (.load none (.t 102)), o 104 (.bin .add 0 (.t 103) (.k (.i .i64 1))), o 105 (.mm true [.t 98, .t 104]), o 12 (.mv (.t 105))]))) (.kp [0, 10, 11, 12, 13] (.ops [o 96 (.mv (.t 13)), o 97 (.bin .add 0 (.t 96) (.k (.i .i64 1))), o 13 (.mv (.t 97))]))))
def spec_l13Code.c1 : C := .loop 2 [0, 10, 11, 12, 13] spec_l13Code.d1
def spec_l13Code.B : C := (.seq (.kp [0, 2, 4] (.ops [o 4 (.boxK (.t 1)), o 6 (.mv (.k (.i .i64 0))), o 7 (.mv (.k (.i .i64 0))), o 8 (.mv (.k (.i .i64 0)))])) (.seq (.blk 0 (.seq (.kp [0, 2, 4, 14] (.ops [o 15 (.faddr 0 (.t 4)), o 16 (.load none (.t 15)), o 17 (.call 33 [false, false, false] [.t 16, .k (.i .i64 1), .k (.i .i64 3)]), o 18 (.un .not (.t 17)), o 14 (.mv (.t 18))])) (.cond (.t 14) (.seq (.kp [6, 7, 8] (.ops [o 6 (.mv (.k (.i .i64 1))), o 7 (.mv (.k (.i .i64 0))), o 8 (.mv (.k (.i .i64 0)))])) C.ret) (.seq (.kp [0, 2, 4, 19] (.ops [o 20 (.mv (.t 2)), o 21 (.bin .lss 0 (.t 20) (.k (.i .i64 0))), o 19 (.mv (.t 21))])) (.cond (.t 19) (.seq (.kp [6, 7, 8] (.ops [o 6 (.mv (.k (.i .i64 2))), o 7 (.mv (.k (.i .i64 0))), o 8 (.mv (.k (.i .i64 0)))])) C.ret) (.seq (.kp [0, 2, 4, 22] (.ops [o 23 (.faddr 0 (.t 4)), o 24 (.load none (.t 23)), o 25 (.bin .neq 0 (.t 24) (.k (.i .i64 2))), o 26 (.mv (.t 25)), og 27 26 true (.faddr 2 (.t 4)), og 28 26 true (.load none (.t 27)), og 29 26 true (.call 71 [false] [.t 28]), og 30 26 true (.un .not (.t 29)), o 31 (.pick (.t 26) (.t 30) (.k (.b false))), o 22 (.mv (.t 31))])) (.cond (.t 22) (.seq (.kp [6, 7, 8] (.ops [o 6 (.mv (.k (.i .i64 3))), o 7 (.mv (.k (.i .i64 0))), o 8 (.mv (.k (.i .i64 0)))])) C.ret) (.seq (.kp [0, 2, 4, 32] (.ops [o 33 (.faddr 0 (.t 4)), o 34 (.load none (.t 33)), o 35 (.bin .eql 0 (.t 34) (.k (.i .i64 2))), o 36 (.mv (.t 35)), og 37 36 true (.mv (.t 2)), og 38 36 true (.bin .eql 0 (.t 37) (.k (.i .i64 0))), o 39 (.pick (.t 36) (.t 38) (.k (.b false))), o 32 (.mv (.t 39))])) (.cond (.t 32) (.seq (.kp [6, 7, 8] (.ops [o 6 (.mv (.k (.i .i64 4))), o 7 (.mv (.k (.i .i64 0))), o 8 (.mv (.k (.i .i64 0)))])) C.ret) (.seq (.kp [0, 2, 4, 40] (.ops [o 41 (.faddr 0 (.t 4)), o 42 (.load none (.t 41)), o 43 (.bin .neq 0 (.t 42) (.k (.i .i64 3))), o 40 (.mv (.t 43))])) (.cond (.t 40) (.seq (.kp [6, 7, 8] (.ops [o 6 (.mv (.k (.i .i64 0))), o 7 (.mv (.k (.i .i64 0))), o 8 (.mv (.k (.i .i64 0)))])) C.ret) C.skip))))))))))) (.seq (.kp [0, 2, 4, 9] (.ops [o 44 (.mv (.t 0)), o 45 (.mv (.t 2)), o 46 (.call 120 [false, false] [.t 44, .t 45]), o 9 (.mv (.t 46))])) (.seq (.seq (.kp [0, 2, 4, 9, 63] (.ops [o 47 (.faddr 3 (.t 4)), o 48 (.load none (.t 47)), o 49 (.mv (.t 9)), o 50 (.len false (.t 49)), o 51 (.call 33 [false, false, false] [.t 48, .k (.i .i64 0), .t 50]), o 52 (.un .not (.t 51)), o 53 (.mv (.t 52)), og 54 53 false (.faddr 4 (.t 4)), og 55 53 false (.load none (.t 54)), og 56 53 false (.mv (.t 9)), og 57 53 false (.len false (.t 56)), og 58 53 false (.faddr 3 (.t 4)), og 59 53 false (.load none (.t 58)), og 60 53 false (.bin .sub 0 (.t 57) (.t 59)), og 61 53 false (.call 33 [false, false, false] [.t 55, .k (.i .i64 0), .t 60]), og 62 53 false (.un .not (.t 61)), o 63 (.pick (.t 53) (.k (.b true)) (.t 62))])) (.cond (.t 63) (.seq (.kp [6, 7, 8] (.ops [o 6 (.mv (.k (.i .i64 5))), o 7 (.mv (.k (.i .i64 0))), o 8 (.mv (.k (.i .i64 0)))])) C.ret) C.skip)) (.seq (.kp [0, 2, 4, 9] (.ops [o 64 (.mv (.t 9)), o 65 (.mv (.t 0)), o 66 (.mv (.t 2)), o 67 (.call 118 [false, false] [.t 65, .t 66]), o 68 (.lit 1 1 [.i .i64 0] [(0, .t 67)]), o 69 (.app 1 8 (.t 64) (.t 68)), o 9 (.mv (.t 69))])) (.seq (.kp [0, 2, 4, 9, 10] (.ops [o 70 (.mv (.t 9)), o 71 (.faddr 3 (.t 4)), o 72 (.load none (.t 71)), o 73 (.iaddr 1 (.t 70) (.t 72)), o 74 (.load none (.t 73)), o 10 (.mv (.t 74))])) (.seq (.kp [0, 2, 10, 11] (.ops [o 75 (.mv (.t 9)), o 76 (.faddr 3 (.t 4)), o 77 (.load none (.t 76)), o 78 (.faddr 4 (.t 4)), o 79 (.load none (.t 78)), o 80 (.bin .add 0 (.t 77) (.t 79)), o 81 (.iaddr 1 (.t 75) (.t 80)), o 82 (.load none (.t 81)), o 11 (.mv (.t 82))])) (.seq (.seq (.kp [0, 2, 10, 11, 85] (.ops [o 83 (.mv (.t 0)), o 84 (.len false (.t 83)), o 85 (.bin .eql 0 (.t 84) (.k (.i .i64 24)))])) (.cond (.t 85) (.seq (.kp [6, 7, 8] (.ops [o 6 (.mv (.k (.i .i64 6))), o 7 (.mv (.k (.i .i64 0))), o 8 (.mv (.k (.i .i64 0)))])) C.ret) C.skip)) (.seq (.kp [0, 10, 11, 12] (.ops [o 86 (.mv (.t 0)), o 87 (.mv (.t 2)), o 88 (.iaddr 2 (.t 86) (.t 87)), o 89 (.faddr 1 (.t 88)), o 90 (.load none (.t 89)), o 91 (.bin .add 0 (.t 90) (.k (.i .i64 1))), o 12 (.mv (.t 91))])) (.seq (.seq (.kp [0, 10, 11, 12, 13] (.ops [o 92 (.mv (.t 10)), o 13 (.mv (.t 92))])) (.blk 1 spec_l13Code.c1)) spec_l13Code.c0))))))))))
def spec_l13Code.F : V.Fn := ⟨2, spec_l13Code.B, [.t 6, .t 7, .t 8]⟩
def spec_l13Shift.c0 : C := (.seq (.kp [8] (.ops [o 34 (.mv (.t 9)), o 8 (.mv (.t 34))])) C.ret)
def spec_l13Shift.d1 : C := (.seq (.seq (.kp [0, 2, 3, 9, 10, 15] (.ops [o 13 (.mv (.t 10)), o 14 (.mv (.t 2)), o 15 (.bin .lss 0 (.t 13) (.t 14))])) (.cond (.t 15) C.skip (.exit 0))) (.seq (.blk 1 (.kp [0, 2, 3, 9, 10] (.draw (sq 17) [o 18 (.mv (.t 9)), o 19 (.mv (.t 0)), o 20 (.mv (.t 10)), o 21 (.iaddr 2 (.t 19) (.t 20)), o 22 (.faddr 0 (.t 21)), o 23 (.load none (.t 22)), o 24 (.mv (.t 0)), o 25 (.mv (.t 10)), o 26 (.iaddr 2 (.t 24) (.t 25)), o 27 (.faddr 1 (.t 26)), o 28 (.load none (.t 27)), o 29 (.mv (.t 3)), o 30 (.bin .add 0 (.t 28) (.t 29)), o 31 (.build [.i .i64 0, .i .i64 0] [(0, 1, .t 23), (1, 1, .t 30)]), o 32 (.lit 2 1 [.i .i64 0, .i .i64 0] [(0, .t 31)]), o 33 (.app 2 16 (.t 18) (.t 32)), o 9 (.mv (.t 33))]))) (.kp [0, 2, 3, 9, 10] (.ops [o 16 (.mv (.t 10)), o 17 (.bin .add 0 (.t 16) (.k (.i .i64 1))), o 10 (.mv (.t 17))]))))
def spec_l13Shift.c1 : C := .loop 1 [0, 2, 3, 9, 10] spec_l13Shift.d1
def spec_l13Shift.B : C := (.seq (.kp [0, 1, 2, 3] (.ops [o 8 (.mv (.k (.nl 2)))])) (.seq (.kp [0, 1, 2, 3, 9] (.ops [o 11 (.lit 2 0 [.i .i64 0, .i .i64 0] []), o 9 (.mv (.t 11))])) (.seq (.seq (.kp [0, 2, 3, 9, 10] (.ops [o 12 (.mv (.t 1)), o 10 (.mv (.t 12))])) (.blk 0 spec_l13Shift.c1)) spec_l13Shift.c0)))
def spec_l13Shift.F : V.Fn := ⟨1, spec_l13Shift.B, [.t 8]⟩
def spec_ApplyOp.B : C := (.seq (.kp [0, 3] (.ops [o 3 (.boxK (.t 1)), o 4 (.mv (.k (.nl 2))), o 5 (.mv (.k (.i .i64 0)))])) (.seq (.seq (.kp [0, 3, 14] (.ops [o 12 (.mv (.t 0)), o 13 (.call 86 [false] [.t 12]), o 14 (.un .not (.t 13))])) (.cond (.t 14) (.seq (.kp [4, 5] (.ops [o 15 (.lit 2 0 [.i .i64 0, .i .i64 0] []), o 4 (.mv (.t 15)), o 5 (.mv (.k (.i .i64 2)))])) C.ret) C.skip)) (.seq (.kp [0, 3, 6] (.ops [o 16 (.mv (.t 0)), o 17 (.faddr 1 (.t 3)), o 18 (.load none (.t 17)), o 19 (.call 116 [false, false] [.t 16, .t 18]), o 6 (.mv (.t 19))])) (.seq (.kp [0, 3, 6, 7] (.ops [o 20 (.mv (.t 0)), o 21 (.call 85 [false] [.t 20]), o 7 (.mv (.t 21))])) (.seq (.kp [0, 3, 6, 7, 8, 9, 10] (.ops [o 23 (.mv (.t 0)), o 24 (.load (some 5) (.t 3)), o 25 (.mv (.t 6)), o 26 (.call 117 [false, false, false] [.t 23, .t 24, .t 25]), o 22 (.mv (.t 26)), o 27 (.ext 0 (.t 22)), o 28 (.ext 1 (.t 22)), o 29 (.ext 2 (.t 22)), o 8 (.mv (.t 27)), o 9 (.mv (.t 28)), o 10 (.mv (.t 29))])) (.seq (.seq (.kp [0, 3, 6, 7, 8, 9, 10, 31] (.ops [o 30 (.mv (.t 8)), o 31 (.bin .neq 0 (.t 30) (.k (.i .i64 0)))])) (.cond (.t 31) (.seq (.kp [4, 5] (.ops [o 32 (.mv (.t 7)), o 33 (.mv (.t 8)), o 4 (.mv (.t 32)), o 5 (.mv (.t 33))])) C.ret) C.skip)) (.seq (.seq (.kp [0, 3, 6, 7, 8, 9, 10, 35] (.ops [o 34 (.faddr 0 (.t 3)), o 35 (.load none (.t 34))])) (.blk 0 (.seq (.kp [0, 3, 6, 7, 8, 9, 10, 35, 36] (.ops [o 37 (.bin .eql 0 (.t 35) (.k (.i .i64 1))), o 36 (.mv (.t 37))])) (.cond (.t 36) (.seq (.kp [7, 8] (.ops [o 38 (.mv (.t 7)), o 39 (.mv (.t 6)), o 40 (.faddr 2 (.t 3)), o 41 (.load none (.t 40)), o 42 (.iaddr 2 (.t 38) (.t 39)), o 43 (.faddr 0 (.t 42)), oz none none [] (.store 1 (.t 43) (.t 41))])) (.seq (.kp [4, 5] (.ops [o 44 (.mv (.t 7)), o 45 (.mv (.t 8)), o 4 (.mv (.t 44)), o 5 (.mv (.t 45))])) C.ret)) (.seq (.kp [0, 3, 6, 8, 9, 10, 46] (.ops [o 47 (.bin .eql 0 (.t 35) (.k (.i .i64 2))), o 46 (.mv (.t 47))])) (.cond (.t 46) (.seq (.kp [0, 6, 8, 11] (.ops [o 48 (.mv (.t 0)), o 49 (.mv (.t 6)), o 50 (.call 118 [false, false] [.t 48, .t 49]), o 11 (.mv (.t 50))])) (.seq (.kp [0, 7, 8, 11] (.ops [o 51 (.mv (.t 0)), o 52 (.mv (.t 6)), o 53 (.call 119 [false, false, false, false] [.t 51, .k (.i .i64 0), .t 52, .k (.i .i64 0)]), o 54 (.mv (.t 0)), o 55 (.mv (.t 6)), o 56 (.bin .add 0 (.t 55) (.k (.i .i64 1))), o 57 (.mv (.t 11)), o 58 (.call 119 [false, false, false, false] [.t 54, .t 56, .t 57, .k (.i .i64 (-1))]), o 59 (.app 2 16 (.t 53) (.t 58)), o 7 (.mv (.t 59))])) (.seq (.kp [4, 5] (.ops [o 60 (.mv (.t 7)), o 61 (.mv (.t 0)), o 62 (.mv (.t 11)), o 63 (.mv (.t 0)), o 64 (.len false (.t 63)), o 65 (.call 119 [false, false, false, false] [.t 61, .t 62, .t 64, .k (.i .i64 0)]), o 66 (.app 2 16 (.t 60) (.t 65)), o 67 (.mv (.t 8)), o 4 (.mv (.t 66)), o 5 (.mv (.t 67))])) C.ret))) C.skip)))))) (.seq (.kp [0, 7, 8, 9, 10] (.draw (tk [0, 1, 3, 5, 6, 7, 8] (.alt (tk [2, 4, 9, 10, 11, 12, 13, 14] .done) (tk [] (.alt (tk [4] (.alt (tk [2, 9, 10, 11, 12, 13, 14] .done) (tk [9, 10, 11] (.alt (tk [2, 12, 13, 14] .done) (tk [12, 2, 13, 14] .done))))) (tk [9, 10] (.alt (tk [2, 4, 11, 12, 13, 14] .done) (tk [4, 11] (.alt (tk [2, 12, 13, 14] .done) (tk [12, 2, 13, 14] .done))))))))) [o 68 (.mv (.t 0)), o 69 (.mv (.t 9)), o 70 (.call 119 [false, false, false, false] [.t 68, .k (.i .i64 0), .t 69, .k (.i .i64 0)]), o 71 (.faddr 2 (.t 3)), o 72 (.load none (.t 71)), o 73 (.mv (.t 0)), o 74 (.mv (.t 6)), o 75 (.iaddr 2 (.t 73) (.t 74)), o 76 (.faddr 1 (.t 75)), o 77 (.load none (.t 76)), o 78 (.bin .add 0 (.t 77) (.k (.i .i64 1))), o 79 (.build [.i .i64 0, .i .i64 0] [(0, 1, .t 72), (1, 1, .t 78)]), o 80 (.lit 2 1 [.i .i64 0, .i .i64 0] [(0, .t 79)]), o 81 (.app 2 16 (.t 70) (.t 80)), o 7 (.mv (.t 81))])) (.seq (.kp [0, 7, 8, 10] (.ops [o 82 (.mv (.t 7)), o 83 (.mv (.t 0)), o 84 (.mv (.t 9)), o 85 (.mv (.t 10)), o 86 (.call 119 [false, false, false, false] [.t 83, .t 84, .t 85, .k (.i .i64 1)]), o 87 (.app 2 16 (.t 82) (.t 86)), o 7 (.mv (.t 87))])) (.seq (.kp [4, 5] (.ops [o 88 (.mv (.t 7)), o 89 (.mv (.t 0)), o 90 (.mv (.t 10)), o 91 (.mv (.t 0)), o 92 (.len false (.t 91)), o 93 (.call 119 [false, false, false, false] [.t 89, .t 90, .t 92, .k (.i .i64 0)]), o 94 (.app 2 16 (.t 88) (.t 93)), o 95 (.mv (.t 8)), o 4 (.mv (.t 94)), o 5 (.mv (.t 95))])) C.ret))))))))))
def spec_ApplyOp.F : V.Fn := ⟨2, spec_ApplyOp.B, [.t 4, .t 5]⟩
def spec_ApplyAll.c0 : C := (.seq (.kp [4, 5, 6] (.ops [o 38 (.mv (.t 7)), o 39 (.mv (.t 1)), o 40 (.len false (.t 39)), o 4 (.mv (.t 38)), o 5 (.mv (.t 40)), o 6 (.mv (.k (.i .i64 0)))])) C.ret)
def spec_ApplyAll.d1 : C := (.seq (.seq (.kp [1, 7, 8, 20] (.ops [o 17 (.mv (.t 8)), o 18 (.mv (.t 1)), o 19 (.len false (.t 18)), o 20 (.bin .lss 0 (.t 17) (.t 19))])) (.cond (.t 20) C.skip (.exit 0))) (.seq (.blk 1 (.seq (.kp [1, 7, 8, 9, 10] (.ops [o 24 (.mv (.t 7)), o 25 (.mv (.t 1)), o 26 (.mv (.t 8)), o 27 (.iaddr 5 (.t 25) (.t 26)), o 28 (.load (some 5) (.t 27)), o 29 (.call 97 [false, false] [.t 24, .t 28]), o 23 (.mv (.t 29)), o 30 (.ext 0 (.t 23)), o 31 (.ext 1 (.t 23)), o 9 (.mv (.t 30)), o 10 (.mv (.t 31))])) (.seq (.seq (.kp [1, 7, 8, 9, 10, 33] (.ops [o 32 (.mv (.t 10)), o 33 (.bin .neq 0 (.t 32) (.k (.i .i64 0)))])) (.cond (.t 33) (.seq (.kp [4, 5, 6] (.ops [o 34 (.mv (.t 7)), o 35 (.mv (.t 8)), o 36 (.mv (.t 10)), o 4 (.mv (.t 34)), o 5 (.mv (.t 35)), o 6 (.mv (.t 36))])) C.ret) C.skip)) (.kp [1, 7, 8] (.ops [o 37 (.mv (.t 9)), o 7 (.mv (.t 37))]))))) (.kp [1, 7, 8] (.ops [o 21 (.mv (.t 8)), o 22 (.bin .add 0 (.t 21) (.k (.i .i64 1))), o 8 (.mv (.t 22))]))))
def spec_ApplyAll.c1 : C := .loop 2 [1, 7, 8] spec_ApplyAll.d1
def spec_ApplyAll.B : C := (.seq (.kp [0, 1] (.ops [o 4 (.mv (.k (.nl 2))), o 5 (.mv (.k (.i .i64 0))), o 6 (.mv (.k (.i .i64 0)))])) (.seq (.seq (.kp [0, 1, 13] (.ops [o 11 (.mv (.t 0)), o 12 (.call 86 [false] [.t 11]), o 13 (.un .not (.t 12))])) (.cond (.t 13) (.seq (.kp [4, 5, 6] (.ops [o 14 (.lit 2 0 [.i .i64 0, .i .i64 0] []), o 4 (.mv (.t 14)), o 5 (.mv (.k (.i .i64 0))), o 6 (.mv (.k (.i .i64 2)))])) C.ret) C.skip)) (.seq (.kp [1, 7] (.ops [o 15 (.mv (.t 0)), o 16 (.call 85 [false] [.t 15]), o 7 (.mv (.t 16))])) (.seq (.seq (.kp [1, 7, 8] (.ops [o 8 (.mv (.k (.i .i64 0)))])) (.blk 0 spec_ApplyAll.c1)) spec_ApplyAll.c0))))
def spec_ApplyAll.F : V.Fn := ⟨2, spec_ApplyAll.B, [.t 4, .t 5, .t 6]⟩
def spec_PutTree.c0 : C := (.seq (.kp [2] (.ops [o 32 (.mv (.t 3)), o 2 (.mv (.t 32))])) C.ret)
def spec_PutTree.d1 : C := (.seq (.seq (.kp [0, 3, 4, 14] (.ops [o 11 (.mv (.t 4)), o 12 (.mv (.t 0)), o 13 (.len false (.t 12)), o 14 (.bin .lss 0 (.t 11) (.t 13))])) (.cond (.t 14) C.skip (.exit 0))) (.seq (.blk 1 (.kp [0, 3, 4] (.draw (tk [0, 1, 2, 3, 4, 5, 8, 9, 10, 11] (.alt (tk [6, 7, 12, 13, 14, 15] .done) (tk [12, 6, 7, 13, 14, 15] .done))) [o 17 (.mv (.t 3)), o 18 (.mv (.t 0)), o 19 (.mv (.t 4)), o 20 (.iaddr 2 (.t 18) (.t 19)), o 21 (.faddr 0 (.t 20)), o 22 (.load none (.t 21)), o 23 (.call 106 [false] [.t 22]), o 24 (.bin .add 0 (.t 17) (.t 23)), o 25 (.mv (.t 0)), o 26 (.mv (.t 4)), o 27 (.iaddr 2 (.t 25) (.t 26)), o 28 (.faddr 1 (.t 27)), o 29 (.load none (.t 28)), o 30 (.call 106 [false] [.t 29]), o 31 (.bin .add 0 (.t 24) (.t 30)), o 3 (.mv (.t 31))]))) (.kp [0, 3, 4] (.ops [o 15 (.mv (.t 4)), o 16 (.bin .add 0 (.t 15) (.k (.i .i64 1))), o 4 (.mv (.t 16))]))))
def spec_PutTree.c1 : C := .loop 1 [0, 3, 4] spec_PutTree.d1
def spec_PutTree.B : C := (.seq (.kp [0] (.ops [o 2 (.mv (.k (.s ⟨#[]⟩)))])) (.seq (.seq (.kp [0, 7] (.ops [o 5 (.mv (.t 0)), o 6 (.call 86 [false] [.t 5]), o 7 (.un .not (.t 6))])) (.cond (.t 7) (.seq (.kp [2] (.ops [o 2 (.mv (.k (.s ⟨#[]⟩)))])) C.ret) C.skip)) (.seq (.kp [0, 3] (.ops [o 8 (.mv (.t 0)), o 9 (.len false (.t 8)), o 10 (.call 106 [false] [.t 9]), o 3 (.mv (.t 10))])) (.seq (.seq (.kp [0, 3, 4] (.ops [o 4 (.mv (.k (.i .i64 0)))])) (.blk 0 spec_PutTree.c1)) spec_PutTree.c0))))
def spec_PutTree.F : V.Fn := ⟨1, spec_PutTree.B, [.t 2]⟩
def spec_Patch.B : C := (.seq (.kp [0, 1, 5] (.ops [o 4 (.mv (.k (.s ⟨#[]⟩))), o 5 (.alloc [.i .i64 0, .i .i64 0, .i .i64 0])])) (.seq (.kp [1, 5, 6, 7] (.ops [o 14 (.mv (.t 0)), o 15 (.call 34 [false] [.t 14]), o 13 (.mv (.t 15)), o 16 (.ext 0 (.t 13)), o 17 (.ext 1 (.t 13)), o 6 (.mv (.t 16)), o 7 (.mv (.t 17))])) (.seq (.seq (.kp [1, 5, 6, 7, 19] (.ops [o 18 (.mv (.t 7)), o 19 (.bin .neq 0 (.t 18) (.k (.i .i64 0)))])) (.cond (.t 19) (.seq (.kp [4, 5] (.ops [o 20 (.mv (.t 7)), o 21 (.build [.i .i64 0, .i .i64 0, .i .i64 0] [(0, 1, .k (.i .i64 1)), (1, 1, .t 20)]), o 4 (.mv (.k (.s ⟨#[]⟩))), oz none none [] (.store 3 (.t 5) (.t 21))])) C.ret) C.skip)) (.seq (.kp [5, 6, 8, 9] (.ops [o 23 (.mv (.t 1)), o 24 (.call 72 [false] [.t 23]), o 22 (.mv (.t 24)), o 25 (.ext 0 (.t 22)), o 26 (.ext 1 (.t 22)), o 8 (.mv (.t 25)), o 9 (.mv (.t 26))])) (.seq (.seq (.kp [5, 6, 8, 9, 28] (.ops [o 27 (.mv (.t 9)), o 28 (.bin .neq 0 (.t 27) (.k (.i .i64 0)))])) (.cond (.t 28) (.seq (.kp [4, 5] (.ops [o 29 (.mv (.t 9)), o 30 (.build [.i .i64 0, .i .i64 0, .i .i64 0] [(0, 1, .k (.i .i64 4)), (1, 1, .t 29)]), o 4 (.mv (.k (.s ⟨#[]⟩))), oz none none [] (.store 3 (.t 5) (.t 30))])) C.ret) C.skip)) (.seq (.kp [5, 10, 11, 12] (.ops [o 32 (.mv (.t 6)), o 33 (.mv (.t 8)), o 34 (.call 73 [false, false] [.t 32, .t 33]), o 31 (.mv (.t 34)), o 35 (.ext 0 (.t 31)), o 36 (.ext 1 (.t 31)), o 37 (.ext 2 (.t 31)), o 10 (.mv (.t 35)), o 11 (.mv (.t 36)), o 12 (.mv (.t 37))])) (.seq (.seq (.kp [5, 10, 11, 12, 39] (.ops [o 38 (.mv (.t 12)), o 39 (.bin .neq 0 (.t 38) (.k (.i .i64 0)))])) (.cond (.t 39) (.seq (.kp [4, 5] (.ops [o 40 (.mv (.t 12)), o 41 (.mv (.t 11)), o 42 (.build [.i .i64 0, .i .i64 0, .i .i64 0] [(0, 1, .k (.i .i64 5)), (1, 1, .t 40), (2, 1, .t 41)]), o 4 (.mv (.k (.s ⟨#[]⟩))), oz none none [] (.store 3 (.t 5) (.t 42))])) C.ret) C.skip)) (.seq (.kp [4, 5] (.ops [o 43 (.mv (.t 10)), o 44 (.call 74 [false] [.t 43]), o 45 (.build [.i .i64 0, .i .i64 0, .i .i64 0] []), o 4 (.mv (.t 44)), oz none none [] (.store 3 (.t 5) (.t 45))])) C.ret))))))))
def spec_Patch.F : V.Fn := ⟨0, spec_Patch.B, [.t 4, .cell 5 (some 3)]⟩
def spec_RepoGet.B : C := (.seq (.kp [1, 2] (.ops [o 2 (.boxK (.t 0)), o 4 (.mv (.k (.s ⟨#[]⟩))), o 5 (.mv (.k (.b false)))])) (.seq (.seq (.kp [1, 2, 37] (.ops [o 13 (.mv (.t 1)), o 14 (.faddr 0 (.t 2)), o 15 (.load none (.t 14)), o 16 (.len false (.t 15)), o 17 (.bin .sub 0 (.t 16) (.k (.i .i64 1))), o 18 (.call 33 [false, false, false] [.t 13, .k (.i .i64 0), .t 17]), o 19 (.un .not (.t 18)), o 20 (.mv (.t 19)), og 21 20 false (.faddr 0 (.t 2)), og 22 20 false (.load none (.t 21)), og 23 20 false (.len false (.t 22)), og 24 20 false (.bin .gtr 0 (.t 23) (.k (.i .i64 6))), o 25 (.pick (.t 20) (.k (.b true)) (.t 24)), o 26 (.mv (.t 25)), og 27 26 false (.faddr 0 (.t 2)), og 28 26 false (.load none (.t 27)), og 29 26 false (.mv (.t 1)), og 30 26 false (.iaddr 2 (.t 28) (.t 29)), og 31 26 false (.faddr 0 (.t 30)), og 32 26 false (.load none (.t 31)), og 33 26 false (.mv (.t 1)), og 34 26 false (.bin .sub 0 (.t 33) (.k (.i .i64 1))), og 35 26 false (.call 33 [false, false, false] [.t 32, .k (.i .i64 (-1)), .t 34]), og 36 26 false (.un .not (.t 35)), o 37 (.pick (.t 26) (.k (.b true)) (.t 36))])) (.cond (.t 37) (.seq (.kp [4, 5] (.ops [o 4 (.mv (.k (.s ⟨#[]⟩))), o 5 (.mv (.k (.b false)))])) C.ret) C.skip)) (.seq (.kp [2, 6] (.ops [o 38 (.faddr 0 (.t 2)), o 39 (.load none (.t 38)), o 40 (.mv (.t 1)), o 41 (.iaddr 2 (.t 39) (.t 40)), o 42 (.load (some 2) (.t 41)), o 6 (.alloc [.i .i64 0, .s ⟨#[]⟩]), oz none none [] (.store 2 (.t 6) (.t 42))])) (.seq (.seq (.kp [2, 6, 45] (.ops [o 43 (.faddr 0 (.t 6)), o 44 (.load none (.t 43)), o 45 (.bin .lss 0 (.t 44) (.k (.i .i64 0)))])) (.cond (.t 45) (.seq (.kp [6, 8] (.ops [o 47 (.faddr 1 (.t 6)), o 48 (.load none (.t 47)), o 49 (.call 34 [false] [.t 48]), o 46 (.mv (.t 49)), o 50 (.ext 0 (.t 46)), o 51 (.ext 1 (.t 46)), o 7 (.mv (.t 50)), o 8 (.mv (.t 51))])) (.seq (.seq (.kp [6, 53] (.ops [o 52 (.mv (.t 8)), o 53 (.bin .neq 0 (.t 52) (.k (.i .i64 0)))])) (.cond (.t 53) (.seq (.kp [4, 5] (.ops [o 4 (.mv (.k (.s ⟨#[]⟩))), o 5 (.mv (.k (.b false)))])) C.ret) C.skip)) (.seq (.kp [4, 5] (.ops [o 54 (.faddr 1 (.t 6)), o 55 (.load none (.t 54)), o 4 (.mv (.t 55)), o 5 (.mv (.k (.b true)))])) C.ret))) C.skip)) (.seq (.kp [6, 9, 10] (.ops [o 57 (.load (some 1) (.t 2)), o 58 (.faddr 0 (.t 6)), o 59 (.load none (.t 58)), o 60 (.call 9 [false, false] [.t 57, .t 59]), o 56 (.mv (.t 60)), o 61 (.ext 0 (.t 56)), o 62 (.ext 1 (.t 56)), o 9 (.mv (.t 61)), o 10 (.mv (.t 62))])) (.seq (.seq (.kp [6, 9, 64] (.ops [o 63 (.mv (.t 10)), o 64 (.un .not (.t 63))])) (.cond (.t 64) (.seq (.kp [4, 5] (.ops [o 4 (.mv (.k (.s ⟨#[]⟩))), o 5 (.mv (.k (.b false)))])) C.ret) C.skip)) (.seq (.kp [11, 12] (.ops [o 66 (.mv (.t 9)), o 67 (.faddr 1 (.t 6)), o 68 (.load none (.t 67)), o 69 (.call 35 [false, false] [.t 66, .t 68]), o 65 (.mv (.t 69)), o 70 (.ext 0 (.t 65)), o 71 (.ext 1 (.t 65)), o 12 (.alloc [.i .i64 0, .i .i64 0, .i .i64 0]), o 11 (.mv (.t 70)), oz none none [] (.store 3 (.t 12) (.t 71))])) (.seq (.seq (.kp [11, 74] (.ops [o 72 (.faddr 0 (.t 12)), o 73 (.load none (.t 72)), o 74 (.bin .neq 0 (.t 73) (.k (.i .i64 0)))])) (.cond (.t 74) (.seq (.kp [4, 5] (.ops [o 4 (.mv (.k (.s ⟨#[]⟩))), o 5 (.mv (.k (.b false)))])) C.ret) C.skip)) (.seq (.kp [4, 5] (.ops [o 75 (.mv (.t 11)), o 4 (.mv (.t 75)), o 5 (.mv (.k (.b true)))])) C.ret)))))))))
def spec_RepoGet.F : V.Fn := ⟨1, spec_RepoGet.B, [.t 4, .t 5]⟩
def spec_RepoOk.c0 : C := (.seq (.kp [2] (.ops [o 21 (.faddr 0 (.t 1)), o 22 (.load none (.t 21)), o 23 (.len false (.t 22)), o 24 (.bin .leq 0 (.t 23) (.k (.i .i64 6))), o 2 (.mv (.t 24))])) C.ret)
def spec_RepoOk.d1 : C := (.seq (.seq (.kp [1, 3, 10] (.ops [o 6 (.mv (.t 3)), o 7 (.faddr 0 (.t 1)), o 8 (.load none (.t 7)), o 9 (.len false (.t 8)), o 10 (.bin .lss 0 (.t 6) (.t 9))])) (.cond (.t 10) C.skip (.exit 0))) (.seq (.blk 1 (.seq (.kp [1, 3, 5] (.ops [o 14 (.load (some 1) (.t 1)), o 15 (.mv (.t 3)), o 16 (.call 9 [false, false] [.t 14, .t 15]), o 13 (.mv (.t 16)), o 17 (.ext 0 (.t 13)), o 18 (.ext 1 (.t 13)), o 4 (.mv (.t 17)), o 5 (.mv (.t 18))])) (.seq (.kp [1, 3, 20] (.ops [o 19 (.mv (.t 5)), o 20 (.un .not (.t 19))])) (.cond (.t 20) (.seq (.kp [2] (.ops [o 2 (.mv (.k (.b false)))])) C.ret) C.skip)))) (.kp [1, 3] (.ops [o 11 (.mv (.t 3)), o 12 (.bin .add 0 (.t 11) (.k (.i .i64 1))), o 3 (.mv (.t 12))]))))
def spec_RepoOk.c1 : C := .loop 1 [1, 3] spec_RepoOk.d1
def spec_RepoOk.B : C := (.seq (.kp [1] (.ops [o 1 (.boxK (.t 0)), o 2 (.mv (.k (.b false)))])) (.seq (.seq (.kp [1, 3] (.ops [o 3 (.mv (.k (.i .i64 0)))])) (.blk 0 spec_RepoOk.c1)) spec_RepoOk.c0))
def spec_RepoOk.F : V.Fn := ⟨1, spec_RepoOk.B, [.t 2]⟩
def spec_Flat.B : C := (.seq (.kp [1, 2, 4] (.ops [o 2 (.boxK (.t 0)), o 4 (.alloc [.deep false false 2 []]), o 5 (.mv (.k (.b false)))])) (.seq (.kp [1, 2, 4, 6] (.ops [o 9 (.load (some 1) (.t 2)), o 10 (.call 41 [false] [.t 9]), o 6 (.alloc [.deep false false 2 []]), oz none none [] (.store 1 (.t 6) (.t 10))])) (.seq (.kp [1, 2, 4, 6, 7, 8] (.ops [o 12 (.load (some 1) (.t 2)), o 13 (.mv (.t 1)), o 14 (.call 9 [false, false] [.t 12, .t 13]), o 11 (.mv (.t 14)), o 15 (.ext 0 (.t 11)), o 16 (.ext 1 (.t 11)), o 7 (.mv (.t 15)), o 8 (.mv (.t 16))])) (.seq (.seq (.kp [1, 4, 6, 7, 23] (.ops [o 17 (.mv (.t 8)), o 18 (.un .not (.t 17)), o 19 (.mv (.t 18)), og 20 19 false (.load (some 1) (.t 2)), og 21 19 false (.call 13 [false] [.t 20]), og 22 19 false (.un .not (.t 21)), o 23 (.pick (.t 19) (.k (.b true)) (.t 22))])) (.cond (.t 23) (.seq (.kp [4, 5] (.ops [o 24 (.load (some 1) (.t 6)), oz none none [24] (.store 1 (.t 4) (.t 24)), o 5 (.mv (.k (.b false)))])) C.ret) C.skip)) (.seq (.kp [4, 6] (.ops [o 25 (.faddr 0 (.t 6)), o 26 (.load none (.t 25)), o 27 (.mv (.t 1)), o 28 (.mv (.t 7)), o 29 (.build [.i .i64 0, .s ⟨#[]⟩] [(0, 1, .k (.i .i64 (-1))), (1, 1, .t 28)]), o 30 (.iaddr 2 (.t 26) (.t 27)), oz none none [] (.store 2 (.t 30) (.t 29))])) (.seq (.kp [4, 5] (.ops [o 31 (.load (some 1) (.t 6)), oz none none [31] (.store 1 (.t 4) (.t 31)), o 5 (.mv (.k (.b true)))])) C.ret))))))
def spec_Flat.F : V.Fn := ⟨1, spec_Flat.B, [.cell 4 (some 1), .t 5]⟩
def slices_Clone_impl_Rev_impl_Rev.B : C := (.seq (.kp [0] (.ops [o 2 (.mv (.k (.nl 2)))])) (.seq (.seq (.kp [0, 4] (.ops [o 3 (.mv (.t 0)), o 4 (.bin .eql 2 (.t 3) (.k (.nl 2)))])) (.cond (.t 4) (.seq (.kp [2] (.ops [o 2 (.mv (.k (.nl 2)))])) C.ret) C.skip)) (.seq (.kp [2] (.ops [o 5 (.lit 2 0 [.i .i64 0, .s ⟨#[]⟩] []), o 6 (.mv (.t 0)), o 7 (.app 2 24 (.t 5) (.t 6)), o 2 (.mv (.t 7))])) C.ret)))
def slices_Clone_impl_Rev_impl_Rev.F : V.Fn := ⟨1, slices_Clone_impl_Rev_impl_Rev.B, [.t 2]⟩
def impl_repoCopy.B : C := (.seq (.kp [1, 2] (.ops [o 1 (.boxK (.t 0)), o 2 (.alloc [.deep false false 2 []])])) (.seq (.kp [2] (.ops [o 3 (.faddr 0 (.t 1)), o 4 (.load none (.t 3)), o 5 (.call 82 [false] [.t 4]), o 6 (.build [.nl 2] [(0, 1, .t 5)]), oz none none [] (.store 1 (.t 2) (.t 6))])) C.ret))
def impl_repoCopy.F : V.Fn := ⟨1, impl_repoCopy.B, [.cell 2 (some 1)]⟩
def impl_within.B : C := (.seq (.kp [0, 1, 2] (.ops [o 6 (.mv (.k (.b false)))])) (.seq (.kp [6] (.ops [o 7 (.mv (.t 1)), o 8 (.mv (.t 0)), o 9 (.bin .leq 0 (.t 7) (.t 8)), o 10 (.mv (.t 9)), og 11 10 true (.mv (.t 0)), og 12 10 true (.mv (.t 2)), og 13 10 true (.bin .leq 0 (.t 11) (.t 12)), o 14 (.pick (.t 10) (.t 13) (.k (.b false))), o 6 (.mv (.t 14))])) C.ret))
def impl_within.F : V.Fn := ⟨0, impl_within.B, [.t 6]⟩
def impl_ReadVar.c0 : C := (.seq (.kp [2, 3] (.ops [o 2 (.mv (.k (.i .i64 0))), o 3 (.mv (.k (.i .i64 0)))])) C.ret)
def impl_ReadVar.d1 : C := (.seq (.kp [0, 4, 8, 9, 10] (.ops [o 10 (.bin .lss 0 (.t 9) (.t 8))])) (.seq (.cond (.t 10) C.skip (.exit 0)) (.seq (.blk 1 (.seq (.kp [0, 4, 5, 8, 9] (.ops [o 11 (.mv (.t 9)), o 5 (.mv (.t 11))])) (.seq (.kp [0, 4, 5, 8, 9] (.ops [o 12 (.mv (.t 4)), o 13 (.mv (.t 0)), o 14 (.mv (.t 5)), o 15 (.idxS (.t 13) (.t 14)), o 16 (.bin .and 0 (.t 15) (.k (.i .u8 127))), o 17 (.conv .i64 (.t 16)), o 18 (.mv (.t 5)), o 19 (.bin .mul 0 (.k (.i .i64 7)) (.t 18)), o 20 (.bin .shl 0 (.t 17) (.t 19)), o 21 (.bin .or 0 (.t 12) (.t 20)), o 4 (.mv (.t 21))])) (.seq (.kp [0, 4, 5, 8, 9, 25] (.ops [o 22 (.mv (.t 0)), o 23 (.mv (.t 5)), o 24 (.idxS (.t 22) (.t 23)), o 25 (.bin .lss 0 (.t 24) (.k (.i .u8 128)))])) (.cond (.t 25) (.seq (.seq (.kp [4, 5, 37] (.ops [o 26 (.mv (.t 5)), o 27 (.bin .gtr 0 (.t 26) (.k (.i .i64 0))), o 28 (.mv (.t 27)), og 29 28 true (.mv (.t 0)), og 30 28 true (.mv (.t 5)), og 31 28 true (.idxS (.t 29) (.t 30)), og 32 28 true (.bin .eql 0 (.t 31) (.k (.i .u8 0))), o 33 (.pick (.t 28) (.t 32) (.k (.b false))), o 34 (.mv (.t 33)), og 35 34 false (.mv (.t 4)), og 36 34 false (.bin .gtr 0 (.t 35) (.k (.i .i64 562949953421311))), o 37 (.pick (.t 34) (.k (.b true)) (.t 36))])) (.cond (.t 37) (.seq (.kp [2, 3] (.ops [o 2 (.mv (.k (.i .i64 0))), o 3 (.mv (.k (.i .i64 0)))])) C.ret) C.skip)) (.seq (.kp [2, 3] (.ops [o 38 (.mv (.t 4)), o 39 (.mv (.t 5)), o 40 (.bin .add 0 (.t 39) (.k (.i .i64 1))), o 2 (.mv (.t 38)), o 3 (.mv (.t 40))])) C.ret)) C.skip))))) (.kp [0, 4, 8, 9] (.ops [o 41 (.bin .add 0 (.t 9) (.k (.i .i64 1))), o 9 (.mv (.t 41))])))))
def impl_ReadVar.c1 : C := .loop 0 [0, 4, 8, 9] impl_ReadVar.d1
def impl_ReadVar.B : C := (.seq (.kp [0] (.ops [o 2 (.mv (.k (.i .i64 0))), o 3 (.mv (.k (.i .i64 0)))])) (.seq (.kp [0, 4] (.ops [o 4 (.mv (.k (.i .i64 0)))])) (.seq (.seq (.kp [0, 4, 8, 9] (.ops [o 6 (.mv (.t 0)), o 7 (.len true (.t 6)), o 8 (.mm false [.t 7, .k (.i .i64 7)]), o 9 (.mv (.k (.i .i64 0)))])) (.blk 0 impl_ReadVar.c1)) impl_ReadVar.c0)))
def impl_ReadVar.F : V.Fn := ⟨0, impl_ReadVar.B, [.t 2, .t 3]⟩
def impl_LabelOk.B : C := (.seq (.kp [0] (.ops [o 2 (.mv (.k (.b false)))])) (.seq (.kp [2] (.ops [o 3 (.mv (.t 0)), o 4 (.call 37 [false, false, false] [.t 3, .k (.i .i64 0), .k (.i .i64 5)]), o 2 (.mv (.t 4))])) C.ret))
def impl_LabelOk.F : V.Fn := ⟨0, impl_LabelOk.B, [.t 2]⟩
def impl_depthOk.B : C := (.seq (.kp [0, 1] (.ops [o 4 (.mv (.k (.b false)))])) (.seq (.seq (.kp [0, 1, 6] (.ops [o 5 (.mv (.t 1)), o 6 (.bin .eql 0 (.t 5) (.k (.i .i64 0)))])) (.cond (.t 6) (.seq (.kp [4] (.ops [o 7 (.mv (.t 0)), o 8 (.iaddr 2 (.t 7) (.k (.i .i64 0))), o 9 (.faddr 1 (.t 8)), o 10 (.load none (.t 9)), o 11 (.bin .eql 0 (.t 10) (.k (.i .i64 0))), o 4 (.mv (.t 11))])) C.ret) C.skip)) (.seq (.kp [4] (.draw (sq 14) [o 12 (.mv (.t 0)), o 13 (.mv (.t 1)), o 14 (.iaddr 2 (.t 12) (.t 13)), o 15 (.faddr 1 (.t 14)), o 16 (.load none (.t 15)), o 17 (.mv (.t 0)), o 18 (.mv (.t 1)), o 19 (.bin .sub 0 (.t 18) (.k (.i .i64 1))), o 20 (.iaddr 2 (.t 17) (.t 19)), o 21 (.faddr 1 (.t 20)), o 22 (.load none (.t 21)), o 23 (.bin .add 0 (.t 22) (.k (.i .i64 1))), o 24 (.call 37 [false, false, false] [.t 16, .k (.i .i64 1), .t 23]), o 4 (.mv (.t 24))])) C.ret)))
def impl_depthOk.F : V.Fn := ⟨1, impl_depthOk.B, [.t 4]⟩
def impl_getNode.B : C := (.seq (.kp [0, 1] (.ops [o 4 (.mv (.k (.nl 2))), o 5 (.mv (.k (.s ⟨#[]⟩))), o 6 (.mv (.k (.i .i64 0)))])) (.seq (.kp [0, 1, 7, 8] (.ops [o 11 (.mv (.t 1)), o 12 (.call 76 [false] [.t 11]), o 10 (.mv (.t 12)), o 13 (.ext 0 (.t 10)), o 14 (.ext 1 (.t 10)), o 7 (.mv (.t 13)), o 8 (.mv (.t 14))])) (.seq (.blk 0 (.seq (.kp [0, 1, 7, 8, 15] (.ops [o 16 (.mv (.t 8)), o 17 (.bin .eql 0 (.t 16) (.k (.i .i64 0))), o 15 (.mv (.t 17))])) (.cond (.t 15) (.seq (.kp [4, 5, 6] (.ops [o 18 (.mv (.t 0)), o 19 (.mv (.t 1)), o 4 (.mv (.t 18)), o 5 (.mv (.t 19)), o 6 (.mv (.k (.i .i64 1)))])) C.ret) (.seq (.kp [0, 1, 7, 8, 20] (.ops [o 21 (.mv (.t 7)), o 22 (.call 107 [false] [.t 21]), o 23 (.un .not (.t 22)), o 20 (.mv (.t 23))])) (.cond (.t 20) (.seq (.kp [4, 5, 6] (.ops [o 24 (.mv (.t 0)), o 25 (.mv (.t 1)), o 4 (.mv (.t 24)), o 5 (.mv (.t 25)), o 6 (.mv (.k (.i .i64 3)))])) C.ret) C.skip))))) (.seq (.kp [0, 1, 7] (.ops [o 26 (.mv (.t 1)), o 27 (.mv (.t 8)), o 28 (.slS (.t 26) (some (.t 27)) none), o 1 (.mv (.t 28))])) (.seq (.kp [0, 1, 7, 8, 9] (.ops [o 30 (.mv (.t 1)), o 31 (.call 76 [false] [.t 30]), o 29 (.mv (.t 31)), o 32 (.ext 0 (.t 29)), o 33 (.ext 1 (.t 29)), o 9 (.mv (.t 32)), o 8 (.mv (.t 33))])) (.seq (.kp [0, 1, 8, 9] (.ops [o 34 (.mv (.t 0)), o 35 (.mv (.t 7)), o 36 (.mv (.t 9)), o 37 (.build [.i .i64 0, .i .i64 0] [(0, 1, .t 35), (1, 1, .t 36)]), o 38 (.lit 2 1 [.i .i64 0, .i .i64 0] [(0, .t 37)]), o 39 (.app 2 16 (.t 34) (.t 38)), o 0 (.mv (.t 39))])) (.seq (.blk 1 (.seq (.kp [0, 1, 8, 9, 40] (.ops [o 41 (.mv (.t 8)), o 42 (.bin .eql 0 (.t 41) (.k (.i .i64 0))), o 40 (.mv (.t 42))])) (.cond (.t 40) (.seq (.kp [4, 5, 6] (.ops [o 43 (.mv (.t 0)), o 44 (.mv (.t 1)), o 4 (.mv (.t 43)), o 5 (.mv (.t 44)), o 6 (.mv (.k (.i .i64 1)))])) C.ret) (.seq (.kp [0, 1, 8, 45] (.ops [o 46 (.mv (.t 9)), o 47 (.bin .gtr 0 (.t 46) (.k (.i .i64 12))), o 45 (.mv (.t 47))])) (.cond (.t 45) (.seq (.kp [4, 5, 6] (.ops [o 48 (.mv (.t 0)), o 49 (.mv (.t 1)), o 4 (.mv (.t 48)), o 5 (.mv (.t 49)), o 6 (.mv (.k (.i .i64 4)))])) C.ret) (.seq (.kp [0, 1, 8, 50] (.ops [o 51 (.mv (.t 0)), o 52 (.mv (.t 0)), o 53 (.len false (.t 52)), o 54 (.bin .sub 0 (.t 53) (.k (.i .i64 1))), o 55 (.call 108 [false, false] [.t 51, .t 54]), o 56 (.un .not (.t 55)), o 50 (.mv (.t 56))])) (.cond (.t 50) (.seq (.kp [4, 5, 6] (.ops [o 57 (.mv (.t 0)), o 58 (.mv (.t 1)), o 4 (.mv (.t 57)), o 5 (.mv (.t 58)), o 6 (.mv (.k (.i .i64 5)))])) C.ret) C.skip))))))) (.seq (.kp [4, 5, 6] (.draw (sq 7) [o 59 (.mv (.t 0)), o 60 (.mv (.t 1)), o 61 (.mv (.t 8)), o 62 (.slS (.t 60) (some (.t 61)) none), o 4 (.mv (.t 59)), o 5 (.mv (.t 62)), o 6 (.mv (.k (.i .i64 0)))])) C.ret))))))))
def impl_getNode.F : V.Fn := ⟨1, impl_getNode.B, [.t 4, .t 5, .t 6]⟩
def impl_GetTree.c0 : C := (.seq (.seq (.kp [6, 43] (.ops [o 42 (.mv (.t 7)), o 43 (.bin .neq 0 (.t 42) (.k (.s ⟨#[]⟩)))])) (.cond (.t 43) (.seq (.kp [2, 3] (.ops [o 44 (.lit 2 0 [.i .i64 0, .i .i64 0] []), o 2 (.mv (.t 44)), o 3 (.mv (.k (.i .i64 6)))])) C.ret) C.skip)) (.seq (.kp [2, 3] (.ops [o 45 (.mv (.t 6)), o 2 (.mv (.t 45)), o 3 (.mv (.k (.i .i64 0)))])) C.ret))
def impl_GetTree.d1 : C := (.seq (.kp [6, 7, 27, 28, 29] (.ops [o 29 (.bin .lss 0 (.t 28) (.t 27))])) (.seq (.cond (.t 29) C.skip (.exit 1)) (.seq (.blk 2 (.seq (.kp [6, 7, 8, 27, 28] (.ops [o 31 (.mv (.t 6)), o 32 (.mv (.t 7)), o 33 (.call 77 [true, false] [.t 31, .t 32]), o 30 (.mv (.t 33)), o 34 (.ext 0 (.t 30)), o 35 (.ext 1 (.t 30)), o 36 (.ext 2 (.t 30)), o 6 (.mv (.t 34)), o 7 (.mv (.t 35)), o 8 (.mv (.t 36))])) (.seq (.kp [6, 7, 8, 27, 28, 38] (.ops [o 37 (.mv (.t 8)), o 38 (.bin .neq 0 (.t 37) (.k (.i .i64 0)))])) (.cond (.t 38) (.seq (.kp [2, 3] (.ops [o 39 (.lit 2 0 [.i .i64 0, .i .i64 0] []), o 40 (.mv (.t 8)), o 2 (.mv (.t 39)), o 3 (.mv (.t 40))])) C.ret) C.skip)))) (.kp [6, 7, 27, 28] (.ops [o 41 (.bin .add 0 (.t 28) (.k (.i .i64 1))), o 28 (.mv (.t 41))])))))
def impl_GetTree.c1 : C := .loop 0 [6, 7, 27, 28] impl_GetTree.d1
def impl_GetTree.B : C := (.seq (.kp [0] (.ops [o 2 (.mv (.k (.nl 2))), o 3 (.mv (.k (.i .i64 0)))])) (.seq (.kp [0, 4, 5] (.ops [o 10 (.mv (.t 0)), o 11 (.call 76 [false] [.t 10]), o 9 (.mv (.t 11)), o 12 (.ext 0 (.t 9)), o 13 (.ext 1 (.t 9)), o 4 (.mv (.t 12)), o 5 (.mv (.t 13))])) (.seq (.blk 0 (.seq (.kp [0, 4, 5, 14] (.ops [o 15 (.mv (.t 5)), o 16 (.bin .eql 0 (.t 15) (.k (.i .i64 0))), o 14 (.mv (.t 16))])) (.cond (.t 14) (.seq (.kp [2, 3] (.ops [o 17 (.lit 2 0 [.i .i64 0, .i .i64 0] []), o 2 (.mv (.t 17)), o 3 (.mv (.k (.i .i64 1)))])) C.ret) (.seq (.kp [0, 4, 5, 18] (.ops [o 19 (.mv (.t 4)), o 20 (.call 37 [false, false, false] [.t 19, .k (.i .i64 1), .k (.i .i64 24)]), o 21 (.un .not (.t 20)), o 18 (.mv (.t 21))])) (.cond (.t 18) (.seq (.kp [2, 3] (.ops [o 22 (.lit 2 0 [.i .i64 0, .i .i64 0] []), o 2 (.mv (.t 22)), o 3 (.mv (.k (.i .i64 2)))])) C.ret) C.skip))))) (.seq (.kp [4, 6, 7] (.draw (tk [1, 2, 3, 0, 4, 5, 6] .done) [o 23 (.lit 2 0 [.i .i64 0, .i .i64 0] []), o 24 (.mv (.t 0)), o 25 (.mv (.t 5)), o 26 (.slS (.t 24) (some (.t 25)) none), o 6 (.mv (.t 23)), o 7 (.mv (.t 26)), o 8 (.mv (.k (.i .i64 0)))])) (.seq (.seq (.kp [6, 7, 27, 28] (.ops [o 27 (.mv (.t 4)), o 28 (.mv (.k (.i .i64 0)))])) (.blk 1 impl_GetTree.c1)) impl_GetTree.c0)))))
def impl_GetTree.F : V.Fn := ⟨0, impl_GetTree.B, [.t 2, .t 3]⟩
def impl_script_number.B : C := (.seq (.kp [0, 1, 2, 3] (.ops [o 8 (.mv (.k (.i .i64 0)))])) (.seq (.seq (.kp [0, 1, 2, 3, 15] (.ops [o 11 (.mv (.t 0)), o 12 (.nilc (.t 11)), o 13 (.faddr 1 (.t 12)), o 14 (.load none (.t 13)), o 15 (.bin .neq 0 (.t 14) (.k (.i .i64 0)))])) (.cond (.t 15) (.seq (.kp [8] (.ops [o 8 (.mv (.k (.i .i64 0)))])) C.ret) C.skip)) (.seq (.kp [0, 1, 2, 3, 9, 10] (.ops [o 17 (.mv (.t 0)), o 18 (.nilc (.t 17)), o 19 (.faddr 0 (.t 18)), o 20 (.load none (.t 19)), o 21 (.call 76 [false] [.t 20]), o 16 (.mv (.t 21)), o 22 (.ext 0 (.t 16)), o 23 (.ext 1 (.t 16)), o 9 (.mv (.t 22)), o 10 (.mv (.t 23))])) (.seq (.blk 0 (.seq (.kp [0, 1, 2, 3, 9, 10, 34] (.ops [o 35 (.mv (.t 10)), o 36 (.bin .eql 0 (.t 35) (.k (.i .i64 0))), o 34 (.mv (.t 36))])) (.cond (.t 34) (.kp [] (.ops [o 37 (.mv (.t 0)), o 38 (.nilc (.t 37)), o 39 (.faddr 1 (.t 38)), oz none none [] (.store 1 (.t 39) (.k (.i .i64 1)))])) (.seq (.kp [0, 3, 9, 10, 40] (.ops [o 41 (.mv (.t 9)), o 42 (.mv (.t 1)), o 43 (.mv (.t 2)), o 44 (.call 37 [false, false, false] [.t 41, .t 42, .t 43]), o 45 (.un .not (.t 44)), o 40 (.mv (.t 45))])) (.cond (.t 40) (.kp [] (.ops [o 46 (.mv (.t 0)), o 47 (.mv (.t 3)), o 48 (.nilc (.t 46)), o 49 (.faddr 1 (.t 48)), oz none none [] (.store 1 (.t 49) (.t 47))])) (.seq (.kp [9] (.ops [o 24 (.mv (.t 0)), o 25 (.mv (.t 0)), o 26 (.nilc (.t 25)), o 27 (.faddr 0 (.t 26)), o 28 (.load none (.t 27)), o 29 (.mv (.t 10)), o 30 (.slS (.t 28) (some (.t 29)) none), o 31 (.nilc (.t 24)), o 32 (.faddr 0 (.t 31)), oz none none [] (.store 1 (.t 32) (.t 30))])) (.seq (.kp [8] (.ops [o 33 (.mv (.t 9)), o 8 (.mv (.t 33))])) C.ret))))))) (.seq (.kp [8] (.ops [o 8 (.mv (.k (.i .i64 0)))])) C.ret)))))
def impl_script_number.F : V.Fn := ⟨1, impl_script_number.B, [.t 8]⟩
def impl_GetScript.c0 : C := (.seq (.seq (.kp [4, 5, 61] (.ops [o 50 (.mv (.t 4)), o 51 (.nilc (.t 50)), o 52 (.faddr 1 (.t 51)), o 53 (.load none (.t 52)), o 54 (.bin .eql 0 (.t 53) (.k (.i .i64 0))), o 55 (.mv (.t 54)), og 56 55 true (.mv (.t 4)), og 57 55 true (.nilc (.t 56)), og 58 55 true (.faddr 0 (.t 57)), og 59 55 true (.load none (.t 58)), og 60 55 true (.bin .neq 0 (.t 59) (.k (.s ⟨#[]⟩))), o 61 (.pick (.t 55) (.t 60) (.k (.b false)))])) (.cond (.t 61) (.kp [4, 5] (.ops [o 62 (.mv (.t 4)), o 63 (.nilc (.t 62)), o 64 (.faddr 1 (.t 63)), oz none none [] (.store 1 (.t 64) (.k (.i .i64 7)))])) C.skip)) (.seq (.seq (.kp [4, 5, 69] (.ops [o 65 (.mv (.t 4)), o 66 (.nilc (.t 65)), o 67 (.faddr 1 (.t 66)), o 68 (.load none (.t 67)), o 69 (.bin .neq 0 (.t 68) (.k (.i .i64 0)))])) (.cond (.t 69) (.seq (.kp [2, 3] (.draw (tk [1, 2, 3] (.alt (tk [0, 4, 5, 6] .done) (tk [4, 0, 5, 6] .done))) [o 70 (.lit 5 0 [.i .i64 0, .deep false false 1 [], .i .i64 0, .i .i64 0, .i .i64 0] []), o 71 (.mv (.t 4)), o 72 (.nilc (.t 71)), o 73 (.faddr 1 (.t 72)), o 74 (.load none (.t 73)), o 2 (.mv (.t 70)), o 3 (.mv (.t 74))])) C.ret) C.skip)) (.seq (.kp [2, 3] (.ops [o 75 (.mv (.t 5)), o 2 (.mv (.t 75)), o 3 (.mv (.k (.i .i64 0)))])) C.ret)))
def impl_GetScript.d4 : C := (.seq (.kp [4, 5, 6, 12, 13, 19, 20, 21] (.ops [o 21 (.bin .lss 0 (.t 20) (.t 19))])) (.seq (.cond (.t 21) C.skip (.exit 2)) (.seq (.blk 3 (.kp [4, 5, 6, 12, 13, 19, 20] (.draw (tk [0, 2] (.alt (tk [1, 3, 4, 5, 6, 7] .done) (tk [3] (.alt (tk [1, 4, 5, 6, 7] .done) (tk [4, 1, 5, 6, 7] .done))))) [o 22 (.faddr 1 (.t 6)), o 23 (.load none (.t 22)), o 24 (.mv (.t 4)), o 25 (.call 109 [true, false, false, false] [.t 24, .k (.i .i64 0), .k (.i .i64 24), .k (.i .i64 4)]), o 26 (.lit 1 1 [.i .i64 0] [(0, .t 25)]), o 27 (.app 1 8 (.t 23) (.t 26)), o 28 (.faddr 1 (.t 6)), oz none none [] (.store 1 (.t 28) (.t 27))]))) (.kp [4, 5, 6, 12, 13, 19, 20] (.ops [o 29 (.bin .add 0 (.t 20) (.k (.i .i64 1))), o 20 (.mv (.t 29))])))))
def impl_GetScript.c4 : C := .loop 0 [4, 5, 6, 12, 13, 19, 20] impl_GetScript.d4
def impl_GetScript.c3 : C := (.seq (.seq (.kp [4, 5, 6, 12, 13, 32] (.ops [o 30 (.faddr 0 (.t 6)), o 31 (.load none (.t 30)), o 32 (.bin .neq 0 (.t 31) (.k (.i .i64 2)))])) (.cond (.t 32) (.kp [4, 5, 6, 12, 13] (.ops [o 33 (.mv (.t 4)), o 34 (.call 109 [true, false, false, false] [.t 33, .k (.i .i64 0), .k (.i .i64 5), .k (.i .i64 5)]), o 35 (.faddr 2 (.t 6)), oz none none [] (.store 1 (.t 35) (.t 34))])) C.skip)) (.seq (.seq (.kp [4, 5, 6, 12, 13, 38] (.ops [o 36 (.faddr 0 (.t 6)), o 37 (.load none (.t 36)), o 38 (.bin .eql 0 (.t 37) (.k (.i .i64 3)))])) (.cond (.t 38) (.seq (.kp [4, 5, 6, 12, 13] (.ops [o 39 (.mv (.t 4)), o 40 (.call 109 [true, false, false, false] [.t 39, .k (.i .i64 0), .k (.i .i64 24), .k (.i .i64 6)]), o 41 (.faddr 3 (.t 6)), oz none none [] (.store 1 (.t 41) (.t 40))])) (.kp [4, 5, 6, 12, 13] (.ops [o 42 (.mv (.t 4)), o 43 (.call 109 [true, false, false, false] [.t 42, .k (.i .i64 0), .k (.i .i64 24), .k (.i .i64 6)]), o 44 (.faddr 4 (.t 6)), oz none none [] (.store 1 (.t 44) (.t 43))]))) C.skip)) (.kp [4, 5, 12, 13] (.ops [o 45 (.mv (.t 5)), o 46 (.load (some 5) (.t 6)), oz (some 47) none [46] (.lit 5 1 [.i .i64 0, .deep false false 1 [], .i .i64 0, .i .i64 0, .i .i64 0] [(0, .t 46)]), o 48 (.app 5 56 (.t 45) (.t 47)), o 5 (.mv (.t 48))]))))
def impl_GetScript.c2 : C := (.kp [4, 5, 12, 13] (.ops [o 49 (.bin .add 0 (.t 13) (.k (.i .i64 1))), o 13 (.mv (.t 49))]))
def impl_GetScript.d1 : C := (.seq (.kp [4, 5, 12, 13, 14] (.ops [o 14 (.bin .lss 0 (.t 13) (.t 12))])) (.seq (.cond (.t 14) C.skip (.exit 0)) (.seq (.blk 1 (.seq (.kp [4, 5, 6, 12, 13] (.ops [o 15 (.mv (.t 4)), o 16 (.call 109 [true, false, false, false] [.t 15, .k (.i .i64 1), .k (.i .i64 3), .k (.i .i64 3)]), o 17 (.build [.i .i64 0, .nl 1, .i .i64 0, .i .i64 0, .i .i64 0] [(0, 1, .t 16)]), o 6 (.alloc [.i .i64 0, .deep false false 1 [], .i .i64 0, .i .i64 0, .i .i64 0]), oz none none [] (.store 5 (.t 6) (.t 17))])) (.seq (.seq (.kp [4, 5, 6, 12, 13, 19, 20] (.ops [o 18 (.mv (.t 4)), o 19 (.call 109 [true, false, false, false] [.t 18, .k (.i .i64 0), .k (.i .i64 12), .k (.i .i64 4)]), o 20 (.mv (.k (.i .i64 0)))])) (.blk 2 impl_GetScript.c4)) impl_GetScript.c3))) impl_GetScript.c2)))
def impl_GetScript.c1 : C := .loop 0 [4, 5, 12, 13] impl_GetScript.d1
def impl_GetScript.B : C := (.seq (.kp [0] (.ops [o 2 (.mv (.k (.nl 5))), o 3 (.mv (.k (.i .i64 0)))])) (.seq (.kp [4, 5] (.ops [o 7 (.mv (.t 0)), o 8 (.build [.s ⟨#[]⟩, .i .i64 0] [(0, 1, .t 7)]), o 9 (.box 2 (.t 8)), o 10 (.lit 5 0 [.i .i64 0, .deep false false 1 [], .i .i64 0, .i .i64 0, .i .i64 0] []), o 4 (.mv (.t 9)), o 5 (.mv (.t 10))])) (.seq (.seq (.kp [4, 5, 12, 13] (.ops [o 11 (.mv (.t 4)), o 12 (.call 109 [true, false, false, false] [.t 11, .k (.i .i64 0), .k (.i .i64 60), .k (.i .i64 2)]), o 13 (.mv (.k (.i .i64 0)))])) (.blk 0 impl_GetScript.c1)) impl_GetScript.c0)))
def impl_GetScript.F : V.Fn := ⟨0, impl_GetScript.B, [.t 2, .t 3]⟩
def impl_TreeOk.c0 : C := (.seq (.kp [2] (.ops [o 2 (.mv (.k (.b true)))])) C.ret)
def impl_TreeOk.d1 : C := (.seq (.kp [0, 9, 10, 11, 12] (.ops [o 12 (.bin .lss 0 (.t 11) (.t 10))])) (.seq (.cond (.t 12) C.skip (.exit 0)) (.seq (.blk 1 (.seq (.kp [0, 3, 4, 9, 10, 11] (.ops [o 13 (.mv (.t 11)), o 14 (.iaddr 2 (.t 9) (.t 11)), o 15 (.load (some 2) (.t 14)), o 4 (.alloc [.i .i64 0, .i .i64 0]), o 3 (.mv (.t 13)), oz none none [] (.store 2 (.t 4) (.t 15))])) (.seq (.kp [0, 9, 10, 11, 31] (.ops [o 16 (.faddr 0 (.t 4)), o 17 (.load none (.t 16)), o 18 (.call 107 [false] [.t 17]), o 19 (.un .not (.t 18)), o 20 (.mv (.t 19)), og 21 20 false (.faddr 1 (.t 4)), og 22 20 false (.load none (.t 21)), og 23 20 false (.call 37 [false, false, false] [.t 22, .k (.i .i64 0), .k (.i .i64 12)]), og 24 20 false (.un .not (.t 23)), o 25 (.pick (.t 20) (.k (.b true)) (.t 24)), o 26 (.mv (.t 25)), og 27 26 false (.mv (.t 0)), og 28 26 false (.mv (.t 3)), og 29 26 false (.call 108 [false, false] [.t 27, .t 28]), og 30 26 false (.un .not (.t 29)), o 31 (.pick (.t 26) (.k (.b true)) (.t 30))])) (.cond (.t 31) (.seq (.kp [2] (.ops [o 2 (.mv (.k (.b false)))])) C.ret) C.skip)))) (.kp [0, 9, 10, 11] (.ops [o 32 (.bin .add 0 (.t 11) (.k (.i .i64 1))), o 11 (.mv (.t 32))])))))
def impl_TreeOk.c1 : C := .loop 1 [0, 9, 10, 11] impl_TreeOk.d1
def impl_TreeOk.B : C := (.seq (.kp [0] (.ops [o 2 (.mv (.k (.b false)))])) (.seq (.seq (.kp [0, 8] (.ops [o 5 (.mv (.t 0)), o 6 (.len false (.t 5)), o 7 (.call 37 [false, false, false] [.t 6, .k (.i .i64 1), .k (.i .i64 24)]), o 8 (.un .not (.t 7))])) (.cond (.t 8) (.seq (.kp [2] (.ops [o 2 (.mv (.k (.b false)))])) C.ret) C.skip)) (.seq (.seq (.kp [0, 9, 10, 11] (.ops [o 9 (.mv (.t 0)), o 10 (.len false (.t 9)), o 11 (.mv (.k (.i .i64 0)))])) (.blk 0 impl_TreeOk.c1)) impl_TreeOk.c0)))
def impl_TreeOk.F : V.Fn := ⟨1, impl_TreeOk.B, [.t 2]⟩
def slices_Clone_impl_Node_impl_Node.B : C := (.seq (.kp [0] (.ops [o 2 (.mv (.k (.nl 2)))])) (.seq (.seq (.kp [0, 4] (.ops [o 3 (.mv (.t 0)), o 4 (.bin .eql 2 (.t 3) (.k (.nl 2)))])) (.cond (.t 4) (.seq (.kp [2] (.ops [o 2 (.mv (.k (.nl 2)))])) C.ret) C.skip)) (.seq (.kp [2] (.ops [o 5 (.lit 2 0 [.i .i64 0, .i .i64 0] []), o 6 (.mv (.t 0)), o 7 (.app 2 16 (.t 5) (.t 6)), o 2 (.mv (.t 7))])) C.ret)))
def slices_Clone_impl_Node_impl_Node.F : V.Fn := ⟨1, slices_Clone_impl_Node_impl_Node.B, [.t 2]⟩
def impl_hasNode.B : C := (.seq (.kp [0, 1] (.ops [o 4 (.mv (.k (.b false)))])) (.seq (.kp [4] (.ops [o 5 (.mv (.t 0)), o 6 (.call 99 [false] [.t 5]), o 7 (.mv (.t 6)), og 8 7 true (.mv (.t 1)), og 9 7 true (.mv (.t 0)), og 10 7 true (.len false (.t 9)), og 11 7 true (.bin .sub 0 (.t 10) (.k (.i .i64 1))), og 12 7 true (.call 37 [false, false, false] [.t 8, .k (.i .i64 0), .t 11]), o 13 (.pick (.t 7) (.t 12) (.k (.b false))), o 4 (.mv (.t 13))])) C.ret))
def impl_hasNode.F : V.Fn := ⟨1, impl_hasNode.B, [.t 4]⟩
def impl_endOf.c0 : C := (.seq (.kp [4] (.ops [o 27 (.mv (.t 5)), o 4 (.mv (.t 27))])) C.ret)
def impl_endOf.d1 : C := (.seq (.seq (.kp [0, 1, 5, 24] (.draw (sq 17) [o 8 (.mv (.t 5)), o 9 (.mv (.t 0)), o 10 (.len false (.t 9)), o 11 (.bin .lss 0 (.t 8) (.t 10)), o 12 (.mv (.t 11)), og 13 12 true (.mv (.t 0)), og 14 12 true (.mv (.t 5)), og 15 12 true (.iaddr 2 (.t 13) (.t 14)), og 16 12 true (.faddr 1 (.t 15)), og 17 12 true (.load none (.t 16)), og 18 12 true (.mv (.t 0)), og 19 12 true (.mv (.t 1)), og 20 12 true (.iaddr 2 (.t 18) (.t 19)), og 21 12 true (.faddr 1 (.t 20)), og 22 12 true (.load none (.t 21)), og 23 12 true (.bin .gtr 0 (.t 17) (.t 22)), o 24 (.pick (.t 12) (.t 23) (.k (.b false)))])) (.cond (.t 24) C.skip (.exit 0))) (.blk 1 (.kp [0, 1, 5] (.ops [o 25 (.mv (.t 5)), o 26 (.bin .add 0 (.t 25) (.k (.i .i64 1))), o 5 (.mv (.t 26))]))))
def impl_endOf.c1 : C := .loop 1 [0, 1, 5] impl_endOf.d1
def impl_endOf.B : C := (.seq (.kp [0, 1] (.ops [o 4 (.mv (.k (.i .i64 0)))])) (.seq (.kp [0, 1, 5] (.ops [o 6 (.mv (.t 1)), o 7 (.bin .add 0 (.t 6) (.k (.i .i64 1))), o 5 (.mv (.t 7))])) (.seq (.blk 0 impl_endOf.c1) impl_endOf.c0)))
def impl_endOf.F : V.Fn := ⟨1, impl_endOf.B, [.t 4]⟩
def impl_KidsOf.c0 : C := (.seq (.kp [4] (.ops [o 38 (.mv (.t 5)), o 4 (.mv (.t 38))])) C.ret)
def impl_KidsOf.d1 : C := (.seq (.seq (.kp [0, 1, 5, 6, 19] (.ops [o 15 (.mv (.t 6)), o 16 (.mv (.t 0)), o 17 (.mv (.t 1)), o 18 (.call 123 [false, false] [.t 16, .t 17]), o 19 (.bin .lss 0 (.t 15) (.t 18))])) (.cond (.t 19) C.skip (.exit 0))) (.seq (.blk 1 (.seq (.kp [0, 1, 5, 6, 33] (.draw (sq 12) [o 22 (.mv (.t 0)), o 23 (.mv (.t 6)), o 24 (.iaddr 2 (.t 22) (.t 23)), o 25 (.faddr 1 (.t 24)), o 26 (.load none (.t 25)), o 27 (.mv (.t 0)), o 28 (.mv (.t 1)), o 29 (.iaddr 2 (.t 27) (.t 28)), o 30 (.faddr 1 (.t 29)), o 31 (.load none (.t 30)), o 32 (.bin .add 0 (.t 31) (.k (.i .i64 1))), o 33 (.bin .eql 0 (.t 26) (.t 32))])) (.cond (.t 33) (.kp [0, 1, 5, 6] (.ops [o 34 (.mv (.t 5)), o 35 (.mv (.t 6)), o 36 (.lit 1 1 [.i .i64 0] [(0, .t 35)]), o 37 (.app 1 8 (.t 34) (.t 36)), o 5 (.mv (.t 37))])) C.skip))) (.kp [0, 1, 5, 6] (.ops [o 20 (.mv (.t 6)), o 21 (.bin .add 0 (.t 20) (.k (.i .i64 1))), o 6 (.mv (.t 21))]))))
def impl_KidsOf.c1 : C := .loop 1 [0, 1, 5, 6] impl_KidsOf.d1
def impl_KidsOf.B : C := (.seq (.kp [0, 1] (.ops [o 4 (.mv (.k (.nl 1)))])) (.seq (.kp [0, 1, 5] (.ops [o 7 (.lit 1 0 [.i .i64 0] []), o 5 (.mv (.t 7))])) (.seq (.seq (.kp [0, 1, 5, 11] (.ops [o 8 (.mv (.t 0)), o 9 (.mv (.t 1)), o 10 (.call 134 [false, false] [.t 8, .t 9]), o 11 (.un .not (.t 10))])) (.cond (.t 11) (.seq (.kp [4] (.ops [o 12 (.mv (.t 5)), o 4 (.mv (.t 12))])) C.ret) C.skip)) (.seq (.seq (.kp [0, 1, 5, 6] (.ops [o 13 (.mv (.t 1)), o 14 (.bin .add 0 (.t 13) (.k (.i .i64 1))), o 6 (.mv (.t 14))])) (.blk 0 impl_KidsOf.c1)) impl_KidsOf.c0))))
def impl_KidsOf.F : V.Fn := ⟨1, impl_KidsOf.B, [.t 4]⟩
def impl_NodeAt.c0 : C := (.seq (.kp [4] (.ops [o 32 (.mv (.t 5)), o 4 (.mv (.t 32))])) C.ret)
def impl_NodeAt.d1 : C := (.seq (.kp [0, 5, 12, 13, 14, 15] (.ops [o 15 (.bin .lss 0 (.t 14) (.t 13))])) (.seq (.cond (.t 15) C.skip (.exit 0)) (.seq (.blk 1 (.seq (.kp [0, 5, 7, 12, 13, 14] (.ops [o 16 (.iaddr 1 (.t 12) (.t 14)), o 17 (.load none (.t 16)), o 7 (.mv (.t 17))])) (.seq (.kp [0, 7, 8, 12, 13, 14] (.ops [o 18 (.mv (.t 0)), o 19 (.mv (.t 5)), o 20 (.call 126 [false, false] [.t 18, .t 19]), o 8 (.mv (.t 20))])) (.seq (.seq (.kp [0, 7, 8, 12, 13, 14, 26] (.ops [o 21 (.mv (.t 7)), o 22 (.mv (.t 8)), o 23 (.len false (.t 22)), o 24 (.bin .sub 0 (.t 23) (.k (.i .i64 1))), o 25 (.call 37 [false, false, false] [.t 21, .k (.i .i64 0), .t 24]), o 26 (.un .not (.t 25))])) (.cond (.t 26) (.seq (.kp [4] (.ops [o 4 (.mv (.k (.i .i64 (-1))))])) C.ret) C.skip)) (.kp [0, 5, 12, 13, 14] (.ops [o 27 (.mv (.t 8)), o 28 (.mv (.t 7)), o 29 (.iaddr 1 (.t 27) (.t 28)), o 30 (.load none (.t 29)), o 5 (.mv (.t 30))])))))) (.kp [0, 5, 12, 13, 14] (.ops [o 31 (.bin .add 0 (.t 14) (.k (.i .i64 1))), o 14 (.mv (.t 31))])))))
def impl_NodeAt.c1 : C := .loop 2 [0, 5, 12, 13, 14] impl_NodeAt.d1
def impl_NodeAt.B : C := (.seq (.kp [0, 1] (.ops [o 4 (.mv (.k (.i .i64 0)))])) (.seq (.seq (.kp [0, 1, 11] (.ops [o 9 (.mv (.t 0)), o 10 (.call 99 [false] [.t 9]), o 11 (.un .not (.t 10))])) (.cond (.t 11) (.seq (.kp [4] (.ops [o 4 (.mv (.k (.i .i64 (-1))))])) C.ret) C.skip)) (.seq (.kp [0, 1, 5] (.ops [o 5 (.mv (.k (.i .i64 0)))])) (.seq (.seq (.kp [0, 5, 12, 13, 14] (.ops [o 12 (.mv (.t 1)), o 13 (.len false (.t 12)), o 14 (.mv (.k (.i .i64 0)))])) (.blk 0 impl_NodeAt.c1)) impl_NodeAt.c0))))
def impl_NodeAt.F : V.Fn := ⟨2, impl_NodeAt.B, [.t 4]⟩
def impl_opCode.c0 : C := (.seq (.blk 3 (.seq (.kp [7, 8, 11, 104] (.ops [o 105 (.mv (.t 0)), o 106 (.len false (.t 105)), o 107 (.bin .eql 0 (.t 106) (.k (.i .i64 24))), o 104 (.mv (.t 107))])) (.cond (.t 104) (.seq (.kp [6, 7, 8] (.ops [o 6 (.mv (.k (.i .i64 6))), o 7 (.mv (.k (.i .i64 0))), o 8 (.mv (.k (.i .i64 0)))])) C.ret) (.seq (.kp [7, 8, 108] (.ops [o 109 (.mv (.t 11)), o 110 (.bin .gtr 0 (.t 109) (.k (.i .i64 12))), o 108 (.mv (.t 110))])) (.cond (.t 108) (.seq (.kp [6, 7, 8] (.ops [o 6 (.mv (.k (.i .i64 7))), o 7 (.mv (.k (.i .i64 0))), o 8 (.mv (.k (.i .i64 0)))])) C.ret) C.skip))))) (.seq (.kp [6, 7, 8] (.ops [o 111 (.mv (.t 7)), o 112 (.mv (.t 8)), o 6 (.mv (.k (.i .i64 0))), o 7 (.mv (.t 111)), o 8 (.mv (.t 112))])) C.ret))
def impl_opCode.d1 : C := (.seq (.kp [0, 7, 8, 11, 92, 93, 94, 95] (.ops [o 95 (.bin .lss 0 (.t 94) (.t 93))])) (.seq (.cond (.t 95) C.skip (.exit 1)) (.seq (.blk 2 (.seq (.kp [0, 7, 8, 11, 13, 92, 93, 94] (.ops [o 96 (.iaddr 2 (.t 92) (.t 94)), o 97 (.load (some 2) (.t 96)), o 13 (.alloc [.i .i64 0, .i .i64 0]), oz none none [] (.store 2 (.t 13) (.t 97))])) (.kp [0, 7, 8, 11, 92, 93, 94] (.ops [o 98 (.mv (.t 11)), o 99 (.faddr 1 (.t 13)), o 100 (.load none (.t 99)), o 101 (.bin .add 0 (.t 100) (.k (.i .i64 1))), o 102 (.mm true [.t 98, .t 101]), o 11 (.mv (.t 102))])))) (.kp [0, 7, 8, 11, 92, 93, 94] (.ops [o 103 (.bin .add 0 (.t 94) (.k (.i .i64 1))), o 94 (.mv (.t 103))])))))
def impl_opCode.c1 : C := .loop 2 [0, 7, 8, 11, 92, 93, 94] impl_opCode.d1
def impl_opCode.B : C := (.seq (.kp [0, 2, 4] (.ops [o 4 (.boxK (.t 1)), o 6 (.mv (.k (.i .i64 0))), o 7 (.mv (.k (.i .i64 0))), o 8 (.mv (.k (.i .i64 0)))])) (.seq (.blk 0 (.seq (.kp [0, 2, 4, 14] (.ops [o 15 (.faddr 0 (.t 4)), o 16 (.load none (.t 15)), o 17 (.call 37 [false, false, false] [.t 16, .k (.i .i64 1), .k (.i .i64 3)]), o 18 (.un .not (.t 17)), o 14 (.mv (.t 18))])) (.cond (.t 14) (.seq (.kp [6, 7, 8] (.ops [o 6 (.mv (.k (.i .i64 1))), o 7 (.mv (.k (.i .i64 0))), o 8 (.mv (.k (.i .i64 0)))])) C.ret) (.seq (.kp [0, 2, 4, 19] (.ops [o 20 (.mv (.t 2)), o 21 (.bin .lss 0 (.t 20) (.k (.i .i64 0))), o 19 (.mv (.t 21))])) (.cond (.t 19) (.seq (.kp [6, 7, 8] (.ops [o 6 (.mv (.k (.i .i64 2))), o 7 (.mv (.k (.i .i64 0))), o 8 (.mv (.k (.i .i64 0)))])) C.ret) (.seq (.kp [0, 2, 4, 22] (.ops [o 23 (.faddr 0 (.t 4)), o 24 (.load none (.t 23)), o 25 (.bin .neq 0 (.t 24) (.k (.i .i64 2))), o 26 (.mv (.t 25)), og 27 26 true (.faddr 2 (.t 4)), og 28 26 true (.load none (.t 27)), og 29 26 true (.call 107 [false] [.t 28]), og 30 26 true (.un .not (.t 29)), o 31 (.pick (.t 26) (.t 30) (.k (.b false))), o 22 (.mv (.t 31))])) (.cond (.t 22) (.seq (.kp [6, 7, 8] (.ops [o 6 (.mv (.k (.i .i64 3))), o 7 (.mv (.k (.i .i64 0))), o 8 (.mv (.k (.i .i64 0)))])) C.ret) (.seq (.kp [0, 2, 4, 32] (.ops [o 33 (.faddr 0 (.t 4)), o 34 (.load none (.t 33)), o 35 (.bin .eql 0 (.t 34) (.k (.i .i64 2))), o 36 (.mv (.t 35)), og 37 36 true (.mv (.t 2)), og 38 36 true (.bin .eql 0 (.t 37) (.k (.i .i64 0))), o 39 (.pick (.t 36) (.t 38) (.k (.b false))), o 32 (.mv (.t 39))])) (.cond (.t 32) (.seq (.kp [6, 7, 8] (.ops [o 6 (.mv (.k (.i .i64 4))), o 7 (.mv (.k (.i .i64 0))), o 8 (.mv (.k (.i .i64 0)))])) C.ret) (.seq (.kp [0, 2, 4, 40] (.ops [o 41 (.faddr 0 (.t 4)), o 42 (.load none (.t 41)), o 43 (.bin .neq 0 (.t 42) (.k (.i .i64 3))), o 40 (.mv (.t 43))])) (.cond (.t 40) (.seq (.kp [6, 7, 8] (.ops [o 6 (.mv (.k (.i .i64 0))), o 7 (.mv (.k (.i .i64 0))), o 8 (.mv (.k (.i .i64 0)))])) C.ret) C.skip))))))))))) (.seq (.kp [0, 2, 4, 9] (.ops [o 44 (.mv (.t 0)), o 45 (.mv (.t 2)), o 46 (.call 126 [false, false] [.t 44, .t 45]), o 9 (.mv (.t 46))])) (.seq (.seq (.kp [0, 2, 4, 9, 63] (.ops [o 47 (.faddr 3 (.t 4)), o 48 (.load none (.t 47)), o 49 (.mv (.t 9)), o 50 (.len false (.t 49)), o 51 (.call 37 [false, false, false] [.t 48, .k (.i .i64 0), .t 50]), o 52 (.un .not (.t 51)), o 53 (.mv (.t 52)), og 54 53 false (.faddr 4 (.t 4)), og 55 53 false (.load none (.t 54)), og 56 53 false (.mv (.t 9)), og 57 53 false (.len false (.t 56)), og 58 53 false (.faddr 3 (.t 4)), og 59 53 false (.load none (.t 58)), og 60 53 false (.bin .sub 0 (.t 57) (.t 59)), og 61 53 false (.call 37 [false, false, false] [.t 55, .k (.i .i64 0), .t 60]), og 62 53 false (.un .not (.t 61)), o 63 (.pick (.t 53) (.k (.b true)) (.t 62))])) (.cond (.t 63) (.seq (.kp [6, 7, 8] (.ops [o 6 (.mv (.k (.i .i64 5))), o 7 (.mv (.k (.i .i64 0))), o 8 (.mv (.k (.i .i64 0)))])) C.ret) C.skip)) (.seq (.kp [0, 2, 4, 10] (.ops [o 64 (.mv (.t 9)), o 65 (.mv (.t 0)), o 66 (.mv (.t 2)), o 67 (.call 123 [false, false] [.t 65, .t 66]), o 68 (.lit 1 1 [.i .i64 0] [(0, .t 67)]), o 69 (.app 1 8 (.t 64) (.t 68)), o 10 (.mv (.t 69))])) (.seq (.kp [0, 2, 7, 8] (.draw (sq 15) [o 70 (.mv (.t 10)), o 71 (.faddr 3 (.t 4)), o 72 (.load none (.t 71)), o 73 (.iaddr 1 (.t 70) (.t 72)), o 74 (.load none (.t 73)), o 75 (.mv (.t 10)), o 76 (.faddr 3 (.t 4)), o 77 (.load none (.t 76)), o 78 (.faddr 4 (.t 4)), o 79 (.load none (.t 78)), o 80 (.bin .add 0 (.t 77) (.t 79)), o 81 (.iaddr 1 (.t 75) (.t 80)), o 82 (.load none (.t 81)), o 7 (.mv (.t 74)), o 8 (.mv (.t 82))])) (.seq (.kp [0, 7, 8, 11] (.ops [o 83 (.mv (.t 0)), o 84 (.mv (.t 2)), o 85 (.iaddr 2 (.t 83) (.t 84)), o 86 (.faddr 1 (.t 85)), o 87 (.load none (.t 86)), o 88 (.bin .add 0 (.t 87) (.k (.i .i64 1))), o 11 (.mv (.t 88))])) (.seq (.seq (.kp [0, 7, 8, 11, 92, 93, 94] (.ops [o 89 (.mv (.t 0)), o 90 (.mv (.t 7)), o 91 (.mv (.t 8)), o 92 (.slR 2 (.t 89) (some (.t 90)) (some (.t 91))), o 93 (.len false (.t 92)), o 94 (.mv (.k (.i .i64 0)))])) (.blk 1 impl_opCode.c1)) impl_opCode.c0))))))))
def impl_opCode.F : V.Fn := ⟨2, impl_opCode.B, [.t 6, .t 7, .t 8]⟩
def slices_Delete_impl_Node_impl_Node.B : C := delB 2 16 [.i .i64 0, .i .i64 0]
def slices_Delete_impl_Node_impl_Node.F : V.Fn := delF 2 16 [.i .i64 0, .i .i64 0]
def slices_Insert_impl_Node_impl_Node.B : C := insB 2 16 [.i .i64 0, .i .i64 0] 133
def slices_Insert_impl_Node_impl_Node.F : V.Fn := insF 2 16 [.i .i64 0, .i .i64 0] 133
def impl_ApplyOp.c0 : C := (.seq (.kp [4, 5] (.ops [o 96 (.mv (.t 6)), o 4 (.mv (.t 96)), o 5 (.mv (.k (.i .i64 0)))])) C.ret)
def impl_ApplyOp.c1 : C := (.kp [6] (.ops [o 91 (.mv (.t 6)), o 92 (.mv (.t 7)), o 93 (.mv (.t 7)), o 94 (.bin .add 0 (.t 93) (.k (.i .i64 1))), o 95 (.call 124 [true, false, false] [.t 91, .t 92, .t 94]), o 6 (.mv (.t 95))]))
def impl_ApplyOp.d2 : C := (.seq (.seq (.kp [0, 6, 7, 11, 80] (.ops [o 76 (.mv (.t 11)), o 77 (.mv (.t 0)), o 78 (.mv (.t 7)), o 79 (.call 123 [false, false] [.t 77, .t 78]), o 80 (.bin .lss 0 (.t 76) (.t 79))])) (.cond (.t 80) C.skip (.exit 3))) (.seq (.blk 4 (.kp [0, 6, 7, 11] (.ops [o 83 (.mv (.t 6)), o 84 (.mv (.t 11)), o 85 (.iaddr 2 (.t 83) (.t 84)), o 86 (.faddr 1 (.t 85)), o 87 (.load none (.t 86)), o 88 (.bin .sub 0 (.t 87) (.k (.i .i64 1))), o 89 (.iaddr 2 (.t 83) (.t 84)), o 90 (.faddr 1 (.t 89)), oz none none [] (.store 1 (.t 90) (.t 88))]))) (.kp [0, 6, 7, 11] (.ops [o 81 (.mv (.t 11)), o 82 (.bin .add 0 (.t 81) (.k (.i .i64 1))), o 11 (.mv (.t 82))]))))
def impl_ApplyOp.c2 : C := .loop 2 [0, 6, 7, 11] impl_ApplyOp.d2
def impl_ApplyOp.c3 : C := (.kp [6] (.draw (sq 14) [o 51 (.mv (.t 6)), o 52 (.mv (.t 9)), o 53 (.faddr 2 (.t 3)), o 54 (.load none (.t 53)), o 55 (.mv (.t 0)), o 56 (.mv (.t 7)), o 57 (.iaddr 2 (.t 55) (.t 56)), o 58 (.faddr 1 (.t 57)), o 59 (.load none (.t 58)), o 60 (.bin .add 0 (.t 59) (.k (.i .i64 1))), o 61 (.build [.i .i64 0, .i .i64 0] [(0, 1, .t 54), (1, 1, .t 60)]), o 62 (.lit 2 1 [.i .i64 0, .i .i64 0] [(0, .t 61)]), o 63 (.call 125 [true, false, true] [.t 51, .t 52, .t 62]), o 6 (.mv (.t 63))]))
def impl_ApplyOp.d4 : C := (.seq (.seq (.kp [0, 3, 6, 7, 9, 10, 12, 40] (.ops [o 38 (.mv (.t 12)), o 39 (.mv (.t 10)), o 40 (.bin .lss 0 (.t 38) (.t 39))])) (.cond (.t 40) C.skip (.exit 1))) (.seq (.blk 2 (.kp [0, 3, 6, 7, 9, 10, 12] (.ops [o 43 (.mv (.t 6)), o 44 (.mv (.t 12)), o 45 (.iaddr 2 (.t 43) (.t 44)), o 46 (.faddr 1 (.t 45)), o 47 (.load none (.t 46)), o 48 (.bin .add 0 (.t 47) (.k (.i .i64 1))), o 49 (.iaddr 2 (.t 43) (.t 44)), o 50 (.faddr 1 (.t 49)), oz none none [] (.store 1 (.t 50) (.t 48))]))) (.kp [0, 3, 6, 7, 9, 10, 12] (.ops [o 41 (.mv (.t 12)), o 42 (.bin .add 0 (.t 41) (.k (.i .i64 1))), o 12 (.mv (.t 42))]))))
def impl_ApplyOp.c4 : C := .loop 2 [0, 3, 6, 7, 9, 10, 12] impl_ApplyOp.d4
def impl_ApplyOp.B : C := (.seq (.kp [0, 3] (.ops [o 3 (.boxK (.t 1)), o 4 (.mv (.k (.nl 2))), o 5 (.mv (.k (.i .i64 0)))])) (.seq (.seq (.kp [0, 3, 15] (.ops [o 13 (.mv (.t 0)), o 14 (.call 99 [false] [.t 13]), o 15 (.un .not (.t 14))])) (.cond (.t 15) (.seq (.kp [4, 5] (.ops [o 16 (.lit 2 0 [.i .i64 0, .i .i64 0] []), o 4 (.mv (.t 16)), o 5 (.mv (.k (.i .i64 2)))])) C.ret) C.skip)) (.seq (.kp [0, 3, 6, 7] (.draw (tk [0, 2, 3] (.alt (tk [1, 4, 5, 6, 7] .done) (tk [4, 1, 5, 6, 7] .done))) [o 17 (.mv (.t 0)), o 18 (.call 90 [false] [.t 17]), o 19 (.mv (.t 0)), o 20 (.faddr 1 (.t 3)), o 21 (.load none (.t 20)), o 22 (.call 121 [false, false] [.t 19, .t 21]), o 6 (.mv (.t 18)), o 7 (.mv (.t 22))])) (.seq (.kp [0, 3, 6, 7, 8, 9, 10] (.ops [o 24 (.mv (.t 0)), o 25 (.load (some 5) (.t 3)), o 26 (.mv (.t 7)), o 27 (.call 122 [false, false, false] [.t 24, .t 25, .t 26]), o 23 (.mv (.t 27)), o 28 (.ext 0 (.t 23)), o 29 (.ext 1 (.t 23)), o 30 (.ext 2 (.t 23)), o 8 (.mv (.t 28)), o 9 (.mv (.t 29)), o 10 (.mv (.t 30))])) (.seq (.seq (.kp [0, 3, 6, 7, 8, 9, 10, 32] (.ops [o 31 (.mv (.t 8)), o 32 (.bin .neq 0 (.t 31) (.k (.i .i64 0)))])) (.cond (.t 32) (.seq (.kp [4, 5] (.ops [o 33 (.mv (.t 6)), o 34 (.mv (.t 8)), o 4 (.mv (.t 33)), o 5 (.mv (.t 34))])) C.ret) C.skip)) (.seq (.seq (.kp [0, 3, 6, 7, 9, 10, 36] (.ops [o 35 (.faddr 0 (.t 3)), o 36 (.load none (.t 35))])) (.blk 0 (.seq (.kp [0, 3, 6, 7, 9, 10, 36, 64] (.ops [o 65 (.bin .eql 0 (.t 36) (.k (.i .i64 1))), o 64 (.mv (.t 65))])) (.cond (.t 64) (.kp [6] (.ops [o 66 (.mv (.t 6)), o 67 (.mv (.t 7)), o 68 (.faddr 2 (.t 3)), o 69 (.load none (.t 68)), o 70 (.iaddr 2 (.t 66) (.t 67)), o 71 (.faddr 0 (.t 70)), oz none none [] (.store 1 (.t 71) (.t 69))])) (.seq (.kp [0, 3, 6, 7, 9, 10, 72] (.ops [o 73 (.bin .eql 0 (.t 36) (.k (.i .i64 2))), o 72 (.mv (.t 73))])) (.cond (.t 72) (.seq (.seq (.kp [0, 6, 7, 11] (.ops [o 74 (.mv (.t 7)), o 75 (.bin .add 0 (.t 74) (.k (.i .i64 1))), o 11 (.mv (.t 75))])) (.blk 3 impl_ApplyOp.c2)) impl_ApplyOp.c1) (.seq (.seq (.kp [0, 3, 6, 7, 9, 10, 12] (.ops [o 37 (.mv (.t 9)), o 12 (.mv (.t 37))])) (.blk 1 impl_ApplyOp.c4)) impl_ApplyOp.c3))))))) impl_ApplyOp.c0))))))
def impl_ApplyOp.F : V.Fn := ⟨2, impl_ApplyOp.B, [.t 4, .t 5]⟩
def impl_ApplyAll.c0 : C := (.seq (.kp [4, 5, 6] (.ops [o 38 (.mv (.t 7)), o 39 (.mv (.t 1)), o 40 (.len false (.t 39)), o 4 (.mv (.t 38)), o 5 (.mv (.t 40)), o 6 (.mv (.k (.i .i64 0)))])) C.ret)
def impl_ApplyAll.d1 : C := (.seq (.kp [1, 7, 18, 19, 20, 21] (.ops [o 21 (.bin .lss 0 (.t 20) (.t 19))])) (.seq (.cond (.t 21) C.skip (.exit 0)) (.seq (.blk 1 (.seq (.kp [1, 7, 8, 9, 18, 19, 20] (.ops [o 22 (.mv (.t 20)), o 23 (.iaddr 5 (.t 18) (.t 20)), o 24 (.load (some 5) (.t 23)), o 9 (.alloc [.i .i64 0, .deep false false 1 [], .i .i64 0, .i .i64 0, .i .i64 0]), o 8 (.mv (.t 22)), oz none none [24] (.store 5 (.t 9) (.t 24))])) (.seq (.kp [1, 7, 8, 10, 11, 18, 19, 20] (.ops [o 26 (.mv (.t 7)), o 27 (.load (some 5) (.t 9)), o 28 (.call 100 [false, false] [.t 26, .t 27]), o 25 (.mv (.t 28)), o 29 (.ext 0 (.t 25)), o 30 (.ext 1 (.t 25)), o 10 (.mv (.t 29)), o 11 (.mv (.t 30))])) (.seq (.seq (.kp [1, 7, 8, 10, 11, 18, 19, 20, 32] (.ops [o 31 (.mv (.t 11)), o 32 (.bin .neq 0 (.t 31) (.k (.i .i64 0)))])) (.cond (.t 32) (.seq (.kp [4, 5, 6] (.ops [o 33 (.mv (.t 7)), o 34 (.mv (.t 8)), o 35 (.mv (.t 11)), o 4 (.mv (.t 33)), o 5 (.mv (.t 34)), o 6 (.mv (.t 35))])) C.ret) C.skip)) (.kp [1, 7, 18, 19, 20] (.ops [o 36 (.mv (.t 10)), o 7 (.mv (.t 36))])))))) (.kp [1, 7, 18, 19, 20] (.ops [o 37 (.bin .add 0 (.t 20) (.k (.i .i64 1))), o 20 (.mv (.t 37))])))))
def impl_ApplyAll.c1 : C := .loop 2 [1, 7, 18, 19, 20] impl_ApplyAll.d1
def impl_ApplyAll.B : C := (.seq (.kp [0, 1] (.ops [o 4 (.mv (.k (.nl 2))), o 5 (.mv (.k (.i .i64 0))), o 6 (.mv (.k (.i .i64 0)))])) (.seq (.seq (.kp [0, 1, 14] (.ops [o 12 (.mv (.t 0)), o 13 (.call 99 [false] [.t 12]), o 14 (.un .not (.t 13))])) (.cond (.t 14) (.seq (.kp [4, 5, 6] (.ops [o 15 (.lit 2 0 [.i .i64 0, .i .i64 0] []), o 4 (.mv (.t 15)), o 5 (.mv (.k (.i .i64 0))), o 6 (.mv (.k (.i .i64 2)))])) C.ret) C.skip)) (.seq (.kp [1, 7] (.ops [o 16 (.mv (.t 0)), o 17 (.call 90 [false] [.t 16]), o 7 (.mv (.t 17))])) (.seq (.seq (.kp [1, 7, 18, 19, 20] (.ops [o 18 (.mv (.t 1)), o 19 (.len false (.t 18)), o 20 (.mv (.k (.i .i64 0)))])) (.blk 0 impl_ApplyAll.c1)) impl_ApplyAll.c0))))
def impl_ApplyAll.F : V.Fn := ⟨2, impl_ApplyAll.B, [.t 4, .t 5, .t 6]⟩
def impl_Var.c0 : C := (.seq (.kp [2] (.ops [o 19 (.mv (.t 3)), o 20 (.mv (.t 0)), o 21 (.conv .u8 (.t 20)), o 22 (.lit 1 1 [.i .u8 0] [(0, .t 21)]), o 23 (.app 1 1 (.t 19) (.t 22)), o 24 (.bts (.t 23)), o 2 (.mv (.t 24))])) C.ret)
def impl_Var.d1 : C := (.seq (.seq (.kp [0, 3, 9] (.ops [o 8 (.mv (.t 0)), o 9 (.bin .gtr 0 (.t 8) (.k (.i .i64 127)))])) (.cond (.t 9) C.skip (.exit 0))) (.blk 1 (.seq (.kp [0, 3] (.ops [o 10 (.mv (.t 3)), o 11 (.mv (.t 0)), o 12 (.bin .and 0 (.t 11) (.k (.i .i64 127))), o 13 (.conv .u8 (.t 12)), o 14 (.bin .or 0 (.t 13) (.k (.i .u8 128))), o 15 (.lit 1 1 [.i .u8 0] [(0, .t 14)]), o 16 (.app 1 1 (.t 10) (.t 15)), o 3 (.mv (.t 16))])) (.kp [0, 3] (.ops [o 17 (.mv (.t 0)), o 18 (.bin .shr 0 (.t 17) (.k (.i .u64 7))), o 0 (.mv (.t 18))])))))
def impl_Var.c1 : C := .loop 0 [0, 3] impl_Var.d1
def impl_Var.B : C := (.seq (.kp [0] (.ops [o 2 (.mv (.k (.s ⟨#[]⟩)))])) (.seq (.seq (.kp [0, 6] (.ops [o 4 (.mv (.t 0)), o 5 (.call 37 [false, false, false] [.t 4, .k (.i .i64 0), .k (.i .i64 562949953421311)]), o 6 (.un .not (.t 5))])) (.cond (.t 6) (.seq (.kp [2] (.ops [o 2 (.mv (.k (.s ⟨#[]⟩)))])) C.ret) C.skip)) (.seq (.kp [0, 3] (.ops [o 7 (.lit 1 0 [.i .u8 0] []), o 3 (.mv (.t 7))])) (.seq (.blk 0 impl_Var.c1) impl_Var.c0))))
def impl_Var.F : V.Fn := ⟨0, impl_Var.B, [.t 2]⟩
def impl_PutTree.c0 : C := (.seq (.kp [2] (.ops [o 28 (.mv (.t 3)), o 2 (.mv (.t 28))])) C.ret)
def impl_PutTree.d1 : C := (.seq (.kp [3, 12, 13, 14, 15] (.ops [o 15 (.bin .lss 0 (.t 14) (.t 13))])) (.seq (.cond (.t 15) C.skip (.exit 0)) (.seq (.blk 1 (.seq (.kp [3, 5, 12, 13, 14] (.ops [o 16 (.iaddr 2 (.t 12) (.t 14)), o 17 (.load (some 2) (.t 16)), o 5 (.alloc [.i .i64 0, .i .i64 0]), oz none none [] (.store 2 (.t 5) (.t 17))])) (.kp [3, 12, 13, 14] (.draw (tk [0, 1, 2, 4] (.alt (tk [3, 5, 6, 7, 8, 9] .done) (tk [5, 3, 6, 7, 8, 9] .done))) [o 18 (.mv (.t 3)), o 19 (.faddr 0 (.t 5)), o 20 (.load none (.t 19)), o 21 (.call 110 [false] [.t 20]), o 22 (.faddr 1 (.t 5)), o 23 (.load none (.t 22)), o 24 (.call 110 [false] [.t 23]), o 25 (.bin .add 0 (.t 21) (.t 24)), o 26 (.bin .add 0 (.t 18) (.t 25)), o 3 (.mv (.t 26))])))) (.kp [3, 12, 13, 14] (.ops [o 27 (.bin .add 0 (.t 14) (.k (.i .i64 1))), o 14 (.mv (.t 27))])))))
def impl_PutTree.c1 : C := .loop 1 [3, 12, 13, 14] impl_PutTree.d1
def impl_PutTree.B : C := (.seq (.kp [0] (.ops [o 2 (.mv (.k (.s ⟨#[]⟩)))])) (.seq (.seq (.kp [0, 8] (.ops [o 6 (.mv (.t 0)), o 7 (.call 99 [false] [.t 6]), o 8 (.un .not (.t 7))])) (.cond (.t 8) (.seq (.kp [2] (.ops [o 2 (.mv (.k (.s ⟨#[]⟩)))])) C.ret) C.skip)) (.seq (.kp [0, 3] (.ops [o 9 (.mv (.t 0)), o 10 (.len false (.t 9)), o 11 (.call 110 [false] [.t 10]), o 3 (.mv (.t 11))])) (.seq (.seq (.kp [3, 12, 13, 14] (.ops [o 12 (.mv (.t 0)), o 13 (.len false (.t 12)), o 14 (.mv (.k (.i .i64 0)))])) (.blk 0 impl_PutTree.c1)) impl_PutTree.c0))))
def impl_PutTree.F : V.Fn := ⟨1, impl_PutTree.B, [.t 2]⟩
def impl_Patch.B : C := (.seq (.kp [0, 1, 5] (.ops [o 4 (.mv (.k (.s ⟨#[]⟩))), o 5 (.alloc [.i .i64 0, .i .i64 0, .i .i64 0])])) (.seq (.kp [1, 5, 6, 7] (.ops [o 14 (.mv (.t 0)), o 15 (.call 38 [false] [.t 14]), o 13 (.mv (.t 15)), o 16 (.ext 0 (.t 13)), o 17 (.ext 1 (.t 13)), o 6 (.mv (.t 16)), o 7 (.mv (.t 17))])) (.seq (.kp [5, 6, 7, 8, 9] (.ops [o 19 (.mv (.t 1)), o 20 (.call 78 [false] [.t 19]), o 18 (.mv (.t 20)), o 21 (.ext 0 (.t 18)), o 22 (.ext 1 (.t 18)), o 8 (.mv (.t 21)), o 9 (.mv (.t 22))])) (.seq (.blk 0 (.seq (.kp [5, 6, 7, 8, 9, 23] (.ops [o 24 (.mv (.t 7)), o 25 (.bin .neq 0 (.t 24) (.k (.i .i64 0))), o 23 (.mv (.t 25))])) (.cond (.t 23) (.seq (.kp [4, 5] (.ops [o 26 (.mv (.t 7)), o 27 (.build [.i .i64 0, .i .i64 0, .i .i64 0] [(0, 1, .k (.i .i64 1)), (1, 1, .t 26)]), o 4 (.mv (.k (.s ⟨#[]⟩))), oz none none [] (.store 3 (.t 5) (.t 27))])) C.ret) (.seq (.kp [5, 6, 8, 9, 28] (.ops [o 29 (.mv (.t 9)), o 30 (.bin .neq 0 (.t 29) (.k (.i .i64 0))), o 28 (.mv (.t 30))])) (.cond (.t 28) (.seq (.kp [4, 5] (.ops [o 31 (.mv (.t 9)), o 32 (.build [.i .i64 0, .i .i64 0, .i .i64 0] [(0, 1, .k (.i .i64 4)), (1, 1, .t 31)]), o 4 (.mv (.k (.s ⟨#[]⟩))), oz none none [] (.store 3 (.t 5) (.t 32))])) C.ret) C.skip))))) (.seq (.kp [5, 10, 11, 12] (.ops [o 34 (.mv (.t 6)), o 35 (.mv (.t 8)), o 36 (.call 79 [false, false] [.t 34, .t 35]), o 33 (.mv (.t 36)), o 37 (.ext 0 (.t 33)), o 38 (.ext 1 (.t 33)), o 39 (.ext 2 (.t 33)), o 10 (.mv (.t 37)), o 11 (.mv (.t 38)), o 12 (.mv (.t 39))])) (.seq (.seq (.kp [5, 10, 11, 12, 41] (.ops [o 40 (.mv (.t 12)), o 41 (.bin .neq 0 (.t 40) (.k (.i .i64 0)))])) (.cond (.t 41) (.seq (.kp [4, 5] (.ops [o 42 (.mv (.t 12)), o 43 (.mv (.t 11)), o 44 (.build [.i .i64 0, .i .i64 0, .i .i64 0] [(0, 1, .k (.i .i64 5)), (1, 1, .t 42), (2, 1, .t 43)]), o 4 (.mv (.k (.s ⟨#[]⟩))), oz none none [] (.store 3 (.t 5) (.t 44))])) C.ret) C.skip)) (.seq (.kp [4, 5] (.ops [o 45 (.mv (.t 10)), o 46 (.call 80 [false] [.t 45]), o 47 (.build [.i .i64 0, .i .i64 0, .i .i64 0] []), o 4 (.mv (.t 46)), oz none none [] (.store 3 (.t 5) (.t 47))])) C.ret)))))))
def impl_Patch.F : V.Fn := ⟨0, impl_Patch.B, [.t 4, .cell 5 (some 3)]⟩
def impl_RepoGet.B : C := (.seq (.kp [1, 2] (.ops [o 2 (.boxK (.t 0)), o 4 (.mv (.k (.s ⟨#[]⟩))), o 5 (.mv (.k (.b false)))])) (.seq (.seq (.kp [1, 2, 37] (.ops [o 13 (.faddr 0 (.t 2)), o 14 (.load none (.t 13)), o 15 (.len false (.t 14)), o 16 (.bin .gtr 0 (.t 15) (.k (.i .i64 6))), o 17 (.mv (.t 16)), og 18 17 false (.mv (.t 1)), og 19 17 false (.faddr 0 (.t 2)), og 20 17 false (.load none (.t 19)), og 21 17 false (.len false (.t 20)), og 22 17 false (.bin .sub 0 (.t 21) (.k (.i .i64 1))), og 23 17 false (.call 37 [false, false, false] [.t 18, .k (.i .i64 0), .t 22]), og 24 17 false (.un .not (.t 23)), o 25 (.pick (.t 17) (.k (.b true)) (.t 24)), o 26 (.mv (.t 25)), og 27 26 false (.faddr 0 (.t 2)), og 28 26 false (.load none (.t 27)), og 29 26 false (.mv (.t 1)), og 30 26 false (.iaddr 2 (.t 28) (.t 29)), og 31 26 false (.faddr 0 (.t 30)), og 32 26 false (.load none (.t 31)), og 33 26 false (.mv (.t 1)), og 34 26 false (.bin .sub 0 (.t 33) (.k (.i .i64 1))), og 35 26 false (.call 37 [false, false, false] [.t 32, .k (.i .i64 (-1)), .t 34]), og 36 26 false (.un .not (.t 35)), o 37 (.pick (.t 26) (.k (.b true)) (.t 36))])) (.cond (.t 37) (.seq (.kp [4, 5] (.ops [o 4 (.mv (.k (.s ⟨#[]⟩))), o 5 (.mv (.k (.b false)))])) C.ret) C.skip)) (.seq (.kp [2, 6] (.ops [o 38 (.faddr 0 (.t 2)), o 39 (.load none (.t 38)), o 40 (.mv (.t 1)), o 41 (.iaddr 2 (.t 39) (.t 40)), o 42 (.load (some 2) (.t 41)), o 6 (.alloc [.i .i64 0, .s ⟨#[]⟩]), oz none none [] (.store 2 (.t 6) (.t 42))])) (.seq (.seq (.kp [2, 6, 45] (.ops [o 43 (.faddr 0 (.t 6)), o 44 (.load none (.t 43)), o 45 (.bin .eql 0 (.t 44) (.k (.i .i64 (-1))))])) (.cond (.t 45) (.seq (.seq (.kp [6, 8] (.ops [o 47 (.faddr 1 (.t 6)), o 48 (.load none (.t 47)), o 49 (.call 38 [false] [.t 48]), o 46 (.mv (.t 49)), o 50 (.ext 0 (.t 46)), o 51 (.ext 1 (.t 46)), o 7 (.mv (.t 50)), o 8 (.mv (.t 51))])) (.seq (.kp [6, 53] (.ops [o 52 (.mv (.t 8)), o 53 (.bin .neq 0 (.t 52) (.k (.i .i64 0)))])) (.cond (.t 53) (.seq (.kp [4, 5] (.ops [o 4 (.mv (.k (.s ⟨#[]⟩))), o 5 (.mv (.k (.b false)))])) C.ret) C.skip))) (.seq (.kp [4, 5] (.ops [o 54 (.faddr 1 (.t 6)), o 55 (.load none (.t 54)), o 4 (.mv (.t 55)), o 5 (.mv (.k (.b true)))])) C.ret)) C.skip)) (.seq (.kp [6, 9, 10] (.ops [o 57 (.load (some 1) (.t 2)), o 58 (.faddr 0 (.t 6)), o 59 (.load none (.t 58)), o 60 (.call 11 [false, false] [.t 57, .t 59]), o 56 (.mv (.t 60)), o 61 (.ext 0 (.t 56)), o 62 (.ext 1 (.t 56)), o 9 (.mv (.t 61)), o 10 (.mv (.t 62))])) (.seq (.kp [10, 11, 12] (.ops [o 64 (.mv (.t 9)), o 65 (.faddr 1 (.t 6)), o 66 (.load none (.t 65)), o 67 (.call 39 [false, false] [.t 64, .t 66]), o 63 (.mv (.t 67)), o 68 (.ext 0 (.t 63)), o 69 (.ext 1 (.t 63)), o 12 (.alloc [.i .i64 0, .i .i64 0, .i .i64 0]), o 11 (.mv (.t 68)), oz none none [] (.store 3 (.t 12) (.t 69))])) (.seq (.seq (.kp [11, 76] (.ops [o 70 (.mv (.t 10)), o 71 (.un .not (.t 70)), o 72 (.mv (.t 71)), og 73 72 false (.load (some 3) (.t 12)), og 74 72 false (.build [.i .i64 0, .i .i64 0, .i .i64 0] []), og 75 72 false (.eqA true [0, 0, 0] (.t 73) (.t 74)), o 76 (.pick (.t 72) (.k (.b true)) (.t 75))])) (.cond (.t 76) (.seq (.kp [4, 5] (.ops [o 4 (.mv (.k (.s ⟨#[]⟩))), o 5 (.mv (.k (.b false)))])) C.ret) C.skip)) (.seq (.kp [4, 5] (.ops [o 77 (.mv (.t 11)), o 4 (.mv (.t 77)), o 5 (.mv (.k (.b true)))])) C.ret))))))))
def impl_RepoGet.F : V.Fn := ⟨1, impl_RepoGet.B, [.t 4, .t 5]⟩
def impl_RepoOk.c0 : C := (.seq (.kp [2] (.ops [o 21 (.faddr 0 (.t 1)), o 22 (.load none (.t 21)), o 23 (.len false (.t 22)), o 24 (.bin .leq 0 (.t 23) (.k (.i .i64 6))), o 2 (.mv (.t 24))])) C.ret)
def impl_RepoOk.d1 : C := (.seq (.kp [1, 8, 9, 10] (.ops [o 10 (.bin .lss 0 (.t 9) (.t 8))])) (.seq (.cond (.t 10) C.skip (.exit 0)) (.seq (.blk 1 (.seq (.kp [1, 3, 8, 9] (.ops [o 11 (.mv (.t 9)), o 3 (.mv (.t 11))])) (.seq (.kp [1, 5, 8, 9] (.ops [o 13 (.load (some 1) (.t 1)), o 14 (.mv (.t 3)), o 15 (.call 11 [false, false] [.t 13, .t 14]), o 12 (.mv (.t 15)), o 16 (.ext 0 (.t 12)), o 17 (.ext 1 (.t 12)), o 4 (.mv (.t 16)), o 5 (.mv (.t 17))])) (.seq (.kp [1, 8, 9, 19] (.ops [o 18 (.mv (.t 5)), o 19 (.un .not (.t 18))])) (.cond (.t 19) (.seq (.kp [2] (.ops [o 2 (.mv (.k (.b false)))])) C.ret) C.skip))))) (.kp [1, 8, 9] (.ops [o 20 (.bin .add 0 (.t 9) (.k (.i .i64 1))), o 9 (.mv (.t 20))])))))
def impl_RepoOk.c1 : C := .loop 1 [1, 8, 9] impl_RepoOk.d1
def impl_RepoOk.B : C := (.seq (.kp [1] (.ops [o 1 (.boxK (.t 0)), o 2 (.mv (.k (.b false)))])) (.seq (.seq (.kp [1, 8, 9] (.ops [o 6 (.faddr 0 (.t 1)), o 7 (.load none (.t 6)), o 8 (.len false (.t 7)), o 9 (.mv (.k (.i .i64 0)))])) (.blk 0 impl_RepoOk.c1)) impl_RepoOk.c0))
def impl_RepoOk.F : V.Fn := ⟨1, impl_RepoOk.B, [.t 2]⟩
def impl_Flat.B : C := (.seq (.kp [1, 2, 4] (.ops [o 2 (.boxK (.t 0)), o 4 (.alloc [.deep false false 2 []]), o 5 (.mv (.k (.b false)))])) (.seq (.kp [1, 2, 4, 6] (.ops [o 9 (.load (some 1) (.t 2)), o 10 (.call 42 [false] [.t 9]), o 6 (.alloc [.deep false false 2 []]), oz none none [] (.store 1 (.t 6) (.t 10))])) (.seq (.kp [1, 2, 4, 6, 7, 8] (.ops [o 12 (.load (some 1) (.t 2)), o 13 (.mv (.t 1)), o 14 (.call 11 [false, false] [.t 12, .t 13]), o 11 (.mv (.t 14)), o 15 (.ext 0 (.t 11)), o 16 (.ext 1 (.t 11)), o 7 (.mv (.t 15)), o 8 (.mv (.t 16))])) (.seq (.seq (.kp [1, 4, 6, 7, 23] (.ops [o 17 (.mv (.t 8)), o 18 (.un .not (.t 17)), o 19 (.mv (.t 18)), og 20 19 false (.load (some 1) (.t 2)), og 21 19 false (.call 14 [false] [.t 20]), og 22 19 false (.un .not (.t 21)), o 23 (.pick (.t 19) (.k (.b true)) (.t 22))])) (.cond (.t 23) (.seq (.kp [4, 5] (.ops [o 24 (.load (some 1) (.t 6)), oz none none [24] (.store 1 (.t 4) (.t 24)), o 5 (.mv (.k (.b false)))])) C.ret) C.skip)) (.seq (.kp [4, 6] (.ops [o 25 (.faddr 0 (.t 6)), o 26 (.load none (.t 25)), o 27 (.mv (.t 1)), o 28 (.mv (.t 7)), o 29 (.build [.i .i64 0, .s ⟨#[]⟩] [(0, 1, .k (.i .i64 (-1))), (1, 1, .t 28)]), o 30 (.iaddr 2 (.t 26) (.t 27)), oz none none [] (.store 2 (.t 30) (.t 29))])) (.seq (.kp [4, 5] (.ops [o 31 (.load (some 1) (.t 6)), oz none none [31] (.store 1 (.t 4) (.t 31)), o 5 (.mv (.k (.b true)))])) C.ret))))))
def impl_Flat.F : V.Fn := ⟨1, impl_Flat.B, [.cell 4 (some 1), .t 5]⟩
def laws_eqRev.B : C := (.seq (.kp [2, 3] (.ops [o 2 (.boxK (.t 0)), o 3 (.boxK (.t 1)), o 4 (.mv (.k (.b false)))])) (.seq (.seq (.kp [2, 3, 9] (.ops [o 5 (.faddr 0 (.t 2)), o 6 (.load none (.t 5)), o 7 (.faddr 0 (.t 3)), o 8 (.load none (.t 7)), o 9 (.bin .neq 0 (.t 6) (.t 8))])) (.cond (.t 9) (.seq (.kp [4] (.ops [o 4 (.mv (.k (.b false)))])) C.ret) C.skip)) (.seq (.seq (.kp [14] (.ops [o 10 (.faddr 1 (.t 2)), o 11 (.load none (.t 10)), o 12 (.faddr 1 (.t 3)), o 13 (.load none (.t 12)), o 14 (.bin .neq 0 (.t 11) (.t 13))])) (.cond (.t 14) (.seq (.kp [4] (.ops [o 4 (.mv (.k (.b false)))])) C.ret) C.skip)) (.seq (.kp [4] (.ops [o 4 (.mv (.k (.b true)))])) C.ret))))
def laws_eqRev.F : V.Fn := ⟨0, laws_eqRev.B, [.t 4]⟩
def laws_eqRevS.c0 : C := (.seq (.kp [4] (.ops [o 4 (.mv (.k (.b true)))])) C.ret)
def laws_eqRevS.d1 : C := (.seq (.seq (.kp [0, 1, 5, 14] (.ops [o 11 (.mv (.t 5)), o 12 (.mv (.t 0)), o 13 (.len false (.t 12)), o 14 (.bin .lss 0 (.t 11) (.t 13))])) (.cond (.t 14) C.skip (.exit 0))) (.seq (.blk 1 (.seq (.kp [0, 1, 5, 26] (.draw (sq 10) [o 17 (.mv (.t 0)), o 18 (.mv (.t 5)), o 19 (.iaddr 2 (.t 17) (.t 18)), o 20 (.load (some 2) (.t 19)), o 21 (.mv (.t 1)), o 22 (.mv (.t 5)), o 23 (.iaddr 2 (.t 21) (.t 22)), o 24 (.load (some 2) (.t 23)), o 25 (.call 81 [false, false] [.t 20, .t 24]), o 26 (.un .not (.t 25))])) (.cond (.t 26) (.seq (.kp [4] (.ops [o 4 (.mv (.k (.b false)))])) C.ret) C.skip))) (.kp [0, 1, 5] (.ops [o 15 (.mv (.t 5)), o 16 (.bin .add 0 (.t 15) (.k (.i .i64 1))), o 5 (.mv (.t 16))]))))
def laws_eqRevS.c1 : C := .loop 2 [0, 1, 5] laws_eqRevS.d1
def laws_eqRevS.B : C := (.seq (.kp [0, 1] (.ops [o 4 (.mv (.k (.b false)))])) (.seq (.seq (.kp [0, 1, 10] (.ops [o 6 (.mv (.t 0)), o 7 (.len false (.t 6)), o 8 (.mv (.t 1)), o 9 (.len false (.t 8)), o 10 (.bin .neq 0 (.t 7) (.t 9))])) (.cond (.t 10) (.seq (.kp [4] (.ops [o 4 (.mv (.k (.b false)))])) C.ret) C.skip)) (.seq (.seq (.kp [0, 1, 5] (.ops [o 5 (.mv (.k (.i .i64 0)))])) (.blk 0 laws_eqRevS.c1)) laws_eqRevS.c0)))
def laws_eqRevS.F : V.Fn := ⟨2, laws_eqRevS.B, [.t 4]⟩
def laws_eqRepo.B : C := (.seq (.kp [2, 3] (.ops [o 2 (.boxK (.t 0)), o 3 (.boxK (.t 1)), o 4 (.mv (.k (.b false)))])) (.seq (.seq (.kp [10] (.ops [o 5 (.faddr 0 (.t 2)), o 6 (.load none (.t 5)), o 7 (.faddr 0 (.t 3)), o 8 (.load none (.t 7)), o 9 (.call 40 [false, false] [.t 6, .t 8]), o 10 (.un .not (.t 9))])) (.cond (.t 10) (.seq (.kp [4] (.ops [o 4 (.mv (.k (.b false)))])) C.ret) C.skip)) (.seq (.kp [4] (.ops [o 4 (.mv (.k (.b true)))])) C.ret)))
def laws_eqRepo.F : V.Fn := ⟨2, laws_eqRepo.B, [.t 4]⟩
def laws_markText.c0 : C := (.seq (.kp [2] (.ops [o 18 (.mv (.t 3)), o 19 (.bin .add 0 (.k (.s ⟨#[109]⟩)) (.t 18)), o 2 (.mv (.t 19))])) C.ret)
def laws_markText.d1 : C := (.seq (.seq (.kp [0, 3, 7] (.ops [o 6 (.mv (.t 0)), o 7 (.bin .gtr 0 (.t 6) (.k (.i .i64 0)))])) (.cond (.t 7) C.skip (.exit 0))) (.blk 1 (.seq (.kp [0, 3] (.ops [o 8 (.mv (.t 0)), o 9 (.bin .rem 0 (.t 8) (.k (.i .i64 10))), o 10 (.bin .add 0 (.k (.i .i64 48)) (.t 9)), o 11 (.conv .u8 (.t 10)), o 12 (.lit 1 1 [.i .u8 0] [(0, .t 11)]), o 13 (.bts (.t 12)), o 14 (.mv (.t 3)), o 15 (.bin .add 0 (.t 13) (.t 14)), o 3 (.mv (.t 15))])) (.kp [0, 3] (.ops [o 16 (.mv (.t 0)), o 17 (.bin .quo 0 (.t 16) (.k (.i .i64 10))), o 0 (.mv (.t 17))])))))
def laws_markText.c1 : C := .loop 0 [0, 3] laws_markText.d1
def laws_markText.B : C := (.seq (.kp [0] (.ops [o 2 (.mv (.k (.s ⟨#[]⟩)))])) (.seq (.seq (.kp [0, 5] (.ops [o 4 (.mv (.t 0)), o 5 (.bin .leq 0 (.t 4) (.k (.i .i64 0)))])) (.cond (.t 5) (.seq (.kp [2] (.ops [o 2 (.mv (.k (.s ⟨#[109, 48]⟩)))])) C.ret) C.skip)) (.seq (.kp [0, 3] (.ops [o 3 (.mv (.k (.s ⟨#[]⟩)))])) (.seq (.blk 0 laws_markText.c1) laws_markText.c0))))
def laws_markText.F : V.Fn := ⟨0, laws_markText.B, [.t 2]⟩
def laws_markRevS.c0 : C := (.seq (.kp [4] (.ops [o 27 (.mv (.t 1)), o 4 (.mv (.t 27))])) C.ret)
def laws_markRevS.d1 : C := (.seq (.seq (.kp [0, 1, 5, 9] (.ops [o 6 (.mv (.t 5)), o 7 (.mv (.t 0)), o 8 (.len false (.t 7)), o 9 (.bin .lss 0 (.t 6) (.t 8))])) (.cond (.t 9) C.skip (.exit 0))) (.seq (.blk 1 (.seq (.kp [0, 1, 5] (.ops [o 12 (.mv (.t 0)), o 13 (.mv (.t 5)), o 14 (.mv (.t 1)), o 15 (.iaddr 2 (.t 12) (.t 13)), o 16 (.faddr 0 (.t 15)), oz none none [] (.store 1 (.t 16) (.t 14))])) (.seq (.kp [0, 1, 5] (.ops [o 17 (.mv (.t 1)), o 18 (.bin .add 0 (.t 17) (.k (.i .i64 1))), o 1 (.mv (.t 18))])) (.seq (.kp [0, 1, 5] (.ops [o 19 (.mv (.t 0)), o 20 (.mv (.t 5)), o 21 (.mv (.t 1)), o 22 (.call 83 [false] [.t 21]), o 23 (.iaddr 2 (.t 19) (.t 20)), o 24 (.faddr 1 (.t 23)), oz none none [] (.store 1 (.t 24) (.t 22))])) (.kp [0, 1, 5] (.ops [o 25 (.mv (.t 1)), o 26 (.bin .add 0 (.t 25) (.k (.i .i64 1))), o 1 (.mv (.t 26))])))))) (.kp [0, 1, 5] (.ops [o 10 (.mv (.t 5)), o 11 (.bin .add 0 (.t 10) (.k (.i .i64 1))), o 5 (.mv (.t 11))]))))
def laws_markRevS.c1 : C := .loop 1 [0, 1, 5] laws_markRevS.d1
def laws_markRevS.B : C := (.seq (.kp [0, 1] (.ops [o 4 (.mv (.k (.i .i64 0)))])) (.seq (.seq (.kp [0, 1, 5] (.ops [o 5 (.mv (.k (.i .i64 0)))])) (.blk 0 laws_markRevS.c1)) laws_markRevS.c0))
def laws_markRevS.F : V.Fn := ⟨1, laws_markRevS.B, [.t 4]⟩
def laws_markRepo.B : C := (.seq (.kp [1, 2] (.ops [o 2 (.boxK (.t 0)), o 4 (.mv (.k (.i .i64 0)))])) (.seq (.kp [1] (.ops [o 5 (.faddr 0 (.t 2)), o 6 (.load none (.t 5)), o 7 (.mv (.t 1)), oz (some 8) none [6] (.call 43 [true, false] [.t 6, .t 7]), o 1 (.mv (.t 8))])) (.seq (.kp [4] (.ops [o 9 (.mv (.t 1)), o 4 (.mv (.t 9))])) C.ret)))
def laws_markRepo.F : V.Fn := ⟨1, laws_markRepo.B, [.t 4]⟩
def laws_heldRevS.c0 : C := (.seq (.kp [4] (.ops [o 31 (.mv (.t 1)), o 4 (.mv (.t 31))])) C.ret)
def laws_heldRevS.d1 : C := (.seq (.seq (.kp [0, 1, 5, 9] (.ops [o 6 (.mv (.t 5)), o 7 (.mv (.t 0)), o 8 (.len false (.t 7)), o 9 (.bin .lss 0 (.t 6) (.t 8))])) (.cond (.t 9) C.skip (.exit 0))) (.seq (.blk 1 (.seq (.seq (.kp [0, 1, 5, 18] (.ops [o 12 (.mv (.t 0)), o 13 (.mv (.t 5)), o 14 (.iaddr 2 (.t 12) (.t 13)), o 15 (.faddr 0 (.t 14)), o 16 (.load none (.t 15)), o 17 (.mv (.t 1)), o 18 (.bin .neq 0 (.t 16) (.t 17))])) (.cond (.t 18) (.seq (.kp [4] (.ops [o 4 (.mv (.k (.i .i64 (-1))))])) C.ret) C.skip)) (.seq (.kp [0, 1, 5] (.ops [o 19 (.mv (.t 1)), o 20 (.bin .add 0 (.t 19) (.k (.i .i64 1))), o 1 (.mv (.t 20))])) (.seq (.seq (.kp [0, 1, 5, 28] (.draw (tk [0, 1, 2, 3, 5] (.alt (tk [4, 6, 7] .done) (tk [6, 4, 7] .done))) [o 21 (.mv (.t 0)), o 22 (.mv (.t 5)), o 23 (.iaddr 2 (.t 21) (.t 22)), o 24 (.faddr 1 (.t 23)), o 25 (.load none (.t 24)), o 26 (.mv (.t 1)), o 27 (.call 83 [false] [.t 26]), o 28 (.bin .neq 0 (.t 25) (.t 27))])) (.cond (.t 28) (.seq (.kp [4] (.ops [o 4 (.mv (.k (.i .i64 (-1))))])) C.ret) C.skip)) (.kp [0, 1, 5] (.ops [o 29 (.mv (.t 1)), o 30 (.bin .add 0 (.t 29) (.k (.i .i64 1))), o 1 (.mv (.t 30))])))))) (.kp [0, 1, 5] (.ops [o 10 (.mv (.t 5)), o 11 (.bin .add 0 (.t 10) (.k (.i .i64 1))), o 5 (.mv (.t 11))]))))
def laws_heldRevS.c1 : C := .loop 1 [0, 1, 5] laws_heldRevS.d1
def laws_heldRevS.B : C := (.seq (.kp [0, 1] (.ops [o 4 (.mv (.k (.i .i64 0)))])) (.seq (.seq (.kp [0, 1, 5] (.ops [o 5 (.mv (.k (.i .i64 0)))])) (.blk 0 laws_heldRevS.c1)) laws_heldRevS.c0))
def laws_heldRevS.F : V.Fn := ⟨1, laws_heldRevS.B, [.t 4]⟩
def laws_heldRepo.B : C := (.seq (.kp [1, 2] (.ops [o 2 (.boxK (.t 0)), o 4 (.mv (.k (.i .i64 0)))])) (.seq (.kp [1] (.ops [o 5 (.faddr 0 (.t 2)), o 6 (.load none (.t 5)), o 7 (.mv (.t 1)), o 8 (.call 44 [false, false] [.t 6, .t 7]), o 1 (.mv (.t 8))])) (.seq (.seq (.kp [1, 10] (.ops [o 9 (.mv (.t 1)), o 10 (.bin .lss 0 (.t 9) (.k (.i .i64 0)))])) (.cond (.t 10) (.seq (.kp [4] (.ops [o 4 (.mv (.k (.i .i64 (-1))))])) C.ret) C.skip)) (.seq (.kp [4] (.ops [o 11 (.mv (.t 1)), o 4 (.mv (.t 11))])) C.ret))))
def laws_heldRepo.F : V.Fn := ⟨1, laws_heldRepo.B, [.t 4]⟩
def laws_FnExactFlat.B : C := (.seq (.kp [1, 2] (.ops [o 2 (.boxK (.t 0)), o 4 (.mv (.k (.b false)))])) (.seq (.kp [1, 2, 5] (.ops [o 5 (.mv (.k (.i .i64 1048576)))])) (.seq (.kp [1, 2, 5] (.ops [o 16 (.load (some 1) (.t 2)), o 17 (.mv (.t 5)), o 18 (.call 8 [false, false] [.t 16, .t 17]), o 5 (.mv (.t 18))])) (.seq (.seq (.kp [1, 2, 20] (.ops [o 19 (.mv (.t 5)), o 20 (.bin .lss 0 (.t 19) (.k (.i .i64 0)))])) (.cond (.t 20) (.seq (.kp [4] (.ops [o 4 (.mv (.k (.b true)))])) C.ret) C.skip)) (.seq (.kp [1, 2, 6, 7] (.ops [o 22 (.load (some 1) (.t 2)), o 23 (.call 10 [false] [.t 22]), o 24 (.mv (.t 1)), o 25 (.call 15 [false, false] [.t 23, .t 24]), o 21 (.mv (.t 25)), o 26 (.ext 0 (.t 21)), o 27 (.ext 1 (.t 21)), o 6 (.alloc [.deep false false 2 []]), oz none none [] (.store 1 (.t 6) (.t 26)), o 7 (.mv (.t 27))])) (.seq (.kp [1, 2, 6, 7, 8] (.ops [o 28 (.load (some 1) (.t 2)), o 29 (.call 10 [false] [.t 28]), o 8 (.alloc [.deep false false 2 []]), oz none none [] (.store 1 (.t 8) (.t 29))])) (.seq (.kp [1, 2, 6, 7, 8, 9, 10] (.ops [o 31 (.load (some 1) (.t 8)), o 32 (.mv (.t 1)), o 33 (.call 16 [false, false] [.t 31, .t 32]), o 30 (.mv (.t 33)), o 34 (.ext 0 (.t 30)), o 35 (.ext 1 (.t 30)), o 9 (.alloc [.deep false false 2 []]), oz none none [] (.store 1 (.t 9) (.t 34)), o 10 (.mv (.t 35))])) (.seq (.seq (.kp [1, 2, 6, 7, 8, 9, 10, 44] (.ops [o 36 (.load (some 1) (.t 9)), o 37 (.load (some 1) (.t 6)), o 38 (.call 12 [false, false] [.t 36, .t 37]), o 39 (.un .not (.t 38)), o 40 (.mv (.t 39)), og 41 40 false (.mv (.t 10)), og 42 40 false (.mv (.t 7)), og 43 40 false (.bin .neq 1 (.t 41) (.t 42)), o 44 (.pick (.t 40) (.k (.b true)) (.t 43))])) (.cond (.t 44) (.seq (.kp [4] (.ops [o 4 (.mv (.k (.b false)))])) C.ret) C.skip)) (.seq (.seq (.kp [1, 2, 6, 7, 8, 9, 10, 49] (.draw (tk [1] (.alt (tk [0, 2, 3, 4] .done) (tk [2, 0, 3, 4] .done))) [o 45 (.load (some 1) (.t 8)), o 46 (.load (some 1) (.t 2)), o 47 (.call 10 [false] [.t 46]), o 48 (.call 12 [false, false] [.t 45, .t 47]), o 49 (.un .not (.t 48))])) (.cond (.t 49) (.seq (.kp [4] (.ops [o 4 (.mv (.k (.b false)))])) C.ret) C.skip)) (.seq (.kp [1, 2, 6, 7, 8, 9, 10, 11] (.ops [o 11 (.mv (.k (.i .i64 1)))])) (.seq (.kp [1, 2, 6, 7, 9, 10, 11] (.ops [o 50 (.load (some 1) (.t 8)), o 51 (.mv (.t 11)), oz (some 52) none [50] (.call 17 [true, false] [.t 50, .t 51]), o 11 (.mv (.t 52))])) (.seq (.seq (.kp [1, 2, 6, 7, 9, 65] (.ops [o 53 (.mv (.t 11)), o 54 (.bin .lss 0 (.t 53) (.k (.i .i64 0))), o 55 (.mv (.t 54)), og 56 55 false (.load (some 1) (.t 9)), og 57 55 false (.load (some 1) (.t 6)), og 58 55 false (.call 12 [false, false] [.t 56, .t 57]), og 59 55 false (.un .not (.t 58)), o 60 (.pick (.t 55) (.k (.b true)) (.t 59)), o 61 (.mv (.t 60)), og 62 61 false (.mv (.t 10)), og 63 61 false (.mv (.t 7)), og 64 61 false (.bin .neq 1 (.t 62) (.t 63)), o 65 (.pick (.t 61) (.k (.b true)) (.t 64))])) (.cond (.t 65) (.seq (.kp [4] (.ops [o 4 (.mv (.k (.b false)))])) C.ret) C.skip)) (.seq (.kp [1, 2, 6, 7, 9, 12] (.ops [o 12 (.mv (.k (.i .i64 1)))])) (.seq (.kp [1, 2, 6, 7, 9, 12] (.ops [o 66 (.load (some 1) (.t 9)), o 67 (.mv (.t 12)), oz (some 68) none [66] (.call 17 [true, false] [.t 66, .t 67]), o 12 (.mv (.t 68))])) (.seq (.kp [1, 2, 6, 7, 9, 12, 13] (.ops [o 13 (.mv (.k (.i .i64 1)))])) (.seq (.kp [1, 2, 6, 7, 9, 12, 13] (.ops [o 69 (.load (some 1) (.t 9)), o 70 (.mv (.t 13)), o 71 (.call 18 [false, false] [.t 69, .t 70]), o 13 (.mv (.t 71))])) (.seq (.seq (.kp [1, 2, 6, 7, 9, 12, 13, 73] (.ops [o 72 (.mv (.t 13)), o 73 (.bin .lss 0 (.t 72) (.k (.i .i64 0)))])) (.cond (.t 73) (.seq (.kp [4] (.ops [o 4 (.mv (.k (.b false)))])) C.ret) C.skip)) (.seq (.seq (.kp [1, 2, 6, 7, 9, 12, 76] (.ops [o 74 (.mv (.t 13)), o 75 (.mv (.t 12)), o 76 (.bin .neq 0 (.t 74) (.t 75))])) (.cond (.t 76) (.seq (.kp [4] (.ops [o 4 (.mv (.k (.b false)))])) C.ret) C.skip)) (.seq (.kp [6, 7, 9, 12, 14, 15] (.ops [o 78 (.load (some 1) (.t 2)), o 79 (.call 10 [false] [.t 78]), o 80 (.mv (.t 1)), o 81 (.call 16 [false, false] [.t 79, .t 80]), o 77 (.mv (.t 81)), o 82 (.ext 0 (.t 77)), o 83 (.ext 1 (.t 77)), o 14 (.alloc [.deep false false 2 []]), oz none none [] (.store 1 (.t 14) (.t 82)), o 15 (.mv (.t 83))])) (.seq (.seq (.kp [9, 12, 92] (.ops [o 84 (.load (some 1) (.t 14)), o 85 (.load (some 1) (.t 6)), o 86 (.call 12 [false, false] [.t 84, .t 85]), o 87 (.un .not (.t 86)), o 88 (.mv (.t 87)), og 89 88 false (.mv (.t 15)), og 90 88 false (.mv (.t 7)), og 91 88 false (.bin .neq 1 (.t 89) (.t 90)), o 92 (.pick (.t 88) (.k (.b true)) (.t 91))])) (.cond (.t 92) (.seq (.kp [4] (.ops [o 4 (.mv (.k (.b false)))])) C.ret) C.skip)) (.seq (.kp [9, 12, 13] (.ops [o 13 (.mv (.k (.i .i64 1)))])) (.seq (.kp [12, 13] (.ops [o 93 (.load (some 1) (.t 9)), o 94 (.mv (.t 13)), o 95 (.call 18 [false, false] [.t 93, .t 94]), o 13 (.mv (.t 95))])) (.seq (.seq (.kp [12, 13, 97] (.ops [o 96 (.mv (.t 13)), o 97 (.bin .lss 0 (.t 96) (.k (.i .i64 0)))])) (.cond (.t 97) (.seq (.kp [4] (.ops [o 4 (.mv (.k (.b false)))])) C.ret) C.skip)) (.seq (.seq (.kp [100] (.ops [o 98 (.mv (.t 13)), o 99 (.mv (.t 12)), o 100 (.bin .neq 0 (.t 98) (.t 99))])) (.cond (.t 100) (.seq (.kp [4] (.ops [o 4 (.mv (.k (.b false)))])) C.ret) C.skip)) (.seq (.kp [4] (.ops [o 4 (.mv (.k (.b true)))])) C.ret)))))))))))))))))))))))))
def laws_FnExactFlat.F : V.Fn := ⟨1, laws_FnExactFlat.B, [.t 4]⟩
def tab : List (Nat × V.Fn) := [(69, laws_szRev.F), (32, laws_szRevS.F), (8, laws_szRepo.F), (75, laws_toRev.F), (36, laws_toRevS.F), (10, laws_toRepo.F), (41, spec_l30Copy.F), (33, spec_l1In.F), (106, spec_Var.F), (103, spec_ReadVar.F), (70, spec_l4Num.F), (71, spec_LabelOk.F), (34, spec_GetTree.F), (104, spec_l15Num.F), (105, spec_l15Get.F), (72, spec_GetScript.F), (86, spec_TreeOk.F), (85, spec_l3Copy.F), (131, spec_l3At.F), (118, spec_EndOf.F), (120, spec_KidsOf.F), (116, spec_NodeAt.F), (117, spec_l13Code.F), (119, spec_l13Shift.F), (97, spec_ApplyOp.F), (73, spec_ApplyAll.F), (74, spec_PutTree.F), (35, spec_Patch.F), (9, spec_RepoGet.F), (13, spec_RepoOk.F), (15, spec_Flat.F), (82, slices_Clone_impl_Rev_impl_Rev.F), (42, impl_repoCopy.F), (37, impl_within.F), (76, impl_ReadVar.F), (107, impl_LabelOk.F), (108, impl_depthOk.F), (77, impl_getNode.F), (38, impl_GetTree.F), (109, impl_script_number.F), (78, impl_GetScript.F), (99, impl_TreeOk.F), (90, slices_Clone_impl_Node_impl_Node.F), (134, impl_hasNode.F), (123, impl_endOf.F), (126, impl_KidsOf.F), (121, impl_NodeAt.F), (122, impl_opCode.F), (124, slices_Delete_impl_Node_impl_Node.F), (125, slices_Insert_impl_Node_impl_Node.F), (100, impl_ApplyOp.F), (79, impl_ApplyAll.F), (110, impl_Var.F), (80, impl_PutTree.F), (39, impl_Patch.F), (11, impl_RepoGet.F), (14, impl_RepoOk.F), (16, impl_Flat.F), (81, laws_eqRev.F), (40, laws_eqRevS.F), (12, laws_eqRepo.F), (83, laws_markText.F), (43, laws_markRevS.F), (17, laws_markRepo.F), (44, laws_heldRevS.F), (18, laws_heldRepo.F), (5, laws_FnExactFlat.F)]
def env : V.Env := ⟨fun f => tab.lookup f, fun _ => none⟩
end Go.Proofs.Ytinlbiphjgpmmaa.P
end YtinlbiphjgpmmaaLC
section YtinlbiphjgpmmaaL69
namespace Go.Proofs.Ytinlbiphjgpmmaa.P
open Go Go.RowKit Go.Proofs.Ytinlbiphjgpmmaa.V
set_option linter.unusedVariables false
set_option linter.unusedSimpArgs false
set_option linter.all false
set_option maxRecDepth 100000
/-! ### laws_szRev: function 69 -/
def laws_szRev.f (a0_0 : Int) (a0_1 : ByteArray) (a1 : Int) : Option Int := if (wrap64 (a1 - (a0_1.size : Int))) < 0 then (some (-1)) else (some (wrap64 (a1 - (a0_1.size : Int))))
set_option maxHeartbeats 4000000 in
theorem laws_szRev.link {a0_0 : Int} {a0_1 : ByteArray} {a1 : Int} {r : Int} (H : laws_szRev.f a0_0 a0_1 a1 = some r) : callW env 69 [.agg [.i .i64 a0_0, .s a0_1], .i .i64 a1] = some ([.i .i64 r], []) := by
  unfold laws_szRev.f at H
  refine callW_fn' (F := laws_szRev.F) (tm := tmOf [(0, .agg [.i .i64 a0_0, .s a0_1]), (1, .i .i64 a1)]) (rs := rsL []) (nx := 0) (ow := []) rfl (by rfl) (by simp only [SN]) (by simp only [SN]) (by decide) ?_
  show W env laws_szRev.B _ (Qf [.t 4] [] _)
  unfold laws_szRev.B
  try simp only [TN, simprocAttr]
  rcases ite_or H with ⟨h1, H⟩ | ⟨h1, H⟩
  · skip
    injection H with H; subst H
    try simp only [TN, simprocAttr, h1]
    try rfl
  · skip
    injection H with H; subst H
    try simp only [TN, simprocAttr, h1]
    try rfl
end Go.Proofs.Ytinlbiphjgpmmaa.P
end YtinlbiphjgpmmaaL69
section YtinlbiphjgpmmaaL32
namespace Go.Proofs.Ytinlbiphjgpmmaa.P
open Go Go.RowKit Go.Proofs.Ytinlbiphjgpmmaa.V
set_option linter.unusedVariables false
set_option linter.unusedSimpArgs false
set_option linter.all false
set_option maxRecDepth 100000
/-! ### laws_szRevS: function 32 -/
def laws_szRevS.l0 : Nat → (List S100) → Int → Int → Option Int
 | 0, _, _, _ => none
 | k + 1, l0, x1, x5 => if x5 < (l0.length : Int) then (if 0 ≤ x5 then ((laws_szRev.f ((rd_T100 l0 x5).f0) ((rd_T100 l0 x5).f1) x1).bind fun t1 => (if t1 < 0 then (some (-1)) else (laws_szRevS.l0 k l0 t1 (wrap64 (x5 + 1))))) else none) else (some x1)
def laws_szRevS.f (k : Nat) (l0 : List S100) (a1 : Int) : Option Int := if (wrap64 (a1 - (l0.length : Int))) < 0 then (some (-1)) else (laws_szRevS.l0 k l0 (wrap64 (a1 - (l0.length : Int))) 0)
def laws_szRevS.P0 (k : Nat) : Prop := ∀ (l0 : List S100) (x1 : Int) (x5 : Int) (r : Int), laws_szRevS.l0 k l0 x1 x5 = some r → ∀ st, canon 1 [0, 1, 5] st = ⟨tmOf [(0, .slc 0 [] 0 2 0 l0.length), (1, .i .i64 x1), (5, .i .i64 x5)], rsL [(0, some ⟨false, 2, 0, (l0.map e100)⟩)], 1⟩ → W env laws_szRevS.c1 st (Qb 0 (Qs env laws_szRevS.c0 (Qf [.t 4] [false] ([.i .i64 r], [none]))))
set_option maxHeartbeats 4000000 in
theorem laws_szRevS.s0 (k : Nat) (ih : laws_szRevS.P0 k) : laws_szRevS.P0 (k + 1) := by
  intro l0 x1 x5 r H st hst
  rw [laws_szRevS.l0] at H
  rw [W_loopc (show laws_szRevS.c1 = C.loop 1 [0, 1, 5] laws_szRevS.d1 from rfl), hst]
  unfold laws_szRevS.d1
  try simp only [TN, simprocAttr, laws_szRevS.c0]
  rcases ite_or H with ⟨h1, H⟩ | ⟨h1, H⟩
  · skip
    obtain ⟨h2, H⟩ := ite_no H
    obtain ⟨t1, e3, H⟩ := bnd_some H
    have e3 := laws_szRev.link e3
    try simp only [TN, simprocAttr, laws_szRevS.c0, h1, h2, e3]
    rcases ite_or H with ⟨h4, H⟩ | ⟨h4, H⟩
    · skip
      injection H with H; subst H
      try simp only [TN, simprocAttr, laws_szRevS.c0, h1, h2, e3, h4]
      try rfl
    · skip
      try simp only [TN, simprocAttr, laws_szRevS.c0, h1, h2, e3, h4]
      refine ih _ _ _ _ H _ ?_
      first | (rw [canon_eq]; done) | (rw [canon_eq]; rfl) | (rw [canon_eq]; simp only [List.length_set, List.length_append, List.length_replicate]; rfl)
  · skip
    injection H with H; subst H
    try simp only [TN, simprocAttr, laws_szRevS.c0, h1]
    try rfl
theorem laws_szRevS.w : ∀ k, laws_szRevS.P0 k := by
  intro k
  induction k with
  | zero => exact by intro l0 x1 x5 r H; cases (show (none : Option Int) = some r from H)
  | succ k ih => exact laws_szRevS.s0 k ih
set_option maxHeartbeats 4000000 in
theorem laws_szRevS.link {k : Nat} {l0 : List S100} {a1 : Int} {r : Int} (H : laws_szRevS.f k l0 a1 = some r) : callW env 32 [.deep false true 2 (l0.map e100), .i .i64 a1] = some ([.i .i64 r], [none]) := by
  unfold laws_szRevS.f at H
  refine callW_fn' (F := laws_szRevS.F) (tm := tmOf [(0, .slc 0 [] 0 2 0 l0.length), (1, .i .i64 a1)]) (rs := rsL [(0, some ⟨false, 2, 0, (l0.map e100)⟩)]) (nx := 1) (ow := [false]) rfl (by rfl) (by simp only [SN]) (by simp only [SN]) (by decide) ?_
  show W env laws_szRevS.B _ (Qf [.t 4] [false] _)
  unfold laws_szRevS.B
  try simp only [TN, simprocAttr, laws_szRevS.c0]
  rcases ite_or H with ⟨h1, H⟩ | ⟨h1, H⟩
  · skip
    injection H with H; subst H
    try simp only [TN, simprocAttr, laws_szRevS.c0, h1]
    try rfl
  · skip
    try simp only [TN, simprocAttr, laws_szRevS.c0, h1]
    refine (laws_szRevS.w k) _ _ _ _ H _ ?_
    first | (rw [canon_eq]; done) | (rw [canon_eq]; rfl) | (rw [canon_eq]; simp only [List.length_set, List.length_append, List.length_replicate]; rfl)
end Go.Proofs.Ytinlbiphjgpmmaa.P
end YtinlbiphjgpmmaaL32
section YtinlbiphjgpmmaaL8
namespace Go.Proofs.Ytinlbiphjgpmmaa.P
open Go Go.RowKit Go.Proofs.Ytinlbiphjgpmmaa.V
set_option linter.unusedVariables false
set_option linter.unusedSimpArgs false
set_option linter.all false
set_option maxRecDepth 100000
/-! ### laws_szRepo: function 8 -/
def laws_szRepo.f (k : Nat) (l0_0 : List S100) (a1 : Int) : Option Int := (laws_szRevS.f k l0_0 a1).bind fun t1 => (if t1 < 0 then (some (-1)) else (some t1))
set_option maxHeartbeats 4000000 in
theorem laws_szRepo.link {k : Nat} {l0_0 : List S100} {a1 : Int} {r : Int} (H : laws_szRepo.f k l0_0 a1 = some r) : callW env 8 [.agg [.deep false true 2 (l0_0.map e100)], .i .i64 a1] = some ([.i .i64 r], [none]) := by
  unfold laws_szRepo.f at H
  refine callW_fn' (F := laws_szRepo.F) (tm := tmOf [(0, .agg [.slc 0 [] 0 2 0 l0_0.length]), (1, .i .i64 a1)]) (rs := rsL [(0, some ⟨false, 2, 0, (l0_0.map e100)⟩)]) (nx := 1) (ow := [false]) rfl (by rfl) (by simp only [SN]) (by simp only [SN]) (by decide) ?_
  show W env laws_szRepo.B _ (Qf [.t 4] [false] _)
  unfold laws_szRepo.B
  obtain ⟨t1, e1, H⟩ := bnd_some H
  have e1 := laws_szRevS.link e1
  try simp only [TN, simprocAttr, e1]
  rcases ite_or H with ⟨h2, H⟩ | ⟨h2, H⟩
  · skip
    injection H with H; subst H
    try simp only [TN, simprocAttr, e1, h2]
    try rfl
  · skip
    injection H with H; subst H
    try simp only [TN, simprocAttr, e1, h2]
    try rfl
end Go.Proofs.Ytinlbiphjgpmmaa.P
end YtinlbiphjgpmmaaL8
section YtinlbiphjgpmmaaL75
namespace Go.Proofs.Ytinlbiphjgpmmaa.P
open Go Go.RowKit Go.Proofs.Ytinlbiphjgpmmaa.V
set_option linter.unusedVariables false
set_option linter.unusedSimpArgs false
set_option linter.all false
set_option maxRecDepth 100000
/-! ### laws_toRev: function 75 -/
def laws_toRev.f (a0_0 : Int) (a0_1 : ByteArray) : Option (Int × ByteArray) := some (a0_0, a0_1)
set_option maxHeartbeats 4000000 in
theorem laws_toRev.link {a0_0 : Int} {a0_1 : ByteArray} {r : Int × ByteArray} (H : laws_toRev.f a0_0 a0_1 = some r) : callW env 75 [.agg [.i .i64 a0_0, .s a0_1]] = some ([.agg [.i .i64 r.1, .s r.2]], []) := by
  unfold laws_toRev.f at H
  refine callW_fn' (F := laws_toRev.F) (tm := tmOf [(0, .agg [.i .i64 a0_0, .s a0_1])]) (rs := rsL []) (nx := 0) (ow := []) rfl (by rfl) (by simp only [SN]) (by simp only [SN]) (by decide) ?_
  show W env laws_toRev.B _ (Qf [.cell 2 (some 2)] [] _)
  unfold laws_toRev.B
  injection H with H; subst H
  try simp only [TN, simprocAttr]
  try rfl
end Go.Proofs.Ytinlbiphjgpmmaa.P
end YtinlbiphjgpmmaaL75
section YtinlbiphjgpmmaaL36
namespace Go.Proofs.Ytinlbiphjgpmmaa.P
open Go Go.RowKit Go.Proofs.Ytinlbiphjgpmmaa.V
set_option linter.unusedVariables false
set_option linter.unusedSimpArgs false
set_option linter.all false
set_option maxRecDepth 100000
/-! ### laws_toRevS: function 36 -/
def laws_toRevS.l0 : Nat → (List S100) → (List S65) → Int → Option (List S65)
 | 0, _, _, _ => none
 | k + 1, l0, x3, x4 => if x4 < (l0.length : Int) then (if 0 ≤ x4 then ((laws_toRev.f ((rd_T100 l0 x4).f0) ((rd_T100 l0 x4).f1)).bind fun bt1 => (if x4 < (x3.length : Int) then (laws_toRevS.l0 k l0 (x3.set (x4 : Int).toNat (⟨bt1.1, bt1.2⟩ : S65)) (wrap64 (x4 + 1))) else none)) else none) else (some x3)
def laws_toRevS.f (k : Nat) (l0 : List S100) : Option (List S65) := if 0 ≤ (l0.length : Int) then (if (l0.length : Int) * 24 ≤ 140737488355328 then (laws_toRevS.l0 k l0 (List.replicate ((l0.length : Int) : Int).toNat z65) 0) else none) else none
def laws_toRevS.P0 (k : Nat) : Prop := ∀ (l0 : List S100) (x3 : List S65) (x4 : Int) (r : (List S65)), laws_toRevS.l0 k l0 x3 x4 = some r → ∀ st, canon 1 [0, 3, 4] st = ⟨tmOf [(0, .slc 0 [] 0 2 0 l0.length), (3, .slc 1 [] 0 2 0 x3.length), (4, .i .i64 x4)], rsL [(0, some ⟨false, 2, 0, (l0.map e100)⟩), (1, some ⟨true, 2, 0, (x3.map e65)⟩)], 2⟩ → W env laws_toRevS.c1 st (Qb 0 (Qs env laws_toRevS.c0 (Qf [.t 2] [false] ([.deep false false 2 (r.map e65)], [none]))))
set_option maxHeartbeats 4000000 in
theorem laws_toRevS.s0 (k : Nat) (ih : laws_toRevS.P0 k) : laws_toRevS.P0 (k + 1) := by
  intro l0 x3 x4 r H st hst
  rw [laws_toRevS.l0] at H
  rw [W_loopc (show laws_toRevS.c1 = C.loop 1 [0, 3, 4] laws_toRevS.d1 from rfl), hst]
  unfold laws_toRevS.d1
  try simp only [TN, simprocAttr, laws_toRevS.c0]
  rcases ite_or H with ⟨h1, H⟩ | ⟨h1, H⟩
  · skip
    obtain ⟨h2, H⟩ := ite_no H
    obtain ⟨bt1, e3, H⟩ := bnd_some H
    have e3 := laws_toRev.link e3
    obtain ⟨h4, H⟩ := ite_no H
    try simp only [TN, simprocAttr, laws_toRevS.c0, h1, h2, e3, h4]
    refine ih _ _ _ _ H _ ?_
    first | (rw [canon_eq]; done) | (rw [canon_eq]; rfl) | (rw [canon_eq]; simp only [List.length_set, List.length_append, List.length_replicate]; rfl)
  · skip
    injection H with H; subst H
    try simp only [TN, simprocAttr, laws_toRevS.c0, h1]
    try rfl
theorem laws_toRevS.w : ∀ k, laws_toRevS.P0 k := by
  intro k
  induction k with
  | zero => exact by intro l0 x3 x4 r H; cases (show (none : Option (List S65)) = some r from H)
  | succ k ih => exact laws_toRevS.s0 k ih
set_option maxHeartbeats 4000000 in
theorem laws_toRevS.link {k : Nat} {l0 : List S100} {r : (List S65)} (H : laws_toRevS.f k l0 = some r) : callW env 36 [.deep false true 2 (l0.map e100)] = some ([.deep false false 2 (r.map e65)], [none]) := by
  unfold laws_toRevS.f at H
  refine callW_fn' (F := laws_toRevS.F) (tm := tmOf [(0, .slc 0 [] 0 2 0 l0.length)]) (rs := rsL [(0, some ⟨false, 2, 0, (l0.map e100)⟩)]) (nx := 1) (ow := [false]) rfl (by rfl) (by simp only [SN]) (by simp only [SN]) (by decide) ?_
  show W env laws_toRevS.B _ (Qf [.t 2] [false] _)
  unfold laws_toRevS.B
  obtain ⟨h1, H⟩ := ite_no H
  obtain ⟨h2, H⟩ := ite_no H
  try simp only [TN, simprocAttr, laws_toRevS.c0, h1, h2, @m65]
  refine (laws_toRevS.w k) _ _ _ _ H _ ?_
  first | (rw [canon_eq]; done) | (rw [canon_eq]; rfl) | (rw [canon_eq]; simp only [List.length_set, List.length_append, List.length_replicate]; rfl)
end Go.Proofs.Ytinlbiphjgpmmaa.P
end YtinlbiphjgpmmaaL36
section YtinlbiphjgpmmaaL10
namespace Go.Proofs.Ytinlbiphjgpmmaa.P
open Go Go.RowKit Go.Proofs.Ytinlbiphjgpmmaa.V
set_option linter.unusedVariables false
set_option linter.unusedSimpArgs false
set_option linter.all false
set_option maxRecDepth 100000
/-! ### laws_toRepo: function 10 -/
def laws_toRepo.f (k : Nat) (l0_0 : List S100) : Option (List S65) := (laws_toRevS.f k l0_0).bind fun t1 => (some t1)
set_option maxHeartbeats 4000000 in
theorem laws_toRepo.link {k : Nat} {l0_0 : List S100} {r : (List S65)} (H : laws_toRepo.f k l0_0 = some r) : callW env 10 [.agg [.deep false true 2 (l0_0.map e100)]] = some ([.agg [.deep false false 2 (r.map e65)]], [none]) := by
  unfold laws_toRepo.f at H
  refine callW_fn' (F := laws_toRepo.F) (tm := tmOf [(0, .agg [.slc 0 [] 0 2 0 l0_0.length])]) (rs := rsL [(0, some ⟨false, 2, 0, (l0_0.map e100)⟩)]) (nx := 1) (ow := [false]) rfl (by rfl) (by simp only [SN]) (by simp only [SN]) (by decide) ?_
  show W env laws_toRepo.B _ (Qf [.cell 2 (some 1)] [false] _)
  unfold laws_toRepo.B
  obtain ⟨t1, e1, H⟩ := bnd_some H
  have e1 := laws_toRevS.link e1
  injection H with H; subst H
  try simp only [TN, simprocAttr, e1]
  try rfl
end Go.Proofs.Ytinlbiphjgpmmaa.P
end YtinlbiphjgpmmaaL10
section YtinlbiphjgpmmaaL81
namespace Go.Proofs.Ytinlbiphjgpmmaa.P
open Go Go.RowKit Go.Proofs.Ytinlbiphjgpmmaa.V
set_option linter.unusedVariables false
set_option linter.unusedSimpArgs false
set_option linter.all false
set_option maxRecDepth 100000
/-! ### laws_eqRev: function 81 -/
def laws_eqRev.f (a0_0 : Int) (a0_1 : ByteArray) (a1_0 : Int) (a1_1 : ByteArray) : Option Bool := if a0_0 = a1_0 then (if a0_1 = a1_1 then (some true) else (some false)) else (some false)
set_option maxHeartbeats 4000000 in
theorem laws_eqRev.link {a0_0 : Int} {a0_1 : ByteArray} {a1_0 : Int} {a1_1 : ByteArray} {r : Bool} (H : laws_eqRev.f a0_0 a0_1 a1_0 a1_1 = some r) : callW env 81 [.agg [.i .i64 a0_0, .s a0_1], .agg [.i .i64 a1_0, .s a1_1]] = some ([.b r], []) := by
  unfold laws_eqRev.f at H
  refine callW_fn' (F := laws_eqRev.F) (tm := tmOf [(0, .agg [.i .i64 a0_0, .s a0_1]), (1, .agg [.i .i64 a1_0, .s a1_1])]) (rs := rsL []) (nx := 0) (ow := []) rfl (by rfl) (by simp only [SN]) (by simp only [SN]) (by decide) ?_
  show W env laws_eqRev.B _ (Qf [.t 4] [] _)
  unfold laws_eqRev.B
  try simp only [TN, simprocAttr]
  rcases ite_or H with ⟨h1, H⟩ | ⟨h1, H⟩
  · skip
    try simp only [TN, simprocAttr, eq_true h1]
    rcases ite_or H with ⟨h2, H⟩ | ⟨h2, H⟩
    · skip
      injection H with H; subst H
      try simp only [TN, simprocAttr, eq_true h1, eq_true h2]
      try rfl
    · skip
      injection H with H; subst H
      try simp only [TN, simprocAttr, eq_true h1, h2]
      try rfl
  · skip
    injection H with H; subst H
    try simp only [TN, simprocAttr, h1]
    try rfl
end Go.Proofs.Ytinlbiphjgpmmaa.P
end YtinlbiphjgpmmaaL81
section YtinlbiphjgpmmaaL40
namespace Go.Proofs.Ytinlbiphjgpmmaa.P
open Go Go.RowKit Go.Proofs.Ytinlbiphjgpmmaa.V
set_option linter.unusedVariables false
set_option linter.unusedSimpArgs false
set_option linter.all false
set_option maxRecDepth 100000
/-! ### laws_eqRevS: function 40 -/
def laws_eqRevS.l0 : Nat → (List S65) → (List S65) → Int → Option Bool
 | 0, _, _, _ => none
 | k + 1, l0, l1, x5 => if x5 < (l0.length : Int) then (if 0 ≤ x5 then (if x5 < (l1.length : Int) then ((laws_eqRev.f ((rd_T65 l0 x5).f0) ((rd_T65 l0 x5).f1) ((rd_T65 l1 x5).f0) ((rd_T65 l1 x5).f1)).bind fun t1 => (if t1 = true then (laws_eqRevS.l0 k l0 l1 (wrap64 (x5 + 1))) else (some false))) else none) else none) else (some true)
def laws_eqRevS.f (k : Nat) (l0 : List S65) (l1 : List S65) : Option Bool := if (l0.length : Int) = (l1.length : Int) then (laws_eqRevS.l0 k l0 l1 0) else (some false)
def laws_eqRevS.P0 (k : Nat) : Prop := ∀ (l0 : List S65) (l1 : List S65) (x5 : Int) (r : Bool), laws_eqRevS.l0 k l0 l1 x5 = some r → ∀ st, canon 2 [0, 1, 5] st = ⟨tmOf [(0, .slc 0 [] 0 2 0 l0.length), (1, .slc 1 [] 0 2 0 l1.length), (5, .i .i64 x5)], rsL [(0, some ⟨false, 2, 0, (l0.map e65)⟩), (1, some ⟨false, 2, 0, (l1.map e65)⟩)], 2⟩ → W env laws_eqRevS.c1 st (Qb 0 (Qs env laws_eqRevS.c0 (Qf [.t 4] [false, false] ([.b r], [none, none]))))
set_option maxHeartbeats 4000000 in
theorem laws_eqRevS.s0 (k : Nat) (ih : laws_eqRevS.P0 k) : laws_eqRevS.P0 (k + 1) := by
  intro l0 l1 x5 r H st hst
  rw [laws_eqRevS.l0] at H
  rw [W_loopc (show laws_eqRevS.c1 = C.loop 2 [0, 1, 5] laws_eqRevS.d1 from rfl), hst]
  unfold laws_eqRevS.d1
  try simp only [TN, simprocAttr, laws_eqRevS.c0]
  rcases ite_or H with ⟨h1, H⟩ | ⟨h1, H⟩
  · skip
    obtain ⟨h2, H⟩ := ite_no H
    obtain ⟨h3, H⟩ := ite_no H
    obtain ⟨t1, e4, H⟩ := bnd_some H
    have e4 := laws_eqRev.link e4
    try simp only [TN, simprocAttr, laws_eqRevS.c0, h1, h2, h3, e4]
    rcases ite_b H with ⟨h5, H⟩ | ⟨h5, H⟩
    · skip
      try simp only [TN, simprocAttr, laws_eqRevS.c0, h1, h2, h3, e4, h5]
      refine ih _ _ _ _ H _ ?_
      first | (rw [canon_eq]; done) | (rw [canon_eq]; rfl) | (rw [canon_eq]; simp only [List.length_set, List.length_append, List.length_replicate]; rfl)
    · skip
      injection H with H; subst H
      try simp only [TN, simprocAttr, laws_eqRevS.c0, h1, h2, h3, e4, h5]
      try rfl
  · skip
    injection H with H; subst H
    try simp only [TN, simprocAttr, laws_eqRevS.c0, h1]
    try rfl
theorem laws_eqRevS.w : ∀ k, laws_eqRevS.P0 k := by
  intro k
  induction k with
  | zero => exact by intro l0 l1 x5 r H; cases (show (none : Option Bool) = some r from H)
  | succ k ih => exact laws_eqRevS.s0 k ih
set_option maxHeartbeats 4000000 in
theorem laws_eqRevS.link {k : Nat} {l0 : List S65} {l1 : List S65} {r : Bool} (H : laws_eqRevS.f k l0 l1 = some r) : callW env 40 [.deep false true 2 (l0.map e65), .deep false true 2 (l1.map e65)] = some ([.b r], [none, none]) := by
  unfold laws_eqRevS.f at H
  refine callW_fn' (F := laws_eqRevS.F) (tm := tmOf [(0, .slc 0 [] 0 2 0 l0.length), (1, .slc 1 [] 0 2 0 l1.length)]) (rs := rsL [(0, some ⟨false, 2, 0, (l0.map e65)⟩), (1, some ⟨false, 2, 0, (l1.map e65)⟩)]) (nx := 2) (ow := [false, false]) rfl (by rfl) (by simp only [SN]) (by simp only [SN]) (by decide) ?_
  show W env laws_eqRevS.B _ (Qf [.t 4] [false, false] _)
  unfold laws_eqRevS.B
  try simp only [TN, simprocAttr, laws_eqRevS.c0]
  rcases ite_or H with ⟨h1, H⟩ | ⟨h1, H⟩
  · skip
    try simp only [TN, simprocAttr, laws_eqRevS.c0, eq_true h1]
    refine (laws_eqRevS.w k) _ _ _ _ H _ ?_
    first | (rw [canon_eq]; done) | (rw [canon_eq]; rfl) | (rw [canon_eq]; simp only [List.length_set, List.length_append, List.length_replicate]; rfl)
  · skip
    injection H with H; subst H
    try simp only [TN, simprocAttr, laws_eqRevS.c0, h1]
    try rfl
end Go.Proofs.Ytinlbiphjgpmmaa.P
end YtinlbiphjgpmmaaL40
section YtinlbiphjgpmmaaL12
namespace Go.Proofs.Ytinlbiphjgpmmaa.P
open Go Go.RowKit Go.Proofs.Ytinlbiphjgpmmaa.V
set_option linter.unusedVariables false
set_option linter.unusedSimpArgs false
set_option linter.all false
set_option maxRecDepth 100000
/-! ### laws_eqRepo: function 12 -/
def laws_eqRepo.f (k : Nat) (l0_0 : List S65) (l1_0 : List S65) : Option Bool := (laws_eqRevS.f k l0_0 l1_0).bind fun t1 => (if t1 = true then (some true) else (some false))
set_option maxHeartbeats 4000000 in
theorem laws_eqRepo.link {k : Nat} {l0_0 : List S65} {l1_0 : List S65} {r : Bool} (H : laws_eqRepo.f k l0_0 l1_0 = some r) : callW env 12 [.agg [.deep false true 2 (l0_0.map e65)], .agg [.deep false true 2 (l1_0.map e65)]] = some ([.b r], [none, none]) := by
  unfold laws_eqRepo.f at H
  refine callW_fn' (F := laws_eqRepo.F) (tm := tmOf [(0, .agg [.slc 0 [] 0 2 0 l0_0.length]), (1, .agg [.slc 1 [] 0 2 0 l1_0.length])]) (rs := rsL [(0, some ⟨false, 2, 0, (l0_0.map e65)⟩), (1, some ⟨false, 2, 0, (l1_0.map e65)⟩)]) (nx := 2) (ow := [false, false]) rfl (by rfl) (by simp only [SN]) (by simp only [SN]) (by decide) ?_
  show W env laws_eqRepo.B _ (Qf [.t 4] [false, false] _)
  unfold laws_eqRepo.B
  obtain ⟨t1, e1, H⟩ := bnd_some H
  have e1 := laws_eqRevS.link e1
  try simp only [TN, simprocAttr, e1]
  rcases ite_b H with ⟨h2, H⟩ | ⟨h2, H⟩
  · skip
    injection H with H; subst H
    try simp only [TN, simprocAttr, e1, h2]
    try rfl
  · skip
    injection H with H; subst H
    try simp only [TN, simprocAttr, e1, h2]
    try rfl
end Go.Proofs.Ytinlbiphjgpmmaa.P
end YtinlbiphjgpmmaaL12
section YtinlbiphjgpmmaaL33
namespace Go.Proofs.Ytinlbiphjgpmmaa.P
open Go Go.RowKit Go.Proofs.Ytinlbiphjgpmmaa.V
set_option linter.unusedVariables false
set_option linter.unusedSimpArgs false
set_option linter.all false
set_option maxRecDepth 100000
/-! ### spec_l1In: function 33 -/
def spec_l1In.f (a0 : Int) (a1 : Int) (a2 : Int) : Option Bool := if a0 ≥ a1 then (some (decide (a0 ≤ a2))) else (some false)
set_option maxHeartbeats 4000000 in
theorem spec_l1In.link {a0 : Int} {a1 : Int} {a2 : Int} {r : Bool} (H : spec_l1In.f a0 a1 a2 = some r) : callW env 33 [.i .i64 a0, .i .i64 a1, .i .i64 a2] = some ([.b r], []) := by
  unfold spec_l1In.f at H
  refine callW_fn' (F := spec_l1In.F) (tm := tmOf [(0, .i .i64 a0), (1, .i .i64 a1), (2, .i .i64 a2)]) (rs := rsL []) (nx := 0) (ow := []) rfl (by rfl) (by simp only [SN]) (by simp only [SN]) (by decide) ?_
  show W env spec_l1In.B _ (Qf [.t 6] [] _)
  unfold spec_l1In.B
  try simp only [TN, simprocAttr]
  rcases ite_or H with ⟨h1, H⟩ | ⟨h1, H⟩
  · skip
    injection H with H; subst H
    try simp only [TN, simprocAttr, h1]
    try rfl
  · skip
    injection H with H; subst H
    try simp only [TN, simprocAttr, h1]
    try rfl
end Go.Proofs.Ytinlbiphjgpmmaa.P
end YtinlbiphjgpmmaaL33
section YtinlbiphjgpmmaaL106
namespace Go.Proofs.Ytinlbiphjgpmmaa.P
open Go Go.RowKit Go.Proofs.Ytinlbiphjgpmmaa.V
set_option linter.unusedVariables false
set_option linter.unusedSimpArgs false
set_option linter.all false
set_option maxRecDepth 100000
/-! ### spec_Var: function 106 -/
def spec_Var.l0 : Nat → Int → (List Int) → Option ByteArray
 | 0, _, _ => none
 | k + 1, a0, x3 => if a0 ≥ 128 then (if x3.length < 140737488355328 then (spec_Var.l0 k (wrap64 (Int.tdiv a0 128)) (x3 ++ ([(wrap64 (128 + (Int.tmod a0 128))) % 256]))) else none) else (if x3.length < 140737488355328 then (some (bytesOf (x3 ++ ([(a0) % 256])))) else none)
def spec_Var.f (k : Nat) (a0 : Int) : Option ByteArray := (spec_l1In.f a0 0 562949953421311).bind fun t1 => (if t1 = true then (spec_Var.l0 k a0 ([] : List Int)) else (some (⟨#[]⟩ : ByteArray)))
def spec_Var.P0 (k : Nat) : Prop := ∀ (a0 : Int) (x3 : List Int) (r : ByteArray), spec_Var.l0 k a0 x3 = some r → ∀ st, canon 0 [0, 3] st = ⟨tmOf [(0, .i .i64 a0), (3, .slc 0 [] 0 1 0 x3.length)], rsL [(0, some ⟨true, 1, 0, (x3.map e8)⟩)], 1⟩ → W env spec_Var.c1 st (Qb 0 (Qs env spec_Var.c0 (Qf [.t 2] [] ([.s r], []))))
set_option maxHeartbeats 4000000 in
theorem spec_Var.s0 (k : Nat) (ih : spec_Var.P0 k) : spec_Var.P0 (k + 1) := by
  intro a0 x3 r H st hst
  rw [spec_Var.l0] at H
  rw [W_loopc (show spec_Var.c1 = C.loop 0 [0, 3] spec_Var.d1 from rfl), hst]
  unfold spec_Var.d1
  try simp only [TN, simprocAttr, spec_Var.c0]
  rcases ite_or H with ⟨h1, H⟩ | ⟨h1, H⟩
  · skip
    obtain ⟨h2, H⟩ := ite_no H
    have h3 : (x3.length + 1) * 1 ≤ 140737488355328 := by omega
    try simp only [TN, simprocAttr, spec_Var.c0, h1, h2, h3]
    refine ih _ _ _ H _ ?_
    first | (rw [canon_eq]; done) | (rw [canon_eq]; rfl) | (rw [canon_eq]; simp only [List.length_set, List.length_append, List.length_replicate]; rfl)
  · skip
    obtain ⟨h4, H⟩ := ite_no H
    have h5 : (x3.length + 1) * 1 ≤ 140737488355328 := by omega
    injection H with H; subst H
    try simp only [TN, simprocAttr, spec_Var.c0, h1, h4, h5]
    try rfl
theorem spec_Var.w : ∀ k, spec_Var.P0 k := by
  intro k
  induction k with
  | zero => exact by intro a0 x3 r H; cases (show (none : Option ByteArray) = some r from H)
  | succ k ih => exact spec_Var.s0 k ih
set_option maxHeartbeats 4000000 in
theorem spec_Var.link {k : Nat} {a0 : Int} {r : ByteArray} (H : spec_Var.f k a0 = some r) : callW env 106 [.i .i64 a0] = some ([.s r], []) := by
  unfold spec_Var.f at H
  refine callW_fn' (F := spec_Var.F) (tm := tmOf [(0, .i .i64 a0)]) (rs := rsL []) (nx := 0) (ow := []) rfl (by rfl) (by simp only [SN]) (by simp only [SN]) (by decide) ?_
  show W env spec_Var.B _ (Qf [.t 2] [] _)
  unfold spec_Var.B
  obtain ⟨t1, e1, H⟩ := bnd_some H
  have e1 := spec_l1In.link e1
  try simp only [TN, simprocAttr, spec_Var.c0, e1]
  rcases ite_b H with ⟨h2, H⟩ | ⟨h2, H⟩
  · skip
    try simp only [TN, simprocAttr, spec_Var.c0, e1, h2]
    refine (spec_Var.w k) _ _ _ H _ ?_
    first | (rw [canon_eq]; done) | (rw [canon_eq]; rfl) | (rw [canon_eq]; simp only [List.length_set, List.length_append, List.length_replicate]; rfl)
  · skip
    injection H with H; subst H
    try simp only [TN, simprocAttr, spec_Var.c0, e1, h2]
    try rfl
end Go.Proofs.Ytinlbiphjgpmmaa.P
end YtinlbiphjgpmmaaL106
section YtinlbiphjgpmmaaL103
namespace Go.Proofs.Ytinlbiphjgpmmaa.P
open Go Go.RowKit Go.Proofs.Ytinlbiphjgpmmaa.V
set_option linter.unusedVariables false
set_option linter.unusedSimpArgs false
set_option linter.all false
set_option maxRecDepth 100000
/-! ### spec_ReadVar: function 103 -/
mutual
def spec_ReadVar.l0 : Nat → ByteArray → Int → Option (Int × Int)
 | 0, _, _ => none
 | k + 1, a0, x4 => if x4 ≤ 7 then (if x4 ≤ (a0.size : Int) then (spec_ReadVar.l1 k a0 x4 0 (wrap64 (x4 - 1))) else (some (0, 0))) else (some (0, 0))
def spec_ReadVar.l1 : Nat → ByteArray → Int → Int → Int → Option (Int × Int)
 | 0, _, _, _, _ => none
 | k + 1, a0, x4, x5, x6 => if x6 ≥ 0 then (if 0 ≤ x6 then (if x6 < (a0.size : Int) then (spec_ReadVar.l1 k a0 x4 (wrap64 ((wrap64 (x5 * 128)) + (Int.tmod (wrap64 (bt a0 x6)) 128))) (wrap64 (x6 - 1))) else none) else none) else (if 0 ≤ x4 then (if x4 ≤ (a0.size : Int) then ((spec_Var.f k x5).bind fun t1 => (if t1 = (a0.extract 0 (x4 : Int).toNat) then (some (x5, x4)) else (spec_ReadVar.l0 k a0 (wrap64 (x4 + 1))))) else none) else none)
end
def spec_ReadVar.f (k : Nat) (a0 : ByteArray) : Option (Int × Int) := spec_ReadVar.l0 k a0 1
def spec_ReadVar.P0 (k : Nat) : Prop := ∀ (a0 : ByteArray) (x4 : Int) (r : Int × Int), spec_ReadVar.l0 k a0 x4 = some r → ∀ st, canon 0 [0, 4] st = ⟨tmOf [(0, .s a0), (4, .i .i64 x4)], rsL [], 0⟩ → W env spec_ReadVar.c1 st (Qb 0 (Qs env spec_ReadVar.c0 (Qf [.t 2, .t 3] [] ([.i .i64 r.1, .i .i64 r.2], []))))
def spec_ReadVar.P1 (k : Nat) : Prop := ∀ (a0 : ByteArray) (x4 : Int) (x5 : Int) (x6 : Int) (r : Int × Int), spec_ReadVar.l1 k a0 x4 x5 x6 = some r → ∀ st, canon 0 [0, 4, 5, 6] st = ⟨tmOf [(0, .s a0), (4, .i .i64 x4), (5, .i .i64 x5), (6, .i .i64 x6)], rsL [], 0⟩ → W env spec_ReadVar.c4 st (Qb 2 (Qs env spec_ReadVar.c3 (Qb 1 (Qs env spec_ReadVar.c2 (Ql env spec_ReadVar.c1 (Qb 0 (Qs env spec_ReadVar.c0 (Qf [.t 2, .t 3] [] ([.i .i64 r.1, .i .i64 r.2], [])))))))))
set_option maxHeartbeats 4000000 in
theorem spec_ReadVar.s0 (k : Nat) (ih : spec_ReadVar.P0 k ∧ spec_ReadVar.P1 k) : spec_ReadVar.P0 (k + 1) := by
  intro a0 x4 r H st hst
  rw [spec_ReadVar.l0] at H
  rw [W_loopc (show spec_ReadVar.c1 = C.loop 0 [0, 4] spec_ReadVar.d1 from rfl), hst]
  unfold spec_ReadVar.d1
  try simp only [TN, simprocAttr, spec_ReadVar.c0, spec_ReadVar.c2, spec_ReadVar.c3]
  rcases ite_or H with ⟨h1, H⟩ | ⟨h1, H⟩
  · skip
    try simp only [TN, simprocAttr, spec_ReadVar.c0, spec_ReadVar.c2, spec_ReadVar.c3, h1]
    rcases ite_or H with ⟨h2, H⟩ | ⟨h2, H⟩
    · skip
      try simp only [TN, simprocAttr, spec_ReadVar.c0, spec_ReadVar.c2, spec_ReadVar.c3, h1, h2]
      refine ih.2 _ _ _ _ _ H _ ?_
      first | (rw [canon_eq]; done) | (rw [canon_eq]; rfl) | (rw [canon_eq]; simp only [List.length_set, List.length_append, List.length_replicate]; rfl)
    · skip
      injection H with H; subst H
      try simp only [TN, simprocAttr, spec_ReadVar.c0, spec_ReadVar.c2, spec_ReadVar.c3, h1, h2]
      try rfl
  · skip
    injection H with H; subst H
    try simp only [TN, simprocAttr, spec_ReadVar.c0, spec_ReadVar.c2, spec_ReadVar.c3, h1]
    try rfl
set_option maxHeartbeats 4000000 in
theorem spec_ReadVar.s1 (k : Nat) (ih : spec_ReadVar.P0 k ∧ spec_ReadVar.P1 k) : spec_ReadVar.P1 (k + 1) := by
  intro a0 x4 x5 x6 r H st hst
  rw [spec_ReadVar.l1] at H
  rw [W_loopc (show spec_ReadVar.c4 = C.loop 0 [0, 4, 5, 6] spec_ReadVar.d4 from rfl), hst]
  unfold spec_ReadVar.d4
  try simp only [TN, simprocAttr, spec_ReadVar.c0, spec_ReadVar.c2, spec_ReadVar.c3]
  rcases ite_or H with ⟨h1, H⟩ | ⟨h1, H⟩
  · skip
    obtain ⟨h2, H⟩ := ite_no H
    obtain ⟨h3, H⟩ := ite_no H
    try simp only [TN, simprocAttr, spec_ReadVar.c0, spec_ReadVar.c2, spec_ReadVar.c3, h1, h2, h3]
    refine ih.2 _ _ _ _ _ H _ ?_
    first | (rw [canon_eq]; done) | (rw [canon_eq]; rfl) | (rw [canon_eq]; simp only [List.length_set, List.length_append, List.length_replicate]; rfl)
  · skip
    obtain ⟨h4, H⟩ := ite_no H
    obtain ⟨h5, H⟩ := ite_no H
    obtain ⟨t1, e6, H⟩ := bnd_some H
    have e6 := spec_Var.link e6
    try simp only [TN, simprocAttr, spec_ReadVar.c0, spec_ReadVar.c2, spec_ReadVar.c3, h1, h4, h5, e6]
    rcases ite_or H with ⟨h7, H⟩ | ⟨h7, H⟩
    · skip
      injection H with H; subst H
      try simp only [TN, simprocAttr, spec_ReadVar.c0, spec_ReadVar.c2, spec_ReadVar.c3, h1, h4, h5, e6, eq_true h7]
      try rfl
    · skip
      try simp only [TN, simprocAttr, spec_ReadVar.c0, spec_ReadVar.c2, spec_ReadVar.c3, h1, h4, h5, e6, h7]
      refine ih.1 _ _ _ H _ ?_
      first | (rw [canon_eq]; done) | (rw [canon_eq]; rfl) | (rw [canon_eq]; simp only [List.length_set, List.length_append, List.length_replicate]; rfl)
theorem spec_ReadVar.w : ∀ k, spec_ReadVar.P0 k ∧ spec_ReadVar.P1 k := by
  intro k
  induction k with
  | zero => exact ⟨(by intro a0 x4 r H; cases (show (none : Option (Int × Int)) = some r from H)), (by intro a0 x4 x5 x6 r H; cases (show (none : Option (Int × Int)) = some r from H))⟩
  | succ k ih => exact ⟨(spec_ReadVar.s0 k ih), (spec_ReadVar.s1 k ih)⟩
set_option maxHeartbeats 4000000 in
theorem spec_ReadVar.link {k : Nat} {a0 : ByteArray} {r : Int × Int} (H : spec_ReadVar.f k a0 = some r) : callW env 103 [.s a0] = some ([.i .i64 r.1, .i .i64 r.2], []) := by
  unfold spec_ReadVar.f at H
  refine callW_fn' (F := spec_ReadVar.F) (tm := tmOf [(0, .s a0)]) (rs := rsL []) (nx := 0) (ow := []) rfl (by rfl) (by simp only [SN]) (by simp only [SN]) (by decide) ?_
  show W env spec_ReadVar.B _ (Qf [.t 2, .t 3] [] _)
  unfold spec_ReadVar.B
  try simp only [TN, simprocAttr, spec_ReadVar.c0, spec_ReadVar.c2, spec_ReadVar.c3]
  refine (spec_ReadVar.w k).1 _ _ _ H _ ?_
  first | (rw [canon_eq]; done) | (rw [canon_eq]; rfl) | (rw [canon_eq]; simp only [List.length_set, List.length_append, List.length_replicate]; rfl)
end Go.Proofs.Ytinlbiphjgpmmaa.P
end YtinlbiphjgpmmaaL103
section YtinlbiphjgpmmaaL70
namespace Go.Proofs.Ytinlbiphjgpmmaa.P
open Go Go.RowKit Go.Proofs.Ytinlbiphjgpmmaa.V
set_option linter.unusedVariables false
set_option linter.unusedSimpArgs false
set_option linter.all false
set_option maxRecDepth 100000
/-! ### spec_l4Num: function 70 -/
def spec_l4Num.f (k : Nat) (a0 : ByteArray) (a1 : Int) : Option (Int × Int) := if 0 ≤ a1 then (if a1 ≤ (a0.size : Int) then ((spec_ReadVar.f k (a0.extract (a1 : Int).toNat a0.size)).bind fun bt1 => (if bt1.2 = 0 then (some (0, (-1))) else (some (bt1.1, wrap64 (a1 + bt1.2))))) else none) else none
set_option maxHeartbeats 4000000 in
theorem spec_l4Num.link {k : Nat} {a0 : ByteArray} {a1 : Int} {r : Int × Int} (H : spec_l4Num.f k a0 a1 = some r) : callW env 70 [.s a0, .i .i64 a1] = some ([.i .i64 r.1, .i .i64 r.2], []) := by
  unfold spec_l4Num.f at H
  refine callW_fn' (F := spec_l4Num.F) (tm := tmOf [(0, .s a0), (1, .i .i64 a1)]) (rs := rsL []) (nx := 0) (ow := []) rfl (by rfl) (by simp only [SN]) (by simp only [SN]) (by decide) ?_
  show W env spec_l4Num.B _ (Qf [.t 4, .t 5] [] _)
  unfold spec_l4Num.B
  obtain ⟨h1, H⟩ := ite_no H
  obtain ⟨h2, H⟩ := ite_no H
  obtain ⟨bt1, e3, H⟩ := bnd_some H
  have e3 := spec_ReadVar.link e3
  try simp only [TN, simprocAttr, h1, h2, e3]
  rcases ite_or H with ⟨h4, H⟩ | ⟨h4, H⟩
  · skip
    injection H with H; subst H
    try simp only [TN, simprocAttr, h1, h2, e3, eq_true h4]
    try rfl
  · skip
    injection H with H; subst H
    try simp only [TN, simprocAttr, h1, h2, e3, h4]
    try rfl
end Go.Proofs.Ytinlbiphjgpmmaa.P
end YtinlbiphjgpmmaaL70
section YtinlbiphjgpmmaaL71
namespace Go.Proofs.Ytinlbiphjgpmmaa.P
open Go Go.RowKit Go.Proofs.Ytinlbiphjgpmmaa.V
set_option linter.unusedVariables false
set_option linter.unusedSimpArgs false
set_option linter.all false
set_option maxRecDepth 100000
/-! ### spec_LabelOk: function 71 -/
def spec_LabelOk.f (a0 : Int) : Option Bool := (spec_l1In.f a0 0 5).bind fun t1 => (some t1)
set_option maxHeartbeats 4000000 in
theorem spec_LabelOk.link {a0 : Int} {r : Bool} (H : spec_LabelOk.f a0 = some r) : callW env 71 [.i .i64 a0] = some ([.b r], []) := by
  unfold spec_LabelOk.f at H
  refine callW_fn' (F := spec_LabelOk.F) (tm := tmOf [(0, .i .i64 a0)]) (rs := rsL []) (nx := 0) (ow := []) rfl (by rfl) (by simp only [SN]) (by simp only [SN]) (by decide) ?_
  show W env spec_LabelOk.B _ (Qf [.t 2] [] _)
  unfold spec_LabelOk.B
  obtain ⟨t1, e1, H⟩ := bnd_some H
  have e1 := spec_l1In.link e1
  injection H with H; subst H
  try simp only [TN, simprocAttr, e1]
  try rfl
end Go.Proofs.Ytinlbiphjgpmmaa.P
end YtinlbiphjgpmmaaL71
section YtinlbiphjgpmmaaL34
namespace Go.Proofs.Ytinlbiphjgpmmaa.P
open Go Go.RowKit Go.Proofs.Ytinlbiphjgpmmaa.V
set_option linter.unusedVariables false
set_option linter.unusedSimpArgs false
set_option linter.all false
set_option maxRecDepth 100000
/-! ### spec_GetTree: function 34 -/
def spec_GetTree.l0 : Nat → ByteArray → (List S105) → Int → Int → Int → Option ((List S105) × Int)
 | 0, _, _, _, _, _ => none
 | k + 1, a0, x4, x5, x6, x7 => if x7 < x5 then ((spec_l4Num.f k a0 x6).bind fun bt3 => (if bt3.2 < 0 then (some (([] : List S105), 1)) else ((spec_LabelOk.f bt3.1).bind fun t4 => (if t4 = true then ((spec_l4Num.f k a0 bt3.2).bind fun bt5 => (if bt5.2 < 0 then (some (([] : List S105), 1)) else (if bt5.1 > 12 then (some (([] : List S105), 4)) else (if (decide (bt5.1 = 0)) = (decide (x7 = 0)) then (if x7 > 0 then (if 0 ≤ wrap64 (x7 - 1) then (if wrap64 (x7 - 1) < (x4.length : Int) then (if bt5.1 > (wrap64 (((rd_T105 x4 (wrap64 (x7 - 1))).f1) + 1)) then (some (([] : List S105), 5)) else (if x4.length < 8796093022208 then (spec_GetTree.l0 k a0 (x4 ++ ([(⟨bt3.1, bt5.1⟩ : S105)])) x5 bt5.2 (wrap64 (x7 + 1))) else none)) else none) else none) else (if x4.length < 8796093022208 then (spec_GetTree.l0 k a0 (x4 ++ ([(⟨bt3.1, bt5.1⟩ : S105)])) x5 bt5.2 (wrap64 (x7 + 1))) else none)) else (some (([] : List S105), 5)))))) else (some (([] : List S105), 3)))))) else (if x6 = (a0.size : Int) then (some (x4, 0)) else (some (([] : List S105), 6)))
def spec_GetTree.f (k : Nat) (a0 : ByteArray) : Option ((List S105) × Int) := (spec_l4Num.f k a0 0).bind fun bt1 => (if bt1.2 < 0 then (some (([] : List S105), 1)) else ((spec_l1In.f bt1.1 1 24).bind fun t2 => (if t2 = true then (spec_GetTree.l0 k a0 ([] : List S105) bt1.1 bt1.2 0) else (some (([] : List S105), 2)))))
def spec_GetTree.P0 (k : Nat) : Prop := ∀ (a0 : ByteArray) (x4 : List S105) (x5 : Int) (x6 : Int) (x7 : Int) (r : (List S105) × Int), spec_GetTree.l0 k a0 x4 x5 x6 x7 = some r → ∀ st, canon 0 [0, 4, 5, 6, 7] st = ⟨tmOf [(0, .s a0), (4, .slc 0 [] 0 2 0 x4.length), (5, .i .i64 x5), (6, .i .i64 x6), (7, .i .i64 x7)], rsL [(0, some ⟨true, 2, 0, (x4.map e105)⟩)], 1⟩ → W env spec_GetTree.c1 st (Qb 0 (Qs env spec_GetTree.c0 (Qf [.t 2, .t 3] [] ([.deep false false 2 (r.1.map e105), .i .i64 r.2], []))))
set_option maxHeartbeats 4000000 in
theorem spec_GetTree.s0 (k : Nat) (ih : spec_GetTree.P0 k) : spec_GetTree.P0 (k + 1) := by
  intro a0 x4 x5 x6 x7 r H st hst
  rw [spec_GetTree.l0] at H
  rw [W_loopc (show spec_GetTree.c1 = C.loop 0 [0, 4, 5, 6, 7] spec_GetTree.d1 from rfl), hst]
  unfold spec_GetTree.d1
  try simp only [TN, simprocAttr, spec_GetTree.c0]
  rcases ite_or H with ⟨h1, H⟩ | ⟨h1, H⟩
  · skip
    obtain ⟨bt3, e2, H⟩ := bnd_some H
    have e2 := spec_l4Num.link e2
    try simp only [TN, simprocAttr, spec_GetTree.c0, h1, e2]
    rcases ite_or H with ⟨h3, H⟩ | ⟨h3, H⟩
    · skip
      injection H with H; subst H
      try simp only [TN, simprocAttr, spec_GetTree.c0, h1, e2, h3]
      try rfl
    · skip
      obtain ⟨t4, e4, H⟩ := bnd_some H
      have e4 := spec_LabelOk.link e4
      try simp only [TN, simprocAttr, spec_GetTree.c0, h1, e2, h3, e4]
      rcases ite_b H with ⟨h5, H⟩ | ⟨h5, H⟩
      · skip
        obtain ⟨bt5, e6, H⟩ := bnd_some H
        have e6 := spec_l4Num.link e6
        try simp only [TN, simprocAttr, spec_GetTree.c0, h1, e2, h3, e4, h5, e6]
        rcases ite_or H with ⟨h7, H⟩ | ⟨h7, H⟩
        · skip
          injection H with H; subst H
          try simp only [TN, simprocAttr, spec_GetTree.c0, h1, e2, h3, e4, h5, e6, h7]
          try rfl
        · skip
          try simp only [TN, simprocAttr, spec_GetTree.c0, h1, e2, h3, e4, h5, e6, h7]
          rcases ite_or H with ⟨h8, H⟩ | ⟨h8, H⟩
          · skip
            injection H with H; subst H
            try simp only [TN, simprocAttr, spec_GetTree.c0, h1, e2, h3, e4, h5, e6, h7, h8]
            try rfl
          · skip
            try simp only [TN, simprocAttr, spec_GetTree.c0, h1, e2, h3, e4, h5, e6, h7, h8]
            rcases ite_or H with ⟨h9, H⟩ | ⟨h9, H⟩
            · skip
              try simp only [TN, simprocAttr, spec_GetTree.c0, h1, e2, h3, e4, h5, e6, h7, h8, eq_true h9]
              rcases ite_or H with ⟨h10, H⟩ | ⟨h10, H⟩
              · skip
                obtain ⟨h11, H⟩ := ite_no H
                obtain ⟨h12, H⟩ := ite_no H
                try simp only [TN, simprocAttr, spec_GetTree.c0, h1, e2, h3, e4, h5, e6, h7, h8, eq_true h9, h10, h11, h12]
                rcases ite_or H with ⟨h13, H⟩ | ⟨h13, H⟩
                · skip
                  injection H with H; subst H
                  try simp only [TN, simprocAttr, spec_GetTree.c0, h1, e2, h3, e4, h5, e6, h7, h8, eq_true h9, h10, h11, h12, h13]
                  try rfl
                · skip
                  obtain ⟨h14, H⟩ := ite_no H
                  have h15 : (x4.length + 1) * 16 ≤ 140737488355328 := by omega
                  try simp only [TN, simprocAttr, spec_GetTree.c0, h1, e2, h3, e4, h5, e6, h7, h8, eq_true h9, h10, h11, h12, h13, @litX_105_1, h14, h15]
                  refine ih _ _ _ _ _ _ H _ ?_
                  first | (rw [canon_eq]; done) | (rw [canon_eq]; rfl) | (rw [canon_eq]; simp only [List.length_set, List.length_append, List.length_replicate]; rfl)
              · skip
                obtain ⟨h16, H⟩ := ite_no H
                have h17 : (x4.length + 1) * 16 ≤ 140737488355328 := by omega
                try simp only [TN, simprocAttr, spec_GetTree.c0, h1, e2, h3, e4, h5, e6, h7, h8, eq_true h9, h10, @litX_105_1, h16, h17]
                refine ih _ _ _ _ _ _ H _ ?_
                first | (rw [canon_eq]; done) | (rw [canon_eq]; rfl) | (rw [canon_eq]; simp only [List.length_set, List.length_append, List.length_replicate]; rfl)
            · skip
              injection H with H; subst H
              try simp only [TN, simprocAttr, spec_GetTree.c0, h1, e2, h3, e4, h5, e6, h7, h8, h9]
              try rfl
      · skip
        injection H with H; subst H
        try simp only [TN, simprocAttr, spec_GetTree.c0, h1, e2, h3, e4, h5]
        try rfl
  · skip
    try simp only [TN, simprocAttr, spec_GetTree.c0, h1]
    rcases ite_or H with ⟨h18, H⟩ | ⟨h18, H⟩
    · skip
      injection H with H; subst H
      try simp only [TN, simprocAttr, spec_GetTree.c0, h1, eq_true h18]
      try rfl
    · skip
      injection H with H; subst H
      try simp only [TN, simprocAttr, spec_GetTree.c0, h1, h18]
      try rfl
theorem spec_GetTree.w : ∀ k, spec_GetTree.P0 k := by
  intro k
  induction k with
  | zero => exact by intro a0 x4 x5 x6 x7 r H; cases (show (none : Option ((List S105) × Int)) = some r from H)
  | succ k ih => exact spec_GetTree.s0 k ih
set_option maxHeartbeats 4000000 in
theorem spec_GetTree.link {k : Nat} {a0 : ByteArray} {r : (List S105) × Int} (H : spec_GetTree.f k a0 = some r) : callW env 34 [.s a0] = some ([.deep false false 2 (r.1.map e105), .i .i64 r.2], []) := by
  unfold spec_GetTree.f at H
  refine callW_fn' (F := spec_GetTree.F) (tm := tmOf [(0, .s a0)]) (rs := rsL []) (nx := 0) (ow := []) rfl (by rfl) (by simp only [SN]) (by simp only [SN]) (by decide) ?_
  show W env spec_GetTree.B _ (Qf [.t 2, .t 3] [] _)
  unfold spec_GetTree.B
  obtain ⟨bt1, e1, H⟩ := bnd_some H
  have e1 := spec_l4Num.link e1
  try simp only [TN, simprocAttr, spec_GetTree.c0, e1]
  rcases ite_or H with ⟨h2, H⟩ | ⟨h2, H⟩
  · skip
    injection H with H; subst H
    try simp only [TN, simprocAttr, spec_GetTree.c0, e1, h2]
    try rfl
  · skip
    obtain ⟨t2, e3, H⟩ := bnd_some H
    have e3 := spec_l1In.link e3
    try simp only [TN, simprocAttr, spec_GetTree.c0, e1, h2, e3]
    rcases ite_b H with ⟨h4, H⟩ | ⟨h4, H⟩
    · skip
      try simp only [TN, simprocAttr, spec_GetTree.c0, e1, h2, e3, h4]
      refine (spec_GetTree.w k) _ _ _ _ _ _ H _ ?_
      first | (rw [canon_eq]; done) | (rw [canon_eq]; rfl) | (rw [canon_eq]; simp only [List.length_set, List.length_append, List.length_replicate]; rfl)
    · skip
      injection H with H; subst H
      try simp only [TN, simprocAttr, spec_GetTree.c0, e1, h2, e3, h4]
      try rfl
end Go.Proofs.Ytinlbiphjgpmmaa.P
end YtinlbiphjgpmmaaL34
section YtinlbiphjgpmmaaL104
namespace Go.Proofs.Ytinlbiphjgpmmaa.P
open Go Go.RowKit Go.Proofs.Ytinlbiphjgpmmaa.V
set_option linter.unusedVariables false
set_option linter.unusedSimpArgs false
set_option linter.all false
set_option maxRecDepth 100000
/-! ### spec_l15Num: function 104 -/
def spec_l15Num.f (k : Nat) (p0_0 : ByteArray) (p0_1 : Int) (p0_2 : Int) (a1 : Int) (a2 : Int) : Option (Int × Int × Int) := if p0_2 = 0 then ((spec_l4Num.f k p0_0 p0_1).bind fun bt1 => (if bt1.2 < 0 then (some (0, p0_1, 1)) else (if bt1.1 > a1 then (some (0, p0_1, a2)) else (some (bt1.1, bt1.2, p0_2))))) else (some (0, p0_1, p0_2))
set_option maxHeartbeats 4000000 in
theorem spec_l15Num.link {k : Nat} {p0_0 : ByteArray} {p0_1 : Int} {p0_2 : Int} {a1 : Int} {a2 : Int} {r : Int × Int × Int} (H : spec_l15Num.f k p0_0 p0_1 p0_2 a1 a2 = some r) : callW env 104 [.deep true false 3 [[.s p0_0, .i .i64 p0_1, .i .i64 p0_2]], .i .i64 a1, .i .i64 a2] = some ([.i .i64 r.1], [some [[.s p0_0, .i .i64 r.2.1, .i .i64 r.2.2]]]) := by
  unfold spec_l15Num.f at H
  refine callW_fn' (F := spec_l15Num.F) (tm := tmOf [(0, .ptr 0 [] 0 0 0), (1, .i .i64 a1), (2, .i .i64 a2)]) (rs := rsL [(0, some ⟨true, 3, 0, [[.s p0_0, .i .i64 p0_1, .i .i64 p0_2]]⟩)]) (nx := 1) (ow := [true]) rfl (by rfl) (by simp only [SN]) (by simp only [SN]) (by decide) ?_
  show W env spec_l15Num.B _ (Qf [.t 6] [true] _)
  unfold spec_l15Num.B
  try simp only [TN, simprocAttr]
  rcases ite_or H with ⟨h1, H⟩ | ⟨h1, H⟩
  · skip
    obtain ⟨bt1, e2, H⟩ := bnd_some H
    have e2 := spec_l4Num.link e2
    try simp only [TN, simprocAttr, eq_true h1, e2]
    rcases ite_or H with ⟨h3, H⟩ | ⟨h3, H⟩
    · skip
      injection H with H; subst H
      try simp only [TN, simprocAttr, eq_true h1, e2, h3]
      try rfl
    · skip
      try simp only [TN, simprocAttr, eq_true h1, e2, h3]
      rcases ite_or H with ⟨h4, H⟩ | ⟨h4, H⟩
      · skip
        injection H with H; subst H
        try simp only [TN, simprocAttr, eq_true h1, e2, h3, h4]
        try rfl
      · skip
        injection H with H; subst H
        try simp only [TN, simprocAttr, eq_true h1, e2, h3, h4]
        try rfl
  · skip
    injection H with H; subst H
    try simp only [TN, simprocAttr, h1]
    try rfl
end Go.Proofs.Ytinlbiphjgpmmaa.P
end YtinlbiphjgpmmaaL104
section YtinlbiphjgpmmaaL105
namespace Go.Proofs.Ytinlbiphjgpmmaa.P
open Go Go.RowKit Go.Proofs.Ytinlbiphjgpmmaa.V
set_option linter.unusedVariables false
set_option linter.unusedSimpArgs false
set_option linter.all false
set_option maxRecDepth 100000
/-! ### spec_l15Get: function 105 -/
mutual
def spec_l15Get.j0 : Nat → ByteArray → Int → Int → Int → (List Int) → Int → Int → Int → Int → (List Int) → Int → Int → Int → Option (Int × (List Int) × Int × Int × Int × Int × Int)
 | 0, _, _, _, _, _, _, _, _, _, _, _, _, _ => none
 | k + 1, p0_0, c0_1, c0_2, c1_0, c1_1, c1_2, c1_3, c1_4, c2_0, c2_1, c2_2, c2_3, c2_4 => (spec_l15Num.f k p0_0 c0_1 c0_2 12 4).bind fun bt2 => (spec_l15Get.l0 k bt2.1 p0_0 bt2.2.1 bt2.2.2 c1_0 c1_1 c1_2 c1_3 c1_4 c2_0 c2_1 c2_2 c2_3 c2_4)
def spec_l15Get.l0 : Nat → Int → ByteArray → Int → Int → Int → (List Int) → Int → Int → Int → Int → (List Int) → Int → Int → Int → Option (Int × (List Int) × Int × Int × Int × Int × Int)
 | 0, _, _, _, _, _, _, _, _, _, _, _, _, _, _ => none
 | k + 1, x4, p0_0, c0_1, c0_2, c1_0, c1_1, c1_2, c1_3, c1_4, c2_0, c2_1, c2_2, c2_3, c2_4 => if x4 > 0 then ((spec_l15Num.f k p0_0 c0_1 c0_2 24 4).bind fun bt3 => (if c2_1.length < 17592186044416 then (spec_l15Get.l0 k (wrap64 (x4 - 1)) p0_0 bt3.2.1 bt3.2.2 c1_0 c1_1 c1_2 c1_3 c1_4 c2_0 (c2_1 ++ ([bt3.1])) c2_2 c2_3 c2_4) else none)) else (if c2_0 = 2 then (if c2_0 = 3 then ((spec_l15Num.f k p0_0 c0_1 c0_2 24 6).bind fun bt4 => ((spec_l15Num.f k p0_0 bt4.2.1 bt4.2.2 24 6).bind fun bt5 => (some (c2_0, c2_1, c2_2, bt4.1, bt5.1, bt5.2.1, bt5.2.2)))) else (some (c2_0, c2_1, c2_2, c2_3, c2_4, c0_1, c0_2))) else ((spec_l15Num.f k p0_0 c0_1 c0_2 5 5).bind fun bt6 => (if c2_0 = 3 then ((spec_l15Num.f k p0_0 bt6.2.1 bt6.2.2 24 6).bind fun bt7 => ((spec_l15Num.f k p0_0 bt7.2.1 bt7.2.2 24 6).bind fun bt8 => (some (c2_0, c2_1, bt6.1, bt7.1, bt8.1, bt8.2.1, bt8.2.2)))) else (some (c2_0, c2_1, bt6.1, c2_3, c2_4, bt6.2.1, bt6.2.2)))))
end
def spec_l15Get.f (k : Nat) (p0_0 : ByteArray) (p0_1 : Int) (p0_2 : Int) : Option (Int × (List Int) × Int × Int × Int × Int × Int) := (spec_l15Num.f k p0_0 p0_1 p0_2 3 3).bind fun bt1 => (if bt1.2.2 = 0 then (if bt1.1 = 0 then (spec_l15Get.j0 k p0_0 bt1.2.1 3 0 [] 0 0 0 bt1.1 [] 0 0 0) else (spec_l15Get.j0 k p0_0 bt1.2.1 bt1.2.2 0 [] 0 0 0 bt1.1 [] 0 0 0)) else (spec_l15Get.j0 k p0_0 bt1.2.1 bt1.2.2 0 [] 0 0 0 bt1.1 [] 0 0 0))
def spec_l15Get.P0 (k : Nat) : Prop := ∀ (p0_0 : ByteArray) (c0_1 : Int) (c0_2 : Int) (c1_0 : Int) (c1_1 : List Int) (c1_2 : Int) (c1_3 : Int) (c1_4 : Int) (c2_0 : Int) (c2_1 : List Int) (c2_2 : Int) (c2_3 : Int) (c2_4 : Int) (r : Int × (List Int) × Int × Int × Int × Int × Int), spec_l15Get.j0 k p0_0 c0_1 c0_2 c1_0 c1_1 c1_2 c1_3 c1_4 c2_0 c2_1 c2_2 c2_3 c2_4 = some r → ∀ st, canon 1 [0, 2, 3] st = ⟨tmOf [(0, .ptr 0 [] 0 0 0), (2, .ptr 1 [] 0 0 0), (3, .ptr 2 [] 0 0 0)], rsL [(0, some ⟨true, 3, 0, [[.s p0_0, .i .i64 c0_1, .i .i64 c0_2]]⟩), (1, some ⟨true, 5, 0, [[.i .i64 c1_0, .deep false false 1 (c1_1.map eI), .i .i64 c1_2, .i .i64 c1_3, .i .i64 c1_4]]⟩), (2, some ⟨true, 5, 0, [[.i .i64 c2_0, .deep false false 1 (c2_1.map eI), .i .i64 c2_2, .i .i64 c2_3, .i .i64 c2_4]]⟩)], 3⟩ → W env spec_l15Get.c0 (canon 1 [0, 2, 3] st) (Qf [.cell 2 (some 5)] [true] ([.agg [.i .i64 r.1, .deep false false 1 (r.2.1.map eI), .i .i64 r.2.2.1, .i .i64 r.2.2.2.1, .i .i64 r.2.2.2.2.1]], [some [[.s p0_0, .i .i64 r.2.2.2.2.2.1, .i .i64 r.2.2.2.2.2.2]]]))
def spec_l15Get.P1 (k : Nat) : Prop := ∀ (x4 : Int) (p0_0 : ByteArray) (c0_1 : Int) (c0_2 : Int) (c1_0 : Int) (c1_1 : List Int) (c1_2 : Int) (c1_3 : Int) (c1_4 : Int) (c2_0 : Int) (c2_1 : List Int) (c2_2 : Int) (c2_3 : Int) (c2_4 : Int) (r : Int × (List Int) × Int × Int × Int × Int × Int), spec_l15Get.l0 k x4 p0_0 c0_1 c0_2 c1_0 c1_1 c1_2 c1_3 c1_4 c2_0 c2_1 c2_2 c2_3 c2_4 = some r → ∀ st, canon 1 [0, 2, 3, 4] st = ⟨tmOf [(0, .ptr 0 [] 0 0 0), (2, .ptr 1 [] 0 0 0), (3, .ptr 2 [] 0 0 0), (4, .i .i64 x4)], rsL [(0, some ⟨true, 3, 0, [[.s p0_0, .i .i64 c0_1, .i .i64 c0_2]]⟩), (1, some ⟨true, 5, 0, [[.i .i64 c1_0, .deep false false 1 (c1_1.map eI), .i .i64 c1_2, .i .i64 c1_3, .i .i64 c1_4]]⟩), (2, some ⟨true, 5, 0, [[.i .i64 c2_0, .deep false false 1 (c2_1.map eI), .i .i64 c2_2, .i .i64 c2_3, .i .i64 c2_4]]⟩)], 3⟩ → W env spec_l15Get.c2 st (Qb 0 (Qs env spec_l15Get.c1 (Qf [.cell 2 (some 5)] [true] ([.agg [.i .i64 r.1, .deep false false 1 (r.2.1.map eI), .i .i64 r.2.2.1, .i .i64 r.2.2.2.1, .i .i64 r.2.2.2.2.1]], [some [[.s p0_0, .i .i64 r.2.2.2.2.2.1, .i .i64 r.2.2.2.2.2.2]]]))))
set_option maxHeartbeats 4000000 in
theorem spec_l15Get.s0 (k : Nat) (ih : spec_l15Get.P0 k ∧ spec_l15Get.P1 k) : spec_l15Get.P0 (k + 1) := by
  intro p0_0 c0_1 c0_2 c1_0 c1_1 c1_2 c1_3 c1_4 c2_0 c2_1 c2_2 c2_3 c2_4 r H st hst
  rw [spec_l15Get.j0] at H
  rw [hst]; unfold spec_l15Get.c0
  obtain ⟨bt2, e1, H⟩ := bnd_some H
  have e1 := spec_l15Num.link e1
  try simp only [TN, simprocAttr, spec_l15Get.c1, e1]
  refine ih.2 _ _ _ _ _ _ _ _ _ _ _ _ _ _ _ H _ ?_
  first | (rw [canon_eq]; done) | (rw [canon_eq]; rfl) | (rw [canon_eq]; simp only [List.length_set, List.length_append, List.length_replicate]; rfl)
set_option maxHeartbeats 4000000 in
theorem spec_l15Get.s1 (k : Nat) (ih : spec_l15Get.P0 k ∧ spec_l15Get.P1 k) : spec_l15Get.P1 (k + 1) := by
  intro x4 p0_0 c0_1 c0_2 c1_0 c1_1 c1_2 c1_3 c1_4 c2_0 c2_1 c2_2 c2_3 c2_4 r H st hst
  rw [spec_l15Get.l0] at H
  rw [W_loopc (show spec_l15Get.c2 = C.loop 1 [0, 2, 3, 4] spec_l15Get.d2 from rfl), hst]
  unfold spec_l15Get.d2
  try simp only [TN, simprocAttr, spec_l15Get.c1]
  rcases ite_or H with ⟨h1, H⟩ | ⟨h1, H⟩
  · skip
    obtain ⟨bt3, e2, H⟩ := bnd_some H
    have e2 := spec_l15Num.link e2
    obtain ⟨h3, H⟩ := ite_no H
    have h4 : (c2_1.length + 1) * 8 ≤ 140737488355328 := by omega
    try simp only [TN, simprocAttr, spec_l15Get.c1, h1, e2, h3, h4]
    refine ih.2 _ _ _ _ _ _ _ _ _ _ _ _ _ _ _ H _ ?_
    first | (rw [canon_eq]; done) | (rw [canon_eq]; rfl) | (rw [canon_eq]; simp only [List.length_set, List.length_append, List.length_replicate]; rfl)
  · skip
    try simp only [TN, simprocAttr, spec_l15Get.c1, h1]
    rcases ite_or H with ⟨h5, H⟩ | ⟨h5, H⟩
    · skip
      try simp only [TN, simprocAttr, spec_l15Get.c1, h1, eq_true h5]
      rcases ite_or H with ⟨h6, H⟩ | ⟨h6, H⟩
      · skip
        obtain ⟨bt4, e7, H⟩ := bnd_some H
        have e7 := spec_l15Num.link e7
        obtain ⟨bt5, e8, H⟩ := bnd_some H
        have e8 := spec_l15Num.link e8
        injection H with H; subst H
        try simp only [TN, simprocAttr, spec_l15Get.c1, h1, eq_true h5, eq_true h6, e7, e8]
        try rfl
      · skip
        injection H with H; subst H
        try simp only [TN, simprocAttr, spec_l15Get.c1, h1, eq_true h5, h6]
        try rfl
    · skip
      obtain ⟨bt6, e9, H⟩ := bnd_some H
      have e9 := spec_l15Num.link e9
      try simp only [TN, simprocAttr, spec_l15Get.c1, h1, h5, e9]
      rcases ite_or H with ⟨h10, H⟩ | ⟨h10, H⟩
      · skip
        obtain ⟨bt7, e11, H⟩ := bnd_some H
        have e11 := spec_l15Num.link e11
        obtain ⟨bt8, e12, H⟩ := bnd_some H
        have e12 := spec_l15Num.link e12
        injection H with H; subst H
        try simp only [TN, simprocAttr, spec_l15Get.c1, h1, h5, e9, eq_true h10, e11, e12]
        try rfl
      · skip
        injection H with H; subst H
        try simp only [TN, simprocAttr, spec_l15Get.c1, h1, h5, e9, h10]
        try rfl
theorem spec_l15Get.w : ∀ k, spec_l15Get.P0 k ∧ spec_l15Get.P1 k := by
  intro k
  induction k with
  | zero => exact ⟨(by intro p0_0 c0_1 c0_2 c1_0 c1_1 c1_2 c1_3 c1_4 c2_0 c2_1 c2_2 c2_3 c2_4 r H; cases (show (none : Option (Int × (List Int) × Int × Int × Int × Int × Int)) = some r from H)), (by intro x4 p0_0 c0_1 c0_2 c1_0 c1_1 c1_2 c1_3 c1_4 c2_0 c2_1 c2_2 c2_3 c2_4 r H; cases (show (none : Option (Int × (List Int) × Int × Int × Int × Int × Int)) = some r from H))⟩
  | succ k ih => exact ⟨(spec_l15Get.s0 k ih), (spec_l15Get.s1 k ih)⟩
set_option maxHeartbeats 4000000 in
theorem spec_l15Get.link {k : Nat} {p0_0 : ByteArray} {p0_1 : Int} {p0_2 : Int} {r : Int × (List Int) × Int × Int × Int × Int × Int} (H : spec_l15Get.f k p0_0 p0_1 p0_2 = some r) : callW env 105 [.deep true false 3 [[.s p0_0, .i .i64 p0_1, .i .i64 p0_2]]] = some ([.agg [.i .i64 r.1, .deep false false 1 (r.2.1.map eI), .i .i64 r.2.2.1, .i .i64 r.2.2.2.1, .i .i64 r.2.2.2.2.1]], [some [[.s p0_0, .i .i64 r.2.2.2.2.2.1, .i .i64 r.2.2.2.2.2.2]]]) := by
  unfold spec_l15Get.f at H
  refine callW_fn' (F := spec_l15Get.F) (tm := tmOf [(0, .ptr 0 [] 0 0 0)]) (rs := rsL [(0, some ⟨true, 3, 0, [[.s p0_0, .i .i64 p0_1, .i .i64 p0_2]]⟩)]) (nx := 1) (ow := [true]) rfl (by rfl) (by simp only [SN]) (by simp only [SN]) (by decide) ?_
  show W env spec_l15Get.B _ (Qf [.cell 2 (some 5)] [true] _)
  unfold spec_l15Get.B
  obtain ⟨bt1, e1, H⟩ := bnd_some H
  have e1 := spec_l15Num.link e1
  try simp only [TN, simprocAttr, spec_l15Get.c1, e1]
  rcases ite_or H with ⟨h2, H⟩ | ⟨h2, H⟩
  · skip
    try simp only [TN, simprocAttr, spec_l15Get.c1, e1, eq_true h2]
    rcases ite_or H with ⟨h3, H⟩ | ⟨h3, H⟩
    · skip
      try simp only [TN, simprocAttr, spec_l15Get.c1, e1, eq_true h2, eq_true h3]
      refine (spec_l15Get.w k).1 _ _ _ _ _ _ _ _ _ _ _ _ _ _ H _ ?_
      first | (rw [canon_eq]; done) | (rw [canon_eq]; rfl) | (rw [canon_eq]; simp only [List.length_set, List.length_append, List.length_replicate]; rfl)
    · skip
      try simp only [TN, simprocAttr, spec_l15Get.c1, e1, eq_true h2, h3]
      refine (spec_l15Get.w k).1 _ _ _ _ _ _ _ _ _ _ _ _ _ _ H _ ?_
      first | (rw [canon_eq]; done) | (rw [canon_eq]; rfl) | (rw [canon_eq]; simp only [List.length_set, List.length_append, List.length_replicate]; rfl)
  · skip
    try simp only [TN, simprocAttr, spec_l15Get.c1, e1, h2]
    refine (spec_l15Get.w k).1 _ _ _ _ _ _ _ _ _ _ _ _ _ _ H _ ?_
    first | (rw [canon_eq]; done) | (rw [canon_eq]; rfl) | (rw [canon_eq]; simp only [List.length_set, List.length_append, List.length_replicate]; rfl)
end Go.Proofs.Ytinlbiphjgpmmaa.P
end YtinlbiphjgpmmaaL105
section YtinlbiphjgpmmaaL72
namespace Go.Proofs.Ytinlbiphjgpmmaa.P
open Go Go.RowKit Go.Proofs.Ytinlbiphjgpmmaa.V
set_option linter.unusedVariables false
set_option linter.unusedSimpArgs false
set_option linter.all false
set_option maxRecDepth 100000
/-! ### spec_GetScript: function 72 -/
def spec_GetScript.l0 : Nat → ByteArray → (List S87) → Int → ByteArray → Int → Int → Option ((List S87) × Int)
 | 0, _, _, _, _, _, _ => none
 | k + 1, a0, x5, x6, c0_0, c0_1, c0_2 => if x6 > 0 then (if c0_2 = 0 then ((spec_l15Get.f k c0_0 c0_1 c0_2).bind fun bt2 => (if x5.length < 2513169434916 then (spec_GetScript.l0 k a0 (x5 ++ ([(⟨bt2.1, bt2.2.1, bt2.2.2.1, bt2.2.2.2.1, bt2.2.2.2.2.1⟩ : S87)])) (wrap64 (x6 - 1)) c0_0 bt2.2.2.2.2.2.1 bt2.2.2.2.2.2.2) else none)) else (some (([] : List S87), c0_2))) else (if c0_2 = 0 then (if c0_1 = (a0.size : Int) then (some (x5, 0)) else (some (([] : List S87), 7))) else (some (([] : List S87), c0_2)))
def spec_GetScript.f (k : Nat) (a0 : ByteArray) : Option ((List S87) × Int) := (spec_l15Num.f k a0 0 0 60 2).bind fun bt1 => (spec_GetScript.l0 k a0 ([] : List S87) bt1.1 a0 bt1.2.1 bt1.2.2)
def spec_GetScript.P0 (k : Nat) : Prop := ∀ (a0 : ByteArray) (x5 : List S87) (x6 : Int) (c0_0 : ByteArray) (c0_1 : Int) (c0_2 : Int) (r : (List S87) × Int), spec_GetScript.l0 k a0 x5 x6 c0_0 c0_1 c0_2 = some r → ∀ st, canon 0 [0, 4, 5, 6] st = ⟨tmOf [(0, .s a0), (4, .ptr 0 [] 0 0 0), (5, .slc 1 [] 0 5 0 x5.length), (6, .i .i64 x6)], rsL [(0, some ⟨true, 3, 0, [[.s c0_0, .i .i64 c0_1, .i .i64 c0_2]]⟩), (1, some ⟨true, 5, 0, (x5.map (e87 false))⟩)], 2⟩ → W env spec_GetScript.c1 st (Qb 0 (Qs env spec_GetScript.c0 (Qf [.t 2, .t 3] [] ([.deep false false 5 (r.1.map (e87 false)), .i .i64 r.2], []))))
set_option maxHeartbeats 4000000 in
theorem spec_GetScript.s0 (k : Nat) (ih : spec_GetScript.P0 k) : spec_GetScript.P0 (k + 1) := by
  intro a0 x5 x6 c0_0 c0_1 c0_2 r H st hst
  rw [spec_GetScript.l0] at H
  rw [W_loopc (show spec_GetScript.c1 = C.loop 0 [0, 4, 5, 6] spec_GetScript.d1 from rfl), hst]
  unfold spec_GetScript.d1
  try simp only [TN, simprocAttr, spec_GetScript.c0]
  rcases ite_or H with ⟨h1, H⟩ | ⟨h1, H⟩
  · skip
    try simp only [TN, simprocAttr, spec_GetScript.c0, h1]
    rcases ite_or H with ⟨h2, H⟩ | ⟨h2, H⟩
    · skip
      obtain ⟨bt2, e3, H⟩ := bnd_some H
      have e3 := spec_l15Get.link e3
      obtain ⟨h4, H⟩ := ite_no H
      have h5 : (x5.length + 1) * 56 ≤ 140737488355328 := by omega
      try simp only [TN, simprocAttr, spec_GetScript.c0, h1, eq_true h2, e3, @litX_87_1, h4, h5]
      refine ih _ _ _ _ _ _ _ H _ ?_
      first | (rw [canon_eq]; done) | (rw [canon_eq]; rfl) | (rw [canon_eq]; simp only [List.length_set, List.length_append, List.length_replicate]; rfl)
    · skip
      injection H with H; subst H
      try simp only [TN, simprocAttr, spec_GetScript.c0, h1, h2]
      try rfl
  · skip
    try simp only [TN, simprocAttr, spec_GetScript.c0, h1]
    rcases ite_or H with ⟨h6, H⟩ | ⟨h6, H⟩
    · skip
      try simp only [TN, simprocAttr, spec_GetScript.c0, h1, eq_true h6]
      rcases ite_or H with ⟨h7, H⟩ | ⟨h7, H⟩
      · skip
        injection H with H; subst H
        try simp only [TN, simprocAttr, spec_GetScript.c0, h1, eq_true h6, eq_true h7]
        try rfl
      · skip
        injection H with H; subst H
        try simp only [TN, simprocAttr, spec_GetScript.c0, h1, eq_true h6, h7]
        try rfl
    · skip
      injection H with H; subst H
      try simp only [TN, simprocAttr, spec_GetScript.c0, h1, h6]
      try rfl
theorem spec_GetScript.w : ∀ k, spec_GetScript.P0 k := by
  intro k
  induction k with
  | zero => exact by intro a0 x5 x6 c0_0 c0_1 c0_2 r H; cases (show (none : Option ((List S87) × Int)) = some r from H)
  | succ k ih => exact spec_GetScript.s0 k ih
set_option maxHeartbeats 4000000 in
theorem spec_GetScript.link {k : Nat} {a0 : ByteArray} {r : (List S87) × Int} (H : spec_GetScript.f k a0 = some r) : callW env 72 [.s a0] = some ([.deep false false 5 (r.1.map (e87 false)), .i .i64 r.2], []) := by
  unfold spec_GetScript.f at H
  refine callW_fn' (F := spec_GetScript.F) (tm := tmOf [(0, .s a0)]) (rs := rsL []) (nx := 0) (ow := []) rfl (by rfl) (by simp only [SN]) (by simp only [SN]) (by decide) ?_
  show W env spec_GetScript.B _ (Qf [.t 2, .t 3] [] _)
  unfold spec_GetScript.B
  obtain ⟨bt1, e1, H⟩ := bnd_some H
  have e1 := spec_l15Num.link e1
  try simp only [TN, simprocAttr, spec_GetScript.c0, e1]
  refine (spec_GetScript.w k) _ _ _ _ _ _ _ H _ ?_
  first | (rw [canon_eq]; done) | (rw [canon_eq]; rfl) | (rw [canon_eq]; simp only [List.length_set, List.length_append, List.length_replicate]; rfl)
end Go.Proofs.Ytinlbiphjgpmmaa.P
end YtinlbiphjgpmmaaL72
section YtinlbiphjgpmmaaL85
namespace Go.Proofs.Ytinlbiphjgpmmaa.P
open Go Go.RowKit Go.Proofs.Ytinlbiphjgpmmaa.V
set_option linter.unusedVariables false
set_option linter.unusedSimpArgs false
set_option linter.all false
set_option maxRecDepth 100000
/-! ### spec_l3Copy: function 85 -/
def spec_l3Copy.f (l0 : List S105) : Option (List S105) := if l0.length * 16 ≤ 140737488355328 then (some l0) else none
set_option maxHeartbeats 4000000 in
theorem spec_l3Copy.link {l0 : List S105} {r : (List S105)} (H : spec_l3Copy.f l0 = some r) : callW env 85 [.deep false true 2 (l0.map e105)] = some ([.deep false false 2 (r.map e105)], [none]) := by
  unfold spec_l3Copy.f at H
  refine callW_fn' (F := spec_l3Copy.F) (tm := tmOf [(0, .slc 0 [] 0 2 0 l0.length)]) (rs := rsL [(0, some ⟨false, 2, 0, (l0.map e105)⟩)]) (nx := 1) (ow := [false]) rfl (by rfl) (by simp only [SN]) (by simp only [SN]) (by decide) ?_
  show W env spec_l3Copy.B _ (Qf [.t 2] [false] _)
  unfold spec_l3Copy.B
  obtain ⟨h1, H⟩ := ite_no H
  injection H with H; subst H
  try simp only [TN, simprocAttr, h1]
  try rfl
end Go.Proofs.Ytinlbiphjgpmmaa.P
end YtinlbiphjgpmmaaL85
section YtinlbiphjgpmmaaL86
namespace Go.Proofs.Ytinlbiphjgpmmaa.P
open Go Go.RowKit Go.Proofs.Ytinlbiphjgpmmaa.V
set_option linter.unusedVariables false
set_option linter.unusedSimpArgs false
set_option linter.all false
set_option maxRecDepth 100000
/-! ### spec_TreeOk: function 86 -/
def spec_TreeOk.l0 : Nat → (List S105) → Int → Option Bool
 | 0, _, _ => none
 | k + 1, l0, x3 => if x3 < (l0.length : Int) then (if 0 ≤ x3 then ((spec_LabelOk.f ((rd_T105 l0 x3).f0)).bind fun t1 => (if t1 = true then ((spec_l1In.f ((rd_T105 l0 x3).f1) 0 12).bind fun t2 => (if t2 = true then (if (decide (((rd_T105 l0 x3).f1) = 0)) = (decide (x3 = 0)) then (if x3 > 0 then (if 0 ≤ wrap64 (x3 - 1) then (if wrap64 (x3 - 1) < (l0.length : Int) then (if ((rd_T105 l0 x3).f1) > (wrap64 (((rd_T105 l0 (wrap64 (x3 - 1))).f1) + 1)) then (some false) else (spec_TreeOk.l0 k l0 (wrap64 (x3 + 1)))) else none) else none) else (spec_TreeOk.l0 k l0 (wrap64 (x3 + 1)))) else (some false)) else (some false))) else (some false))) else none) else ((spec_l1In.f (l0.length : Int) 1 24).bind fun t3 => (some t3))
def spec_TreeOk.f (k : Nat) (l0 : List S105) : Option Bool := spec_TreeOk.l0 k l0 0
def spec_TreeOk.P0 (k : Nat) : Prop := ∀ (l0 : List S105) (x3 : Int) (r : Bool), spec_TreeOk.l0 k l0 x3 = some r → ∀ st, canon 1 [0, 3] st = ⟨tmOf [(0, .slc 0 [] 0 2 0 l0.length), (3, .i .i64 x3)], rsL [(0, some ⟨false, 2, 0, (l0.map e105)⟩)], 1⟩ → W env spec_TreeOk.c1 st (Qb 0 (Qs env spec_TreeOk.c0 (Qf [.t 2] [false] ([.b r], [none]))))
set_option maxHeartbeats 4000000 in
theorem spec_TreeOk.s0 (k : Nat) (ih : spec_TreeOk.P0 k) : spec_TreeOk.P0 (k + 1) := by
  intro l0 x3 r H st hst
  rw [spec_TreeOk.l0] at H
  rw [W_loopc (show spec_TreeOk.c1 = C.loop 1 [0, 3] spec_TreeOk.d1 from rfl), hst]
  unfold spec_TreeOk.d1
  try simp only [TN, simprocAttr, spec_TreeOk.c0]
  rcases ite_or H with ⟨h1, H⟩ | ⟨h1, H⟩
  · skip
    obtain ⟨h2, H⟩ := ite_no H
    obtain ⟨t1, e3, H⟩ := bnd_some H
    have e3 := spec_LabelOk.link e3
    try simp only [TN, simprocAttr, spec_TreeOk.c0, h1, h2, e3]
    rcases ite_b H with ⟨h4, H⟩ | ⟨h4, H⟩
    · skip
      obtain ⟨t2, e5, H⟩ := bnd_some H
      have e5 := spec_l1In.link e5
      try simp only [TN, simprocAttr, spec_TreeOk.c0, h1, h2, e3, h4, e5]
      rcases ite_b H with ⟨h6, H⟩ | ⟨h6, H⟩
      · skip
        try simp only [TN, simprocAttr, spec_TreeOk.c0, h1, h2, e3, h4, e5, h6]
        rcases ite_or H with ⟨h7, H⟩ | ⟨h7, H⟩
        · skip
          try simp only [TN, simprocAttr, spec_TreeOk.c0, h1, h2, e3, h4, e5, h6, eq_true h7]
          rcases ite_or H with ⟨h8, H⟩ | ⟨h8, H⟩
          · skip
            obtain ⟨h9, H⟩ := ite_no H
            obtain ⟨h10, H⟩ := ite_no H
            try simp only [TN, simprocAttr, spec_TreeOk.c0, h1, h2, e3, h4, e5, h6, eq_true h7, h8, h9, h10]
            rcases ite_or H with ⟨h11, H⟩ | ⟨h11, H⟩
            · skip
              injection H with H; subst H
              try simp only [TN, simprocAttr, spec_TreeOk.c0, h1, h2, e3, h4, e5, h6, eq_true h7, h8, h9, h10, h11]
              try rfl
            · skip
              try simp only [TN, simprocAttr, spec_TreeOk.c0, h1, h2, e3, h4, e5, h6, eq_true h7, h8, h9, h10, h11]
              refine ih _ _ _ H _ ?_
              first | (rw [canon_eq]; done) | (rw [canon_eq]; rfl) | (rw [canon_eq]; simp only [List.length_set, List.length_append, List.length_replicate]; rfl)
          · skip
            try simp only [TN, simprocAttr, spec_TreeOk.c0, h1, h2, e3, h4, e5, h6, eq_true h7, h8]
            refine ih _ _ _ H _ ?_
            first | (rw [canon_eq]; done) | (rw [canon_eq]; rfl) | (rw [canon_eq]; simp only [List.length_set, List.length_append, List.length_replicate]; rfl)
        · skip
          injection H with H; subst H
          try simp only [TN, simprocAttr, spec_TreeOk.c0, h1, h2, e3, h4, e5, h6, h7]
          try rfl
      · skip
        injection H with H; subst H
        try simp only [TN, simprocAttr, spec_TreeOk.c0, h1, h2, e3, h4, e5, h6]
        try rfl
    · skip
      injection H with H; subst H
      try simp only [TN, simprocAttr, spec_TreeOk.c0, h1, h2, e3, h4]
      try rfl
  · skip
    obtain ⟨t3, e12, H⟩ := bnd_some H
    have e12 := spec_l1In.link e12
    injection H with H; subst H
    try simp only [TN, simprocAttr, spec_TreeOk.c0, h1, e12]
    try rfl
theorem spec_TreeOk.w : ∀ k, spec_TreeOk.P0 k := by
  intro k
  induction k with
  | zero => exact by intro l0 x3 r H; cases (show (none : Option Bool) = some r from H)
  | succ k ih => exact spec_TreeOk.s0 k ih
set_option maxHeartbeats 4000000 in
theorem spec_TreeOk.link {k : Nat} {l0 : List S105} {r : Bool} (H : spec_TreeOk.f k l0 = some r) : callW env 86 [.deep false true 2 (l0.map e105)] = some ([.b r], [none]) := by
  unfold spec_TreeOk.f at H
  refine callW_fn' (F := spec_TreeOk.F) (tm := tmOf [(0, .slc 0 [] 0 2 0 l0.length)]) (rs := rsL [(0, some ⟨false, 2, 0, (l0.map e105)⟩)]) (nx := 1) (ow := [false]) rfl (by rfl) (by simp only [SN]) (by simp only [SN]) (by decide) ?_
  show W env spec_TreeOk.B _ (Qf [.t 2] [false] _)
  unfold spec_TreeOk.B
  try simp only [TN, simprocAttr, spec_TreeOk.c0]
  refine (spec_TreeOk.w k) _ _ _ H _ ?_
  first | (rw [canon_eq]; done) | (rw [canon_eq]; rfl) | (rw [canon_eq]; simp only [List.length_set, List.length_append, List.length_replicate]; rfl)
end Go.Proofs.Ytinlbiphjgpmmaa.P
end YtinlbiphjgpmmaaL86
section YtinlbiphjgpmmaaL131
namespace Go.Proofs.Ytinlbiphjgpmmaa.P
open Go Go.RowKit Go.Proofs.Ytinlbiphjgpmmaa.V
set_option linter.unusedVariables false
set_option linter.unusedSimpArgs false
set_option linter.all false
set_option maxRecDepth 100000
/-! ### spec_l3At: function 131 -/
def spec_l3At.f (k : Nat) (l0 : List S105) (a1 : Int) : Option Bool := (spec_TreeOk.f k l0).bind fun t1 => (if t1 = true then ((spec_l1In.f a1 0 (wrap64 ((l0.length : Int) - 1))).bind fun t2 => (some t2)) else (some false))
set_option maxHeartbeats 4000000 in
theorem spec_l3At.link {k : Nat} {l0 : List S105} {a1 : Int} {r : Bool} (H : spec_l3At.f k l0 a1 = some r) : callW env 131 [.deep false true 2 (l0.map e105), .i .i64 a1] = some ([.b r], [none]) := by
  unfold spec_l3At.f at H
  refine callW_fn' (F := spec_l3At.F) (tm := tmOf [(0, .slc 0 [] 0 2 0 l0.length), (1, .i .i64 a1)]) (rs := rsL [(0, some ⟨false, 2, 0, (l0.map e105)⟩)]) (nx := 1) (ow := [false]) rfl (by rfl) (by simp only [SN]) (by simp only [SN]) (by decide) ?_
  show W env spec_l3At.B _ (Qf [.t 4] [false] _)
  unfold spec_l3At.B
  obtain ⟨t1, e1, H⟩ := bnd_some H
  have e1 := spec_TreeOk.link e1
  try simp only [TN, simprocAttr, e1]
  rcases ite_b H with ⟨h2, H⟩ | ⟨h2, H⟩
  · skip
    obtain ⟨t2, e3, H⟩ := bnd_some H
    have e3 := spec_l1In.link e3
    injection H with H; subst H
    try simp only [TN, simprocAttr, e1, h2, e3]
    try rfl
  · skip
    injection H with H; subst H
    try simp only [TN, simprocAttr, e1, h2]
    try rfl
end Go.Proofs.Ytinlbiphjgpmmaa.P
end YtinlbiphjgpmmaaL131
section YtinlbiphjgpmmaaL118
namespace Go.Proofs.Ytinlbiphjgpmmaa.P
open Go Go.RowKit Go.Proofs.Ytinlbiphjgpmmaa.V
set_option linter.unusedVariables false
set_option linter.unusedSimpArgs false
set_option linter.all false
set_option maxRecDepth 100000
/-! ### spec_EndOf: function 118 -/
def spec_EndOf.l0 : Nat → (List S105) → Int → Int → Option Int
 | 0, _, _, _ => none
 | k + 1, l0, a1, x5 => if x5 < (l0.length : Int) then (if 0 ≤ x5 then (if 0 ≤ a1 then (if a1 < (l0.length : Int) then (if ((rd_T105 l0 x5).f1) > ((rd_T105 l0 a1).f1) then (spec_EndOf.l0 k l0 a1 (wrap64 (x5 + 1))) else (some x5)) else none) else none) else none) else (some x5)
def spec_EndOf.f (k : Nat) (l0 : List S105) (a1 : Int) : Option Int := (spec_l3At.f k l0 a1).bind fun t1 => (if t1 = true then (spec_EndOf.l0 k l0 a1 (wrap64 (a1 + 1))) else (some (-1)))
def spec_EndOf.P0 (k : Nat) : Prop := ∀ (l0 : List S105) (a1 : Int) (x5 : Int) (r : Int), spec_EndOf.l0 k l0 a1 x5 = some r → ∀ st, canon 1 [0, 1, 5] st = ⟨tmOf [(0, .slc 0 [] 0 2 0 l0.length), (1, .i .i64 a1), (5, .i .i64 x5)], rsL [(0, some ⟨false, 2, 0, (l0.map e105)⟩)], 1⟩ → W env spec_EndOf.c1 st (Qb 0 (Qs env spec_EndOf.c0 (Qf [.t 4] [false] ([.i .i64 r], [none]))))
set_option maxHeartbeats 4000000 in
theorem spec_EndOf.s0 (k : Nat) (ih : spec_EndOf.P0 k) : spec_EndOf.P0 (k + 1) := by
  intro l0 a1 x5 r H st hst
  rw [spec_EndOf.l0] at H
  rw [W_loopc (show spec_EndOf.c1 = C.loop 1 [0, 1, 5] spec_EndOf.d1 from rfl), hst]
  unfold spec_EndOf.d1
  try simp only [TN, simprocAttr, spec_EndOf.c0]
  rcases ite_or H with ⟨h1, H⟩ | ⟨h1, H⟩
  · skip
    obtain ⟨h2, H⟩ := ite_no H
    obtain ⟨h3, H⟩ := ite_no H
    obtain ⟨h4, H⟩ := ite_no H
    try simp only [TN, simprocAttr, spec_EndOf.c0, h1, h2, h3, h4]
    rcases ite_or H with ⟨h5, H⟩ | ⟨h5, H⟩
    · skip
      try simp only [TN, simprocAttr, spec_EndOf.c0, h1, h2, h3, h4, h5]
      refine ih _ _ _ _ H _ ?_
      first | (rw [canon_eq]; done) | (rw [canon_eq]; rfl) | (rw [canon_eq]; simp only [List.length_set, List.length_append, List.length_replicate]; rfl)
    · skip
      injection H with H; subst H
      try simp only [TN, simprocAttr, spec_EndOf.c0, h1, h2, h3, h4, h5]
      try rfl
  · skip
    injection H with H; subst H
    try simp only [TN, simprocAttr, spec_EndOf.c0, h1]
    try rfl
theorem spec_EndOf.w : ∀ k, spec_EndOf.P0 k := by
  intro k
  induction k with
  | zero => exact by intro l0 a1 x5 r H; cases (show (none : Option Int) = some r from H)
  | succ k ih => exact spec_EndOf.s0 k ih
set_option maxHeartbeats 4000000 in
theorem spec_EndOf.link {k : Nat} {l0 : List S105} {a1 : Int} {r : Int} (H : spec_EndOf.f k l0 a1 = some r) : callW env 118 [.deep false true 2 (l0.map e105), .i .i64 a1] = some ([.i .i64 r], [none]) := by
  unfold spec_EndOf.f at H
  refine callW_fn' (F := spec_EndOf.F) (tm := tmOf [(0, .slc 0 [] 0 2 0 l0.length), (1, .i .i64 a1)]) (rs := rsL [(0, some ⟨false, 2, 0, (l0.map e105)⟩)]) (nx := 1) (ow := [false]) rfl (by rfl) (by simp only [SN]) (by simp only [SN]) (by decide) ?_
  show W env spec_EndOf.B _ (Qf [.t 4] [false] _)
  unfold spec_EndOf.B
  obtain ⟨t1, e1, H⟩ := bnd_some H
  have e1 := spec_l3At.link e1
  try simp only [TN, simprocAttr, spec_EndOf.c0, e1]
  rcases ite_b H with ⟨h2, H⟩ | ⟨h2, H⟩
  · skip
    try simp only [TN, simprocAttr, spec_EndOf.c0, e1, h2]
    refine (spec_EndOf.w k) _ _ _ _ H _ ?_
    first | (rw [canon_eq]; done) | (rw [canon_eq]; rfl) | (rw [canon_eq]; simp only [List.length_set, List.length_append, List.length_replicate]; rfl)
  · skip
    injection H with H; subst H
    try simp only [TN, simprocAttr, spec_EndOf.c0, e1, h2]
    try rfl
end Go.Proofs.Ytinlbiphjgpmmaa.P
end YtinlbiphjgpmmaaL118
section YtinlbiphjgpmmaaL120
namespace Go.Proofs.Ytinlbiphjgpmmaa.P
open Go Go.RowKit Go.Proofs.Ytinlbiphjgpmmaa.V
set_option linter.unusedVariables false
set_option linter.unusedSimpArgs false
set_option linter.all false
set_option maxRecDepth 100000
/-! ### spec_KidsOf: function 120 -/
def spec_KidsOf.l0 : Nat → (List S105) → Int → (List Int) → Int → Option (List Int)
 | 0, _, _, _, _ => none
 | k + 1, l0, a1, x5, x6 => (spec_l3At.f k l0 a1).bind fun t1 => (if t1 = true then ((spec_EndOf.f k l0 a1).bind fun t2 => (if x6 < t2 then (if 0 ≤ x6 then (if x6 < (l0.length : Int) then (if 0 ≤ a1 then (if a1 < (l0.length : Int) then (if ((rd_T105 l0 x6).f1) = (wrap64 (((rd_T105 l0 a1).f1) + 1)) then (if x5.length < 17592186044416 then (spec_KidsOf.l0 k l0 a1 (x5 ++ ([x6])) (wrap64 (x6 + 1))) else none) else (spec_KidsOf.l0 k l0 a1 x5 (wrap64 (x6 + 1)))) else none) else none) else none) else none) else (some x5))) else (some x5))
def spec_KidsOf.f (k : Nat) (l0 : List S105) (a1 : Int) : Option (List Int) := spec_KidsOf.l0 k l0 a1 ([] : List Int) (wrap64 (a1 + 1))
def spec_KidsOf.P0 (k : Nat) : Prop := ∀ (l0 : List S105) (a1 : Int) (x5 : List Int) (x6 : Int) (r : (List Int)), spec_KidsOf.l0 k l0 a1 x5 x6 = some r → ∀ st, canon 1 [0, 1, 5, 6] st = ⟨tmOf [(0, .slc 0 [] 0 2 0 l0.length), (1, .i .i64 a1), (5, .slc 1 [] 0 1 0 x5.length), (6, .i .i64 x6)], rsL [(0, some ⟨false, 2, 0, (l0.map e105)⟩), (1, some ⟨true, 1, 0, (x5.map eI)⟩)], 2⟩ → W env spec_KidsOf.c1 st (Qb 0 (Qs env spec_KidsOf.c0 (Qf [.t 4] [false] ([.deep false false 1 (r.map eI)], [none]))))
set_option maxHeartbeats 4000000 in
theorem spec_KidsOf.s0 (k : Nat) (ih : spec_KidsOf.P0 k) : spec_KidsOf.P0 (k + 1) := by
  intro l0 a1 x5 x6 r H st hst
  rw [spec_KidsOf.l0] at H
  rw [W_loopc (show spec_KidsOf.c1 = C.loop 1 [0, 1, 5, 6] spec_KidsOf.d1 from rfl), hst]
  unfold spec_KidsOf.d1
  obtain ⟨t1, e1, H⟩ := bnd_some H
  have e1 := spec_l3At.link e1
  try simp only [TN, simprocAttr, spec_KidsOf.c0, e1]
  rcases ite_b H with ⟨h2, H⟩ | ⟨h2, H⟩
  · skip
    obtain ⟨t2, e3, H⟩ := bnd_some H
    have e3 := spec_EndOf.link e3
    try simp only [TN, simprocAttr, spec_KidsOf.c0, e1, h2, e3]
    rcases ite_or H with ⟨h4, H⟩ | ⟨h4, H⟩
    · skip
      obtain ⟨h5, H⟩ := ite_no H
      obtain ⟨h6, H⟩ := ite_no H
      obtain ⟨h7, H⟩ := ite_no H
      obtain ⟨h8, H⟩ := ite_no H
      try simp only [TN, simprocAttr, spec_KidsOf.c0, e1, h2, e3, h4, h5, h6, h7, h8]
      rcases ite_or H with ⟨h9, H⟩ | ⟨h9, H⟩
      · skip
        obtain ⟨h10, H⟩ := ite_no H
        have h11 : (x5.length + 1) * 8 ≤ 140737488355328 := by omega
        try simp only [TN, simprocAttr, spec_KidsOf.c0, e1, h2, e3, h4, h5, h6, h7, h8, eq_true h9, h10, h11]
        refine ih _ _ _ _ _ H _ ?_
        first | (rw [canon_eq]; done) | (rw [canon_eq]; rfl) | (rw [canon_eq]; simp only [List.length_set, List.length_append, List.length_replicate]; rfl)
      · skip
        try simp only [TN, simprocAttr, spec_KidsOf.c0, e1, h2, e3, h4, h5, h6, h7, h8, h9]
        refine ih _ _ _ _ _ H _ ?_
        first | (rw [canon_eq]; done) | (rw [canon_eq]; rfl) | (rw [canon_eq]; simp only [List.length_set, List.length_append, List.length_replicate]; rfl)
    · skip
      injection H with H; subst H
      try simp only [TN, simprocAttr, spec_KidsOf.c0, e1, h2, e3, h4]
      try rfl
  · skip
    injection H with H; subst H
    try simp only [TN, simprocAttr, spec_KidsOf.c0, e1, h2]
    try rfl
theorem spec_KidsOf.w : ∀ k, spec_KidsOf.P0 k := by
  intro k
  induction k with
  | zero => exact by intro l0 a1 x5 x6 r H; cases (show (none : Option (List Int)) = some r from H)
  | succ k ih => exact spec_KidsOf.s0 k ih
set_option maxHeartbeats 4000000 in
theorem spec_KidsOf.link {k : Nat} {l0 : List S105} {a1 : Int} {r : (List Int)} (H : spec_KidsOf.f k l0 a1 = some r) : callW env 120 [.deep false true 2 (l0.map e105), .i .i64 a1] = some ([.deep false false 1 (r.map eI)], [none]) := by
  unfold spec_KidsOf.f at H
  refine callW_fn' (F := spec_KidsOf.F) (tm := tmOf [(0, .slc 0 [] 0 2 0 l0.length), (1, .i .i64 a1)]) (rs := rsL [(0, some ⟨false, 2, 0, (l0.map e105)⟩)]) (nx := 1) (ow := [false]) rfl (by rfl) (by simp only [SN]) (by simp only [SN]) (by decide) ?_
  show W env spec_KidsOf.B _ (Qf [.t 4] [false] _)
  unfold spec_KidsOf.B
  try simp only [TN, simprocAttr, spec_KidsOf.c0]
  refine (spec_KidsOf.w k) _ _ _ _ _ H _ ?_
  first | (rw [canon_eq]; done) | (rw [canon_eq]; rfl) | (rw [canon_eq]; simp only [List.length_set, List.length_append, List.length_replicate]; rfl)
end Go.Proofs.Ytinlbiphjgpmmaa.P
end YtinlbiphjgpmmaaL120
section YtinlbiphjgpmmaaL116
namespace Go.Proofs.Ytinlbiphjgpmmaa.P
open Go Go.RowKit Go.Proofs.Ytinlbiphjgpmmaa.V
set_option linter.unusedVariables false
set_option linter.unusedSimpArgs false
set_option linter.all false
set_option maxRecDepth 100000
/-! ### spec_NodeAt: function 116 -/
def spec_NodeAt.l0 : Nat → (List S105) → (List Int) → Int → Int → Option Int
 | 0, _, _, _, _ => none
 | k + 1, l0, l1, x5, x6 => if x6 < (l1.length : Int) then ((spec_KidsOf.f k l0 x5).bind fun t2 => (if 0 ≤ x6 then ((spec_l1In.f (rd l1 x6) 0 (wrap64 ((t2.length : Int) - 1))).bind fun t3 => (if t3 = true then (if 0 ≤ rd l1 x6 then (if rd l1 x6 < (t2.length : Int) then (spec_NodeAt.l0 k l0 l1 (rd t2 (rd l1 x6)) (wrap64 (x6 + 1))) else none) else none) else (some (-1)))) else none)) else (some x5)
def spec_NodeAt.f (k : Nat) (l0 : List S105) (l1 : List Int) : Option Int := (spec_TreeOk.f k l0).bind fun t1 => (if t1 = true then (spec_NodeAt.l0 k l0 l1 0 0) else (some (-1)))
def spec_NodeAt.P0 (k : Nat) : Prop := ∀ (l0 : List S105) (l1 : List Int) (x5 : Int) (x6 : Int) (r : Int), spec_NodeAt.l0 k l0 l1 x5 x6 = some r → ∀ st, canon 2 [0, 1, 5, 6] st = ⟨tmOf [(0, .slc 0 [] 0 2 0 l0.length), (1, .slc 1 [] 0 1 0 l1.length), (5, .i .i64 x5), (6, .i .i64 x6)], rsL [(0, some ⟨false, 2, 0, (l0.map e105)⟩), (1, some ⟨false, 1, 0, (l1.map eI)⟩)], 2⟩ → W env spec_NodeAt.c1 st (Qb 0 (Qs env spec_NodeAt.c0 (Qf [.t 4] [false, false] ([.i .i64 r], [none, none]))))
set_option maxHeartbeats 4000000 in
theorem spec_NodeAt.s0 (k : Nat) (ih : spec_NodeAt.P0 k) : spec_NodeAt.P0 (k + 1) := by
  intro l0 l1 x5 x6 r H st hst
  rw [spec_NodeAt.l0] at H
  rw [W_loopc (show spec_NodeAt.c1 = C.loop 2 [0, 1, 5, 6] spec_NodeAt.d1 from rfl), hst]
  unfold spec_NodeAt.d1
  try simp only [TN, simprocAttr, spec_NodeAt.c0]
  rcases ite_or H with ⟨h1, H⟩ | ⟨h1, H⟩
  · skip
    obtain ⟨t2, e2, H⟩ := bnd_some H
    have e2 := spec_KidsOf.link e2
    obtain ⟨h3, H⟩ := ite_no H
    obtain ⟨t3, e4, H⟩ := bnd_some H
    have e4 := spec_l1In.link e4
    try simp only [TN, simprocAttr, spec_NodeAt.c0, h1, e2, h3, e4]
    rcases ite_b H with ⟨h5, H⟩ | ⟨h5, H⟩
    · skip
      obtain ⟨h6, H⟩ := ite_no H
      obtain ⟨h7, H⟩ := ite_no H
      try simp only [TN, simprocAttr, spec_NodeAt.c0, h1, e2, h3, e4, h5, h6, h7]
      refine ih _ _ _ _ _ H _ ?_
      first | (rw [canon_eq]; done) | (rw [canon_eq]; rfl) | (rw [canon_eq]; simp only [List.length_set, List.length_append, List.length_replicate]; rfl)
    · skip
      injection H with H; subst H
      try simp only [TN, simprocAttr, spec_NodeAt.c0, h1, e2, h3, e4, h5]
      try rfl
  · skip
    injection H with H; subst H
    try simp only [TN, simprocAttr, spec_NodeAt.c0, h1]
    try rfl
theorem spec_NodeAt.w : ∀ k, spec_NodeAt.P0 k := by
  intro k
  induction k with
  | zero => exact by intro l0 l1 x5 x6 r H; cases (show (none : Option Int) = some r from H)
  | succ k ih => exact spec_NodeAt.s0 k ih
set_option maxHeartbeats 4000000 in
theorem spec_NodeAt.link {k : Nat} {l0 : List S105} {l1 : List Int} {r : Int} (H : spec_NodeAt.f k l0 l1 = some r) : callW env 116 [.deep false true 2 (l0.map e105), .deep false true 1 (l1.map eI)] = some ([.i .i64 r], [none, none]) := by
  unfold spec_NodeAt.f at H
  refine callW_fn' (F := spec_NodeAt.F) (tm := tmOf [(0, .slc 0 [] 0 2 0 l0.length), (1, .slc 1 [] 0 1 0 l1.length)]) (rs := rsL [(0, some ⟨false, 2, 0, (l0.map e105)⟩), (1, some ⟨false, 1, 0, (l1.map eI)⟩)]) (nx := 2) (ow := [false, false]) rfl (by rfl) (by simp only [SN]) (by simp only [SN]) (by decide) ?_
  show W env spec_NodeAt.B _ (Qf [.t 4] [false, false] _)
  unfold spec_NodeAt.B
  obtain ⟨t1, e1, H⟩ := bnd_some H
  have e1 := spec_TreeOk.link e1
  try simp only [TN, simprocAttr, spec_NodeAt.c0, e1]
  rcases ite_b H with ⟨h2, H⟩ | ⟨h2, H⟩
  · skip
    try simp only [TN, simprocAttr, spec_NodeAt.c0, e1, h2]
    refine (spec_NodeAt.w k) _ _ _ _ _ H _ ?_
    first | (rw [canon_eq]; done) | (rw [canon_eq]; rfl) | (rw [canon_eq]; simp only [List.length_set, List.length_append, List.length_replicate]; rfl)
  · skip
    injection H with H; subst H
    try simp only [TN, simprocAttr, spec_NodeAt.c0, e1, h2]
    try rfl
end Go.Proofs.Ytinlbiphjgpmmaa.P
end YtinlbiphjgpmmaaL116
section YtinlbiphjgpmmaaL117
namespace Go.Proofs.Ytinlbiphjgpmmaa.P
open Go Go.RowKit Go.Proofs.Ytinlbiphjgpmmaa.V
set_option linter.unusedVariables false
set_option linter.unusedSimpArgs false
set_option linter.all false
set_option maxRecDepth 100000
/-! ### spec_l13Code: function 117 -/
def spec_l13Code.l0 : Nat → (List S105) → Int → Int → Int → Int → (List Int) → Option (Int × Int × Int)
 | 0, _, _, _, _, _, _ => none
 | k + 1, l0, x10, x11, x12, x13, l1_1 => if x13 < x11 then (if 0 ≤ x13 then (if x13 < (l0.length : Int) then (spec_l13Code.l0 k l0 x10 x11 (mx x12 (wrap64 (((rd_T105 l0 x13).f1) + 1))) (wrap64 (x13 + 1)) l1_1) else none) else none) else (if x12 > 12 then (some (7, 0, 0)) else (some (0, x10, x11)))
def spec_l13Code.f (k : Nat) (l0 : List S105) (a1_0 : Int) (l1_1 : List Int) (a1_2 : Int) (a1_3 : Int) (a1_4 : Int) (a2 : Int) : Option (Int × Int × Int) := (spec_l1In.f a1_0 1 3).bind fun t1 => (if t1 = true then (if a2 < 0 then (some (2, 0, 0)) else (if a1_0 = 2 then (if a2 = 0 then (some (4, 0, 0)) else (if a1_0 = 3 then ((spec_KidsOf.f k l0 a2).bind fun t2 => ((spec_l1In.f a1_3 0 (t2.length : Int)).bind fun t3 => (if t3 = true then ((spec_l1In.f a1_4 0 (wrap64 ((t2.length : Int) - a1_3))).bind fun t4 => (if t4 = true then ((spec_EndOf.f k l0 a2).bind fun t5 => (if t2.length < 17592186044416 then ((some (t2 ++ ([t5]) : List Int)).bind fun y0 => (if 0 ≤ a1_3 then (if a1_3 < (y0.length : Int) then (if 0 ≤ wrap64 (a1_3 + a1_4) then (if wrap64 (a1_3 + a1_4) < (y0.length : Int) then (if (l0.length : Int) = 24 then (some (6, 0, 0)) else (if 0 ≤ a2 then (if a2 < (l0.length : Int) then (spec_l13Code.l0 k l0 (rd y0 a1_3) (rd y0 (wrap64 (a1_3 + a1_4))) (wrap64 (((rd_T105 l0 a2).f1) + 1)) (rd y0 a1_3) l1_1) else none) else none)) else none) else none) else none) else none)) else none)) else (some (5, 0, 0)))) else (some (5, 0, 0))))) else (some (0, 0, 0)))) else ((spec_LabelOk.f a1_2).bind fun t6 => (if t6 = true then (if a1_0 = 3 then ((spec_KidsOf.f k l0 a2).bind fun t7 => ((spec_l1In.f a1_3 0 (t7.length : Int)).bind fun t8 => (if t8 = true then ((spec_l1In.f a1_4 0 (wrap64 ((t7.length : Int) - a1_3))).bind fun t9 => (if t9 = true then ((spec_EndOf.f k l0 a2).bind fun t10 => (if t7.length < 17592186044416 then ((some (t7 ++ ([t10]) : List Int)).bind fun y1 => (if 0 ≤ a1_3 then (if a1_3 < (y1.length : Int) then (if 0 ≤ wrap64 (a1_3 + a1_4) then (if wrap64 (a1_3 + a1_4) < (y1.length : Int) then (if (l0.length : Int) = 24 then (some (6, 0, 0)) else (if 0 ≤ a2 then (if a2 < (l0.length : Int) then (spec_l13Code.l0 k l0 (rd y1 a1_3) (rd y1 (wrap64 (a1_3 + a1_4))) (wrap64 (((rd_T105 l0 a2).f1) + 1)) (rd y1 a1_3) l1_1) else none) else none)) else none) else none) else none) else none)) else none)) else (some (5, 0, 0)))) else (some (5, 0, 0))))) else (some (0, 0, 0))) else (some (3, 0, 0)))))) else (some (1, 0, 0)))
def spec_l13Code.P0 (k : Nat) : Prop := ∀ (l0 : List S105) (x10 : Int) (x11 : Int) (x12 : Int) (x13 : Int) (l1_1 : List Int) (r : Int × Int × Int), spec_l13Code.l0 k l0 x10 x11 x12 x13 l1_1 = some r → ∀ st, canon 2 [0, 10, 11, 12, 13] st = ⟨tmOf [(0, .slc 0 [] 0 2 0 l0.length), (10, .i .i64 x10), (11, .i .i64 x11), (12, .i .i64 x12), (13, .i .i64 x13)], rsL [(0, some ⟨false, 2, 0, (l0.map e105)⟩), (1, some ⟨false, 1, 0, (l1_1.map eI)⟩)], 2⟩ → W env spec_l13Code.c1 st (Qb 1 (Qs env spec_l13Code.c0 (Qf [.t 6, .t 7, .t 8] [false, false] ([.i .i64 r.1, .i .i64 r.2.1, .i .i64 r.2.2], [none, none]))))
set_option maxHeartbeats 4000000 in
theorem spec_l13Code.s0 (k : Nat) (ih : spec_l13Code.P0 k) : spec_l13Code.P0 (k + 1) := by
  intro l0 x10 x11 x12 x13 l1_1 r H st hst
  rw [spec_l13Code.l0] at H
  rw [W_loopc (show spec_l13Code.c1 = C.loop 2 [0, 10, 11, 12, 13] spec_l13Code.d1 from rfl), hst]
  unfold spec_l13Code.d1
  try simp only [TN, simprocAttr, spec_l13Code.c0]
  rcases ite_or H with ⟨h1, H⟩ | ⟨h1, H⟩
  · skip
    obtain ⟨h2, H⟩ := ite_no H
    obtain ⟨h3, H⟩ := ite_no H
    try simp only [TN, simprocAttr, spec_l13Code.c0, h1, h2, h3]
    refine ih _ _ _ _ _ _ _ H _ ?_
    first | (rw [canon_eq]; done) | (rw [canon_eq]; rfl) | (rw [canon_eq]; simp only [List.length_set, List.length_append, List.length_replicate]; rfl)
  · skip
    try simp only [TN, simprocAttr, spec_l13Code.c0, h1]
    rcases ite_or H with ⟨h4, H⟩ | ⟨h4, H⟩
    · skip
      injection H with H; subst H
      try simp only [TN, simprocAttr, spec_l13Code.c0, h1, h4]
      try rfl
    · skip
      injection H with H; subst H
      try simp only [TN, simprocAttr, spec_l13Code.c0, h1, h4]
      try rfl
theorem spec_l13Code.w : ∀ k, spec_l13Code.P0 k := by
  intro k
  induction k with
  | zero => exact by intro l0 x10 x11 x12 x13 l1_1 r H; cases (show (none : Option (Int × Int × Int)) = some r from H)
  | succ k ih => exact spec_l13Code.s0 k ih
set_option maxHeartbeats 4000000 in
theorem spec_l13Code.link {k : Nat} {l0 : List S105} {a1_0 : Int} {l1_1 : List Int} {a1_2 : Int} {a1_3 : Int} {a1_4 : Int} {a2 : Int} {r : Int × Int × Int} (H : spec_l13Code.f k l0 a1_0 l1_1 a1_2 a1_3 a1_4 a2 = some r) : callW env 117 [.deep false true 2 (l0.map e105), .agg [.i .i64 a1_0, .deep false true 1 (l1_1.map eI), .i .i64 a1_2, .i .i64 a1_3, .i .i64 a1_4], .i .i64 a2] = some ([.i .i64 r.1, .i .i64 r.2.1, .i .i64 r.2.2], [none, none]) := by
  unfold spec_l13Code.f at H
  refine callW_fn' (F := spec_l13Code.F) (tm := tmOf [(0, .slc 0 [] 0 2 0 l0.length), (1, .agg [.i .i64 a1_0, .slc 1 [] 0 1 0 l1_1.length, .i .i64 a1_2, .i .i64 a1_3, .i .i64 a1_4]), (2, .i .i64 a2)]) (rs := rsL [(0, some ⟨false, 2, 0, (l0.map e105)⟩), (1, some ⟨false, 1, 0, (l1_1.map eI)⟩)]) (nx := 2) (ow := [false, false]) rfl (by rfl) (by simp only [SN]) (by simp only [SN]) (by decide) ?_
  show W env spec_l13Code.B _ (Qf [.t 6, .t 7, .t 8] [false, false] _)
  unfold spec_l13Code.B
  obtain ⟨t1, e1, H⟩ := bnd_some H
  have e1 := spec_l1In.link e1
  try simp only [TN, simprocAttr, spec_l13Code.c0, e1]
  rcases ite_b H with ⟨h2, H⟩ | ⟨h2, H⟩
  · skip
    try simp only [TN, simprocAttr, spec_l13Code.c0, e1, h2]
    rcases ite_or H with ⟨h3, H⟩ | ⟨h3, H⟩
    · skip
      injection H with H; subst H
      try simp only [TN, simprocAttr, spec_l13Code.c0, e1, h2, h3]
      try rfl
    · skip
      try simp only [TN, simprocAttr, spec_l13Code.c0, e1, h2, h3]
      rcases ite_or H with ⟨h4, H⟩ | ⟨h4, H⟩
      · skip
        try simp only [TN, simprocAttr, spec_l13Code.c0, e1, h2, h3, eq_true h4]
        rcases ite_or H with ⟨h5, H⟩ | ⟨h5, H⟩
        · skip
          injection H with H; subst H
          try simp only [TN, simprocAttr, spec_l13Code.c0, e1, h2, h3, eq_true h4, eq_true h5]
          try rfl
        · skip
          try simp only [TN, simprocAttr, spec_l13Code.c0, e1, h2, h3, eq_true h4, h5]
          rcases ite_or H with ⟨h6, H⟩ | ⟨h6, H⟩
          · skip
            obtain ⟨t2, e7, H⟩ := bnd_some H
            have e7 := spec_KidsOf.link e7
            obtain ⟨t3, e8, H⟩ := bnd_some H
            have e8 := spec_l1In.link e8
            try simp only [TN, simprocAttr, spec_l13Code.c0, e1, h2, h3, eq_true h4, h5, eq_true h6, e7, e8]
            rcases ite_b H with ⟨h9, H⟩ | ⟨h9, H⟩
            · skip
              obtain ⟨t4, e10, H⟩ := bnd_some H
              have e10 := spec_l1In.link e10
              try simp only [TN, simprocAttr, spec_l13Code.c0, e1, h2, h3, eq_true h4, h5, eq_true h6, e7, e8, h9, e10]
              rcases ite_b H with ⟨h11, H⟩ | ⟨h11, H⟩
              · skip
                obtain ⟨t5, e12, H⟩ := bnd_some H
                have e12 := spec_EndOf.link e12
                obtain ⟨h13, H⟩ := ite_no H
                have h14 : (t2.length + 1) * 8 ≤ 140737488355328 := by omega
                obtain ⟨_, hy15, H⟩ := some_bnd H; subst hy15
                obtain ⟨h16, H⟩ := ite_no H
                obtain ⟨h17, H⟩ := ite_no H
                obtain ⟨h18, H⟩ := ite_no H
                obtain ⟨h19, H⟩ := ite_no H
                try simp only [TN, simprocAttr, spec_l13Code.c0, e1, h2, h3, eq_true h4, h5, eq_true h6, e7, e8, h9, e10, h11, e12, h13, h14, h16, h17, h18, h19]
                rcases ite_or H with ⟨h20, H⟩ | ⟨h20, H⟩
                · skip
                  injection H with H; subst H
                  try simp only [TN, simprocAttr, spec_l13Code.c0, e1, h2, h3, eq_true h4, h5, eq_true h6, e7, e8, h9, e10, h11, e12, h13, h14, h16, h17, h18, h19, eq_true h20]
                  try rfl
                · skip
                  obtain ⟨h21, H⟩ := ite_no H
                  obtain ⟨h22, H⟩ := ite_no H
                  try simp only [TN, simprocAttr, spec_l13Code.c0, e1, h2, h3, eq_true h4, h5, eq_true h6, e7, e8, h9, e10, h11, e12, h13, h14, h16, h17, h18, h19, h20, h21, h22]
                  refine (spec_l13Code.w k) _ _ _ _ _ _ _ H _ ?_
                  first | (rw [canon_eq]; done) | (rw [canon_eq]; rfl) | (rw [canon_eq]; simp only [List.length_set, List.length_append, List.length_replicate]; rfl)
              · skip
                injection H with H; subst H
                try simp only [TN, simprocAttr, spec_l13Code.c0, e1, h2, h3, eq_true h4, h5, eq_true h6, e7, e8, h9, e10, h11]
                try rfl
            · skip
              injection H with H; subst H
              try simp only [TN, simprocAttr, spec_l13Code.c0, e1, h2, h3, eq_true h4, h5, eq_true h6, e7, e8, h9]
              try rfl
          · skip
            injection H with H; subst H
            try simp only [TN, simprocAttr, spec_l13Code.c0, e1, h2, h3, eq_true h4, h5, h6]
            try rfl
      · skip
        obtain ⟨t6, e23, H⟩ := bnd_some H
        have e23 := spec_LabelOk.link e23
        try simp only [TN, simprocAttr, spec_l13Code.c0, e1, h2, h3, h4, e23]
        rcases ite_b H with ⟨h24, H⟩ | ⟨h24, H⟩
        · skip
          try simp only [TN, simprocAttr, spec_l13Code.c0, e1, h2, h3, h4, e23, h24]
          rcases ite_or H with ⟨h25, H⟩ | ⟨h25, H⟩
          · skip
            obtain ⟨t7, e26, H⟩ := bnd_some H
            have e26 := spec_KidsOf.link e26
            obtain ⟨t8, e27, H⟩ := bnd_some H
            have e27 := spec_l1In.link e27
            try simp only [TN, simprocAttr, spec_l13Code.c0, e1, h2, h3, h4, e23, h24, eq_true h25, e26, e27]
            rcases ite_b H with ⟨h28, H⟩ | ⟨h28, H⟩
            · skip
              obtain ⟨t9, e29, H⟩ := bnd_some H
              have e29 := spec_l1In.link e29
              try simp only [TN, simprocAttr, spec_l13Code.c0, e1, h2, h3, h4, e23, h24, eq_true h25, e26, e27, h28, e29]
              rcases ite_b H with ⟨h30, H⟩ | ⟨h30, H⟩
              · skip
                obtain ⟨t10, e31, H⟩ := bnd_some H
                have e31 := spec_EndOf.link e31
                obtain ⟨h32, H⟩ := ite_no H
                have h33 : (t7.length + 1) * 8 ≤ 140737488355328 := by omega
                obtain ⟨_, hy34, H⟩ := some_bnd H; subst hy34
                obtain ⟨h35, H⟩ := ite_no H
                obtain ⟨h36, H⟩ := ite_no H
                obtain ⟨h37, H⟩ := ite_no H
                obtain ⟨h38, H⟩ := ite_no H
                try simp only [TN, simprocAttr, spec_l13Code.c0, e1, h2, h3, h4, e23, h24, eq_true h25, e26, e27, h28, e29, h30, e31, h32, h33, h35, h36, h37, h38]
                rcases ite_or H with ⟨h39, H⟩ | ⟨h39, H⟩
                · skip
                  injection H with H; subst H
                  try simp only [TN, simprocAttr, spec_l13Code.c0, e1, h2, h3, h4, e23, h24, eq_true h25, e26, e27, h28, e29, h30, e31, h32, h33, h35, h36, h37, h38, eq_true h39]
                  try rfl
                · skip
                  obtain ⟨h40, H⟩ := ite_no H
                  obtain ⟨h41, H⟩ := ite_no H
                  try simp only [TN, simprocAttr, spec_l13Code.c0, e1, h2, h3, h4, e23, h24, eq_true h25, e26, e27, h28, e29, h30, e31, h32, h33, h35, h36, h37, h38, h39, h40, h41]
                  refine (spec_l13Code.w k) _ _ _ _ _ _ _ H _ ?_
                  first | (rw [canon_eq]; done) | (rw [canon_eq]; rfl) | (rw [canon_eq]; simp only [List.length_set, List.length_append, List.length_replicate]; rfl)
              · skip
                injection H with H; subst H
                try simp only [TN, simprocAttr, spec_l13Code.c0, e1, h2, h3, h4, e23, h24, eq_true h25, e26, e27, h28, e29, h30]
                try rfl
            · skip
              injection H with H; subst H
              try simp only [TN, simprocAttr, spec_l13Code.c0, e1, h2, h3, h4, e23, h24, eq_true h25, e26, e27, h28]
              try rfl
          · skip
            injection H with H; subst H
            try simp only [TN, simprocAttr, spec_l13Code.c0, e1, h2, h3, h4, e23, h24, h25]
            try rfl
        · skip
          injection H with H; subst H
          try simp only [TN, simprocAttr, spec_l13Code.c0, e1, h2, h3, h4, e23, h24]
          try rfl
  · skip
    injection H with H; subst H
    try simp only [TN, simprocAttr, spec_l13Code.c0, e1, h2]
    try rfl
end Go.Proofs.Ytinlbiphjgpmmaa.P
end YtinlbiphjgpmmaaL117
section YtinlbiphjgpmmaaL119
namespace Go.Proofs.Ytinlbiphjgpmmaa.P
open Go Go.RowKit Go.Proofs.Ytinlbiphjgpmmaa.V
set_option linter.unusedVariables false
set_option linter.unusedSimpArgs false
set_option linter.all false
set_option maxRecDepth 100000
/-! ### spec_l13Shift: function 119 -/
def spec_l13Shift.l0 : Nat → (List S105) → Int → Int → (List S105) → Int → Option (List S105)
 | 0, _, _, _, _, _ => none
 | k + 1, l0, a2, a3, x9, a1 => if a1 < a2 then (if 0 ≤ a1 then (if a1 < (l0.length : Int) then (if x9.length < 8796093022208 then (spec_l13Shift.l0 k l0 a2 a3 (x9 ++ ([(⟨(rd_T105 l0 a1).f0, wrap64 (((rd_T105 l0 a1).f1) + a3)⟩ : S105)])) (wrap64 (a1 + 1))) else none) else none) else none) else (some x9)
def spec_l13Shift.f (k : Nat) (l0 : List S105) (a1 : Int) (a2 : Int) (a3 : Int) : Option (List S105) := spec_l13Shift.l0 k l0 a2 a3 ([] : List S105) a1
def spec_l13Shift.P0 (k : Nat) : Prop := ∀ (l0 : List S105) (a2 : Int) (a3 : Int) (x9 : List S105) (a1 : Int) (r : (List S105)), spec_l13Shift.l0 k l0 a2 a3 x9 a1 = some r → ∀ st, canon 1 [0, 2, 3, 9, 10] st = ⟨tmOf [(0, .slc 0 [] 0 2 0 l0.length), (2, .i .i64 a2), (3, .i .i64 a3), (9, .slc 1 [] 0 2 0 x9.length), (10, .i .i64 a1)], rsL [(0, some ⟨false, 2, 0, (l0.map e105)⟩), (1, some ⟨true, 2, 0, (x9.map e105)⟩)], 2⟩ → W env spec_l13Shift.c1 st (Qb 0 (Qs env spec_l13Shift.c0 (Qf [.t 8] [false] ([.deep false false 2 (r.map e105)], [none]))))
set_option maxHeartbeats 4000000 in
theorem spec_l13Shift.s0 (k : Nat) (ih : spec_l13Shift.P0 k) : spec_l13Shift.P0 (k + 1) := by
  intro l0 a2 a3 x9 a1 r H st hst
  rw [spec_l13Shift.l0] at H
  rw [W_loopc (show spec_l13Shift.c1 = C.loop 1 [0, 2, 3, 9, 10] spec_l13Shift.d1 from rfl), hst]
  unfold spec_l13Shift.d1
  try simp only [TN, simprocAttr, spec_l13Shift.c0]
  rcases ite_or H with ⟨h1, H⟩ | ⟨h1, H⟩
  · skip
    obtain ⟨h2, H⟩ := ite_no H
    obtain ⟨h3, H⟩ := ite_no H
    obtain ⟨h4, H⟩ := ite_no H
    have h5 : (x9.length + 1) * 16 ≤ 140737488355328 := by omega
    try simp only [TN, simprocAttr, spec_l13Shift.c0, h1, h2, h3, @litX_105_1, h4, h5]
    refine ih _ _ _ _ _ _ H _ ?_
    first | (rw [canon_eq]; done) | (rw [canon_eq]; rfl) | (rw [canon_eq]; simp only [List.length_set, List.length_append, List.length_replicate]; rfl)
  · skip
    injection H with H; subst H
    try simp only [TN, simprocAttr, spec_l13Shift.c0, h1]
    try rfl
theorem spec_l13Shift.w : ∀ k, spec_l13Shift.P0 k := by
  intro k
  induction k with
  | zero => exact by intro l0 a2 a3 x9 a1 r H; cases (show (none : Option (List S105)) = some r from H)
  | succ k ih => exact spec_l13Shift.s0 k ih
set_option maxHeartbeats 4000000 in
theorem spec_l13Shift.link {k : Nat} {l0 : List S105} {a1 : Int} {a2 : Int} {a3 : Int} {r : (List S105)} (H : spec_l13Shift.f k l0 a1 a2 a3 = some r) : callW env 119 [.deep false true 2 (l0.map e105), .i .i64 a1, .i .i64 a2, .i .i64 a3] = some ([.deep false false 2 (r.map e105)], [none]) := by
  unfold spec_l13Shift.f at H
  refine callW_fn' (F := spec_l13Shift.F) (tm := tmOf [(0, .slc 0 [] 0 2 0 l0.length), (1, .i .i64 a1), (2, .i .i64 a2), (3, .i .i64 a3)]) (rs := rsL [(0, some ⟨false, 2, 0, (l0.map e105)⟩)]) (nx := 1) (ow := [false]) rfl (by rfl) (by simp only [SN]) (by simp only [SN]) (by decide) ?_
  show W env spec_l13Shift.B _ (Qf [.t 8] [false] _)
  unfold spec_l13Shift.B
  try simp only [TN, simprocAttr, spec_l13Shift.c0]
  refine (spec_l13Shift.w k) _ _ _ _ _ _ H _ ?_
  first | (rw [canon_eq]; done) | (rw [canon_eq]; rfl) | (rw [canon_eq]; simp only [List.length_set, List.length_append, List.length_replicate]; rfl)
end Go.Proofs.Ytinlbiphjgpmmaa.P
end YtinlbiphjgpmmaaL119
section YtinlbiphjgpmmaaL97
namespace Go.Proofs.Ytinlbiphjgpmmaa.P
open Go Go.RowKit Go.Proofs.Ytinlbiphjgpmmaa.V
set_option linter.unusedVariables false
set_option linter.unusedSimpArgs false
set_option linter.all false
set_option maxRecDepth 100000
/-! ### spec_ApplyOp: function 97 -/
def spec_ApplyOp.f (k : Nat) (l0 : List S105) (a1_0 : Int) (l1_1 : List Int) (a1_2 : Int) (a1_3 : Int) (a1_4 : Int) : Option ((List S105) × Int) := (spec_TreeOk.f k l0).bind fun t1 => (if t1 = true then ((spec_NodeAt.f k l0 l1_1).bind fun t2 => ((spec_l3Copy.f l0).bind fun t3 => ((spec_l13Code.f k l0 a1_0 l1_1 a1_2 a1_3 a1_4 t2).bind fun bt4 => (if bt4.1 = 0 then (if a1_0 = 1 then (if 0 ≤ t2 then (if t2 < (t3.length : Int) then (some ((t3.set (t2 : Int).toNat (⟨a1_2, (rd_T105 t3 t2).f1⟩ : S105)), bt4.1)) else none) else none) else (if a1_0 = 2 then ((spec_EndOf.f k l0 t2).bind fun t5 => ((spec_l13Shift.f k l0 0 t2 0).bind fun t6 => ((spec_l13Shift.f k l0 (wrap64 (t2 + 1)) t5 (-1)).bind fun t7 => (if (t6.length + t7.length) * 16 ≤ 140737488355328 then ((some (t6 ++ t7 : List S105)).bind fun y1 => ((spec_l13Shift.f k l0 t5 (l0.length : Int) 0).bind fun t8 => (if (y1.length + t8.length) * 16 ≤ 140737488355328 then (some ((y1 ++ t8), bt4.1)) else none))) else none)))) else (if 0 ≤ t2 then (if t2 < (l0.length : Int) then ((spec_l13Shift.f k l0 0 bt4.2.1 0).bind fun t9 => (if t9.length < 8796093022208 then ((some (t9 ++ ([(⟨a1_2, wrap64 (((rd_T105 l0 t2).f1) + 1)⟩ : S105)]) : List S105)).bind fun y3 => ((spec_l13Shift.f k l0 bt4.2.1 bt4.2.2 1).bind fun t10 => (if (y3.length + t10.length) * 16 ≤ 140737488355328 then ((some (y3 ++ t10 : List S105)).bind fun y4 => ((spec_l13Shift.f k l0 bt4.2.2 (l0.length : Int) 0).bind fun t11 => (if (y4.length + t11.length) * 16 ≤ 140737488355328 then (some ((y4 ++ t11), bt4.1)) else none))) else none))) else none)) else none) else none))) else (some (t3, bt4.1)))))) else (some (([] : List S105), 2)))
set_option maxHeartbeats 4000000 in
theorem spec_ApplyOp.link {k : Nat} {l0 : List S105} {a1_0 : Int} {l1_1 : List Int} {a1_2 : Int} {a1_3 : Int} {a1_4 : Int} {r : (List S105) × Int} (H : spec_ApplyOp.f k l0 a1_0 l1_1 a1_2 a1_3 a1_4 = some r) : callW env 97 [.deep false true 2 (l0.map e105), .agg [.i .i64 a1_0, .deep false true 1 (l1_1.map eI), .i .i64 a1_2, .i .i64 a1_3, .i .i64 a1_4]] = some ([.deep false false 2 (r.1.map e105), .i .i64 r.2], [none, none]) := by
  unfold spec_ApplyOp.f at H
  refine callW_fn' (F := spec_ApplyOp.F) (tm := tmOf [(0, .slc 0 [] 0 2 0 l0.length), (1, .agg [.i .i64 a1_0, .slc 1 [] 0 1 0 l1_1.length, .i .i64 a1_2, .i .i64 a1_3, .i .i64 a1_4])]) (rs := rsL [(0, some ⟨false, 2, 0, (l0.map e105)⟩), (1, some ⟨false, 1, 0, (l1_1.map eI)⟩)]) (nx := 2) (ow := [false, false]) rfl (by rfl) (by simp only [SN]) (by simp only [SN]) (by decide) ?_
  show W env spec_ApplyOp.B _ (Qf [.t 4, .t 5] [false, false] _)
  unfold spec_ApplyOp.B
  obtain ⟨t1, e1, H⟩ := bnd_some H
  have e1 := spec_TreeOk.link e1
  try simp only [TN, simprocAttr, e1]
  rcases ite_b H with ⟨h2, H⟩ | ⟨h2, H⟩
  · skip
    obtain ⟨t2, e3, H⟩ := bnd_some H
    have e3 := spec_NodeAt.link e3
    obtain ⟨t3, e4, H⟩ := bnd_some H
    have e4 := spec_l3Copy.link e4
    obtain ⟨bt4, e5, H⟩ := bnd_some H
    have e5 := spec_l13Code.link e5
    try simp only [TN, simprocAttr, e1, h2, e3, e4, e5]
    rcases ite_or H with ⟨h6, H⟩ | ⟨h6, H⟩
    · skip
      try simp only [TN, simprocAttr, e1, h2, e3, e4, e5, eq_true h6]
      rcases ite_or H with ⟨h7, H⟩ | ⟨h7, H⟩
      · skip
        obtain ⟨h8, H⟩ := ite_no H
        obtain ⟨h9, H⟩ := ite_no H
        injection H with H; subst H
        try simp only [TN, simprocAttr, e1, h2, e3, e4, e5, eq_true h6, eq_true h7, h8, h9]
        try rfl
      · skip
        try simp only [TN, simprocAttr, e1, h2, e3, e4, e5, eq_true h6, h7]
        rcases ite_or H with ⟨h10, H⟩ | ⟨h10, H⟩
        · skip
          obtain ⟨t5, e11, H⟩ := bnd_some H
          have e11 := spec_EndOf.link e11
          obtain ⟨t6, e12, H⟩ := bnd_some H
          have e12 := spec_l13Shift.link e12
          obtain ⟨t7, e13, H⟩ := bnd_some H
          have e13 := spec_l13Shift.link e13
          obtain ⟨h14, H⟩ := ite_no H
          obtain ⟨_, hy15, H⟩ := some_bnd H; subst hy15
          obtain ⟨t8, e16, H⟩ := bnd_some H
          have e16 := spec_l13Shift.link e16
          obtain ⟨h17, H⟩ := ite_no H
          injection H with H; subst H
          try simp only [TN, simprocAttr, e1, h2, e3, e4, e5, eq_true h6, h7, eq_true h10, e11, e12, e13, h14, e16, h17]
          try rfl
        · skip
          obtain ⟨h18, H⟩ := ite_no H
          obtain ⟨h19, H⟩ := ite_no H
          obtain ⟨t9, e20, H⟩ := bnd_some H
          have e20 := spec_l13Shift.link e20
          obtain ⟨h21, H⟩ := ite_no H
          have h22 : (t9.length + 1) * 16 ≤ 140737488355328 := by omega
          obtain ⟨_, hy23, H⟩ := some_bnd H; subst hy23
          obtain ⟨t10, e24, H⟩ := bnd_some H
          have e24 := spec_l13Shift.link e24
          obtain ⟨h25, H⟩ := ite_no H
          obtain ⟨_, hy26, H⟩ := some_bnd H; subst hy26
          obtain ⟨t11, e27, H⟩ := bnd_some H
          have e27 := spec_l13Shift.link e27
          obtain ⟨h28, H⟩ := ite_no H
          injection H with H; subst H
          try simp only [TN, simprocAttr, e1, h2, e3, e4, e5, eq_true h6, h7, h10, h18, h19, e20, @litX_105_1, h21, h22, e24, h25, e27, h28]
          try rfl
    · skip
      injection H with H; subst H
      try simp only [TN, simprocAttr, e1, h2, e3, e4, e5, h6]
      try rfl
  · skip
    injection H with H; subst H
    try simp only [TN, simprocAttr, e1, h2]
    try rfl
end Go.Proofs.Ytinlbiphjgpmmaa.P
end YtinlbiphjgpmmaaL97
section YtinlbiphjgpmmaaL73
namespace Go.Proofs.Ytinlbiphjgpmmaa.P
open Go Go.RowKit Go.Proofs.Ytinlbiphjgpmmaa.V
set_option linter.unusedVariables false
set_option linter.unusedSimpArgs false
set_option linter.all false
set_option maxRecDepth 100000
/-! ### spec_ApplyAll: function 73 -/
def spec_ApplyAll.l0 : Nat → (List S87) → (List S105) → Int → (List S105) → Option ((List S105) × Int × Int)
 | 0, _, _, _, _ => none
 | k + 1, l1, x7, x8, l0 => if x8 < (l1.length : Int) then (if 0 ≤ x8 then ((spec_ApplyOp.f k x7 ((rd_T87 l1 x8).f0) ((rd_T87 l1 x8).f1) ((rd_T87 l1 x8).f2) ((rd_T87 l1 x8).f3) ((rd_T87 l1 x8).f4)).bind fun bt3 => (if bt3.2 = 0 then (spec_ApplyAll.l0 k l1 bt3.1 (wrap64 (x8 + 1)) l0) else (some (x7, x8, bt3.2)))) else none) else (some (x7, (l1.length : Int), 0))
def spec_ApplyAll.f (k : Nat) (l0 : List S105) (l1 : List S87) : Option ((List S105) × Int × Int) := (spec_TreeOk.f k l0).bind fun t1 => (if t1 = true then ((spec_l3Copy.f l0).bind fun t2 => (spec_ApplyAll.l0 k l1 t2 0 l0)) else (some (([] : List S105), 0, 2)))
def spec_ApplyAll.P0 (k : Nat) : Prop := ∀ (l1 : List S87) (x7 : List S105) (x8 : Int) (l0 : List S105) (r : (List S105) × Int × Int), spec_ApplyAll.l0 k l1 x7 x8 l0 = some r → ∀ st, canon 2 [1, 7, 8] st = ⟨tmOf [(1, .slc 1 [] 0 5 0 l1.length), (7, .slc 2 [] 0 2 0 x7.length), (8, .i .i64 x8)], rsL [(0, some ⟨false, 2, 0, (l0.map e105)⟩), (1, some ⟨false, 5, 0, (l1.map (e87 false))⟩), (2, some ⟨true, 2, 0, (x7.map e105)⟩)], 3⟩ → W env spec_ApplyAll.c1 st (Qb 0 (Qs env spec_ApplyAll.c0 (Qf [.t 4, .t 5, .t 6] [false, false] ([.deep false false 2 (r.1.map e105), .i .i64 r.2.1, .i .i64 r.2.2], [none, none]))))
set_option maxHeartbeats 4000000 in
theorem spec_ApplyAll.s0 (k : Nat) (ih : spec_ApplyAll.P0 k) : spec_ApplyAll.P0 (k + 1) := by
  intro l1 x7 x8 l0 r H st hst
  rw [spec_ApplyAll.l0] at H
  rw [W_loopc (show spec_ApplyAll.c1 = C.loop 2 [1, 7, 8] spec_ApplyAll.d1 from rfl), hst]
  unfold spec_ApplyAll.d1
  try simp only [TN, simprocAttr, spec_ApplyAll.c0]
  rcases ite_or H with ⟨h1, H⟩ | ⟨h1, H⟩
  · skip
    obtain ⟨h2, H⟩ := ite_no H
    obtain ⟨bt3, e3, H⟩ := bnd_some H
    have e3 := spec_ApplyOp.link e3
    try simp only [TN, simprocAttr, spec_ApplyAll.c0, h1, h2, e3]
    rcases ite_or H with ⟨h4, H⟩ | ⟨h4, H⟩
    · skip
      try simp only [TN, simprocAttr, spec_ApplyAll.c0, h1, h2, e3, eq_true h4]
      refine ih _ _ _ _ _ H _ ?_
      first | (rw [canon_eq]; done) | (rw [canon_eq]; rfl) | (rw [canon_eq]; simp only [List.length_set, List.length_append, List.length_replicate]; rfl)
    · skip
      injection H with H; subst H
      try simp only [TN, simprocAttr, spec_ApplyAll.c0, h1, h2, e3, h4]
      try rfl
  · skip
    injection H with H; subst H
    try simp only [TN, simprocAttr, spec_ApplyAll.c0, h1]
    try rfl
theorem spec_ApplyAll.w : ∀ k, spec_ApplyAll.P0 k := by
  intro k
  induction k with
  | zero => exact by intro l1 x7 x8 l0 r H; cases (show (none : Option ((List S105) × Int × Int)) = some r from H)
  | succ k ih => exact spec_ApplyAll.s0 k ih
set_option maxHeartbeats 4000000 in
theorem spec_ApplyAll.link {k : Nat} {l0 : List S105} {l1 : List S87} {r : (List S105) × Int × Int} (H : spec_ApplyAll.f k l0 l1 = some r) : callW env 73 [.deep false true 2 (l0.map e105), .deep false true 5 (l1.map (e87 false))] = some ([.deep false false 2 (r.1.map e105), .i .i64 r.2.1, .i .i64 r.2.2], [none, none]) := by
  unfold spec_ApplyAll.f at H
  refine callW_fn' (F := spec_ApplyAll.F) (tm := tmOf [(0, .slc 0 [] 0 2 0 l0.length), (1, .slc 1 [] 0 5 0 l1.length)]) (rs := rsL [(0, some ⟨false, 2, 0, (l0.map e105)⟩), (1, some ⟨false, 5, 0, (l1.map (e87 false))⟩)]) (nx := 2) (ow := [false, false]) rfl (by rfl) (by simp only [SN]) (by simp only [SN]) (by decide) ?_
  show W env spec_ApplyAll.B _ (Qf [.t 4, .t 5, .t 6] [false, false] _)
  unfold spec_ApplyAll.B
  obtain ⟨t1, e1, H⟩ := bnd_some H
  have e1 := spec_TreeOk.link e1
  try simp only [TN, simprocAttr, spec_ApplyAll.c0, e1]
  rcases ite_b H with ⟨h2, H⟩ | ⟨h2, H⟩
  · skip
    obtain ⟨t2, e3, H⟩ := bnd_some H
    have e3 := spec_l3Copy.link e3
    try simp only [TN, simprocAttr, spec_ApplyAll.c0, e1, h2, e3]
    refine (spec_ApplyAll.w k) _ _ _ _ _ H _ ?_
    first | (rw [canon_eq]; done) | (rw [canon_eq]; rfl) | (rw [canon_eq]; simp only [List.length_set, List.length_append, List.length_replicate]; rfl)
  · skip
    injection H with H; subst H
    try simp only [TN, simprocAttr, spec_ApplyAll.c0, e1, h2]
    try rfl
end Go.Proofs.Ytinlbiphjgpmmaa.P
end YtinlbiphjgpmmaaL73
section YtinlbiphjgpmmaaL74
namespace Go.Proofs.Ytinlbiphjgpmmaa.P
open Go Go.RowKit Go.Proofs.Ytinlbiphjgpmmaa.V
set_option linter.unusedVariables false
set_option linter.unusedSimpArgs false
set_option linter.all false
set_option maxRecDepth 100000
/-! ### spec_PutTree: function 74 -/
def spec_PutTree.l0 : Nat → (List S105) → ByteArray → Int → Option ByteArray
 | 0, _, _, _ => none
 | k + 1, l0, x3, x4 => if x4 < (l0.length : Int) then (if 0 ≤ x4 then ((spec_Var.f k ((rd_T105 l0 x4).f0)).bind fun t3 => (if x3.size + t3.size ≤ 9223372036854775807 then ((spec_Var.f k ((rd_T105 l0 x4).f1)).bind fun t4 => (if (x3 ++ t3).size + t4.size ≤ 9223372036854775807 then (spec_PutTree.l0 k l0 ((x3 ++ t3) ++ t4) (wrap64 (x4 + 1))) else none)) else none)) else none) else (some x3)
def spec_PutTree.f (k : Nat) (l0 : List S105) : Option ByteArray := (spec_TreeOk.f k l0).bind fun t1 => (if t1 = true then ((spec_Var.f k (l0.length : Int)).bind fun t2 => (spec_PutTree.l0 k l0 t2 0)) else (some (⟨#[]⟩ : ByteArray)))
def spec_PutTree.P0 (k : Nat) : Prop := ∀ (l0 : List S105) (x3 : ByteArray) (x4 : Int) (r : ByteArray), spec_PutTree.l0 k l0 x3 x4 = some r → ∀ st, canon 1 [0, 3, 4] st = ⟨tmOf [(0, .slc 0 [] 0 2 0 l0.length), (3, .s x3), (4, .i .i64 x4)], rsL [(0, some ⟨false, 2, 0, (l0.map e105)⟩)], 1⟩ → W env spec_PutTree.c1 st (Qb 0 (Qs env spec_PutTree.c0 (Qf [.t 2] [false] ([.s r], [none]))))
set_option maxHeartbeats 4000000 in
theorem spec_PutTree.s0 (k : Nat) (ih : spec_PutTree.P0 k) : spec_PutTree.P0 (k + 1) := by
  intro l0 x3 x4 r H st hst
  rw [spec_PutTree.l0] at H
  rw [W_loopc (show spec_PutTree.c1 = C.loop 1 [0, 3, 4] spec_PutTree.d1 from rfl), hst]
  unfold spec_PutTree.d1
  try simp only [TN, simprocAttr, spec_PutTree.c0]
  rcases ite_or H with ⟨h1, H⟩ | ⟨h1, H⟩
  · skip
    obtain ⟨h2, H⟩ := ite_no H
    obtain ⟨t3, e3, H⟩ := bnd_some H
    have e3 := spec_Var.link e3
    obtain ⟨h4, H⟩ := ite_no H
    obtain ⟨t4, e5, H⟩ := bnd_some H
    have e5 := spec_Var.link e5
    obtain ⟨h6, H⟩ := ite_no H
    try simp only [TN, simprocAttr, spec_PutTree.c0, h1, h2, e3, h4, e5, h6]
    refine ih _ _ _ _ H _ ?_
    first | (rw [canon_eq]; done) | (rw [canon_eq]; rfl) | (rw [canon_eq]; simp only [List.length_set, List.length_append, List.length_replicate]; rfl)
  · skip
    injection H with H; subst H
    try simp only [TN, simprocAttr, spec_PutTree.c0, h1]
    try rfl
theorem spec_PutTree.w : ∀ k, spec_PutTree.P0 k := by
  intro k
  induction k with
  | zero => exact by intro l0 x3 x4 r H; cases (show (none : Option ByteArray) = some r from H)
  | succ k ih => exact spec_PutTree.s0 k ih
set_option maxHeartbeats 4000000 in
theorem spec_PutTree.link {k : Nat} {l0 : List S105} {r : ByteArray} (H : spec_PutTree.f k l0 = some r) : callW env 74 [.deep false true 2 (l0.map e105)] = some ([.s r], [none]) := by
  unfold spec_PutTree.f at H
  refine callW_fn' (F := spec_PutTree.F) (tm := tmOf [(0, .slc 0 [] 0 2 0 l0.length)]) (rs := rsL [(0, some ⟨false, 2, 0, (l0.map e105)⟩)]) (nx := 1) (ow := [false]) rfl (by rfl) (by simp only [SN]) (by simp only [SN]) (by decide) ?_
  show W env spec_PutTree.B _ (Qf [.t 2] [false] _)
  unfold spec_PutTree.B
  obtain ⟨t1, e1, H⟩ := bnd_some H
  have e1 := spec_TreeOk.link e1
  try simp only [TN, simprocAttr, spec_PutTree.c0, e1]
  rcases ite_b H with ⟨h2, H⟩ | ⟨h2, H⟩
  · skip
    obtain ⟨t2, e3, H⟩ := bnd_some H
    have e3 := spec_Var.link e3
    try simp only [TN, simprocAttr, spec_PutTree.c0, e1, h2, e3]
    refine (spec_PutTree.w k) _ _ _ _ H _ ?_
    first | (rw [canon_eq]; done) | (rw [canon_eq]; rfl) | (rw [canon_eq]; simp only [List.length_set, List.length_append, List.length_replicate]; rfl)
  · skip
    injection H with H; subst H
    try simp only [TN, simprocAttr, spec_PutTree.c0, e1, h2]
    try rfl
end Go.Proofs.Ytinlbiphjgpmmaa.P
end YtinlbiphjgpmmaaL74
section YtinlbiphjgpmmaaL35
namespace Go.Proofs.Ytinlbiphjgpmmaa.P
open Go Go.RowKit Go.Proofs.Ytinlbiphjgpmmaa.V
set_option linter.unusedVariables false
set_option linter.unusedSimpArgs false
set_option linter.all false
set_option maxRecDepth 100000
/-! ### spec_Patch: function 35 -/
def spec_Patch.f (k : Nat) (a0 : ByteArray) (a1 : ByteArray) : Option (ByteArray × Int × Int × Int) := (spec_GetTree.f k a0).bind fun bt1 => (if bt1.2 = 0 then ((spec_GetScript.f k a1).bind fun bt2 => (if bt2.2 = 0 then ((spec_ApplyAll.f k bt1.1 bt2.1).bind fun bt3 => (if bt3.2.2 = 0 then ((spec_PutTree.f k bt3.1).bind fun t4 => (some (t4, 0, 0, 0))) else (some ((⟨#[]⟩ : ByteArray), 5, bt3.2.2, bt3.2.1)))) else (some ((⟨#[]⟩ : ByteArray), 4, bt2.2, 0)))) else (some ((⟨#[]⟩ : ByteArray), 1, bt1.2, 0)))
set_option maxHeartbeats 4000000 in
theorem spec_Patch.link {k : Nat} {a0 : ByteArray} {a1 : ByteArray} {r : ByteArray × Int × Int × Int} (H : spec_Patch.f k a0 a1 = some r) : callW env 35 [.s a0, .s a1] = some ([.s r.1, .agg [.i .i64 r.2.1, .i .i64 r.2.2.1, .i .i64 r.2.2.2]], []) := by
  unfold spec_Patch.f at H
  refine callW_fn' (F := spec_Patch.F) (tm := tmOf [(0, .s a0), (1, .s a1)]) (rs := rsL []) (nx := 0) (ow := []) rfl (by rfl) (by simp only [SN]) (by simp only [SN]) (by decide) ?_
  show W env spec_Patch.B _ (Qf [.t 4, .cell 5 (some 3)] [] _)
  unfold spec_Patch.B
  obtain ⟨bt1, e1, H⟩ := bnd_some H
  have e1 := spec_GetTree.link e1
  try simp only [TN, simprocAttr, e1]
  rcases ite_or H with ⟨h2, H⟩ | ⟨h2, H⟩
  · skip
    obtain ⟨bt2, e3, H⟩ := bnd_some H
    have e3 := spec_GetScript.link e3
    try simp only [TN, simprocAttr, e1, eq_true h2, e3]
    rcases ite_or H with ⟨h4, H⟩ | ⟨h4, H⟩
    · skip
      obtain ⟨bt3, e5, H⟩ := bnd_some H
      have e5 := spec_ApplyAll.link e5
      try simp only [TN, simprocAttr, e1, eq_true h2, e3, eq_true h4, e5]
      rcases ite_or H with ⟨h6, H⟩ | ⟨h6, H⟩
      · skip
        obtain ⟨t4, e7, H⟩ := bnd_some H
        have e7 := spec_PutTree.link e7
        injection H with H; subst H
        try simp only [TN, simprocAttr, e1, eq_true h2, e3, eq_true h4, e5, eq_true h6, e7]
        try rfl
      · skip
        injection H with H; subst H
        try simp only [TN, simprocAttr, e1, eq_true h2, e3, eq_true h4, e5, h6]
        try rfl
    · skip
      injection H with H; subst H
      try simp only [TN, simprocAttr, e1, eq_true h2, e3, h4]
      try rfl
  · skip
    injection H with H; subst H
    try simp only [TN, simprocAttr, e1, h2]
    try rfl
end Go.Proofs.Ytinlbiphjgpmmaa.P
end YtinlbiphjgpmmaaL35
section YtinlbiphjgpmmaaL9
namespace Go.Proofs.Ytinlbiphjgpmmaa.P
open Go Go.RowKit Go.Proofs.Ytinlbiphjgpmmaa.V
set_option linter.unusedVariables false
set_option linter.unusedSimpArgs false
set_option linter.all false
set_option maxRecDepth 100000
/-! ### spec_RepoGet: function 9 -/
def spec_RepoGet.f : Nat → (List S65) → Int → Option (ByteArray × Bool)
 | 0, _, _ => none
 | k + 1, l0_0, a1 => (spec_l1In.f a1 0 (wrap64 ((l0_0.length : Int) - 1))).bind fun t1 => (if t1 = true then (if (l0_0.length : Int) > 6 then (some ((⟨#[]⟩ : ByteArray), false)) else (if 0 ≤ a1 then (if a1 < (l0_0.length : Int) then ((spec_l1In.f ((rd_T65 l0_0 a1).f0) (-1) (wrap64 (a1 - 1))).bind fun t2 => (if t2 = true then (if ((rd_T65 l0_0 a1).f0) < 0 then ((spec_GetTree.f k ((rd_T65 l0_0 a1).f1)).bind fun bt3 => (if bt3.2 = 0 then (some ((rd_T65 l0_0 a1).f1, true)) else (some ((⟨#[]⟩ : ByteArray), false)))) else ((spec_RepoGet.f k l0_0 ((rd_T65 l0_0 a1).f0)).bind fun bt4 => (if bt4.2 = true then ((spec_Patch.f k bt4.1 ((rd_T65 l0_0 a1).f1)).bind fun bt5 => (if bt5.2.1 = 0 then (some (bt5.1, true)) else (some ((⟨#[]⟩ : ByteArray), false)))) else (some ((⟨#[]⟩ : ByteArray), false))))) else (some ((⟨#[]⟩ : ByteArray), false)))) else none) else none)) else (some ((⟨#[]⟩ : ByteArray), false)))
set_option maxHeartbeats 4000000 in
theorem spec_RepoGet.link_ : ∀ (k : Nat) (l0_0 : List S65) (a1 : Int) (r : ByteArray × Bool), spec_RepoGet.f k l0_0 a1 = some r → callW env 9 [.agg [.deep false true 2 (l0_0.map e65)], .i .i64 a1] = some ([.s r.1, .b r.2], [none]) := by
  intro k
  induction k with
  | zero => intro l0_0 a1 r H; cases (show (none : Option (ByteArray × Bool)) = some r from H)
  | succ k ih =>
    intro l0_0 a1 r H
    rw [spec_RepoGet.f] at H
    refine callW_fn' (F := spec_RepoGet.F) (tm := tmOf [(0, .agg [.slc 0 [] 0 2 0 l0_0.length]), (1, .i .i64 a1)]) (rs := rsL [(0, some ⟨false, 2, 0, (l0_0.map e65)⟩)]) (nx := 1) (ow := [false]) rfl (by rfl) (by simp only [SN]) (by simp only [SN]) (by decide) ?_
    show W env spec_RepoGet.B _ (Qf [.t 4, .t 5] [false] _)
    unfold spec_RepoGet.B
    obtain ⟨t1, e1, H⟩ := bnd_some H
    have e1 := spec_l1In.link e1
    try simp only [TN, simprocAttr, e1]
    rcases ite_b H with ⟨h2, H⟩ | ⟨h2, H⟩
    · skip
      try simp only [TN, simprocAttr, e1, h2]
      rcases ite_or H with ⟨h3, H⟩ | ⟨h3, H⟩
      · skip
        injection H with H; subst H
        try simp only [TN, simprocAttr, e1, h2, h3]
        try rfl
      · skip
        obtain ⟨h4, H⟩ := ite_no H
        obtain ⟨h5, H⟩ := ite_no H
        obtain ⟨t2, e6, H⟩ := bnd_some H
        have e6 := spec_l1In.link e6
        try simp only [TN, simprocAttr, e1, h2, h3, h4, h5, e6]
        rcases ite_b H with ⟨h7, H⟩ | ⟨h7, H⟩
        · skip
          try simp only [TN, simprocAttr, e1, h2, h3, h4, h5, e6, h7]
          rcases ite_or H with ⟨h8, H⟩ | ⟨h8, H⟩
          · skip
            obtain ⟨bt3, e9, H⟩ := bnd_some H
            have e9 := spec_GetTree.link e9
            try simp only [TN, simprocAttr, e1, h2, h3, h4, h5, e6, h7, h8, e9]
            rcases ite_or H with ⟨h10, H⟩ | ⟨h10, H⟩
            · skip
              injection H with H; subst H
              try simp only [TN, simprocAttr, e1, h2, h3, h4, h5, e6, h7, h8, e9, eq_true h10]
              try rfl
            · skip
              injection H with H; subst H
              try simp only [TN, simprocAttr, e1, h2, h3, h4, h5, e6, h7, h8, e9, h10]
              try rfl
          · skip
            obtain ⟨bt4, e11, H⟩ := bnd_some H
            have e11 := ih _ _ _ e11
            try simp only [TN, simprocAttr, e1, h2, h3, h4, h5, e6, h7, h8, e11]
            rcases ite_b H with ⟨h12, H⟩ | ⟨h12, H⟩
            · skip
              obtain ⟨bt5, e13, H⟩ := bnd_some H
              have e13 := spec_Patch.link e13
              try simp only [TN, simprocAttr, e1, h2, h3, h4, h5, e6, h7, h8, e11, h12, e13]
              rcases ite_or H with ⟨h14, H⟩ | ⟨h14, H⟩
              · skip
                injection H with H; subst H
                try simp only [TN, simprocAttr, e1, h2, h3, h4, h5, e6, h7, h8, e11, h12, e13, eq_true h14]
                try rfl
              · skip
                injection H with H; subst H
                try simp only [TN, simprocAttr, e1, h2, h3, h4, h5, e6, h7, h8, e11, h12, e13, h14]
                try rfl
            · skip
              injection H with H; subst H
              try simp only [TN, simprocAttr, e1, h2, h3, h4, h5, e6, h7, h8, e11, h12]
              try rfl
        · skip
          injection H with H; subst H
          try simp only [TN, simprocAttr, e1, h2, h3, h4, h5, e6, h7]
          try rfl
    · skip
      injection H with H; subst H
      try simp only [TN, simprocAttr, e1, h2]
      try rfl
theorem spec_RepoGet.link {k : Nat} {l0_0 : List S65} {a1 : Int} {r : ByteArray × Bool} (H : spec_RepoGet.f k l0_0 a1 = some r) : callW env 9 [.agg [.deep false true 2 (l0_0.map e65)], .i .i64 a1] = some ([.s r.1, .b r.2], [none]) := spec_RepoGet.link_ k _ _ _ H
end Go.Proofs.Ytinlbiphjgpmmaa.P
end YtinlbiphjgpmmaaL9
section YtinlbiphjgpmmaaL13
namespace Go.Proofs.Ytinlbiphjgpmmaa.P
open Go Go.RowKit Go.Proofs.Ytinlbiphjgpmmaa.V
set_option linter.unusedVariables false
set_option linter.unusedSimpArgs false
set_option linter.all false
set_option maxRecDepth 100000
/-! ### spec_RepoOk: function 13 -/
def spec_RepoOk.l0 : Nat → (List S65) → Int → Option Bool
 | 0, _, _ => none
 | k + 1, l0_0, x3 => if x3 < (l0_0.length : Int) then ((spec_RepoGet.f k l0_0 x3).bind fun bt1 => (if bt1.2 = true then (spec_RepoOk.l0 k l0_0 (wrap64 (x3 + 1))) else (some false))) else (some (decide ((l0_0.length : Int) ≤ 6)))
def spec_RepoOk.f (k : Nat) (l0_0 : List S65) : Option Bool := spec_RepoOk.l0 k l0_0 0
def spec_RepoOk.P0 (k : Nat) : Prop := ∀ (l0_0 : List S65) (x3 : Int) (r : Bool), spec_RepoOk.l0 k l0_0 x3 = some r → ∀ st, canon 1 [1, 3] st = ⟨tmOf [(1, .bx [.slc 0 [] 0 2 0 l0_0.length] 0), (3, .i .i64 x3)], rsL [(0, some ⟨false, 2, 0, (l0_0.map e65)⟩)], 1⟩ → W env spec_RepoOk.c1 st (Qb 0 (Qs env spec_RepoOk.c0 (Qf [.t 2] [false] ([.b r], [none]))))
set_option maxHeartbeats 4000000 in
theorem spec_RepoOk.s0 (k : Nat) (ih : spec_RepoOk.P0 k) : spec_RepoOk.P0 (k + 1) := by
  intro l0_0 x3 r H st hst
  rw [spec_RepoOk.l0] at H
  rw [W_loopc (show spec_RepoOk.c1 = C.loop 1 [1, 3] spec_RepoOk.d1 from rfl), hst]
  unfold spec_RepoOk.d1
  try simp only [TN, simprocAttr, spec_RepoOk.c0]
  rcases ite_or H with ⟨h1, H⟩ | ⟨h1, H⟩
  · skip
    obtain ⟨bt1, e2, H⟩ := bnd_some H
    have e2 := spec_RepoGet.link e2
    try simp only [TN, simprocAttr, spec_RepoOk.c0, h1, e2]
    rcases ite_b H with ⟨h3, H⟩ | ⟨h3, H⟩
    · skip
      try simp only [TN, simprocAttr, spec_RepoOk.c0, h1, e2, h3]
      refine ih _ _ _ H _ ?_
      first | (rw [canon_eq]; done) | (rw [canon_eq]; rfl) | (rw [canon_eq]; simp only [List.length_set, List.length_append, List.length_replicate]; rfl)
    · skip
      injection H with H; subst H
      try simp only [TN, simprocAttr, spec_RepoOk.c0, h1, e2, h3]
      try rfl
  · skip
    injection H with H; subst H
    try simp only [TN, simprocAttr, spec_RepoOk.c0, h1]
    try rfl
theorem spec_RepoOk.w : ∀ k, spec_RepoOk.P0 k := by
  intro k
  induction k with
  | zero => exact by intro l0_0 x3 r H; cases (show (none : Option Bool) = some r from H)
  | succ k ih => exact spec_RepoOk.s0 k ih
set_option maxHeartbeats 4000000 in
theorem spec_RepoOk.link {k : Nat} {l0_0 : List S65} {r : Bool} (H : spec_RepoOk.f k l0_0 = some r) : callW env 13 [.agg [.deep false true 2 (l0_0.map e65)]] = some ([.b r], [none]) := by
  unfold spec_RepoOk.f at H
  refine callW_fn' (F := spec_RepoOk.F) (tm := tmOf [(0, .agg [.slc 0 [] 0 2 0 l0_0.length])]) (rs := rsL [(0, some ⟨false, 2, 0, (l0_0.map e65)⟩)]) (nx := 1) (ow := [false]) rfl (by rfl) (by simp only [SN]) (by simp only [SN]) (by decide) ?_
  show W env spec_RepoOk.B _ (Qf [.t 2] [false] _)
  unfold spec_RepoOk.B
  try simp only [TN, simprocAttr, spec_RepoOk.c0]
  refine (spec_RepoOk.w k) _ _ _ H _ ?_
  first | (rw [canon_eq]; done) | (rw [canon_eq]; rfl) | (rw [canon_eq]; simp only [List.length_set, List.length_append, List.length_replicate]; rfl)
end Go.Proofs.Ytinlbiphjgpmmaa.P
end YtinlbiphjgpmmaaL13
section YtinlbiphjgpmmaaL41
namespace Go.Proofs.Ytinlbiphjgpmmaa.P
open Go Go.RowKit Go.Proofs.Ytinlbiphjgpmmaa.V
set_option linter.unusedVariables false
set_option linter.unusedSimpArgs false
set_option linter.all false
set_option maxRecDepth 100000
/-! ### spec_l30Copy: function 41 -/
def spec_l30Copy.f (l0_0 : List S65) : Option (List S65) := if l0_0.length * 24 ≤ 140737488355328 then (some l0_0) else none
set_option maxHeartbeats 4000000 in
theorem spec_l30Copy.link {l0_0 : List S65} {r : (List S65)} (H : spec_l30Copy.f l0_0 = some r) : callW env 41 [.agg [.deep false true 2 (l0_0.map e65)]] = some ([.agg [.deep false false 2 (r.map e65)]], [none]) := by
  unfold spec_l30Copy.f at H
  refine callW_fn' (F := spec_l30Copy.F) (tm := tmOf [(0, .agg [.slc 0 [] 0 2 0 l0_0.length])]) (rs := rsL [(0, some ⟨false, 2, 0, (l0_0.map e65)⟩)]) (nx := 1) (ow := [false]) rfl (by rfl) (by simp only [SN]) (by simp only [SN]) (by decide) ?_
  show W env spec_l30Copy.B _ (Qf [.cell 2 (some 1)] [false] _)
  unfold spec_l30Copy.B
  obtain ⟨h1, H⟩ := ite_no H
  injection H with H; subst H
  try simp only [TN, simprocAttr, h1]
  try rfl
end Go.Proofs.Ytinlbiphjgpmmaa.P
end YtinlbiphjgpmmaaL41
section YtinlbiphjgpmmaaL15
namespace Go.Proofs.Ytinlbiphjgpmmaa.P
open Go Go.RowKit Go.Proofs.Ytinlbiphjgpmmaa.V
set_option linter.unusedVariables false
set_option linter.unusedSimpArgs false
set_option linter.all false
set_option maxRecDepth 100000
/-! ### spec_Flat: function 15 -/
def spec_Flat.f (k : Nat) (l0_0 : List S65) (a1 : Int) : Option ((List S65) × Bool) := (spec_l30Copy.f l0_0).bind fun t1 => ((spec_RepoGet.f k l0_0 a1).bind fun bt2 => (if bt2.2 = true then ((spec_RepoOk.f k l0_0).bind fun t3 => (if t3 = true then (if 0 ≤ a1 then (if a1 < (t1.length : Int) then (some ((t1.set (a1 : Int).toNat (⟨(-1), bt2.1⟩ : S65)), true)) else none) else none) else (some (t1, false)))) else (some (t1, false))))
set_option maxHeartbeats 4000000 in
theorem spec_Flat.link {k : Nat} {l0_0 : List S65} {a1 : Int} {r : (List S65) × Bool} (H : spec_Flat.f k l0_0 a1 = some r) : callW env 15 [.agg [.deep false true 2 (l0_0.map e65)], .i .i64 a1] = some ([.agg [.deep false false 2 (r.1.map e65)], .b r.2], [none]) := by
  unfold spec_Flat.f at H
  refine callW_fn' (F := spec_Flat.F) (tm := tmOf [(0, .agg [.slc 0 [] 0 2 0 l0_0.length]), (1, .i .i64 a1)]) (rs := rsL [(0, some ⟨false, 2, 0, (l0_0.map e65)⟩)]) (nx := 1) (ow := [false]) rfl (by rfl) (by simp only [SN]) (by simp only [SN]) (by decide) ?_
  show W env spec_Flat.B _ (Qf [.cell 4 (some 1), .t 5] [false] _)
  unfold spec_Flat.B
  obtain ⟨t1, e1, H⟩ := bnd_some H
  have e1 := spec_l30Copy.link e1
  obtain ⟨bt2, e2, H⟩ := bnd_some H
  have e2 := spec_RepoGet.link e2
  try simp only [TN, simprocAttr, e1, e2]
  rcases ite_b H with ⟨h3, H⟩ | ⟨h3, H⟩
  · skip
    obtain ⟨t3, e4, H⟩ := bnd_some H
    have e4 := spec_RepoOk.link e4
    try simp only [TN, simprocAttr, e1, e2, h3, e4]
    rcases ite_b H with ⟨h5, H⟩ | ⟨h5, H⟩
    · skip
      obtain ⟨h6, H⟩ := ite_no H
      obtain ⟨h7, H⟩ := ite_no H
      injection H with H; subst H
      try simp only [TN, simprocAttr, e1, e2, h3, e4, h5, h6, h7]
      try rfl
    · skip
      injection H with H; subst H
      try simp only [TN, simprocAttr, e1, e2, h3, e4, h5]
      try rfl
  · skip
    injection H with H; subst H
    try simp only [TN, simprocAttr, e1, e2, h3]
    try rfl
end Go.Proofs.Ytinlbiphjgpmmaa.P
end YtinlbiphjgpmmaaL15
section YtinlbiphjgpmmaaL37
namespace Go.Proofs.Ytinlbiphjgpmmaa.P
open Go Go.RowKit Go.Proofs.Ytinlbiphjgpmmaa.V
set_option linter.unusedVariables false
set_option linter.unusedSimpArgs false
set_option linter.all false
set_option maxRecDepth 100000
/-! ### impl_within: function 37 -/
def impl_within.f (a0 : Int) (a1 : Int) (a2 : Int) : Option Bool := if a1 ≤ a0 then (some (decide (a0 ≤ a2))) else (some false)
set_option maxHeartbeats 4000000 in
theorem impl_within.link {a0 : Int} {a1 : Int} {a2 : Int} {r : Bool} (H : impl_within.f a0 a1 a2 = some r) : callW env 37 [.i .i64 a0, .i .i64 a1, .i .i64 a2] = some ([.b r], []) := by
  unfold impl_within.f at H
  refine callW_fn' (F := impl_within.F) (tm := tmOf [(0, .i .i64 a0), (1, .i .i64 a1), (2, .i .i64 a2)]) (rs := rsL []) (nx := 0) (ow := []) rfl (by rfl) (by simp only [SN]) (by simp only [SN]) (by decide) ?_
  show W env impl_within.B _ (Qf [.t 6] [] _)
  unfold impl_within.B
  try simp only [TN, simprocAttr]
  rcases ite_or H with ⟨h1, H⟩ | ⟨h1, H⟩
  · skip
    injection H with H; subst H
    try simp only [TN, simprocAttr, h1]
    try rfl
  · skip
    injection H with H; subst H
    try simp only [TN, simprocAttr, h1]
    try rfl
end Go.Proofs.Ytinlbiphjgpmmaa.P
end YtinlbiphjgpmmaaL37
section YtinlbiphjgpmmaaL76
namespace Go.Proofs.Ytinlbiphjgpmmaa.P
open Go Go.RowKit Go.Proofs.Ytinlbiphjgpmmaa.V
set_option linter.unusedVariables false
set_option linter.unusedSimpArgs false
set_option linter.all false
set_option maxRecDepth 100000
/-! ### impl_ReadVar: function 76 -/
def impl_ReadVar.l0 : Nat → ByteArray → Int → Int → Int → Option (Int × Int)
 | 0, _, _, _, _ => none
 | k + 1, a0, x4, x8, x9 => if x9 < x8 then (if 0 ≤ x9 then (if x9 < (a0.size : Int) then (if 0 ≤ wrap64 (7 * x9) then (if (bt a0 x9) < 128 then (if x9 > 0 then (if (bt a0 x9) = 0 then (some (0, 0)) else (if (Go.bits .or .i64 x4 (shl .i64 (wrap64 (Go.bits .and .u8 (bt a0 x9) 127)) (wrap64 (7 * x9)))) > 562949953421311 then (some (0, 0)) else (some (Go.bits .or .i64 x4 (shl .i64 (wrap64 (Go.bits .and .u8 (bt a0 x9) 127)) (wrap64 (7 * x9))), wrap64 (x9 + 1))))) else (if (Go.bits .or .i64 x4 (shl .i64 (wrap64 (Go.bits .and .u8 (bt a0 x9) 127)) (wrap64 (7 * x9)))) > 562949953421311 then (some (0, 0)) else (some (Go.bits .or .i64 x4 (shl .i64 (wrap64 (Go.bits .and .u8 (bt a0 x9) 127)) (wrap64 (7 * x9))), wrap64 (x9 + 1))))) else (impl_ReadVar.l0 k a0 (Go.bits .or .i64 x4 (shl .i64 (wrap64 (Go.bits .and .u8 (bt a0 x9) 127)) (wrap64 (7 * x9)))) x8 (wrap64 (x9 + 1)))) else none) else none) else none) else (some (0, 0))
def impl_ReadVar.f (k : Nat) (a0 : ByteArray) : Option (Int × Int) := impl_ReadVar.l0 k a0 0 (mn (a0.size : Int) 7) 0
def impl_ReadVar.P0 (k : Nat) : Prop := ∀ (a0 : ByteArray) (x4 : Int) (x8 : Int) (x9 : Int) (r : Int × Int), impl_ReadVar.l0 k a0 x4 x8 x9 = some r → ∀ st, canon 0 [0, 4, 8, 9] st = ⟨tmOf [(0, .s a0), (4, .i .i64 x4), (8, .i .i64 x8), (9, .i .i64 x9)], rsL [], 0⟩ → W env impl_ReadVar.c1 st (Qb 0 (Qs env impl_ReadVar.c0 (Qf [.t 2, .t 3] [] ([.i .i64 r.1, .i .i64 r.2], []))))
set_option maxHeartbeats 4000000 in
theorem impl_ReadVar.s0 (k : Nat) (ih : impl_ReadVar.P0 k) : impl_ReadVar.P0 (k + 1) := by
  intro a0 x4 x8 x9 r H st hst
  rw [impl_ReadVar.l0] at H
  rw [W_loopc (show impl_ReadVar.c1 = C.loop 0 [0, 4, 8, 9] impl_ReadVar.d1 from rfl), hst]
  unfold impl_ReadVar.d1
  try simp only [TN, simprocAttr, impl_ReadVar.c0]
  rcases ite_or H with ⟨h1, H⟩ | ⟨h1, H⟩
  · skip
    obtain ⟨h2, H⟩ := ite_no H
    obtain ⟨h3, H⟩ := ite_no H
    obtain ⟨h4, H⟩ := ite_no H
    try simp only [TN, simprocAttr, impl_ReadVar.c0, h1, h2, h3, h4]
    rcases ite_or H with ⟨h5, H⟩ | ⟨h5, H⟩
    · skip
      try simp only [TN, simprocAttr, impl_ReadVar.c0, h1, h2, h3, h4, h5]
      rcases ite_or H with ⟨h6, H⟩ | ⟨h6, H⟩
      · skip
        try simp only [TN, simprocAttr, impl_ReadVar.c0, h1, h2, h3, h4, h5, h6]
        rcases ite_or H with ⟨h7, H⟩ | ⟨h7, H⟩
        · skip
          injection H with H; subst H
          try simp only [TN, simprocAttr, impl_ReadVar.c0, h1, h2, h3, h4, h5, h6, eq_true h7]
          try rfl
        · skip
          try simp only [TN, simprocAttr, impl_ReadVar.c0, h1, h2, h3, h4, h5, h6, h7]
          rcases ite_or H with ⟨h8, H⟩ | ⟨h8, H⟩
          · skip
            injection H with H; subst H
            try simp only [TN, simprocAttr, impl_ReadVar.c0, h1, h2, h3, h4, h5, h6, h7, h8]
            try rfl
          · skip
            injection H with H; subst H
            try simp only [TN, simprocAttr, impl_ReadVar.c0, h1, h2, h3, h4, h5, h6, h7, h8]
            try rfl
      · skip
        try simp only [TN, simprocAttr, impl_ReadVar.c0, h1, h2, h3, h4, h5, h6]
        rcases ite_or H with ⟨h9, H⟩ | ⟨h9, H⟩
        · skip
          injection H with H; subst H
          try simp only [TN, simprocAttr, impl_ReadVar.c0, h1, h2, h3, h4, h5, h6, h9]
          try rfl
        · skip
          injection H with H; subst H
          try simp only [TN, simprocAttr, impl_ReadVar.c0, h1, h2, h3, h4, h5, h6, h9]
          try rfl
    · skip
      try simp only [TN, simprocAttr, impl_ReadVar.c0, h1, h2, h3, h4, h5]
      refine ih _ _ _ _ _ H _ ?_
      first | (rw [canon_eq]; done) | (rw [canon_eq]; rfl) | (rw [canon_eq]; simp only [List.length_set, List.length_append, List.length_replicate]; rfl)
  · skip
    injection H with H; subst H
    try simp only [TN, simprocAttr, impl_ReadVar.c0, h1]
    try rfl
theorem impl_ReadVar.w : ∀ k, impl_ReadVar.P0 k := by
  intro k
  induction k with
  | zero => exact by intro a0 x4 x8 x9 r H; cases (show (none : Option (Int × Int)) = some r from H)
  | succ k ih => exact impl_ReadVar.s0 k ih
set_option maxHeartbeats 4000000 in
theorem impl_ReadVar.link {k : Nat} {a0 : ByteArray} {r : Int × Int} (H : impl_ReadVar.f k a0 = some r) : callW env 76 [.s a0] = some ([.i .i64 r.1, .i .i64 r.2], []) := by
  unfold impl_ReadVar.f at H
  refine callW_fn' (F := impl_ReadVar.F) (tm := tmOf [(0, .s a0)]) (rs := rsL []) (nx := 0) (ow := []) rfl (by rfl) (by simp only [SN]) (by simp only [SN]) (by decide) ?_
  show W env impl_ReadVar.B _ (Qf [.t 2, .t 3] [] _)
  unfold impl_ReadVar.B
  try simp only [TN, simprocAttr, impl_ReadVar.c0]
  refine (impl_ReadVar.w k) _ _ _ _ _ H _ ?_
  first | (rw [canon_eq]; done) | (rw [canon_eq]; rfl) | (rw [canon_eq]; simp only [List.length_set, List.length_append, List.length_replicate]; rfl)
end Go.Proofs.Ytinlbiphjgpmmaa.P
end YtinlbiphjgpmmaaL76
