/- FnExactHistAdd: WL LC L45 L84 L47 L20 L46 L19 L49 L85 L48 L33 L71 L86 L131 L118 L120 L116 L117 L119 L97 L73 L127 L111 L87 L50 L21 L88 L51 L89 L53 L23 L52 L22 L112 L91 L113 L92 L55 L90. -/
import Derived.Test.YtinlbiphjgpmmaaBFnExactHistAdd2
import Derived.Test.YtinlbiphjgpmmaaProg
import Derived.KernelRfl
section YtinlbiphjgpmmaaWL
namespace Go.Proofs.Ytinlbiphjgpmmaa.V
open Go Go.RowKit
set_option linter.unusedVariables false
set_option linter.unusedSimpArgs false
set_option linter.all false

section
variable {call : CallF} {n : Nat} {tm : Tm} {rs : Rs}
def fSlM (sz0 : Nat) (x : AV) (lo hi mx : Option AV) (rs : Rs) : Option (AV × Rs) := match x with
    | .slc r q pv sz off len => if sz = sz0 then (fSlS.bndv len mx len).bind fun m => (fSlS.bndv m hi m).bind fun h => (fSlS.bndv h lo 0).map fun _ => (.undef, rs) else none
    | _ => none
theorem i_slM {sz0 : Nat} {x : X} {lo hi mx : Option X} : evI call n tm rs (.slM sz0 x lo hi mx) = fSlM sz0 (x.ev tm) (oX tm lo) (oX tm hi) (oX tm mx) rs := by
  simp only [evI, fSlM, bnd_v, oX_eq]
  cases x.ev tm <;> rfl
theorem slM_c {r : Nat} {q : Path} {pv sz off len : Nat} {k1 k2 k3 : IntKind} {l h m : Int} (h0 : 0 ≤ l) (h1 : l ≤ h) (h2 : h ≤ m) (h3 : m ≤ (len : Int)) :
    fSlM sz (.slc r q pv sz off len) (some (.i k1 l)) (some (.i k2 h)) (some (.i k3 m)) rs = some (.undef, rs) := by
  simp only [fSlM, fSlS.bndv, ↓reduceIte, if_pos (show 0 ≤ m ∧ m ≤ (len : Int) from ⟨by omega, h3⟩), Option.bind_some, if_pos (show 0 ≤ h ∧ h ≤ ((m.toNat : Nat) : Int) from ⟨by omega, by omega⟩), if_pos (show 0 ≤ l ∧ l ≤ ((h.toNat : Nat) : Int) from ⟨h0, by omega⟩), Option.map_some]
def gSlC (sz0 r pv sz off len : Nat) (lo hi : Option AV) (R : Option Root) (rs : Rs) : Option (AV × Rs) := match R with
    | some R => if sz = sz0 then (fSlS.bndv (max len (R.xs.length - off)) hi len).bind fun h => (fSlS.bndv h lo 0).map fun l => (.slc r [] pv sz (off + l) (h - l), rs) else none
    | none => none
def fSlC (sz0 : Nat) (x : AV) (lo hi : Option AV) (rs : Rs) : Option (AV × Rs) := match x with
    | .slc r q pv sz off len => (look rs r q pv).bind fun a => if sz = sz0 then (fSlS.bndv (max len (a.2.2.2.length - off)) hi len).bind fun h => (fSlS.bndv h lo 0).map fun l => (.slc r q pv sz (off + l) (h - l), rs) else none
    | _ => none
theorem i_slC {sz0 : Nat} {x : X} {lo hi : Option X} : evI call n tm rs (.slC sz0 x lo hi) = fSlC sz0 (x.ev tm) (oX tm lo) (oX tm hi) rs := by
  simp only [evI, fSlC, bnd_v, oX_eq]
  cases x.ev tm <;> rfl
theorem slC_s {sz0 r pv sz off len : Nat} {lo hi : Option AV} : fSlC sz0 (.slc r [] pv sz off len) lo hi rs = gSlC sz0 r pv sz off len lo hi (rs r) rs := by
  simp only [fSlC, look, gSlC]
  cases rs r <;> rfl
theorem gSlC_c {r pv sz off len p : Nat} {xs : Els} {own : Bool} {k1 k2 : IntKind} {l h : Int} (h0 : 0 ≤ l) (h1 : l ≤ h) (h2 : h ≤ (max len (xs.length - off) : Nat)) :
    gSlC sz r pv sz off len (some (.i k1 l)) (some (.i k2 h)) (some ⟨own, sz, p, xs⟩) rs = some (.slc r [] pv sz (off + l.toNat) (h.toNat - l.toNat), rs) := by
  simp only [gSlC, fSlS.bndv, ↓reduceIte]
  rw [if_pos (show 0 ≤ h ∧ h ≤ ((max len (xs.length - off) : Nat) : Int) from ⟨by omega, h2⟩)]
  simp only [Option.bind_some]
  rw [if_pos (show 0 ≤ l ∧ l ≤ ((h.toNat : Nat) : Int) from ⟨h0, by omega⟩)]
  rfl
/-- A window of an own array is set. -/
def fClr (zero : List AV) (x : AV) (rs : Rs) : Option (AV × Rs) := match x with
    | .slc r q pv sz off len => if q = [] ∧ sz = zero.length then (rs r).bind fun R =>
          if R.own = true ∧ anyDeeps (List.replicate len zero) = false then some (.undef, up' rs r (some { R with xs := repl off (List.replicate len zero) R.xs })) else none
        else none
    | _ => none
theorem i_clr {zero : List AV} {x : X} : evI call n tm rs (.clr zero x) = fClr zero (x.ev tm) rs := by
  simp only [evI, fClr]
  cases x.ev tm <;> rfl
theorem no_rep {zero : List AV} (hz : anyDeep zero = false) (len : Nat) : anyDeeps (List.replicate len zero) = false := by
  simp only [anyDeeps, List.any_eq_false]
  intro x hx
  rw [(List.mem_replicate.1 hx).2, hz]; simp
theorem clr_c {zero : List AV} {r pv sz off len s p : Nat} {xs : Els} {m : List (Nat × Option Root)} (hs : sz = zero.length) (hr : rsL m r = some ⟨true, s, p, xs⟩) (hz : anyDeep zero = false) :
    fClr zero (.slc r [] pv sz off len) (rsL m) = some (.undef, rsL ((r, some ⟨true, s, p, repl off (List.replicate len zero) xs⟩) :: m)) := by
  simp only [fClr, hr, hs, and_self, ↓reduceIte, Option.bind_some, no_rep hz, rs_up]
theorem clr_h {zero : List AV} {r pv sz off len s p : Nat} {xs : Els} {m : List (Nat × Option Root)} (hs : sz = zero.length) (hz : anyDeep zero = false) :
    fClr zero (.slc r [] pv sz off len) (rsL ((r, some ⟨true, s, p, xs⟩) :: m)) = some (.undef, rsL ((r, some ⟨true, s, p, repl off (List.replicate len zero) xs⟩) :: (r, some ⟨true, s, p, xs⟩) :: m)) := clr_c hs (by simp only [rs_get, ↓reduceIte]) hz
theorem b_cap {x : Int} {r off sz k : Nat} (h : 0 ≤ x) : fBin .gtr 0 (.i .i64 x) (.cv 0 r off sz k) rs = some (.cv 1 r off sz x.toNat, rs) := by simp [fBin, formKd, aBin, h]
theorem WC_cv {E : Env} {x : X} {a b : C} {st : St} {Q : Pst} {r off sz k : Nat} : WC E x (.cv 1 r off sz k) a b st Q = (W E a (tok x 3 r off sz k st) Q ∧ W E b (tok x 2 r off sz k st) Q) := (rfl)
theorem tok_c {c k r off sz m nx : Nat} {l : List (Nat × AV)} : tok (.t c) k r off sz m ⟨tmOf l, rs, nx⟩ = ⟨tmOf ((c, .cv k r off sz m) :: l), rs, nx⟩ := (rfl)
def gAppZ (fresh by' : Nat) (zero : List AV) (off len n : Nat) (m : Int) (R : Option Root) (rs : Rs) : Option (AV × Rs) := match R with
  | some R => if 0 < m ∧ R.own = true ∧ anyDeeps (wnd R.xs off len) = false ∧ n ≤ len + m.toNat ∧ off < R.xs.length ∧ (len + m.toNat) * by' ≤ 140737488355328 then
              some (.slc fresh [] 0 zero.length 0 (len + m.toNat), up' rs fresh (some ⟨true, zero.length, 0, wnd R.xs off len ++ List.replicate m.toNat zero⟩)) else none
  | none => none
theorem appZ_s {fresh by' r off sz k pv len : Nat} {zero : List AV} {m : Int} (hs : sz = zero.length) : fAppZ fresh by' zero (.cv 3 r off sz k) (.slc r [] pv sz off len) (.i .i64 m) rs = gAppZ fresh by' zero off len k m (rs r) rs := by
  subst hs
  simp only [fAppZ, and_self, ↓reduceIte, gAppZ]
  cases rs r with
  | none => split <;> rfl
  | some R => by_cases h : 0 < m <;> simp only [h, ↓reduceIte, true_and, false_and, Option.bind_some]
theorem gAppZ_c {fresh by' off len k s p : Nat} {zero : List AV} {m : Int} {xs : Els} {l : List (Nat × Option Root)} (h0 : 0 < m) (h1 : anyDeeps (wnd xs off len) = false) (h2 : k ≤ len + m.toNat) (h3 : off < xs.length) (h4 : (len + m.toNat) * by' ≤ 140737488355328) :
    gAppZ fresh by' zero off len k m (some ⟨true, s, p, xs⟩) (rsL l) = some (.slc fresh [] 0 zero.length 0 (len + m.toNat), rsL ((fresh, some ⟨true, zero.length, 0, wnd xs off len ++ List.replicate m.toNat zero⟩) :: l)) := by
  simp only [gAppZ]; rw [if_pos ⟨h0, trivial, h1, h2, h3, h4⟩, rs_up]
def fSlX (fresh sz : Nat) (k x hi : AV) (rs : Rs) : Option (AV × Rs) := match k, x, hi with
    | .cv 2 r off sz1 n, .slc r1 q pv sz2 off1 len, .i _ h => if r = r1 ∧ q = [] ∧ sz1 = sz ∧ sz2 = sz ∧ off = off1 ∧ 0 < len ∧ 0 ≤ h ∧ h ≤ n then (rs r).bind fun R =>
        if R.own = true then some (.slc fresh [] 0 sz off h.toNat, up' (kill rs [r]) fresh (some ⟨true, sz, 0, R.xs ++ List.replicate (off + h.toNat - R.xs.length) (List.replicate sz .undef)⟩)) else none
      else none
    | _, _, _ => none
theorem i_slX {sz : Nat} {k x hi : X} : evI call n tm rs (.slX sz k x hi) = fSlX n sz (k.ev tm) (x.ev tm) (hi.ev tm) rs := (rfl)
def gSlX (fresh sz r off h : Nat) (R : Option Root) (rs : Rs) : Option (AV × Rs) := match R with
  | some R => if R.own = true then some (.slc fresh [] 0 sz off h, up' (kill rs [r]) fresh (some ⟨true, sz, 0, R.xs ++ List.replicate (off + h - R.xs.length) (List.replicate sz .undef)⟩)) else none
  | none => none
theorem slX_s {fresh sz r off k pv len : Nat} {kk : IntKind} {h : Int} (h1 : 0 < len) (h2 : 0 ≤ h) (h3 : h ≤ (k : Int)) : fSlX fresh sz (.cv 2 r off sz k) (.slc r [] pv sz off len) (.i kk h) rs = gSlX fresh sz r off h.toNat (rs r) rs := by
  simp only [fSlX, true_and, h1, h2, h3, and_self, ↓reduceIte, gSlX]
  cases rs r <;> rfl
theorem gSlX_c {fresh sz r off h s p : Nat} {xs : Els} {l : List (Nat × Option Root)} : gSlX fresh sz r off h (some ⟨true, s, p, xs⟩) (rsL l) = some (.slc fresh [] 0 sz off h, rsL ((fresh, some ⟨true, sz, 0, xs ++ List.replicate (off + h - xs.length) (List.replicate sz .undef)⟩) :: (r, none) :: l)) := by
  simp only [gSlX, ↓reduceIte, kill_cons', kill_nil', rs_up]
def fOvl (sz : Nat) (x y : AV) (rs : Rs) : Option (AV × Rs) := match x, y with
    | .slc r q pv sz1 off len, .slc r2 q2 pv2 sz2 off2 len2 => if q = [] ∧ q2 = [] ∧ r ≠ r2 ∧ sz1 = sz ∧ sz2 = sz ∧ 0 < len ∧ 0 < len2 then ((rs r).bind fun R => (rs r2).bind fun R2 => if R.own = true then some (AV.b false) else none).map (·, rs) else none
    | _, _ => none
theorem i_ovl {sz : Nat} {x y : X} : evI call n tm rs (.ovl sz x y) = fOvl sz (x.ev tm) (y.ev tm) rs := (rfl)
def gOvl (R R2 : Option Root) (rs : Rs) : Option (AV × Rs) := match R, R2 with
  | some R, some _ => if R.own = true then some (.b false, rs) else none
  | _, _ => none
theorem ovl_s {sz r pv off len r2 pv2 off2 len2 : Nat} (h : decide (r ≠ r2) = true) (h1 : 0 < len) (h2 : 0 < len2) : fOvl sz (.slc r [] pv sz off len) (.slc r2 [] pv2 sz off2 len2) rs = gOvl (rs r) (rs r2) rs := by
  have h' : r ≠ r2 := by simpa using h
  simp only [fOvl, true_and, h', ne_eq, not_false_eq_true, h1, h2, and_self, ↓reduceIte, gOvl]
  cases rs r with
  | none => rfl
  | some R => cases rs r2 with
    | none => rfl
    | some R2 => simp only [Option.bind_some]; split <;> rfl
theorem gOvl_c {s p : Nat} {xs : Els} {R2 : Root} : gOvl (some ⟨true, s, p, xs⟩) (some R2) rs = some (.b false, rs) := (rfl)
def fCopy (sz : Nat) (x y : AV) (rs : Rs) : Option (AV × Rs) := match x with
    | .slc r q pv sz' off len => match y with
      | .slc r2 q2 pv2 sz2 off2 len2 => if q = [] ∧ sz' = sz ∧ sz2 = sz then (rs r).bind fun R => (look rs r2 q2 pv2).bind fun a =>
          if R.own = true ∧ anyDeeps (wnd a.2.2.2 off2 (min len2 len)) = false then some (.i .i64 (min len2 len : Nat), up' rs r (some { R with xs := repl off (wnd a.2.2.2 off2 (min len2 len)) R.xs })) else none
        else none
      | _ => none
    | _ => none
theorem i_copy {sz : Nat} {x y : X} : evI call n tm rs (.copy sz x y) = fCopy sz (x.ev tm) (y.ev tm) rs := by
  simp only [evI, fCopy]
  cases x.ev tm <;> rfl
def gCopy (r off len off2 len2 : Nat) (R R2 : Option Root) (rs : Rs) : Option (AV × Rs) := match R, R2 with
  | some R, some R2 => if R.own = true ∧ anyDeeps (wnd R2.xs off2 (min len2 len)) = false then some (.i .i64 (min len2 len : Nat), up' rs r (some { R with xs := repl off (wnd R2.xs off2 (min len2 len)) R.xs })) else none
  | _, _ => none
theorem copy_s {sz r pv off len r2 pv2 off2 len2 : Nat} : fCopy sz (.slc r [] pv sz off len) (.slc r2 [] pv2 sz off2 len2) rs = gCopy r off len off2 len2 (rs r) (rs r2) rs := by
  simp only [fCopy, true_and, and_self, ↓reduceIte, gCopy, look]
  cases rs r with
  | none => rfl
  | some R => cases rs r2 <;> rfl
theorem gCopy_c {r off len off2 len2 s p s2 p2 : Nat} {own2 : Bool} {xs ys : Els} {l : List (Nat × Option Root)} (h : anyDeeps (wnd ys off2 (min len2 len)) = false) :
    gCopy r off len off2 len2 (some ⟨true, s, p, xs⟩) (some ⟨own2, s2, p2, ys⟩) (rsL l) = some (.i .i64 (min len2 len : Nat), rsL ((r, some ⟨true, s, p, repl off (wnd ys off2 (min len2 len)) xs⟩) :: l)) := by
  simp only [gCopy, h, and_self, ↓reduceIte, rs_up]
def fCopyK (sz : Nat) (x y : AV) (rs : Rs) : Option (AV × Rs) := match x with
    | .slc r q pv sz' off len => match y with
      | .slc r2 q2 pv2 sz2 off2 len2 => if q = [] ∧ q2 = [] ∧ r ≠ r2 ∧ sz' = sz ∧ sz2 = sz then (rs r).bind fun R => (rs r2).bind fun R2 =>
          if R.own = true ∧ anyDeeps (wnd R2.xs off2 (min len2 len)) = false then some (.i .i64 (min len2 len : Nat), kill (up' rs r (some { R with xs := repl off (wnd R2.xs off2 (min len2 len)) R.xs })) [r2]) else none
        else none
      | _ => none
    | _ => none
theorem i_copyK {sz : Nat} {x y : X} : evI call n tm rs (.copyK sz x y) = fCopyK sz (x.ev tm) (y.ev tm) rs := by
  simp only [evI, fCopyK]
  cases x.ev tm <;> rfl
def gCopyK (r off len r2 off2 len2 : Nat) (R R2 : Option Root) (rs : Rs) : Option (AV × Rs) := match R, R2 with
  | some R, some R2 => if R.own = true ∧ anyDeeps (wnd R2.xs off2 (min len2 len)) = false then some (.i .i64 (min len2 len : Nat), kill (up' rs r (some { R with xs := repl off (wnd R2.xs off2 (min len2 len)) R.xs })) [r2]) else none
  | _, _ => none
theorem copyK_s {sz r pv off len r2 pv2 off2 len2 : Nat} (h : decide (r ≠ r2) = true) : fCopyK sz (.slc r [] pv sz off len) (.slc r2 [] pv2 sz off2 len2) rs = gCopyK r off len r2 off2 len2 (rs r) (rs r2) rs := by
  have h' : r ≠ r2 := by simpa using h
  simp only [fCopyK, true_and, h', ne_eq, not_false_eq_true, and_self, ↓reduceIte, gCopyK]
  cases rs r with
  | none => rfl
  | some R => cases rs r2 <;> rfl
theorem gCopyK_c {r off len r2 off2 len2 s p s2 p2 : Nat} {own2 : Bool} {xs ys : Els} {l : List (Nat × Option Root)} (h : anyDeeps (wnd ys off2 (min len2 len)) = false) :
    gCopyK r off len r2 off2 len2 (some ⟨true, s, p, xs⟩) (some ⟨own2, s2, p2, ys⟩) (rsL l) = some (.i .i64 (min len2 len : Nat), rsL ((r2, none) :: (r, some ⟨true, s, p, repl off (wnd ys off2 (min len2 len)) xs⟩) :: l)) := by
  simp only [gCopyK, h, and_self, ↓reduceIte, rs_up, kill_cons', kill_nil']
theorem app_g {sz by' : Nat} {ys pre post : Els} {r0 : Option Nat} {m : List (Nat × Option Root)} (h : (pre.length + ys.length) * by' ≤ 140737488355328) :
    fApp n sz by' (some (ys, [])) (fBas pre post (rsL m) r0) = some (.slc n [] 0 sz 0 (pre.length + ys.length), rsL ((n, some ⟨true, sz, 0, pre ++ ys ++ post.drop ys.length⟩) :: m)) := by
  simp [fApp, fBas, h, kill_nil', rs_up]
end

def delB (sz by' : Nat) (zero : List AV) : C := (.seq (.kp [0, 1, 2] (.ops [o 6 (.mv (.k (.nl sz)))])) (.seq (.kp [0, 1, 2] (.ops [o 8 (.mv (.t 0)), o 9 (.mv (.t 1)), o 10 (.mv (.t 2)), o 11 (.mv (.t 0)), o 12 (.len false (.t 11)), o 13 (.slM sz (.t 8) (some (.t 9)) (some (.t 10)) (some (.t 12)))])) (.seq (.seq (.kp [0, 1, 2, 16] (.ops [o 14 (.mv (.t 1)), o 15 (.mv (.t 2)), o 16 (.bin .eql 0 (.t 14) (.t 15))])) (.cond (.t 16) (.seq (.kp [6] (.ops [o 17 (.mv (.t 0)), o 6 (.mv (.t 17))])) C.ret) C.skip)) (.seq (.kp [0, 1, 2, 7] (.ops [o 18 (.mv (.t 0)), o 19 (.len false (.t 18)), o 7 (.mv (.t 19))])) (.seq (.kp [0, 7] (.draw (sq 8) [o 20 (.mv (.t 0)), o 21 (.mv (.t 1)), o 22 (.slR sz (.t 20) none (some (.t 21))), o 23 (.mv (.t 0)), o 24 (.mv (.t 2)), o 25 (.slR sz (.t 23) (some (.t 24)) none), o 26 (.app sz by' (.t 22) (.t 25)), o 0 (.mv (.t 26))])) (.seq (.kp [0] (.ops [o 27 (.mv (.t 0)), o 28 (.mv (.t 0)), o 29 (.len false (.t 28)), o 30 (.mv (.t 7)), o 31 (.slC sz (.t 27) (some (.t 29)) (some (.t 30))), oz none none [] (.clr zero (.t 31))])) (.seq (.kp [6] (.ops [o 32 (.mv (.t 0)), o 6 (.mv (.t 32))])) C.ret)))))))
def delF (sz by' : Nat) (zero : List AV) : Fn := ⟨1, delB sz by' zero, [.t 6]⟩

theorem del_cut {z : List AV} {xs : Els} {i j : Nat} (h1 : i ≤ j) (h2 : j ≤ xs.length) : wnd (repl (0 + (i + (xs.length - j))) (List.replicate (xs.length - (i + (xs.length - j))) z) (wnd xs 0 i ++ wnd xs j (xs.length - j) ++ (xs.drop (0 + i)).drop (wnd xs j (xs.length - j)).length)) 0 (i + (xs.length - j)) = xs.take i ++ xs.drop j := by
  have e1 : wnd xs 0 i = xs.take i := by simp [wnd]
  have e2 : wnd xs j (xs.length - j) = xs.drop j := by rw [wnd, List.take_of_length_le (by simp)]
  have l1 : (xs.take i).length = i := by simp; omega
  have l2 : (xs.drop j).length = xs.length - j := by simp
  rw [e1, e2]
  have l3 : (xs.take i ++ xs.drop j).length = i + (xs.length - j) := by rw [List.length_append, l1, l2]
  simp only [wnd, repl, List.drop_zero, Nat.zero_add, List.append_assoc]
  generalize List.drop (List.drop j xs).length (List.drop i xs) = r1
  rw [← List.append_assoc (List.take i xs)]
  generalize List.take i xs ++ List.drop j xs = A at *
  rw [← l3]
  simp

set_option maxHeartbeats 4000000 in
theorem del_link {E : Env} {f sz by' : Nat} {zero : List AV} (hE : E.ext f = none) (hF : E.fns f = some (delF sz by' zero)) (hz : zero.length = sz) (hzd : anyDeep zero = false) {xs : Els} (hd : anyDeeps xs = false) {i j : Int} (h0 : 0 ≤ i) (h1 : i ≤ j) (h2 : j ≤ (xs.length : Int)) (hb : xs.length * by' ≤ 140737488355328) :
    callW E f [.deep false false sz xs, .i .i64 i, .i .i64 j] = some ([.deep false false sz (xs.take i.toNat ++ xs.drop j.toNat)], [none]) := by
  refine callW_fn' (F := delF sz by' zero) (tm := tmOf [(0, .slc 0 [] 0 sz 0 xs.length), (1, .i .i64 i), (2, .i .i64 j)]) (rs := rsL [(0, some ⟨true, sz, 0, xs⟩)]) (nx := 1) (ow := [true]) hE hF (by simp only [SN]) (by simp only [SN]) (Nat.le_refl 1) ?_
  show W E (delB sz by' zero) _ (Qf [.t 6] [true] _)
  unfold delB
  have hi : i ≤ (xs.length : Int) := by omega
  have hj : 0 ≤ j := by omega
  have hdw : ∀ off len, anyDeeps (wnd xs off len) = false := fun off len => by
    simp only [anyDeeps, List.any_eq_false] at hd ⊢
    exact fun x hx => hd x (List.mem_of_mem_drop (List.mem_of_mem_take hx))
  have hl1 : (wnd xs 0 i.toNat).length = i.toNat := wnd_length (by omega)
  have hl2 : (wnd xs (0 + j.toNat) (xs.length - j.toNat)).length = xs.length - j.toNat := wnd_length (by omega)
  have hbb : ((wnd xs 0 i.toNat).length + (wnd xs (0 + j.toNat) (xs.length - j.toNat)).length) * by' ≤ 140737488355328 := by
    rw [hl1, hl2]; exact Nat.le_trans (Nat.mul_le_mul_right _ (by omega)) hb
  by_cases hij : i = j
  · simp only [RN, i_slM, i_slC, slC_s, i_clr, ↓reduceIte, Nat.reduceEqDiff, Nat.reduceAdd, Nat.reduceMul, Nat.reduceSub, Nat.reduceLeDiff, Nat.reduceLT, Nat.reduceBEq, Nat.reduceBNe, Int.reduceLE, Int.reduceLT, Int.reduceEq, Int.reduceToNat, ne_eq, not_false_eq_true, not_true_eq_false, reduceCtorEq, and_self, eq_self, slM_c h0 h1 h2 (Int.le_refl _), eq_true hij]
    subst hij
    have e1 : wnd xs 0 xs.length = xs := by simp [wnd]
    rw [e1, List.take_append_drop]
  · simp only [RN, i_slM, i_slC, slC_s, i_clr, ↓reduceIte, Nat.reduceEqDiff, Nat.reduceAdd, Nat.reduceMul, Nat.reduceSub, Nat.reduceLeDiff, Nat.reduceLT, Nat.reduceBEq, Nat.reduceBNe, Int.reduceLE, Int.reduceLT, Int.reduceEq, Int.reduceToNat, ne_eq, not_false_eq_true, not_true_eq_false, reduceCtorEq, and_self, eq_self, slM_c h0 h1 h2 (Int.le_refl _), hij, h0, hi, hj, h2, hdw, app_g hbb]
    have hcut := del_cut (z := zero) (xs := xs) (i := i.toNat) (j := j.toNat) (by omega) (by omega)
    have hly : (wnd xs 0 i.toNat ++ wnd xs (0 + j.toNat) (xs.length - j.toNat) ++ List.drop (wnd xs (0 + j.toNat) (xs.length - j.toNat)).length (List.drop (0 + i.toNat) xs)).length = xs.length := by
      simp only [List.length_append, List.length_drop, hl1, hl2]; omega
    rw [Nat.zero_add (j.toNat)] at hl2 hly ⊢
    rw [hl1, hl2] at *
    generalize hY : wnd xs 0 i.toNat ++ wnd xs j.toNat (xs.length - j.toNat) ++ List.drop (xs.length - j.toNat) (List.drop (0 + i.toNat) xs) = Y at *
    generalize hN : i.toNat + (xs.length - j.toNat) = N at *
    have hNl : N ≤ xs.length := by omega
    rw [gSlC_c (by omega) (by omega) (by omega)]
    simp only [RN, i_slM, i_slC, slC_s, i_clr, ↓reduceIte, Nat.reduceEqDiff, Nat.reduceAdd, Nat.reduceMul, Nat.reduceSub, Nat.reduceLeDiff, Nat.reduceLT, Nat.reduceBEq, Nat.reduceBNe, Int.reduceLE, Int.reduceLT, Int.reduceEq, Int.reduceToNat, ne_eq, not_false_eq_true, not_true_eq_false, reduceCtorEq, and_self, eq_self, clr_h hz.symm hzd]
    simp only [Int.toNat_natCast, Nat.zero_add]
    rw [Nat.zero_add] at hcut
    rw [← hcut]; rfl

def insB (sz by' : Nat) (zero : List AV) (rot : Nat) : C := (.seq (.kp [0, 1, 2] (.ops [o 6 (.mv (.k (.nl sz)))])) (.seq (.kp [0, 1, 2] (.ops [o 10 (.mv (.t 0)), o 11 (.mv (.t 1)), o 12 (.slR sz (.t 10) (some (.t 11)) none)])) (.seq (.kp [0, 1, 2, 7] (.ops [o 13 (.mv (.t 2)), o 14 (.len false (.t 13)), o 7 (.mv (.t 14))])) (.seq (.seq (.kp [0, 1, 2, 7, 16] (.ops [o 15 (.mv (.t 7)), o 16 (.bin .eql 0 (.t 15) (.k (.i .i64 0)))])) (.cond (.t 16) (.seq (.kp [6] (.ops [o 17 (.mv (.t 0)), o 6 (.mv (.t 17))])) C.ret) C.skip)) (.seq (.kp [0, 1, 2, 7, 8] (.ops [o 18 (.mv (.t 0)), o 19 (.len false (.t 18)), o 8 (.mv (.t 19))])) (.seq (.seq (.kp [0, 1, 2, 7, 8, 22] (.ops [o 20 (.mv (.t 1)), o 21 (.mv (.t 8)), o 22 (.bin .eql 0 (.t 20) (.t 21))])) (.cond (.t 22) (.seq (.kp [6] (.ops [o 23 (.mv (.t 0)), o 24 (.mv (.t 2)), o 25 (.app sz by' (.t 23) (.t 24)), o 6 (.mv (.t 25))])) C.ret) C.skip)) (.seq (.seq (.kp [0, 1, 2, 7, 8, 31] (.ops [o 26 (.mv (.t 8)), o 27 (.mv (.t 7)), o 28 (.bin .add 0 (.t 26) (.t 27)), o 29 (.mv (.t 0)), o 30 (.cap (.t 29)), o 31 (.bin .gtr 0 (.t 28) (.t 30))])) (.cond (.t 31) (.seq (.kp [0, 1, 2, 7, 9] (.ops [o 32 (.mv (.t 0)), o 33 (.mv (.t 1)), o 34 (.slR sz (.t 32) none (some (.t 33))), o 35 (.mv (.t 8)), o 36 (.mv (.t 7)), o 37 (.bin .add 0 (.t 35) (.t 36)), o 38 (.mv (.t 1)), o 39 (.bin .sub 0 (.t 37) (.t 38)), o 40 (.appZ by' zero (.t 31) (.t 34) (.t 39)), o 9 (.mv (.t 40))])) (.seq (.kp [0, 1, 7, 9] (.ops [o 41 (.mv (.t 9)), o 42 (.mv (.t 1)), o 43 (.slR sz (.t 41) (some (.t 42)) none), o 44 (.mv (.t 2)), o 45 (.copy sz (.t 43) (.t 44))])) (.seq (.kp [9] (.draw (sq 9) [o 46 (.mv (.t 9)), o 47 (.mv (.t 1)), o 48 (.mv (.t 7)), o 49 (.bin .add 0 (.t 47) (.t 48)), o 50 (.slR sz (.t 46) (some (.t 49)) none), o 51 (.mv (.t 0)), o 52 (.mv (.t 1)), o 53 (.slR sz (.t 51) (some (.t 52)) none), o 54 (.copyK sz (.t 50) (.t 53))])) (.seq (.kp [6] (.ops [o 55 (.mv (.t 9)), o 6 (.mv (.t 55))])) C.ret)))) C.skip)) (.seq (.kp [0, 1, 2, 7, 8] (.ops [o 56 (.mv (.t 0)), o 57 (.mv (.t 8)), o 58 (.mv (.t 7)), o 59 (.bin .add 0 (.t 57) (.t 58)), o 60 (.slX sz (.t 31) (.t 56) (.t 59)), o 0 (.mv (.t 60))])) (.seq (.seq (.kp [0, 1, 2, 7, 8, 68] (.ops [o 61 (.mv (.t 2)), o 62 (.mv (.t 0)), o 63 (.mv (.t 1)), o 64 (.mv (.t 7)), o 65 (.bin .add 0 (.t 63) (.t 64)), o 66 (.slR sz (.t 62) (some (.t 65)) none), o 67 (.ovl sz (.t 61) (.t 66)), o 68 (.un .not (.t 67))])) (.cond (.t 68) (.seq (.kp [0, 1, 2] (.draw (sq 9) [o 69 (.mv (.t 0)), o 70 (.mv (.t 1)), o 71 (.mv (.t 7)), o 72 (.bin .add 0 (.t 70) (.t 71)), o 73 (.slR sz (.t 69) (some (.t 72)) none), o 74 (.mv (.t 0)), o 75 (.mv (.t 1)), o 76 (.slR sz (.t 74) (some (.t 75)) none), o 77 (.copy sz (.t 73) (.t 76))])) (.seq (.kp [0] (.ops [o 78 (.mv (.t 0)), o 79 (.mv (.t 1)), o 80 (.slR sz (.t 78) (some (.t 79)) none), o 81 (.mv (.t 2)), o 82 (.copy sz (.t 80) (.t 81))])) (.seq (.kp [6] (.ops [o 83 (.mv (.t 0)), o 6 (.mv (.t 83))])) C.ret))) C.skip)) (.seq (.kp [0, 1, 7] (.ops [o 84 (.mv (.t 0)), o 85 (.mv (.t 8)), o 86 (.slR sz (.t 84) (some (.t 85)) none), o 87 (.mv (.t 2)), o 88 (.copy sz (.t 86) (.t 87))])) (.seq (.kp [0] (.ops [o 89 (.mv (.t 0)), o 90 (.mv (.t 1)), o 91 (.slR sz (.t 89) (some (.t 90)) none), o 92 (.mv (.t 7)), o 93 (.call rot [true, false] [.t 91, .t 92])])) (.seq (.kp [6] (.ops [o 94 (.mv (.t 0)), o 6 (.mv (.t 94))])) C.ret))))))))))))
def insF (sz by' : Nat) (zero : List AV) (rot : Nat) : Fn := ⟨2, insB sz by' zero rot, [.t 6]⟩

theorem repl_mid {A V Z : Els} {n : Nat} (h : n = A.length) : repl n V (A ++ Z) = A ++ V ++ Z.drop V.length := by
  subst h
  simp only [repl, List.take_left', List.append_assoc, List.append_cancel_left_eq]
  rw [List.drop_append, List.drop_of_length_le (by omega), Nat.add_sub_cancel_left, List.nil_append]
theorem wnd_pre {A Z : Els} {n : Nat} (h : n = A.length) : wnd (A ++ Z) 0 n = A := by subst h; simp [wnd]
theorem ins_cut {xs vs Z : Els} {k : Nat} (h : k ≤ xs.length) (hZ : True) :
    wnd (repl (0 + (k + vs.length)) (xs.drop k) (repl (0 + k) vs (xs.take k ++ Z))) 0 (xs.length + vs.length) = xs.take k ++ vs ++ xs.drop k := by
  have l1 : (xs.take k).length = k := by simp; omega
  rw [Nat.zero_add, Nat.zero_add, repl_mid l1.symm, repl_mid (by rw [List.length_append, l1]), wnd_pre (by simp only [List.length_append, l1, List.length_drop]; omega)]
theorem ins_cut2 {xs vs U : Els} {k : Nat} (h : k ≤ xs.length) (hU : vs.length ≤ U.length) :
    wnd (repl (0 + k) vs (repl (0 + (k + vs.length)) (xs.drop k) (xs ++ U))) 0 (xs.length + vs.length) = xs.take k ++ vs ++ xs.drop k := by
  rw [Nat.zero_add, Nat.zero_add]
  have l1 : (xs.take k).length = k := by simp; omega
  have e0 : xs ++ U = (xs ++ U).take (k + vs.length) ++ (xs ++ U).drop (k + vs.length) := (List.take_append_drop _ _).symm
  have l2 : ((xs ++ U).take (k + vs.length)).length = k + vs.length := by simp; omega
  have e1 : (xs ++ U).take (k + vs.length) = xs.take k ++ ((xs ++ U).take (k + vs.length)).drop k := by
    have := List.take_append_drop k ((xs ++ U).take (k + vs.length))
    rw [List.take_take, Nat.min_eq_left (by omega), List.take_append_of_le_length h] at this
    exact this.symm
  rw [e0, repl_mid l2.symm, e1, List.append_assoc, List.append_assoc (xs.take k), repl_mid l1.symm]
  have l3 : (((xs ++ U).take (k + vs.length)).drop k).length = vs.length := by rw [List.length_drop, l2]; omega
  rw [List.drop_append, List.drop_of_length_le (by omega), l3, Nat.sub_self, List.drop_zero, List.nil_append]
  rw [← List.append_assoc, wnd_pre]
  simp only [List.length_append, l1, List.length_drop]; omega

set_option maxHeartbeats 4000000 in
theorem ins_link {E : Env} {f sz by' rot : Nat} {zero : List AV} (hE : E.ext f = none) (hF : E.fns f = some (insF sz by' zero rot)) (hz : zero.length = sz) (hzd : anyDeep zero = false) (hby : 0 < by') {xs vs : Els} (hd : anyDeeps xs = false) (hdv : anyDeeps vs = false) (hv : 0 < vs.length) {i : Int} (h0 : 0 ≤ i) (h1 : i ≤ (xs.length : Int)) (hb : (xs.length + vs.length) * by' ≤ 140737488355328) :
    callW E f [.deep false false sz xs, .i .i64 i, .deep false false sz vs] = some ([.deep false false sz (xs.take i.toNat ++ vs ++ xs.drop i.toNat)], [none, some vs]) := by
  subst hz
  obtain ⟨k, rfl⟩ : ∃ k : Nat, i = k := ⟨i.toNat, by omega⟩
  simp only [Int.toNat_natCast]
  refine callW_fn' (F := insF zero.length by' zero rot) (tm := tmOf [(0, .slc 0 [] 0 zero.length 0 xs.length), (1, .i .i64 k), (2, .slc 1 [] 0 zero.length 0 vs.length)]) (rs := rsL [(0, some ⟨true, zero.length, 0, xs⟩), (1, some ⟨true, zero.length, 0, vs⟩)]) (nx := 2) (ow := [true, true]) hE hF (by simp only [SN]) (by simp only [SN]) (Nat.le_refl 2) ?_
  show W E (insB zero.length by' zero rot) _ (Qf [.t 6] [true, true] _)
  unfold insB
  have hsm : xs.length + vs.length ≤ 140737488355328 := Nat.le_trans (Nat.le_mul_of_pos_right _ hby) hb
  have hm0 : ¬ ((vs.length : Int) = 0) := by omega
  have hdw : ∀ {xs : Els}, anyDeeps xs = false → ∀ off len, anyDeeps (wnd xs off len) = false := fun {xs} hd off len => by
    simp only [anyDeeps, List.any_eq_false] at hd ⊢
    exact fun x hx => hd x (List.mem_of_mem_drop (List.mem_of_mem_take hx))
  have w0 : ∀ {xs : Els}, wnd xs 0 xs.length = xs := fun {xs} => by simp [wnd]
  by_cases hkn : (k : Int) = (xs.length : Int)
  · simp only [RN, i_slM, i_slC, slC_s, i_clr, i_cap, i_appZ, appZ_s, i_slX, i_ovl, i_copy, copy_s, i_copyK, copyK_s, gOvl_c, gSlX_c, WC_cv, tok_c, ↓reduceIte, Nat.reduceEqDiff, Nat.reduceAdd, Nat.reduceMul, Nat.reduceSub, Nat.reduceLeDiff, Nat.reduceLT, Nat.reduceBEq, Nat.reduceBNe, Int.reduceLE, Int.reduceLT, Int.reduceEq, Int.reduceToNat, ne_eq, not_false_eq_true, not_true_eq_false, reduceCtorEq, and_self, eq_self, h0, h1, hm0, eq_true hkn, hd, hdv, w0, app_g hb]
    have hk : k = xs.length := by omega
    subst hk
    rw [List.take_length, List.drop_length, List.append_nil]
    have e1 : List.take (xs.length + vs.length) (xs ++ vs) = xs ++ vs := List.take_of_length_le (by simp)
    simp [wnd, bkX, e1]
  · have hx0 : 0 < xs.length := by omega
    have hnn : (0 : Int) ≤ ((xs.length + vs.length : Nat) : Int) := by omega
    have hw1 : wrap64 ((xs.length : Int) + (vs.length : Int)) = ((xs.length + vs.length : Nat) : Int) := by unfold wrap64; omega
    simp only [RN, i_slM, i_slC, slC_s, i_clr, i_cap, i_appZ, appZ_s, i_slX, i_ovl, i_copy, copy_s, i_copyK, copyK_s, gOvl_c, gSlX_c, WC_cv, tok_c, ↓reduceIte, Nat.reduceEqDiff, Nat.reduceAdd, Nat.reduceMul, Nat.reduceSub, Nat.reduceLeDiff, Nat.reduceLT, Nat.reduceBEq, Nat.reduceBNe, Int.reduceLE, Int.reduceLT, Int.reduceEq, Int.reduceToNat, ne_eq, not_false_eq_true, not_true_eq_false, reduceCtorEq, and_self, eq_self, h0, h1, hm0, hkn, hw1, cap_c hx0, hnn, b_cap, Int.toNat_natCast]
    refine ⟨?_, ?_⟩
    · have hw2 : wrap64 (((xs.length + vs.length : Nat) : Int) - (k : Int)) = ((xs.length + vs.length - k : Nat) : Int) := by unfold wrap64; omega
      have hw3 : wrap64 ((k : Int) + (vs.length : Int)) = ((k + vs.length : Nat) : Int) := by unfold wrap64; omega
      have f1 : (0 : Int) < ((xs.length + vs.length - k : Nat) : Int) := by omega
      have f3 : xs.length + vs.length ≤ k + (xs.length + vs.length - k) := by omega
      have f4 : (k + (xs.length + vs.length - k)) * by' ≤ 140737488355328 := Nat.le_trans (Nat.mul_le_mul_right _ (by omega)) hb
      have g1 : (k : Int) ≤ ((k + (xs.length + vs.length - k) : Nat) : Int) := by omega
      have g2 : (0 : Int) ≤ ((k + vs.length : Nat) : Int) := by omega
      have g3 : ((k + vs.length : Nat) : Int) ≤ ((k + (xs.length + vs.length - k) : Nat) : Int) := by omega
      simp only [RN, i_slM, i_slC, slC_s, i_clr, i_cap, i_appZ, appZ_s, i_slX, i_ovl, i_copy, copy_s, i_copyK, copyK_s, gOvl_c, gSlX_c, WC_cv, tok_c, ↓reduceIte, Nat.reduceEqDiff, Nat.reduceAdd, Nat.reduceMul, Nat.reduceSub, Nat.reduceLeDiff, Nat.reduceLT, Nat.reduceBEq, Nat.reduceBNe, Int.reduceLE, Int.reduceLT, Int.reduceEq, Int.reduceToNat, ne_eq, not_false_eq_true, not_true_eq_false, reduceCtorEq, and_self, eq_self, h0, h1, hw1, hw2, hw3, Int.toNat_natCast, gAppZ_c f1 (hdw hd 0 k) (by rw [Int.toNat_natCast]; exact f3) hx0 (by rw [Int.toNat_natCast]; exact f4), g1, g2, g3, gCopy_c, gCopyK_c, hdw hd, hdw hdv]
      have e1 : wnd xs (0 + k) (min (xs.length - k) (k + (xs.length + vs.length - k) - (k + vs.length))) = xs.drop k := by
        rw [Nat.zero_add, wnd, List.take_of_length_le (by rw [List.length_drop]; omega)]
      have e2 : wnd vs 0 (min vs.length (k + (xs.length + vs.length - k) - k)) = vs := by
        rw [wnd, List.drop_zero, List.take_of_length_le (by omega)]
      have e3 : wnd xs 0 k = xs.take k := by simp [wnd]
      rw [e1, e2, e3, show k + (xs.length + vs.length - k) = xs.length + vs.length by omega, ins_cut (by omega) trivial]
      rfl
    · have hw3 : wrap64 ((k : Int) + (vs.length : Int)) = ((k + vs.length : Nat) : Int) := by unfold wrap64; omega
      have g0 : ((xs.length + vs.length : Nat) : Int) ≤ ((xs.length + vs.length : Nat) : Int) := Int.le_refl _
      have g2 : (0 : Int) ≤ ((k + vs.length : Nat) : Int) := by omega
      have g3 : ((k + vs.length : Nat) : Int) ≤ ((xs.length + vs.length : Nat) : Int) := by omega
      have g4 : (k : Int) ≤ ((xs.length + vs.length : Nat) : Int) := by omega
      have g5 : 0 < xs.length + vs.length - (k + vs.length) := by omega
      have hdU : anyDeeps (xs ++ List.replicate (0 + (xs.length + vs.length) - xs.length) (List.replicate zero.length .undef)) = false := by
        refine anyDeeps_append hd (no_rep ?_ _)
        simp only [anyDeep, List.any_eq_false]
        intro x hx
        rw [(List.mem_replicate.1 hx).2]; simp [AV.isDeep]
      simp only [RN, i_slM, i_slC, slC_s, i_clr, i_cap, i_appZ, appZ_s, i_slX, i_ovl, i_copy, copy_s, i_copyK, copyK_s, gOvl_c, gSlX_c, WC_cv, tok_c, ↓reduceIte, Nat.reduceEqDiff, Nat.reduceAdd, Nat.reduceMul, Nat.reduceSub, Nat.reduceLeDiff, Nat.reduceLT, Nat.reduceBEq, Nat.reduceBNe, Int.reduceLE, Int.reduceLT, Int.reduceEq, Int.reduceToNat, ne_eq, not_false_eq_true, not_true_eq_false, reduceCtorEq, and_self, eq_self, h0, h1, hw1, hw3, slX_s hx0 hnn g0, Int.toNat_natCast, g2, g3, g4, g5, hv, ovl_s, gCopy_c, hdw hdU, hdw hdv]
      generalize hU : List.replicate (0 + (xs.length + vs.length) - xs.length) (List.replicate zero.length AV.undef) = U
      have hUl : U.length = vs.length := by rw [← hU, List.length_replicate]; omega
      have e1 : wnd (xs ++ U) (0 + k) (min (xs.length + vs.length - k) (xs.length + vs.length - (k + vs.length))) = xs.drop k := by
        rw [Nat.zero_add, wnd, List.drop_append_of_le_length (by omega), List.take_append_of_le_length (by rw [List.length_drop]; omega), List.take_of_length_le (by rw [List.length_drop]; omega)]
      have e2 : wnd vs 0 (min vs.length (xs.length + vs.length - k)) = vs := by
        rw [wnd, List.drop_zero, List.take_of_length_le (by omega)]
      rw [e1, e2, ins_cut2 (by omega) (by omega)]
      rfl
end Go.Proofs.Ytinlbiphjgpmmaa.V
end YtinlbiphjgpmmaaWL
section YtinlbiphjgpmmaaLC
namespace Go.Proofs.Ytinlbiphjgpmmaa.P
open Go Go.RowKit Go.Proofs.Ytinlbiphjgpmmaa.V
set_option linter.unusedVariables false
set_option linter.unusedSimpArgs false
set_option linter.all false
set_option maxRecDepth 100000
def laws_szNodeS.B : C := (.seq (.kp [0, 1] (.ops [o 4 (.mv (.k (.i .i64 0)))])) (.seq (.kp [1] (.ops [o 5 (.mv (.t 1)), o 6 (.mv (.t 0)), o 7 (.len false (.t 6)), o 8 (.bin .sub 0 (.t 5) (.t 7)), o 1 (.mv (.t 8))])) (.seq (.seq (.kp [1, 10] (.ops [o 9 (.mv (.t 1)), o 10 (.bin .lss 0 (.t 9) (.k (.i .i64 0)))])) (.cond (.t 10) (.seq (.kp [4] (.ops [o 4 (.mv (.k (.i .i64 (-1))))])) C.ret) C.skip)) (.seq (.kp [4] (.ops [o 11 (.mv (.t 1)), o 4 (.mv (.t 11))])) C.ret))))
def laws_szNodeS.F : V.Fn := ⟨1, laws_szNodeS.B, [.t 4]⟩
def laws_szIntS.B : C := (.seq (.kp [0, 1] (.ops [o 4 (.mv (.k (.i .i64 0)))])) (.seq (.kp [1] (.ops [o 5 (.mv (.t 1)), o 6 (.mv (.t 0)), o 7 (.len false (.t 6)), o 8 (.bin .sub 0 (.t 5) (.t 7)), o 1 (.mv (.t 8))])) (.seq (.seq (.kp [1, 10] (.ops [o 9 (.mv (.t 1)), o 10 (.bin .lss 0 (.t 9) (.k (.i .i64 0)))])) (.cond (.t 10) (.seq (.kp [4] (.ops [o 4 (.mv (.k (.i .i64 (-1))))])) C.ret) C.skip)) (.seq (.kp [4] (.ops [o 11 (.mv (.t 1)), o 4 (.mv (.t 11))])) C.ret))))
def laws_szIntS.F : V.Fn := ⟨1, laws_szIntS.B, [.t 4]⟩
def laws_szOp.B : C := (.seq (.kp [1, 2] (.ops [o 2 (.boxK (.t 0)), o 4 (.mv (.k (.i .i64 0)))])) (.seq (.kp [1] (.ops [o 5 (.faddr 1 (.t 2)), o 6 (.load none (.t 5)), o 7 (.mv (.t 1)), o 8 (.call 84 [false, false] [.t 6, .t 7]), o 1 (.mv (.t 8))])) (.seq (.seq (.kp [1, 10] (.ops [o 9 (.mv (.t 1)), o 10 (.bin .lss 0 (.t 9) (.k (.i .i64 0)))])) (.cond (.t 10) (.seq (.kp [4] (.ops [o 4 (.mv (.k (.i .i64 (-1))))])) C.ret) C.skip)) (.seq (.kp [4] (.ops [o 11 (.mv (.t 1)), o 4 (.mv (.t 11))])) C.ret))))
def laws_szOp.F : V.Fn := ⟨1, laws_szOp.B, [.t 4]⟩
def laws_szOpS.c0 : C := (.seq (.kp [4] (.ops [o 26 (.mv (.t 1)), o 4 (.mv (.t 26))])) C.ret)
def laws_szOpS.d1 : C := (.seq (.seq (.kp [0, 1, 5, 15] (.ops [o 12 (.mv (.t 5)), o 13 (.mv (.t 0)), o 14 (.len false (.t 13)), o 15 (.bin .lss 0 (.t 12) (.t 14))])) (.cond (.t 15) C.skip (.exit 0))) (.seq (.blk 1 (.seq (.kp [0, 1, 5] (.ops [o 18 (.mv (.t 0)), o 19 (.mv (.t 5)), o 20 (.iaddr 5 (.t 18) (.t 19)), o 21 (.load (some 5) (.t 20)), o 22 (.mv (.t 1)), o 23 (.call 47 [false, false] [.t 21, .t 22]), o 1 (.mv (.t 23))])) (.seq (.kp [0, 1, 5, 25] (.ops [o 24 (.mv (.t 1)), o 25 (.bin .lss 0 (.t 24) (.k (.i .i64 0)))])) (.cond (.t 25) (.seq (.kp [4] (.ops [o 4 (.mv (.k (.i .i64 (-1))))])) C.ret) C.skip)))) (.kp [0, 1, 5] (.ops [o 16 (.mv (.t 5)), o 17 (.bin .add 0 (.t 16) (.k (.i .i64 1))), o 5 (.mv (.t 17))]))))
def laws_szOpS.c1 : C := .loop 1 [0, 1, 5] laws_szOpS.d1
def laws_szOpS.B : C := (.seq (.kp [0, 1] (.ops [o 4 (.mv (.k (.i .i64 0)))])) (.seq (.kp [0, 1] (.ops [o 6 (.mv (.t 1)), o 7 (.mv (.t 0)), o 8 (.len false (.t 7)), o 9 (.bin .sub 0 (.t 6) (.t 8)), o 1 (.mv (.t 9))])) (.seq (.seq (.kp [0, 1, 11] (.ops [o 10 (.mv (.t 1)), o 11 (.bin .lss 0 (.t 10) (.k (.i .i64 0)))])) (.cond (.t 11) (.seq (.kp [4] (.ops [o 4 (.mv (.k (.i .i64 (-1))))])) C.ret) C.skip)) (.seq (.seq (.kp [0, 1, 5] (.ops [o 5 (.mv (.k (.i .i64 0)))])) (.blk 0 laws_szOpS.c1)) laws_szOpS.c0))))
def laws_szOpS.F : V.Fn := ⟨1, laws_szOpS.B, [.t 4]⟩
def laws_szOpSS.c0 : C := (.seq (.kp [4] (.ops [o 26 (.mv (.t 1)), o 4 (.mv (.t 26))])) C.ret)
def laws_szOpSS.d1 : C := (.seq (.seq (.kp [0, 1, 5, 15] (.ops [o 12 (.mv (.t 5)), o 13 (.mv (.t 0)), o 14 (.len false (.t 13)), o 15 (.bin .lss 0 (.t 12) (.t 14))])) (.cond (.t 15) C.skip (.exit 0))) (.seq (.blk 1 (.seq (.kp [0, 1, 5] (.ops [o 18 (.mv (.t 0)), o 19 (.mv (.t 5)), o 20 (.iaddr 1 (.t 18) (.t 19)), o 21 (.load none (.t 20)), o 22 (.mv (.t 1)), o 23 (.call 20 [false, false] [.t 21, .t 22]), o 1 (.mv (.t 23))])) (.seq (.kp [0, 1, 5, 25] (.ops [o 24 (.mv (.t 1)), o 25 (.bin .lss 0 (.t 24) (.k (.i .i64 0)))])) (.cond (.t 25) (.seq (.kp [4] (.ops [o 4 (.mv (.k (.i .i64 (-1))))])) C.ret) C.skip)))) (.kp [0, 1, 5] (.ops [o 16 (.mv (.t 5)), o 17 (.bin .add 0 (.t 16) (.k (.i .i64 1))), o 5 (.mv (.t 17))]))))
def laws_szOpSS.c1 : C := .loop 1 [0, 1, 5] laws_szOpSS.d1
def laws_szOpSS.B : C := (.seq (.kp [0, 1] (.ops [o 4 (.mv (.k (.i .i64 0)))])) (.seq (.kp [0, 1] (.ops [o 6 (.mv (.t 1)), o 7 (.mv (.t 0)), o 8 (.len false (.t 7)), o 9 (.bin .sub 0 (.t 6) (.t 8)), o 1 (.mv (.t 9))])) (.seq (.seq (.kp [0, 1, 11] (.ops [o 10 (.mv (.t 1)), o 11 (.bin .lss 0 (.t 10) (.k (.i .i64 0)))])) (.cond (.t 11) (.seq (.kp [4] (.ops [o 4 (.mv (.k (.i .i64 (-1))))])) C.ret) C.skip)) (.seq (.seq (.kp [0, 1, 5] (.ops [o 5 (.mv (.k (.i .i64 0)))])) (.blk 0 laws_szOpSS.c1)) laws_szOpSS.c0))))
def laws_szOpSS.F : V.Fn := ⟨1, laws_szOpSS.B, [.t 4]⟩
def laws_szHist.B : C := (.seq (.kp [1, 2] (.ops [o 2 (.boxK (.t 0)), o 4 (.mv (.k (.i .i64 0)))])) (.seq (.kp [1, 2] (.ops [o 5 (.faddr 0 (.t 2)), o 6 (.load none (.t 5)), o 7 (.mv (.t 1)), o 8 (.call 45 [false, false] [.t 6, .t 7]), o 1 (.mv (.t 8))])) (.seq (.seq (.kp [1, 2, 10] (.ops [o 9 (.mv (.t 1)), o 10 (.bin .lss 0 (.t 9) (.k (.i .i64 0)))])) (.cond (.t 10) (.seq (.kp [4] (.ops [o 4 (.mv (.k (.i .i64 (-1))))])) C.ret) C.skip)) (.seq (.kp [1] (.ops [o 11 (.faddr 1 (.t 2)), o 12 (.load none (.t 11)), o 13 (.mv (.t 1)), o 14 (.call 46 [false, false] [.t 12, .t 13]), o 1 (.mv (.t 14))])) (.seq (.seq (.kp [1, 16] (.ops [o 15 (.mv (.t 1)), o 16 (.bin .lss 0 (.t 15) (.k (.i .i64 0)))])) (.cond (.t 16) (.seq (.kp [4] (.ops [o 4 (.mv (.k (.i .i64 (-1))))])) C.ret) C.skip)) (.seq (.kp [4] (.ops [o 17 (.mv (.t 1)), o 4 (.mv (.t 17))])) C.ret))))))
def laws_szHist.F : V.Fn := ⟨2, laws_szHist.B, [.t 4]⟩
def laws_toNode.B : C := (.seq (.kp [1, 2] (.ops [o 1 (.boxK (.t 0)), o 2 (.alloc [.i .i64 0, .i .i64 0])])) (.seq (.kp [1, 2, 3] (.ops [o 3 (.alloc [.i .i64 0, .i .i64 0])])) (.seq (.kp [1, 2, 3] (.ops [o 4 (.faddr 0 (.t 1)), o 5 (.load none (.t 4)), o 6 (.faddr 0 (.t 3)), oz none none [] (.store 1 (.t 6) (.t 5))])) (.seq (.kp [2, 3] (.ops [o 7 (.faddr 1 (.t 1)), o 8 (.load none (.t 7)), o 9 (.faddr 1 (.t 3)), oz none none [] (.store 1 (.t 9) (.t 8))])) (.seq (.kp [2] (.ops [o 10 (.load (some 2) (.t 3)), oz none none [] (.store 2 (.t 2) (.t 10))])) C.ret)))))
def laws_toNode.F : V.Fn := ⟨0, laws_toNode.B, [.cell 2 (some 2)]⟩
def laws_toNodeS.c0 : C := (.seq (.kp [2] (.ops [o 22 (.mv (.t 3)), o 2 (.mv (.t 22))])) C.ret)
def laws_toNodeS.d1 : C := (.seq (.seq (.kp [0, 3, 4, 11] (.ops [o 8 (.mv (.t 4)), o 9 (.mv (.t 0)), o 10 (.len false (.t 9)), o 11 (.bin .lss 0 (.t 8) (.t 10))])) (.cond (.t 11) C.skip (.exit 0))) (.seq (.blk 1 (.kp [0, 3, 4] (.ops [o 14 (.mv (.t 3)), o 15 (.mv (.t 4)), o 16 (.mv (.t 0)), o 17 (.mv (.t 4)), o 18 (.iaddr 2 (.t 16) (.t 17)), o 19 (.load (some 2) (.t 18)), o 20 (.call 88 [false] [.t 19]), o 21 (.iaddr 2 (.t 14) (.t 15)), oz none none [] (.store 2 (.t 21) (.t 20))]))) (.kp [0, 3, 4] (.ops [o 12 (.mv (.t 4)), o 13 (.bin .add 0 (.t 12) (.k (.i .i64 1))), o 4 (.mv (.t 13))]))))
def laws_toNodeS.c1 : C := .loop 1 [0, 3, 4] laws_toNodeS.d1
def laws_toNodeS.B : C := (.seq (.kp [0] (.ops [o 2 (.mv (.k (.nl 2)))])) (.seq (.kp [0, 3] (.ops [o 5 (.mv (.t 0)), o 6 (.len false (.t 5)), o 7 (.mks 2 16 [.i .i64 0, .i .i64 0] (.t 6)), o 3 (.mv (.t 7))])) (.seq (.seq (.kp [0, 3, 4] (.ops [o 4 (.mv (.k (.i .i64 0)))])) (.blk 0 laws_toNodeS.c1)) laws_toNodeS.c0)))
def laws_toNodeS.F : V.Fn := ⟨1, laws_toNodeS.B, [.t 2]⟩
def laws_toIntS.c0 : C := (.seq (.kp [2] (.ops [o 21 (.mv (.t 3)), o 2 (.mv (.t 21))])) C.ret)
def laws_toIntS.d1 : C := (.seq (.seq (.kp [0, 3, 4, 11] (.ops [o 8 (.mv (.t 4)), o 9 (.mv (.t 0)), o 10 (.len false (.t 9)), o 11 (.bin .lss 0 (.t 8) (.t 10))])) (.cond (.t 11) C.skip (.exit 0))) (.seq (.blk 1 (.kp [0, 3, 4] (.ops [o 14 (.mv (.t 3)), o 15 (.mv (.t 4)), o 16 (.mv (.t 0)), o 17 (.mv (.t 4)), o 18 (.iaddr 1 (.t 16) (.t 17)), o 19 (.load none (.t 18)), o 20 (.iaddr 1 (.t 14) (.t 15)), oz none none [] (.store 1 (.t 20) (.t 19))]))) (.kp [0, 3, 4] (.ops [o 12 (.mv (.t 4)), o 13 (.bin .add 0 (.t 12) (.k (.i .i64 1))), o 4 (.mv (.t 13))]))))
def laws_toIntS.c1 : C := .loop 1 [0, 3, 4] laws_toIntS.d1
def laws_toIntS.B : C := (.seq (.kp [0] (.ops [o 2 (.mv (.k (.nl 1)))])) (.seq (.kp [0, 3] (.ops [o 5 (.mv (.t 0)), o 6 (.len false (.t 5)), o 7 (.mks 1 8 [.i .i64 0] (.t 6)), o 3 (.mv (.t 7))])) (.seq (.seq (.kp [0, 3, 4] (.ops [o 4 (.mv (.k (.i .i64 0)))])) (.blk 0 laws_toIntS.c1)) laws_toIntS.c0)))
def laws_toIntS.F : V.Fn := ⟨1, laws_toIntS.B, [.t 2]⟩
def laws_toOp.B : C := (.seq (.kp [1, 2] (.ops [o 1 (.boxK (.t 0)), o 2 (.alloc [.i .i64 0, .deep false false 1 [], .i .i64 0, .i .i64 0, .i .i64 0])])) (.seq (.kp [1, 2, 3] (.ops [o 3 (.alloc [.i .i64 0, .deep false false 1 [], .i .i64 0, .i .i64 0, .i .i64 0])])) (.seq (.kp [1, 2, 3] (.ops [o 4 (.faddr 0 (.t 1)), o 5 (.load none (.t 4)), o 6 (.faddr 0 (.t 3)), oz none none [] (.store 1 (.t 6) (.t 5))])) (.seq (.kp [1, 2, 3] (.ops [o 7 (.faddr 1 (.t 1)), o 8 (.load none (.t 7)), o 9 (.call 89 [false] [.t 8]), o 10 (.faddr 1 (.t 3)), oz none none [] (.store 1 (.t 10) (.t 9))])) (.seq (.kp [1, 2, 3] (.ops [o 11 (.faddr 2 (.t 1)), o 12 (.load none (.t 11)), o 13 (.faddr 2 (.t 3)), oz none none [] (.store 1 (.t 13) (.t 12))])) (.seq (.kp [1, 2, 3] (.ops [o 14 (.faddr 3 (.t 1)), o 15 (.load none (.t 14)), o 16 (.faddr 3 (.t 3)), oz none none [] (.store 1 (.t 16) (.t 15))])) (.seq (.kp [2, 3] (.ops [o 17 (.faddr 4 (.t 1)), o 18 (.load none (.t 17)), o 19 (.faddr 4 (.t 3)), oz none none [] (.store 1 (.t 19) (.t 18))])) (.seq (.kp [2] (.ops [o 20 (.load (some 5) (.t 3)), oz none none [20] (.store 5 (.t 2) (.t 20))])) C.ret))))))))
def laws_toOp.F : V.Fn := ⟨1, laws_toOp.B, [.cell 2 (some 5)]⟩
def laws_toOpS.c0 : C := (.seq (.kp [2] (.ops [o 22 (.mv (.t 3)), o 2 (.mv (.t 22))])) C.ret)
def laws_toOpS.d1 : C := (.seq (.seq (.kp [0, 3, 4, 11] (.ops [o 8 (.mv (.t 4)), o 9 (.mv (.t 0)), o 10 (.len false (.t 9)), o 11 (.bin .lss 0 (.t 8) (.t 10))])) (.cond (.t 11) C.skip (.exit 0))) (.seq (.blk 1 (.kp [0, 3, 4] (.ops [o 14 (.mv (.t 3)), o 15 (.mv (.t 4)), o 16 (.mv (.t 0)), o 17 (.mv (.t 4)), o 18 (.iaddr 5 (.t 16) (.t 17)), o 19 (.load (some 5) (.t 18)), o 20 (.call 53 [false] [.t 19]), o 21 (.iaddr 5 (.t 14) (.t 15)), oz none none [] (.store 5 (.t 21) (.t 20))]))) (.kp [0, 3, 4] (.ops [o 12 (.mv (.t 4)), o 13 (.bin .add 0 (.t 12) (.k (.i .i64 1))), o 4 (.mv (.t 13))]))))
def laws_toOpS.c1 : C := .loop 1 [0, 3, 4] laws_toOpS.d1
def laws_toOpS.B : C := (.seq (.kp [0] (.ops [o 2 (.mv (.k (.nl 5)))])) (.seq (.kp [0, 3] (.ops [o 5 (.mv (.t 0)), o 6 (.len false (.t 5)), o 7 (.mks 5 56 [.i .i64 0, .deep false false 1 [], .i .i64 0, .i .i64 0, .i .i64 0] (.t 6)), o 3 (.mv (.t 7))])) (.seq (.seq (.kp [0, 3, 4] (.ops [o 4 (.mv (.k (.i .i64 0)))])) (.blk 0 laws_toOpS.c1)) laws_toOpS.c0)))
def laws_toOpS.F : V.Fn := ⟨1, laws_toOpS.B, [.t 2]⟩
def laws_toOpSS.c0 : C := (.seq (.kp [2] (.ops [o 22 (.mv (.t 3)), o 2 (.mv (.t 22))])) C.ret)
def laws_toOpSS.d1 : C := (.seq (.seq (.kp [0, 3, 4, 11] (.ops [o 8 (.mv (.t 4)), o 9 (.mv (.t 0)), o 10 (.len false (.t 9)), o 11 (.bin .lss 0 (.t 8) (.t 10))])) (.cond (.t 11) C.skip (.exit 0))) (.seq (.blk 1 (.kp [0, 3, 4] (.ops [o 14 (.mv (.t 3)), o 15 (.mv (.t 4)), o 16 (.mv (.t 0)), o 17 (.mv (.t 4)), o 18 (.iaddr 1 (.t 16) (.t 17)), o 19 (.load none (.t 18)), o 20 (.call 23 [false] [.t 19]), o 21 (.iaddr 1 (.t 14) (.t 15)), oz none none [] (.store 1 (.t 21) (.t 20))]))) (.kp [0, 3, 4] (.ops [o 12 (.mv (.t 4)), o 13 (.bin .add 0 (.t 12) (.k (.i .i64 1))), o 4 (.mv (.t 13))]))))
def laws_toOpSS.c1 : C := .loop 1 [0, 3, 4] laws_toOpSS.d1
def laws_toOpSS.B : C := (.seq (.kp [0] (.ops [o 2 (.mv (.k (.nl 1)))])) (.seq (.kp [0, 3] (.ops [o 5 (.mv (.t 0)), o 6 (.len false (.t 5)), o 7 (.mks 1 24 [.deep false false 5 []] (.t 6)), o 3 (.mv (.t 7))])) (.seq (.seq (.kp [0, 3, 4] (.ops [o 4 (.mv (.k (.i .i64 0)))])) (.blk 0 laws_toOpSS.c1)) laws_toOpSS.c0)))
def laws_toOpSS.F : V.Fn := ⟨1, laws_toOpSS.B, [.t 2]⟩
def laws_toHist.B : C := (.seq (.kp [1, 2] (.ops [o 1 (.boxK (.t 0)), o 2 (.alloc [.deep false false 2 [], .deep false false 1 []])])) (.seq (.kp [1, 2, 3] (.ops [o 3 (.alloc [.deep false false 2 [], .deep false false 1 []])])) (.seq (.kp [1, 2, 3] (.ops [o 4 (.faddr 0 (.t 1)), o 5 (.load none (.t 4)), o 6 (.call 51 [false] [.t 5]), o 7 (.faddr 0 (.t 3)), oz none none [] (.store 1 (.t 7) (.t 6))])) (.seq (.kp [2, 3] (.ops [o 8 (.faddr 1 (.t 1)), o 9 (.load none (.t 8)), o 10 (.call 52 [false] [.t 9]), o 11 (.faddr 1 (.t 3)), oz none none [] (.store 1 (.t 11) (.t 10))])) (.seq (.kp [2] (.ops [o 12 (.load (some 2) (.t 3)), oz none none [12] (.store 2 (.t 2) (.t 12))])) C.ret)))))
def laws_toHist.F : V.Fn := ⟨2, laws_toHist.B, [.cell 2 (some 2)]⟩
def spec_l3Copy.B : C := (.seq (.kp [0] (.ops [o 2 (.mv (.k (.nl 2)))])) (.seq (.kp [2] (.ops [o 3 (.lit 2 0 [.i .i64 0, .i .i64 0] []), o 4 (.mv (.t 0)), o 5 (.app 2 16 (.t 3) (.t 4)), o 2 (.mv (.t 5))])) C.ret))
def spec_l3Copy.F : V.Fn := ⟨1, spec_l3Copy.B, [.t 2]⟩
def spec_l19Copy.c0 : C := (.seq (.kp [2] (.ops [o 26 (.mv (.t 3)), o 2 (.mv (.t 26))])) C.ret)
def spec_l19Copy.d1 : C := (.seq (.seq (.kp [0, 3, 4, 10] (.ops [o 7 (.mv (.t 4)), o 8 (.mv (.t 0)), o 9 (.len false (.t 8)), o 10 (.bin .lss 0 (.t 7) (.t 9))])) (.cond (.t 10) C.skip (.exit 0))) (.seq (.blk 1 (.seq (.kp [0, 3, 4, 5] (.ops [o 13 (.mv (.t 0)), o 14 (.mv (.t 4)), o 15 (.iaddr 5 (.t 13) (.t 14)), o 16 (.load (some 5) (.t 15)), o 5 (.alloc [.i .i64 0, .deep false false 1 [], .i .i64 0, .i .i64 0, .i .i64 0]), oz none none [16] (.store 5 (.t 5) (.t 16))])) (.seq (.kp [0, 3, 4, 5] (.ops [o 17 (.lit 1 0 [.i .i64 0] []), o 18 (.faddr 1 (.t 5)), o 19 (.load none (.t 18)), o 20 (.app 1 8 (.t 17) (.t 19)), o 21 (.faddr 1 (.t 5)), oz none none [] (.store 1 (.t 21) (.t 20))])) (.kp [0, 3, 4] (.ops [o 22 (.mv (.t 3)), o 23 (.load (some 5) (.t 5)), oz (some 24) none [23] (.lit 5 1 [.i .i64 0, .deep false false 1 [], .i .i64 0, .i .i64 0, .i .i64 0] [(0, .t 23)]), o 25 (.app 5 56 (.t 22) (.t 24)), o 3 (.mv (.t 25))]))))) (.kp [0, 3, 4] (.ops [o 11 (.mv (.t 4)), o 12 (.bin .add 0 (.t 11) (.k (.i .i64 1))), o 4 (.mv (.t 12))]))))
def spec_l19Copy.c1 : C := .loop 1 [0, 3, 4] spec_l19Copy.d1
def spec_l19Copy.B : C := (.seq (.kp [0] (.ops [o 2 (.mv (.k (.nl 5)))])) (.seq (.kp [0, 3] (.ops [o 6 (.lit 5 0 [.i .i64 0, .deep false false 1 [], .i .i64 0, .i .i64 0, .i .i64 0] []), o 3 (.mv (.t 6))])) (.seq (.seq (.kp [0, 3, 4] (.ops [o 4 (.mv (.k (.i .i64 0)))])) (.blk 0 spec_l19Copy.c1)) spec_l19Copy.c0)))
def spec_l19Copy.F : V.Fn := ⟨1, spec_l19Copy.B, [.t 2]⟩
def spec_l24Copy.c0 : C := (.seq (.kp [2] (.ops [o 27 (.load (some 2) (.t 3)), oz none none [27] (.store 2 (.t 2) (.t 27))])) C.ret)
def spec_l24Copy.d1 : C := (.seq (.seq (.kp [1, 2, 3, 4, 13] (.ops [o 9 (.mv (.t 4)), o 10 (.faddr 1 (.t 1)), o 11 (.load none (.t 10)), o 12 (.len false (.t 11)), o 13 (.bin .lss 0 (.t 9) (.t 12))])) (.cond (.t 13) C.skip (.exit 0))) (.seq (.blk 1 (.kp [1, 2, 3, 4] (.draw (tk [0, 2, 3, 4, 5, 6] (.alt (tk [1, 7, 8, 9, 10, 11] .done) (tk [7] (.alt (tk [1, 8, 9, 10, 11] .done) (tk [8, 1, 9, 10, 11] .done))))) [o 16 (.faddr 1 (.t 3)), o 17 (.load none (.t 16)), o 18 (.faddr 1 (.t 1)), o 19 (.load none (.t 18)), o 20 (.mv (.t 4)), o 21 (.iaddr 1 (.t 19) (.t 20)), o 22 (.load none (.t 21)), o 23 (.call 49 [false] [.t 22]), o 24 (.lit 1 1 [.deep false false 5 []] [(0, .t 23)]), o 25 (.app 1 24 (.t 17) (.t 24)), o 26 (.faddr 1 (.t 3)), oz none none [] (.store 1 (.t 26) (.t 25))]))) (.kp [1, 2, 3, 4] (.ops [o 14 (.mv (.t 4)), o 15 (.bin .add 0 (.t 14) (.k (.i .i64 1))), o 4 (.mv (.t 15))]))))
def spec_l24Copy.c1 : C := .loop 2 [1, 2, 3, 4] spec_l24Copy.d1
def spec_l24Copy.B : C := (.seq (.kp [1, 2] (.ops [o 1 (.boxK (.t 0)), o 2 (.alloc [.deep false false 2 [], .deep false false 1 []])])) (.seq (.kp [1, 2, 3] (.ops [o 5 (.faddr 0 (.t 1)), o 6 (.load none (.t 5)), o 7 (.call 85 [false] [.t 6]), o 8 (.build [.nl 2, .nl 1] [(0, 1, .t 7)]), o 3 (.alloc [.deep false false 2 [], .deep false false 1 []]), oz none none [] (.store 2 (.t 3) (.t 8))])) (.seq (.seq (.kp [1, 2, 3, 4] (.ops [o 4 (.mv (.k (.i .i64 0)))])) (.blk 0 spec_l24Copy.c1)) spec_l24Copy.c0)))
def spec_l24Copy.F : V.Fn := ⟨2, spec_l24Copy.B, [.cell 2 (some 2)]⟩
def spec_l1In.B : C := (.seq (.kp [0, 1, 2] (.ops [o 6 (.mv (.k (.b false)))])) (.seq (.kp [6] (.ops [o 7 (.mv (.t 0)), o 8 (.mv (.t 1)), o 9 (.bin .geq 0 (.t 7) (.t 8)), o 10 (.mv (.t 9)), og 11 10 true (.mv (.t 0)), og 12 10 true (.mv (.t 2)), og 13 10 true (.bin .leq 0 (.t 11) (.t 12)), o 14 (.pick (.t 10) (.t 13) (.k (.b false))), o 6 (.mv (.t 14))])) C.ret))
def spec_l1In.F : V.Fn := ⟨0, spec_l1In.B, [.t 6]⟩
def spec_LabelOk.B : C := (.seq (.kp [0] (.ops [o 2 (.mv (.k (.b false)))])) (.seq (.kp [2] (.ops [o 3 (.mv (.t 0)), o 4 (.call 33 [false, false, false] [.t 3, .k (.i .i64 0), .k (.i .i64 5)]), o 2 (.mv (.t 4))])) C.ret))
def spec_LabelOk.F : V.Fn := ⟨0, spec_LabelOk.B, [.t 2]⟩
def spec_TreeOk.c0 : C := (.seq (.kp [2] (.ops [o 56 (.mv (.t 0)), o 57 (.len false (.t 56)), o 58 (.call 33 [false, false, false] [.t 57, .k (.i .i64 1), .k (.i .i64 24)]), o 2 (.mv (.t 58))])) C.ret)
def spec_TreeOk.d1 : C := (.seq (.seq (.kp [0, 3, 7] (.ops [o 4 (.mv (.t 3)), o 5 (.mv (.t 0)), o 6 (.len false (.t 5)), o 7 (.bin .lss 0 (.t 4) (.t 6))])) (.cond (.t 7) C.skip (.exit 0))) (.seq (.blk 1 (.seq (.kp [0, 3, 55] (.draw (sq 46) [o 10 (.mv (.t 0)), o 11 (.mv (.t 3)), o 12 (.iaddr 2 (.t 10) (.t 11)), o 13 (.faddr 0 (.t 12)), o 14 (.load none (.t 13)), o 15 (.call 71 [false] [.t 14]), o 16 (.un .not (.t 15)), o 17 (.mv (.t 16)), og 18 17 false (.mv (.t 0)), og 19 17 false (.mv (.t 3)), og 20 17 false (.iaddr 2 (.t 18) (.t 19)), og 21 17 false (.faddr 1 (.t 20)), og 22 17 false (.load none (.t 21)), og 23 17 false (.call 33 [false, false, false] [.t 22, .k (.i .i64 0), .k (.i .i64 12)]), og 24 17 false (.un .not (.t 23)), o 25 (.pick (.t 17) (.k (.b true)) (.t 24)), o 26 (.mv (.t 25)), og 27 26 false (.mv (.t 0)), og 28 26 false (.mv (.t 3)), og 29 26 false (.iaddr 2 (.t 27) (.t 28)), og 30 26 false (.faddr 1 (.t 29)), og 31 26 false (.load none (.t 30)), og 32 26 false (.bin .eql 0 (.t 31) (.k (.i .i64 0))), og 33 26 false (.mv (.t 3)), og 34 26 false (.bin .eql 0 (.t 33) (.k (.i .i64 0))), og 35 26 false (.bin .neq 1 (.t 32) (.t 34)), o 36 (.pick (.t 26) (.k (.b true)) (.t 35)), o 37 (.mv (.t 36)), og 38 37 false (.mv (.t 3)), og 39 37 false (.bin .gtr 0 (.t 38) (.k (.i .i64 0))), og 40 37 false (.mv (.t 39)), og 41 40 true (.mv (.t 0)), og 42 40 true (.mv (.t 3)), og 43 40 true (.iaddr 2 (.t 41) (.t 42)), og 44 40 true (.faddr 1 (.t 43)), og 45 40 true (.load none (.t 44)), og 46 40 true (.mv (.t 0)), og 47 40 true (.mv (.t 3)), og 48 40 true (.bin .sub 0 (.t 47) (.k (.i .i64 1))), og 49 40 true (.iaddr 2 (.t 46) (.t 48)), og 50 40 true (.faddr 1 (.t 49)), og 51 40 true (.load none (.t 50)), og 52 40 true (.bin .add 0 (.t 51) (.k (.i .i64 1))), og 53 40 true (.bin .gtr 0 (.t 45) (.t 52)), og 54 37 false (.pick (.t 40) (.t 53) (.k (.b false))), o 55 (.pick (.t 37) (.k (.b true)) (.t 54))])) (.cond (.t 55) (.seq (.kp [2] (.ops [o 2 (.mv (.k (.b false)))])) C.ret) C.skip))) (.kp [0, 3] (.ops [o 8 (.mv (.t 3)), o 9 (.bin .add 0 (.t 8) (.k (.i .i64 1))), o 3 (.mv (.t 9))]))))
def spec_TreeOk.c1 : C := .loop 1 [0, 3] spec_TreeOk.d1
def spec_TreeOk.B : C := (.seq (.kp [0] (.ops [o 2 (.mv (.k (.b false)))])) (.seq (.seq (.kp [0, 3] (.ops [o 3 (.mv (.k (.i .i64 0)))])) (.blk 0 spec_TreeOk.c1)) spec_TreeOk.c0))
def spec_TreeOk.F : V.Fn := ⟨1, spec_TreeOk.B, [.t 2]⟩
def spec_l3At.B : C := (.seq (.kp [0, 1] (.ops [o 4 (.mv (.k (.b false)))])) (.seq (.kp [4] (.ops [o 5 (.mv (.t 0)), o 6 (.call 86 [false] [.t 5]), o 7 (.mv (.t 6)), og 8 7 true (.mv (.t 1)), og 9 7 true (.mv (.t 0)), og 10 7 true (.len false (.t 9)), og 11 7 true (.bin .sub 0 (.t 10) (.k (.i .i64 1))), og 12 7 true (.call 33 [false, false, false] [.t 8, .k (.i .i64 0), .t 11]), o 13 (.pick (.t 7) (.t 12) (.k (.b false))), o 4 (.mv (.t 13))])) C.ret))
def spec_l3At.F : V.Fn := ⟨1, spec_l3At.B, [.t 4]⟩
def spec_EndOf.c0 : C := (.seq (.kp [4] (.ops [o 31 (.mv (.t 5)), o 4 (.mv (.t 31))])) C.ret)
def spec_EndOf.d1 : C := (.seq (.seq (.kp [0, 1, 5, 28] (.draw (sq 17) [o 12 (.mv (.t 5)), o 13 (.mv (.t 0)), o 14 (.len false (.t 13)), o 15 (.bin .lss 0 (.t 12) (.t 14)), o 16 (.mv (.t 15)), og 17 16 true (.mv (.t 0)), og 18 16 true (.mv (.t 5)), og 19 16 true (.iaddr 2 (.t 17) (.t 18)), og 20 16 true (.faddr 1 (.t 19)), og 21 16 true (.load none (.t 20)), og 22 16 true (.mv (.t 0)), og 23 16 true (.mv (.t 1)), og 24 16 true (.iaddr 2 (.t 22) (.t 23)), og 25 16 true (.faddr 1 (.t 24)), og 26 16 true (.load none (.t 25)), og 27 16 true (.bin .gtr 0 (.t 21) (.t 26)), o 28 (.pick (.t 16) (.t 27) (.k (.b false)))])) (.cond (.t 28) C.skip (.exit 0))) (.blk 1 (.kp [0, 1, 5] (.ops [o 29 (.mv (.t 5)), o 30 (.bin .add 0 (.t 29) (.k (.i .i64 1))), o 5 (.mv (.t 30))]))))
def spec_EndOf.c1 : C := .loop 1 [0, 1, 5] spec_EndOf.d1
def spec_EndOf.B : C := (.seq (.kp [0, 1] (.ops [o 4 (.mv (.k (.i .i64 0)))])) (.seq (.seq (.kp [0, 1, 9] (.ops [o 6 (.mv (.t 0)), o 7 (.mv (.t 1)), o 8 (.call 131 [false, false] [.t 6, .t 7]), o 9 (.un .not (.t 8))])) (.cond (.t 9) (.seq (.kp [4] (.ops [o 4 (.mv (.k (.i .i64 (-1))))])) C.ret) C.skip)) (.seq (.kp [0, 1, 5] (.ops [o 10 (.mv (.t 1)), o 11 (.bin .add 0 (.t 10) (.k (.i .i64 1))), o 5 (.mv (.t 11))])) (.seq (.blk 0 spec_EndOf.c1) spec_EndOf.c0))))
def spec_EndOf.F : V.Fn := ⟨1, spec_EndOf.B, [.t 4]⟩
def spec_KidsOf.c0 : C := (.seq (.kp [4] (.ops [o 38 (.mv (.t 5)), o 4 (.mv (.t 38))])) C.ret)
def spec_KidsOf.d1 : C := (.seq (.seq (.kp [0, 1, 5, 6, 19] (.ops [o 10 (.mv (.t 0)), o 11 (.mv (.t 1)), o 12 (.call 131 [false, false] [.t 10, .t 11]), o 13 (.mv (.t 12)), og 14 13 true (.mv (.t 6)), og 15 13 true (.mv (.t 0)), og 16 13 true (.mv (.t 1)), og 17 13 true (.call 118 [false, false] [.t 15, .t 16]), og 18 13 true (.bin .lss 0 (.t 14) (.t 17)), o 19 (.pick (.t 13) (.t 18) (.k (.b false)))])) (.cond (.t 19) C.skip (.exit 0))) (.seq (.blk 1 (.seq (.kp [0, 1, 5, 6, 33] (.draw (sq 12) [o 22 (.mv (.t 0)), o 23 (.mv (.t 6)), o 24 (.iaddr 2 (.t 22) (.t 23)), o 25 (.faddr 1 (.t 24)), o 26 (.load none (.t 25)), o 27 (.mv (.t 0)), o 28 (.mv (.t 1)), o 29 (.iaddr 2 (.t 27) (.t 28)), o 30 (.faddr 1 (.t 29)), o 31 (.load none (.t 30)), o 32 (.bin .add 0 (.t 31) (.k (.i .i64 1))), o 33 (.bin .eql 0 (.t 26) (.t 32))])) (.cond (.t 33) (.kp [0, 1, 5, 6] (.ops [o 34 (.mv (.t 5)), o 35 (.mv (.t 6)), o 36 (.lit 1 1 [.i .i64 0] [(0, .t 35)]), o 37 (.app 1 8 (.t 34) (.t 36)), o 5 (.mv (.t 37))])) C.skip))) (.kp [0, 1, 5, 6] (.ops [o 20 (.mv (.t 6)), o 21 (.bin .add 0 (.t 20) (.k (.i .i64 1))), o 6 (.mv (.t 21))]))))
def spec_KidsOf.c1 : C := .loop 1 [0, 1, 5, 6] spec_KidsOf.d1
def spec_KidsOf.B : C := (.seq (.kp [0, 1] (.ops [o 4 (.mv (.k (.nl 1)))])) (.seq (.kp [0, 1, 5] (.ops [o 7 (.lit 1 0 [.i .i64 0] []), o 5 (.mv (.t 7))])) (.seq (.seq (.kp [0, 1, 5, 6] (.ops [o 8 (.mv (.t 1)), o 9 (.bin .add 0 (.t 8) (.k (.i .i64 1))), o 6 (.mv (.t 9))])) (.blk 0 spec_KidsOf.c1)) spec_KidsOf.c0)))
def spec_KidsOf.F : V.Fn := ⟨1, spec_KidsOf.B, [.t 4]⟩
def spec_NodeAt.c0 : C := (.seq (.kp [4] (.ops [o 36 (.mv (.t 5)), o 4 (.mv (.t 36))])) C.ret)
def spec_NodeAt.d1 : C := (.seq (.seq (.kp [0, 1, 5, 6, 14] (.ops [o 11 (.mv (.t 6)), o 12 (.mv (.t 1)), o 13 (.len false (.t 12)), o 14 (.bin .lss 0 (.t 11) (.t 13))])) (.cond (.t 14) C.skip (.exit 0))) (.seq (.blk 1 (.seq (.kp [0, 1, 6, 7] (.ops [o 17 (.mv (.t 0)), o 18 (.mv (.t 5)), o 19 (.call 120 [false, false] [.t 17, .t 18]), o 7 (.mv (.t 19))])) (.seq (.seq (.kp [0, 1, 6, 7, 28] (.ops [o 20 (.mv (.t 1)), o 21 (.mv (.t 6)), o 22 (.iaddr 1 (.t 20) (.t 21)), o 23 (.load none (.t 22)), o 24 (.mv (.t 7)), o 25 (.len false (.t 24)), o 26 (.bin .sub 0 (.t 25) (.k (.i .i64 1))), o 27 (.call 33 [false, false, false] [.t 23, .k (.i .i64 0), .t 26]), o 28 (.un .not (.t 27))])) (.cond (.t 28) (.seq (.kp [4] (.ops [o 4 (.mv (.k (.i .i64 (-1))))])) C.ret) C.skip)) (.kp [0, 1, 5, 6] (.ops [o 29 (.mv (.t 7)), o 30 (.mv (.t 1)), o 31 (.mv (.t 6)), o 32 (.iaddr 1 (.t 30) (.t 31)), o 33 (.load none (.t 32)), o 34 (.iaddr 1 (.t 29) (.t 33)), o 35 (.load none (.t 34)), o 5 (.mv (.t 35))]))))) (.kp [0, 1, 5, 6] (.ops [o 15 (.mv (.t 6)), o 16 (.bin .add 0 (.t 15) (.k (.i .i64 1))), o 6 (.mv (.t 16))]))))
def spec_NodeAt.c1 : C := .loop 2 [0, 1, 5, 6] spec_NodeAt.d1
def spec_NodeAt.B : C := (.seq (.kp [0, 1] (.ops [o 4 (.mv (.k (.i .i64 0)))])) (.seq (.seq (.kp [0, 1, 10] (.ops [o 8 (.mv (.t 0)), o 9 (.call 86 [false] [.t 8]), o 10 (.un .not (.t 9))])) (.cond (.t 10) (.seq (.kp [4] (.ops [o 4 (.mv (.k (.i .i64 (-1))))])) C.ret) C.skip)) (.seq (.kp [0, 1, 5] (.ops [o 5 (.mv (.k (.i .i64 0)))])) (.seq (.seq (.kp [0, 1, 5, 6] (.ops [o 6 (.mv (.k (.i .i64 0)))])) (.blk 0 spec_NodeAt.c1)) spec_NodeAt.c0))))
def spec_NodeAt.F : V.Fn := ⟨2, spec_NodeAt.B, [.t 4]⟩
def spec_l13Code.c0 : C := (.seq (.seq (.kp [10, 11, 107] (.ops [o 106 (.mv (.t 12)), o 107 (.bin .gtr 0 (.t 106) (.k (.i .i64 12)))])) (.cond (.t 107) (.seq (.kp [6, 7, 8] (.ops [o 6 (.mv (.k (.i .i64 7))), o 7 (.mv (.k (.i .i64 0))), o 8 (.mv (.k (.i .i64 0)))])) C.ret) C.skip)) (.seq (.kp [6, 7, 8] (.ops [o 108 (.mv (.t 10)), o 109 (.mv (.t 11)), o 6 (.mv (.k (.i .i64 0))), o 7 (.mv (.t 108)), o 8 (.mv (.t 109))])) C.ret))
def spec_l13Code.d1 : C := (.seq (.seq (.kp [0, 10, 11, 12, 13, 95] (.ops [o 93 (.mv (.t 13)), o 94 (.mv (.t 11)), o 95 (.bin .lss 0 (.t 93) (.t 94))])) (.cond (.t 95) C.skip (.exit 1))) (.seq (.blk 2 (.kp [0, 10, 11, 12, 13] (.ops [o 98 (.mv (.t 12)), o 99 (.mv (.t 0)), o 100 (.mv (.t 13)), o 101 (.iaddr 2 (.t 99) (.t 100)), o 102 (.faddr 1 (.t 101)), o 103 (.load none (.t 102)), o 104 (.bin .add 0 (.t 103) (.k (.i .i64 1))), o 105 (.mm true [.t 98, .t 104]), o 12 (.mv (.t 105))]))) (.kp [0, 10, 11, 12, 13] (.ops [o 96 (.mv (.t 13)), o 97 (.bin .add 0 (.t 96) (.k (.i .i64 1))), o 13 (.mv (.t 97))]))))
def spec_l13Code.c1 : C := .loop 2 [0, 10, 11, 12, 13] spec_l13Code.d1
def spec_l13Code.B : C := (.seq (.kp [0, 2, 4] (.ops [o 4 (.boxK (.t 1)), o 6 (.mv (.k (.i .i64 0))), o 7 (.mv (.k (.i .i64 0))), o 8 (.mv (.k (.i .i64 0)))])) (.seq (.blk 0 (.seq (.kp [0, 2, 4, 14] (.ops [o 15 (.faddr 0 (.t 4)), o 16 (.load none (.t 15)), o 17 (.call 33 [false, false, false] [.t 16, .k (.i .i64 1), .k (.i .i64 3)]), o 18 (.un .not (.t 17)), o 14 (.mv (.t 18))])) (.cond (.t 14) (.seq (.kp [6, 7, 8] (.ops [o 6 (.mv (.k (.i .i64 1))), o 7 (.mv (.k (.i .i64 0))), o 8 (.mv (.k (.i .i64 0)))])) C.ret) (.seq (.kp [0, 2, 4, 19] (.ops [o 20 (.mv (.t 2)), o 21 (.bin .lss 0 (.t 20) (.k (.i .i64 0))), o 19 (.mv (.t 21))])) (.cond (.t 19) (.seq (.kp [6, 7, 8] (.ops [o 6 (.mv (.k (.i .i64 2))), o 7 (.mv (.k (.i .i64 0))), o 8 (.mv (.k (.i .i64 0)))])) C.ret) (.seq (.kp [0, 2, 4, 22] (.ops [o 23 (.faddr 0 (.t 4)), o 24 (.load none (.t 23)), o 25 (.bin .neq 0 (.t 24) (.k (.i .i64 2))), o 26 (.mv (.t 25)), og 27 26 true (.faddr 2 (.t 4)), og 28 26 true (.load none (.t 27)), og 29 26 true (.call 71 [false] [.t 28]), og 30 26 true (.un .not (.t 29)), o 31 (.pick (.t 26) (.t 30) (.k (.b false))), o 22 (.mv (.t 31))])) (.cond (.t 22) (.seq (.kp [6, 7, 8] (.ops [o 6 (.mv (.k (.i .i64 3))), o 7 (.mv (.k (.i .i64 0))), o 8 (.mv (.k (.i .i64 0)))])) C.ret) (.seq (.kp [0, 2, 4, 32] (.ops [o 33 (.faddr 0 (.t 4)), o 34 (.load none (.t 33)), o 35 (.bin .eql 0 (.t 34) (.k (.i .i64 2))), o 36 (.mv (.t 35)), og 37 36 true (.mv (.t 2)), og 38 36 true (.bin .eql 0 (.t 37) (.k (.i .i64 0))), o 39 (.pick (.t 36) (.t 38) (.k (.b false))), o 32 (.mv (.t 39))])) (.cond (.t 32) (.seq (.kp [6, 7, 8] (.ops [o 6 (.mv (.k (.i .i64 4))), o 7 (.mv (.k (.i .i64 0))), o 8 (.mv (.k (.i .i64 0)))])) C.ret) (.seq (.kp [0, 2, 4, 40] (.ops [o 41 (.faddr 0 (.t 4)), o 42 (.load none (.t 41)), o 43 (.bin .neq 0 (.t 42) (.k (.i .i64 3))), o 40 (.mv (.t 43))])) (.cond (.t 40) (.seq (.kp [6, 7, 8] (.ops [o 6 (.mv (.k (.i .i64 0))), o 7 (.mv (.k (.i .i64 0))), o 8 (.mv (.k (.i .i64 0)))])) C.ret) C.skip))))))))))) (.seq (.kp [0, 2, 4, 9] (.ops [o 44 (.mv (.t 0)), o 45 (.mv (.t 2)), o 46 (.call 120 [false, false] [.t 44, .t 45]), o 9 (.mv (.t 46))])) (.seq (.seq (.kp [0, 2, 4, 9, 63] (.ops [o 47 (.faddr 3 (.t 4)), o 48 (.load none (.t 47)), o 49 (.mv (.t 9)), o 50 (.len false (.t 49)), o 51 (.call 33 [false, false, false] [.t 48, .k (.i .i64 0), .t 50]), o 52 (.un .not (.t 51)), o 53 (.mv (.t 52)), og 54 53 false (.faddr 4 (.t 4)), og 55 53 false (.load none (.t 54)), og 56 53 false (.mv (.t 9)), og 57 53 false (.len false (.t 56)), og 58 53 false (.faddr 3 (.t 4)), og 59 53 false (.load none (.t 58)), og 60 53 false (.bin .sub 0 (.t 57) (.t 59)), og 61 53 false (.call 33 [false, false, false] [.t 55, .k (.i .i64 0), .t 60]), og 62 53 false (.un .not (.t 61)), o 63 (.pick (.t 53) (.k (.b true)) (.t 62))])) (.cond (.t 63) (.seq (.kp [6, 7, 8] (.ops [o 6 (.mv (.k (.i .i64 5))), o 7 (.mv (.k (.i .i64 0))), o 8 (.mv (.k (.i .i64 0)))])) C.ret) C.skip)) (.seq (.kp [0, 2, 4, 9] (.ops [o 64 (.mv (.t 9)), o 65 (.mv (.t 0)), o 66 (.mv (.t 2)), o 67 (.call 118 [false, false] [.t 65, .t 66]), o 68 (.lit 1 1 [.i .i64 0] [(0, .t 67)]), o 69 (.app 1 8 (.t 64) (.t 68)), o 9 (.mv (.t 69))])) (.seq (.kp [0, 2, 4, 9, 10] (.ops [o 70 (.mv (.t 9)), o 71 (.faddr 3 (.t 4)), o 72 (.load none (.t 71)), o 73 (.iaddr 1 (.t 70) (.t 72)), o 74 (.load none (.t 73)), o 10 (.mv (.t 74))])) (.seq (.kp [0, 2, 10, 11] (.ops [o 75 (.mv (.t 9)), o 76 (.faddr 3 (.t 4)), o 77 (.load none (.t 76)), o 78 (.faddr 4 (.t 4)), o 79 (.load none (.t 78)), o 80 (.bin .add 0 (.t 77) (.t 79)), o 81 (.iaddr 1 (.t 75) (.t 80)), o 82 (.load none (.t 81)), o 11 (.mv (.t 82))])) (.seq (.seq (.kp [0, 2, 10, 11, 85] (.ops [o 83 (.mv (.t 0)), o 84 (.len false (.t 83)), o 85 (.bin .eql 0 (.t 84) (.k (.i .i64 24)))])) (.cond (.t 85) (.seq (.kp [6, 7, 8] (.ops [o 6 (.mv (.k (.i .i64 6))), o 7 (.mv (.k (.i .i64 0))), o 8 (.mv (.k (.i .i64 0)))])) C.ret) C.skip)) (.seq (.kp [0, 10, 11, 12] (.ops [o 86 (.mv (.t 0)), o 87 (.mv (.t 2)), o 88 (.iaddr 2 (.t 86) (.t 87)), o 89 (.faddr 1 (.t 88)), o 90 (.load none (.t 89)), o 91 (.bin .add 0 (.t 90) (.k (.i .i64 1))), o 12 (.mv (.t 91))])) (.seq (.seq (.kp [0, 10, 11, 12, 13] (.ops [o 92 (.mv (.t 10)), o 13 (.mv (.t 92))])) (.blk 1 spec_l13Code.c1)) spec_l13Code.c0))))))))))
def spec_l13Code.F : V.Fn := ⟨2, spec_l13Code.B, [.t 6, .t 7, .t 8]⟩
def spec_l13Shift.c0 : C := (.seq (.kp [8] (.ops [o 34 (.mv (.t 9)), o 8 (.mv (.t 34))])) C.ret)
def spec_l13Shift.d1 : C := (.seq (.seq (.kp [0, 2, 3, 9, 10, 15] (.ops [o 13 (.mv (.t 10)), o 14 (.mv (.t 2)), o 15 (.bin .lss 0 (.t 13) (.t 14))])) (.cond (.t 15) C.skip (.exit 0))) (.seq (.blk 1 (.kp [0, 2, 3, 9, 10] (.draw (sq 17) [o 18 (.mv (.t 9)), o 19 (.mv (.t 0)), o 20 (.mv (.t 10)), o 21 (.iaddr 2 (.t 19) (.t 20)), o 22 (.faddr 0 (.t 21)), o 23 (.load none (.t 22)), o 24 (.mv (.t 0)), o 25 (.mv (.t 10)), o 26 (.iaddr 2 (.t 24) (.t 25)), o 27 (.faddr 1 (.t 26)), o 28 (.load none (.t 27)), o 29 (.mv (.t 3)), o 30 (.bin .add 0 (.t 28) (.t 29)), o 31 (.build [.i .i64 0, .i .i64 0] [(0, 1, .t 23), (1, 1, .t 30)]), o 32 (.lit 2 1 [.i .i64 0, .i .i64 0] [(0, .t 31)]), o 33 (.app 2 16 (.t 18) (.t 32)), o 9 (.mv (.t 33))]))) (.kp [0, 2, 3, 9, 10] (.ops [o 16 (.mv (.t 10)), o 17 (.bin .add 0 (.t 16) (.k (.i .i64 1))), o 10 (.mv (.t 17))]))))
def spec_l13Shift.c1 : C := .loop 1 [0, 2, 3, 9, 10] spec_l13Shift.d1
def spec_l13Shift.B : C := (.seq (.kp [0, 1, 2, 3] (.ops [o 8 (.mv (.k (.nl 2)))])) (.seq (.kp [0, 1, 2, 3, 9] (.ops [o 11 (.lit 2 0 [.i .i64 0, .i .i64 0] []), o 9 (.mv (.t 11))])) (.seq (.seq (.kp [0, 2, 3, 9, 10] (.ops [o 12 (.mv (.t 1)), o 10 (.mv (.t 12))])) (.blk 0 spec_l13Shift.c1)) spec_l13Shift.c0)))
def spec_l13Shift.F : V.Fn := ⟨1, spec_l13Shift.B, [.t 8]⟩
def spec_ApplyOp.B : C := (.seq (.kp [0, 3] (.ops [o 3 (.boxK (.t 1)), o 4 (.mv (.k (.nl 2))), o 5 (.mv (.k (.i .i64 0)))])) (.seq (.seq (.kp [0, 3, 14] (.ops [o 12 (.mv (.t 0)), o 13 (.call 86 [false] [.t 12]), o 14 (.un .not (.t 13))])) (.cond (.t 14) (.seq (.kp [4, 5] (.ops [o 15 (.lit 2 0 [.i .i64 0, .i .i64 0] []), o 4 (.mv (.t 15)), o 5 (.mv (.k (.i .i64 2)))])) C.ret) C.skip)) (.seq (.kp [0, 3, 6] (.ops [o 16 (.mv (.t 0)), o 17 (.faddr 1 (.t 3)), o 18 (.load none (.t 17)), o 19 (.call 116 [false, false] [.t 16, .t 18]), o 6 (.mv (.t 19))])) (.seq (.kp [0, 3, 6, 7] (.ops [o 20 (.mv (.t 0)), o 21 (.call 85 [false] [.t 20]), o 7 (.mv (.t 21))])) (.seq (.kp [0, 3, 6, 7, 8, 9, 10] (.ops [o 23 (.mv (.t 0)), o 24 (.load (some 5) (.t 3)), o 25 (.mv (.t 6)), o 26 (.call 117 [false, false, false] [.t 23, .t 24, .t 25]), o 22 (.mv (.t 26)), o 27 (.ext 0 (.t 22)), o 28 (.ext 1 (.t 22)), o 29 (.ext 2 (.t 22)), o 8 (.mv (.t 27)), o 9 (.mv (.t 28)), o 10 (.mv (.t 29))])) (.seq (.seq (.kp [0, 3, 6, 7, 8, 9, 10, 31] (.ops [o 30 (.mv (.t 8)), o 31 (.bin .neq 0 (.t 30) (.k (.i .i64 0)))])) (.cond (.t 31) (.seq (.kp [4, 5] (.ops [o 32 (.mv (.t 7)), o 33 (.mv (.t 8)), o 4 (.mv (.t 32)), o 5 (.mv (.t 33))])) C.ret) C.skip)) (.seq (.seq (.kp [0, 3, 6, 7, 8, 9, 10, 35] (.ops [o 34 (.faddr 0 (.t 3)), o 35 (.load none (.t 34))])) (.blk 0 (.seq (.kp [0, 3, 6, 7, 8, 9, 10, 35, 36] (.ops [o 37 (.bin .eql 0 (.t 35) (.k (.i .i64 1))), o 36 (.mv (.t 37))])) (.cond (.t 36) (.seq (.kp [7, 8] (.ops [o 38 (.mv (.t 7)), o 39 (.mv (.t 6)), o 40 (.faddr 2 (.t 3)), o 41 (.load none (.t 40)), o 42 (.iaddr 2 (.t 38) (.t 39)), o 43 (.faddr 0 (.t 42)), oz none none [] (.store 1 (.t 43) (.t 41))])) (.seq (.kp [4, 5] (.ops [o 44 (.mv (.t 7)), o 45 (.mv (.t 8)), o 4 (.mv (.t 44)), o 5 (.mv (.t 45))])) C.ret)) (.seq (.kp [0, 3, 6, 8, 9, 10, 46] (.ops [o 47 (.bin .eql 0 (.t 35) (.k (.i .i64 2))), o 46 (.mv (.t 47))])) (.cond (.t 46) (.seq (.kp [0, 6, 8, 11] (.ops [o 48 (.mv (.t 0)), o 49 (.mv (.t 6)), o 50 (.call 118 [false, false] [.t 48, .t 49]), o 11 (.mv (.t 50))])) (.seq (.kp [0, 7, 8, 11] (.ops [o 51 (.mv (.t 0)), o 52 (.mv (.t 6)), o 53 (.call 119 [false, false, false, false] [.t 51, .k (.i .i64 0), .t 52, .k (.i .i64 0)]), o 54 (.mv (.t 0)), o 55 (.mv (.t 6)), o 56 (.bin .add 0 (.t 55) (.k (.i .i64 1))), o 57 (.mv (.t 11)), o 58 (.call 119 [false, false, false, false] [.t 54, .t 56, .t 57, .k (.i .i64 (-1))]), o 59 (.app 2 16 (.t 53) (.t 58)), o 7 (.mv (.t 59))])) (.seq (.kp [4, 5] (.ops [o 60 (.mv (.t 7)), o 61 (.mv (.t 0)), o 62 (.mv (.t 11)), o 63 (.mv (.t 0)), o 64 (.len false (.t 63)), o 65 (.call 119 [false, false, false, false] [.t 61, .t 62, .t 64, .k (.i .i64 0)]), o 66 (.app 2 16 (.t 60) (.t 65)), o 67 (.mv (.t 8)), o 4 (.mv (.t 66)), o 5 (.mv (.t 67))])) C.ret))) C.skip)))))) (.seq (.kp [0, 7, 8, 9, 10] (.draw (tk [0, 1, 3, 5, 6, 7, 8] (.alt (tk [2, 4, 9, 10, 11, 12, 13, 14] .done) (tk [] (.alt (tk [4] (.alt (tk [2, 9, 10, 11, 12, 13, 14] .done) (tk [9, 10, 11] (.alt (tk [2, 12, 13, 14] .done) (tk [12, 2, 13, 14] .done))))) (tk [9, 10] (.alt (tk [2, 4, 11, 12, 13, 14] .done) (tk [4, 11] (.alt (tk [2, 12, 13, 14] .done) (tk [12, 2, 13, 14] .done))))))))) [o 68 (.mv (.t 0)), o 69 (.mv (.t 9)), o 70 (.call 119 [false, false, false, false] [.t 68, .k (.i .i64 0), .t 69, .k (.i .i64 0)]), o 71 (.faddr 2 (.t 3)), o 72 (.load none (.t 71)), o 73 (.mv (.t 0)), o 74 (.mv (.t 6)), o 75 (.iaddr 2 (.t 73) (.t 74)), o 76 (.faddr 1 (.t 75)), o 77 (.load none (.t 76)), o 78 (.bin .add 0 (.t 77) (.k (.i .i64 1))), o 79 (.build [.i .i64 0, .i .i64 0] [(0, 1, .t 72), (1, 1, .t 78)]), o 80 (.lit 2 1 [.i .i64 0, .i .i64 0] [(0, .t 79)]), o 81 (.app 2 16 (.t 70) (.t 80)), o 7 (.mv (.t 81))])) (.seq (.kp [0, 7, 8, 10] (.ops [o 82 (.mv (.t 7)), o 83 (.mv (.t 0)), o 84 (.mv (.t 9)), o 85 (.mv (.t 10)), o 86 (.call 119 [false, false, false, false] [.t 83, .t 84, .t 85, .k (.i .i64 1)]), o 87 (.app 2 16 (.t 82) (.t 86)), o 7 (.mv (.t 87))])) (.seq (.kp [4, 5] (.ops [o 88 (.mv (.t 7)), o 89 (.mv (.t 0)), o 90 (.mv (.t 10)), o 91 (.mv (.t 0)), o 92 (.len false (.t 91)), o 93 (.call 119 [false, false, false, false] [.t 89, .t 90, .t 92, .k (.i .i64 0)]), o 94 (.app 2 16 (.t 88) (.t 93)), o 95 (.mv (.t 8)), o 4 (.mv (.t 94)), o 5 (.mv (.t 95))])) C.ret))))))))))
def spec_ApplyOp.F : V.Fn := ⟨2, spec_ApplyOp.B, [.t 4, .t 5]⟩
def spec_ApplyAll.c0 : C := (.seq (.kp [4, 5, 6] (.ops [o 38 (.mv (.t 7)), o 39 (.mv (.t 1)), o 40 (.len false (.t 39)), o 4 (.mv (.t 38)), o 5 (.mv (.t 40)), o 6 (.mv (.k (.i .i64 0)))])) C.ret)
def spec_ApplyAll.d1 : C := (.seq (.seq (.kp [1, 7, 8, 20] (.ops [o 17 (.mv (.t 8)), o 18 (.mv (.t 1)), o 19 (.len false (.t 18)), o 20 (.bin .lss 0 (.t 17) (.t 19))])) (.cond (.t 20) C.skip (.exit 0))) (.seq (.blk 1 (.seq (.kp [1, 7, 8, 9, 10] (.ops [o 24 (.mv (.t 7)), o 25 (.mv (.t 1)), o 26 (.mv (.t 8)), o 27 (.iaddr 5 (.t 25) (.t 26)), o 28 (.load (some 5) (.t 27)), o 29 (.call 97 [false, false] [.t 24, .t 28]), o 23 (.mv (.t 29)), o 30 (.ext 0 (.t 23)), o 31 (.ext 1 (.t 23)), o 9 (.mv (.t 30)), o 10 (.mv (.t 31))])) (.seq (.seq (.kp [1, 7, 8, 9, 10, 33] (.ops [o 32 (.mv (.t 10)), o 33 (.bin .neq 0 (.t 32) (.k (.i .i64 0)))])) (.cond (.t 33) (.seq (.kp [4, 5, 6] (.ops [o 34 (.mv (.t 7)), o 35 (.mv (.t 8)), o 36 (.mv (.t 10)), o 4 (.mv (.t 34)), o 5 (.mv (.t 35)), o 6 (.mv (.t 36))])) C.ret) C.skip)) (.kp [1, 7, 8] (.ops [o 37 (.mv (.t 9)), o 7 (.mv (.t 37))]))))) (.kp [1, 7, 8] (.ops [o 21 (.mv (.t 8)), o 22 (.bin .add 0 (.t 21) (.k (.i .i64 1))), o 8 (.mv (.t 22))]))))
def spec_ApplyAll.c1 : C := .loop 2 [1, 7, 8] spec_ApplyAll.d1
def spec_ApplyAll.B : C := (.seq (.kp [0, 1] (.ops [o 4 (.mv (.k (.nl 2))), o 5 (.mv (.k (.i .i64 0))), o 6 (.mv (.k (.i .i64 0)))])) (.seq (.seq (.kp [0, 1, 13] (.ops [o 11 (.mv (.t 0)), o 12 (.call 86 [false] [.t 11]), o 13 (.un .not (.t 12))])) (.cond (.t 13) (.seq (.kp [4, 5, 6] (.ops [o 14 (.lit 2 0 [.i .i64 0, .i .i64 0] []), o 4 (.mv (.t 14)), o 5 (.mv (.k (.i .i64 0))), o 6 (.mv (.k (.i .i64 2)))])) C.ret) C.skip)) (.seq (.kp [1, 7] (.ops [o 15 (.mv (.t 0)), o 16 (.call 85 [false] [.t 15]), o 7 (.mv (.t 16))])) (.seq (.seq (.kp [1, 7, 8] (.ops [o 8 (.mv (.k (.i .i64 0)))])) (.blk 0 spec_ApplyAll.c1)) spec_ApplyAll.c0))))
def spec_ApplyAll.F : V.Fn := ⟨2, spec_ApplyAll.B, [.t 4, .t 5, .t 6]⟩
def spec_l15Path.c0 : C := (.seq (.kp [2] (.ops [o 16 (.mv (.t 0)), o 17 (.len false (.t 16)), o 18 (.bin .leq 0 (.t 17) (.k (.i .i64 12))), o 2 (.mv (.t 18))])) C.ret)
def spec_l15Path.d1 : C := (.seq (.seq (.kp [0, 3, 7] (.ops [o 4 (.mv (.t 3)), o 5 (.mv (.t 0)), o 6 (.len false (.t 5)), o 7 (.bin .lss 0 (.t 4) (.t 6))])) (.cond (.t 7) C.skip (.exit 0))) (.seq (.blk 1 (.seq (.kp [0, 3, 15] (.ops [o 10 (.mv (.t 0)), o 11 (.mv (.t 3)), o 12 (.iaddr 1 (.t 10) (.t 11)), o 13 (.load none (.t 12)), o 14 (.call 33 [false, false, false] [.t 13, .k (.i .i64 0), .k (.i .i64 24)]), o 15 (.un .not (.t 14))])) (.cond (.t 15) (.seq (.kp [2] (.ops [o 2 (.mv (.k (.b false)))])) C.ret) C.skip))) (.kp [0, 3] (.ops [o 8 (.mv (.t 3)), o 9 (.bin .add 0 (.t 8) (.k (.i .i64 1))), o 3 (.mv (.t 9))]))))
def spec_l15Path.c1 : C := .loop 1 [0, 3] spec_l15Path.d1
def spec_l15Path.B : C := (.seq (.kp [0] (.ops [o 2 (.mv (.k (.b false)))])) (.seq (.seq (.kp [0, 3] (.ops [o 3 (.mv (.k (.i .i64 0)))])) (.blk 0 spec_l15Path.c1)) spec_l15Path.c0))
def spec_l15Path.F : V.Fn := ⟨1, spec_l15Path.B, [.t 2]⟩
def spec_OpOk.B : C := (.seq (.kp [1] (.ops [o 1 (.boxK (.t 0)), o 2 (.mv (.k (.b false)))])) (.seq (.seq (.kp [1, 6] (.ops [o 3 (.faddr 1 (.t 1)), o 4 (.load none (.t 3)), o 5 (.call 127 [false] [.t 4]), o 6 (.un .not (.t 5))])) (.cond (.t 6) (.seq (.kp [2] (.ops [o 2 (.mv (.k (.b false)))])) C.ret) C.skip)) (.seq (.seq (.kp [1, 8] (.ops [o 7 (.faddr 0 (.t 1)), o 8 (.load none (.t 7))])) (.blk 0 (.seq (.kp [1, 8, 9] (.ops [o 10 (.bin .eql 0 (.t 8) (.k (.i .i64 1))), o 9 (.mv (.t 10))])) (.cond (.t 9) (.seq (.kp [2] (.ops [o 11 (.faddr 2 (.t 1)), o 12 (.load none (.t 11)), o 13 (.call 71 [false] [.t 12]), o 14 (.mv (.t 13)), og 15 14 true (.faddr 3 (.t 1)), og 16 14 true (.load none (.t 15)), og 17 14 true (.bin .eql 0 (.t 16) (.k (.i .i64 0))), o 18 (.pick (.t 14) (.t 17) (.k (.b false))), o 19 (.mv (.t 18)), og 20 19 true (.faddr 4 (.t 1)), og 21 19 true (.load none (.t 20)), og 22 19 true (.bin .eql 0 (.t 21) (.k (.i .i64 0))), o 23 (.pick (.t 19) (.t 22) (.k (.b false))), o 2 (.mv (.t 23))])) C.ret) (.seq (.kp [1, 8, 24] (.ops [o 25 (.bin .eql 0 (.t 8) (.k (.i .i64 2))), o 24 (.mv (.t 25))])) (.cond (.t 24) (.seq (.kp [2] (.ops [o 26 (.faddr 2 (.t 1)), o 27 (.load none (.t 26)), o 28 (.bin .eql 0 (.t 27) (.k (.i .i64 0))), o 29 (.mv (.t 28)), og 30 29 true (.faddr 3 (.t 1)), og 31 29 true (.load none (.t 30)), og 32 29 true (.bin .eql 0 (.t 31) (.k (.i .i64 0))), o 33 (.pick (.t 29) (.t 32) (.k (.b false))), o 34 (.mv (.t 33)), og 35 34 true (.faddr 4 (.t 1)), og 36 34 true (.load none (.t 35)), og 37 34 true (.bin .eql 0 (.t 36) (.k (.i .i64 0))), o 38 (.pick (.t 34) (.t 37) (.k (.b false))), o 2 (.mv (.t 38))])) C.ret) (.seq (.kp [1, 39] (.ops [o 40 (.bin .eql 0 (.t 8) (.k (.i .i64 3))), o 39 (.mv (.t 40))])) (.cond (.t 39) (.seq (.kp [2] (.ops [o 41 (.faddr 2 (.t 1)), o 42 (.load none (.t 41)), o 43 (.call 71 [false] [.t 42]), o 44 (.mv (.t 43)), og 45 44 true (.faddr 3 (.t 1)), og 46 44 true (.load none (.t 45)), og 47 44 true (.call 33 [false, false, false] [.t 46, .k (.i .i64 0), .k (.i .i64 24)]), o 48 (.pick (.t 44) (.t 47) (.k (.b false))), o 49 (.mv (.t 48)), og 50 49 true (.faddr 4 (.t 1)), og 51 49 true (.load none (.t 50)), og 52 49 true (.call 33 [false, false, false] [.t 51, .k (.i .i64 0), .k (.i .i64 24)]), o 53 (.pick (.t 49) (.t 52) (.k (.b false))), o 2 (.mv (.t 53))])) C.ret) C.skip)))))))) (.seq (.kp [2] (.ops [o 2 (.mv (.k (.b false)))])) C.ret))))
def spec_OpOk.F : V.Fn := ⟨1, spec_OpOk.B, [.t 2]⟩
def spec_ScriptOk.c0 : C := (.seq (.kp [2] (.ops [o 16 (.mv (.t 0)), o 17 (.len false (.t 16)), o 18 (.bin .leq 0 (.t 17) (.k (.i .i64 60))), o 2 (.mv (.t 18))])) C.ret)
def spec_ScriptOk.d1 : C := (.seq (.seq (.kp [0, 3, 7] (.ops [o 4 (.mv (.t 3)), o 5 (.mv (.t 0)), o 6 (.len false (.t 5)), o 7 (.bin .lss 0 (.t 4) (.t 6))])) (.cond (.t 7) C.skip (.exit 0))) (.seq (.blk 1 (.seq (.kp [0, 3, 15] (.ops [o 10 (.mv (.t 0)), o 11 (.mv (.t 3)), o 12 (.iaddr 5 (.t 10) (.t 11)), o 13 (.load (some 5) (.t 12)), o 14 (.call 111 [false] [.t 13]), o 15 (.un .not (.t 14))])) (.cond (.t 15) (.seq (.kp [2] (.ops [o 2 (.mv (.k (.b false)))])) C.ret) C.skip))) (.kp [0, 3] (.ops [o 8 (.mv (.t 3)), o 9 (.bin .add 0 (.t 8) (.k (.i .i64 1))), o 3 (.mv (.t 9))]))))
def spec_ScriptOk.c1 : C := .loop 1 [0, 3] spec_ScriptOk.d1
def spec_ScriptOk.B : C := (.seq (.kp [0] (.ops [o 2 (.mv (.k (.b false)))])) (.seq (.seq (.kp [0, 3] (.ops [o 3 (.mv (.k (.i .i64 0)))])) (.blk 0 spec_ScriptOk.c1)) spec_ScriptOk.c0))
def spec_ScriptOk.F : V.Fn := ⟨1, spec_ScriptOk.B, [.t 2]⟩
def spec_HistOk.c0 : C := (.seq (.kp [2] (.ops [o 2 (.mv (.k (.b true)))])) C.ret)
def spec_HistOk.d1 : C := (.seq (.seq (.kp [1, 3, 4, 25] (.ops [o 21 (.mv (.t 4)), o 22 (.faddr 1 (.t 1)), o 23 (.load none (.t 22)), o 24 (.len false (.t 23)), o 25 (.bin .lss 0 (.t 21) (.t 24))])) (.cond (.t 25) C.skip (.exit 0))) (.seq (.blk 1 (.seq (.kp [1, 4, 5, 7] (.ops [o 29 (.mv (.t 3)), o 30 (.faddr 1 (.t 1)), o 31 (.load none (.t 30)), o 32 (.mv (.t 4)), o 33 (.iaddr 1 (.t 31) (.t 32)), o 34 (.load none (.t 33)), o 35 (.call 73 [false, false] [.t 29, .t 34]), o 28 (.mv (.t 35)), o 36 (.ext 0 (.t 28)), o 37 (.ext 1 (.t 28)), o 38 (.ext 2 (.t 28)), o 5 (.mv (.t 36)), o 6 (.mv (.t 37)), o 7 (.mv (.t 38))])) (.seq (.seq (.kp [1, 4, 5, 49] (.ops [o 39 (.mv (.t 7)), o 40 (.bin .neq 0 (.t 39) (.k (.i .i64 0))), o 41 (.mv (.t 40)), og 42 41 false (.faddr 1 (.t 1)), og 43 41 false (.load none (.t 42)), og 44 41 false (.mv (.t 4)), og 45 41 false (.iaddr 1 (.t 43) (.t 44)), og 46 41 false (.load none (.t 45)), og 47 41 false (.call 87 [false] [.t 46]), og 48 41 false (.un .not (.t 47)), o 49 (.pick (.t 41) (.k (.b true)) (.t 48))])) (.cond (.t 49) (.seq (.kp [2] (.ops [o 2 (.mv (.k (.b false)))])) C.ret) C.skip)) (.kp [1, 3, 4] (.ops [o 50 (.mv (.t 5)), o 3 (.mv (.t 50))]))))) (.kp [1, 3, 4] (.ops [o 26 (.mv (.t 4)), o 27 (.bin .add 0 (.t 26) (.k (.i .i64 1))), o 4 (.mv (.t 27))]))))
def spec_HistOk.c1 : C := .loop 2 [1, 3, 4] spec_HistOk.d1
def spec_HistOk.B : C := (.seq (.kp [1] (.ops [o 1 (.boxK (.t 0)), o 2 (.mv (.k (.b false)))])) (.seq (.seq (.kp [1, 17] (.ops [o 8 (.faddr 0 (.t 1)), o 9 (.load none (.t 8)), o 10 (.call 86 [false] [.t 9]), o 11 (.un .not (.t 10)), o 12 (.mv (.t 11)), og 13 12 false (.faddr 1 (.t 1)), og 14 12 false (.load none (.t 13)), og 15 12 false (.len false (.t 14)), og 16 12 false (.bin .gtr 0 (.t 15) (.k (.i .i64 6))), o 17 (.pick (.t 12) (.k (.b true)) (.t 16))])) (.cond (.t 17) (.seq (.kp [2] (.ops [o 2 (.mv (.k (.b false)))])) C.ret) C.skip)) (.seq (.kp [1, 3] (.ops [o 18 (.faddr 0 (.t 1)), o 19 (.load none (.t 18)), o 20 (.call 85 [false] [.t 19]), o 3 (.mv (.t 20))])) (.seq (.seq (.kp [1, 3, 4] (.ops [o 4 (.mv (.k (.i .i64 0)))])) (.blk 0 spec_HistOk.c1)) spec_HistOk.c0))))
def spec_HistOk.F : V.Fn := ⟨2, spec_HistOk.B, [.t 2]⟩
def spec_HistAdd.B : C := (.seq (.kp [1, 2, 4] (.ops [o 2 (.boxK (.t 0)), o 4 (.alloc [.deep false false 2 [], .deep false false 1 []]), o 5 (.mv (.k (.b false)))])) (.seq (.kp [1, 2, 4, 6] (.ops [o 7 (.load (some 2) (.t 2)), o 8 (.call 48 [false] [.t 7]), o 6 (.alloc [.deep false false 2 [], .deep false false 1 []]), oz none none [] (.store 2 (.t 6) (.t 8))])) (.seq (.kp [2, 4, 6] (.draw (tk [0, 2] (.alt (tk [1, 3, 4, 5, 6, 7] .done) (tk [3] (.alt (tk [1, 4, 5, 6, 7] .done) (tk [4, 1, 5, 6, 7] .done))))) [o 9 (.faddr 1 (.t 6)), o 10 (.load none (.t 9)), o 11 (.mv (.t 1)), o 12 (.call 49 [false] [.t 11]), o 13 (.lit 1 1 [.deep false false 5 []] [(0, .t 12)]), o 14 (.app 1 24 (.t 10) (.t 13)), o 15 (.faddr 1 (.t 6)), oz none none [] (.store 1 (.t 15) (.t 14))])) (.seq (.seq (.kp [2, 4, 6, 18] (.ops [o 16 (.load (some 2) (.t 6)), o 17 (.call 50 [false] [.t 16]), o 18 (.un .not (.t 17))])) (.cond (.t 18) (.seq (.kp [4, 5] (.ops [o 19 (.load (some 2) (.t 2)), o 20 (.call 48 [false] [.t 19]), oz none none [] (.store 2 (.t 4) (.t 20)), o 5 (.mv (.k (.b false)))])) C.ret) C.skip)) (.seq (.kp [4, 5] (.ops [o 21 (.load (some 2) (.t 6)), oz none none [21] (.store 2 (.t 4) (.t 21)), o 5 (.mv (.k (.b true)))])) C.ret)))))
def spec_HistAdd.F : V.Fn := ⟨3, spec_HistAdd.B, [.cell 4 (some 2), .t 5]⟩
def slices_Clone_impl_Node_impl_Node.B : C := (.seq (.kp [0] (.ops [o 2 (.mv (.k (.nl 2)))])) (.seq (.seq (.kp [0, 4] (.ops [o 3 (.mv (.t 0)), o 4 (.bin .eql 2 (.t 3) (.k (.nl 2)))])) (.cond (.t 4) (.seq (.kp [2] (.ops [o 2 (.mv (.k (.nl 2)))])) C.ret) C.skip)) (.seq (.kp [2] (.ops [o 5 (.lit 2 0 [.i .i64 0, .i .i64 0] []), o 6 (.mv (.t 0)), o 7 (.app 2 16 (.t 5) (.t 6)), o 2 (.mv (.t 7))])) C.ret)))
def slices_Clone_impl_Node_impl_Node.F : V.Fn := ⟨1, slices_Clone_impl_Node_impl_Node.B, [.t 2]⟩
def slices_Grow_impl_Op_impl_Op.c0 : C := (.seq (.seq (.kp [0, 1] (.ops [o 8 (.mv (.t 1)), o 9 (.mv (.t 0)), o 10 (.cap (.t 9)), o 11 (.mv (.t 0)), o 12 (.len false (.t 11)), o 13 (.bin .sub 0 (.t 10) (.t 12)), o 14 (.bin .sub 0 (.t 8) (.t 13)), o 1 (.mv (.t 14))])) (.seq (.kp [0, 1, 16] (.ops [o 15 (.mv (.t 1)), o 16 (.bin .gtr 0 (.t 15) (.k (.i .i64 0)))])) (.cond (.t 16) (.kp [0] (.ops [o 17 (.mv (.t 0)), o 18 (.mv (.t 0)), o 19 (.cap (.t 18)), o 20 (.slR 5 (.t 17) none (some (.t 19))), o 21 (.mv (.t 1)), o 22 (.appZ 56 [.i .i64 0, .deep false false 1 [], .i .i64 0, .i .i64 0, .i .i64 0] (.k (.undef)) (.t 20) (.t 21)), o 23 (.mv (.t 0)), o 24 (.len false (.t 23)), o 25 (.slR 5 (.t 22) none (some (.t 24))), o 0 (.mv (.t 25))])) C.skip))) (.seq (.kp [4] (.ops [o 26 (.mv (.t 0)), o 4 (.mv (.t 26))])) C.ret))
def slices_Grow_impl_Op_impl_Op.B : C := (.seq (.kp [0, 1] (.ops [o 4 (.mv (.k (.nl 5)))])) (.seq (.jn 1 [0, 1] (.seq (.kp [0, 1, 6] (.ops [o 5 (.mv (.t 1)), o 6 (.bin .lss 0 (.t 5) (.k (.i .i64 0)))])) (.cond (.t 6) (.kp [0, 1] (.ops [o 7 (.ext 999 (.k (.undef))), oz none none [] (.ext 999 (.k (.undef)))])) C.skip))) slices_Grow_impl_Op_impl_Op.c0))
def slices_Grow_impl_Op_impl_Op.F : V.Fn := ⟨1, slices_Grow_impl_Op_impl_Op.B, [.t 4]⟩
def slices_Concat_impl_Op_impl_Op.d3 : C := (.seq (.kp [6, 25, 26, 27, 28] (.ops [o 28 (.bin .lss 0 (.t 27) (.t 26))])) (.seq (.cond (.t 28) C.skip (.exit 2)) (.seq (.blk 3 (.seq (.kp [6, 8, 25, 26, 27] (.ops [o 29 (.iaddr 1 (.t 25) (.t 27)), o 30 (.load none (.t 29)), o 8 (.mv (.t 30))])) (.kp [6, 25, 26, 27] (.ops [o 31 (.mv (.t 6)), o 32 (.mv (.t 8)), oz (some 33) none [32] (.app 5 56 (.t 31) (.t 32)), o 6 (.mv (.t 33))])))) (.kp [6, 25, 26, 27] (.ops [o 34 (.bin .add 0 (.t 27) (.k (.i .i64 1))), o 27 (.mv (.t 34))])))))
def slices_Concat_impl_Op_impl_Op.c3 : C := .loop 1 [6, 25, 26, 27] slices_Concat_impl_Op_impl_Op.d3
def slices_Concat_impl_Op_impl_Op.c2 : C := (.seq (.kp [2] (.ops [o 35 (.mv (.t 6)), o 2 (.mv (.t 35))])) C.ret)
def slices_Concat_impl_Op_impl_Op.c0 : C := (.seq (.kp [0, 6] (.ops [o 23 (.mv (.t 3)), o 24 (.call 112 [true, false] [.k (.nl 5), .t 23]), o 6 (.mv (.t 24))])) (.seq (.seq (.kp [6, 25, 26, 27] (.ops [o 25 (.mv (.t 0)), o 26 (.len false (.t 25)), o 27 (.mv (.k (.i .i64 0)))])) (.blk 2 slices_Concat_impl_Op_impl_Op.c3)) slices_Concat_impl_Op_impl_Op.c2))
def slices_Concat_impl_Op_impl_Op.d1 : C := (.seq (.kp [0, 3, 9, 10, 11, 12] (.ops [o 12 (.bin .lss 0 (.t 11) (.t 10))])) (.seq (.cond (.t 12) C.skip (.exit 0)) (.seq (.blk 1 (.seq (.kp [0, 3, 5, 9, 10, 11] (.ops [o 13 (.iaddr 1 (.t 9) (.t 11)), o 14 (.load none (.t 13)), o 5 (.mv (.t 14))])) (.seq (.kp [0, 3, 9, 10, 11] (.ops [o 15 (.mv (.t 3)), o 16 (.mv (.t 5)), o 17 (.len false (.t 16)), o 18 (.bin .add 0 (.t 15) (.t 17)), o 3 (.mv (.t 18))])) (.seq (.kp [0, 3, 9, 10, 11, 20] (.ops [o 19 (.mv (.t 3)), o 20 (.bin .lss 0 (.t 19) (.k (.i .i64 0)))])) (.cond (.t 20) (.kp [0, 3, 9, 10, 11] (.ops [o 21 (.ext 999 (.k (.undef))), oz none none [] (.ext 999 (.k (.undef)))])) C.skip))))) (.kp [0, 3, 9, 10, 11] (.ops [o 22 (.bin .add 0 (.t 11) (.k (.i .i64 1))), o 11 (.mv (.t 22))])))))
def slices_Concat_impl_Op_impl_Op.c1 : C := .loop 1 [0, 3, 9, 10, 11] slices_Concat_impl_Op_impl_Op.d1
def slices_Concat_impl_Op_impl_Op.B : C := (.seq (.kp [0] (.ops [o 2 (.mv (.k (.nl 5)))])) (.seq (.kp [0, 3] (.ops [o 3 (.mv (.k (.i .i64 0)))])) (.seq (.seq (.kp [0, 3, 9, 10, 11] (.ops [o 9 (.mv (.t 0)), o 10 (.len false (.t 9)), o 11 (.mv (.k (.i .i64 0)))])) (.blk 0 slices_Concat_impl_Op_impl_Op.c1)) slices_Concat_impl_Op_impl_Op.c0)))
def slices_Concat_impl_Op_impl_Op.F : V.Fn := ⟨1, slices_Concat_impl_Op_impl_Op.B, [.t 2]⟩
def slices_Clone_int_int.B : C := (.seq (.kp [0] (.ops [o 2 (.mv (.k (.nl 1)))])) (.seq (.seq (.kp [0, 4] (.ops [o 3 (.mv (.t 0)), o 4 (.bin .eql 2 (.t 3) (.k (.nl 1)))])) (.cond (.t 4) (.seq (.kp [2] (.ops [o 2 (.mv (.k (.nl 1)))])) C.ret) C.skip)) (.seq (.kp [2] (.ops [o 5 (.lit 1 0 [.i .i64 0] []), o 6 (.mv (.t 0)), o 7 (.app 1 8 (.t 5) (.t 6)), o 2 (.mv (.t 7))])) C.ret)))
def slices_Clone_int_int.F : V.Fn := ⟨1, slices_Clone_int_int.B, [.t 2]⟩
def impl_opCopy.B : C := (.seq (.kp [1, 2] (.ops [o 1 (.box 5 (.t 0)), o 2 (.alloc [.i .i64 0, .deep false false 1 [], .i .i64 0, .i .i64 0, .i .i64 0])])) (.seq (.kp [1, 2] (.ops [o 3 (.faddr 1 (.t 1)), o 4 (.load none (.t 3)), o 5 (.call 113 [false] [.t 4]), o 6 (.faddr 1 (.t 1)), oz none none [] (.store 1 (.t 6) (.t 5))])) (.seq (.kp [2] (.ops [o 7 (.load (some 5) (.t 1)), oz none none [7] (.store 5 (.t 2) (.t 7))])) C.ret)))
def impl_opCopy.F : V.Fn := ⟨1, impl_opCopy.B, [.cell 2 (some 5)]⟩
def impl_Joined.c0 : C := (.seq (.kp [4] (.ops [o 24 (.mv (.t 5)), o 4 (.mv (.t 24))])) C.ret)
def impl_Joined.d1 : C := (.seq (.kp [5, 12, 13, 14, 15] (.ops [o 15 (.bin .lss 0 (.t 14) (.t 13))])) (.seq (.cond (.t 15) C.skip (.exit 0)) (.seq (.blk 1 (.seq (.kp [5, 7, 12, 13, 14] (.ops [o 16 (.iaddr 5 (.t 12) (.t 14)), o 17 (.load (some 5) (.t 16)), o 7 (.alloc [.i .i64 0, .deep false false 1 [], .i .i64 0, .i .i64 0, .i .i64 0]), oz none none [17] (.store 5 (.t 7) (.t 17))])) (.kp [5, 12, 13, 14] (.ops [o 18 (.mv (.t 5)), o 19 (.load (some 5) (.t 7)), o 20 (.call 92 [false] [.t 19]), o 21 (.lit 5 1 [.i .i64 0, .deep false false 1 [], .i .i64 0, .i .i64 0, .i .i64 0] [(0, .t 20)]), o 22 (.app 5 56 (.t 18) (.t 21)), o 5 (.mv (.t 22))])))) (.kp [5, 12, 13, 14] (.ops [o 23 (.bin .add 0 (.t 14) (.k (.i .i64 1))), o 14 (.mv (.t 23))])))))
def impl_Joined.c1 : C := .loop 2 [5, 12, 13, 14] impl_Joined.d1
def impl_Joined.B : C := (.seq (.kp [0, 1] (.ops [o 4 (.mv (.k (.nl 5)))])) (.seq (.kp [0, 1, 5] (.ops [o 8 (.lit 5 0 [.i .i64 0, .deep false false 1 [], .i .i64 0, .i .i64 0, .i .i64 0] []), o 5 (.mv (.t 8))])) (.seq (.seq (.kp [5, 12, 13, 14] (.ops [o 9 (.mv (.t 0)), o 10 (.mv (.t 1)), o 11 (.lit 1 2 [.deep false false 5 []] [(0, .t 9), (1, .t 10)]), o 12 (.call 91 [true] [.t 11]), o 13 (.len false (.t 12)), o 14 (.mv (.k (.i .i64 0)))])) (.blk 0 impl_Joined.c1)) impl_Joined.c0)))
def impl_Joined.F : V.Fn := ⟨2, impl_Joined.B, [.t 4]⟩
def impl_histCopy.c0 : C := (.seq (.kp [2] (.ops [o 25 (.load (some 2) (.t 3)), oz none none [25] (.store 2 (.t 2) (.t 25))])) C.ret)
def impl_histCopy.d1 : C := (.seq (.kp [2, 3, 11, 12, 13, 14] (.ops [o 14 (.bin .lss 0 (.t 13) (.t 12))])) (.seq (.cond (.t 14) C.skip (.exit 0)) (.seq (.blk 1 (.seq (.kp [2, 3, 5, 11, 12, 13] (.ops [o 15 (.iaddr 1 (.t 11) (.t 13)), o 16 (.load none (.t 15)), o 5 (.mv (.t 16))])) (.kp [2, 3, 11, 12, 13] (.draw (tk [0, 2] (.alt (tk [1, 3, 4, 5, 6, 7] .done) (tk [3] (.alt (tk [1, 4, 5, 6, 7] .done) (tk [4, 1, 5, 6, 7] .done))))) [o 17 (.faddr 1 (.t 3)), o 18 (.load none (.t 17)), o 19 (.mv (.t 5)), o 20 (.call 55 [false, false] [.t 19, .k (.nl 5)]), o 21 (.lit 1 1 [.deep false false 5 []] [(0, .t 20)]), o 22 (.app 1 24 (.t 18) (.t 21)), o 23 (.faddr 1 (.t 3)), oz none none [] (.store 1 (.t 23) (.t 22))])))) (.kp [2, 3, 11, 12, 13] (.ops [o 24 (.bin .add 0 (.t 13) (.k (.i .i64 1))), o 13 (.mv (.t 24))])))))
def impl_histCopy.c1 : C := .loop 2 [2, 3, 11, 12, 13] impl_histCopy.d1
def impl_histCopy.B : C := (.seq (.kp [1, 2] (.ops [o 1 (.boxK (.t 0)), o 2 (.alloc [.deep false false 2 [], .deep false false 1 []])])) (.seq (.kp [1, 2, 3] (.ops [o 6 (.faddr 0 (.t 1)), o 7 (.load none (.t 6)), o 8 (.call 90 [false] [.t 7]), o 9 (.build [.nl 2, .nl 1] [(0, 1, .t 8)]), o 3 (.alloc [.deep false false 2 [], .deep false false 1 []]), oz none none [] (.store 2 (.t 3) (.t 9))])) (.seq (.seq (.kp [2, 3, 11, 12, 13] (.ops [o 10 (.faddr 1 (.t 1)), o 11 (.load none (.t 10)), o 12 (.len false (.t 11)), o 13 (.mv (.k (.i .i64 0)))])) (.blk 0 impl_histCopy.c1)) impl_histCopy.c0)))
def impl_histCopy.F : V.Fn := ⟨2, impl_histCopy.B, [.cell 2 (some 2)]⟩
def impl_within.B : C := (.seq (.kp [0, 1, 2] (.ops [o 6 (.mv (.k (.b false)))])) (.seq (.kp [6] (.ops [o 7 (.mv (.t 1)), o 8 (.mv (.t 0)), o 9 (.bin .leq 0 (.t 7) (.t 8)), o 10 (.mv (.t 9)), og 11 10 true (.mv (.t 0)), og 12 10 true (.mv (.t 2)), og 13 10 true (.bin .leq 0 (.t 11) (.t 12)), o 14 (.pick (.t 10) (.t 13) (.k (.b false))), o 6 (.mv (.t 14))])) C.ret))
def impl_within.F : V.Fn := ⟨0, impl_within.B, [.t 6]⟩
def impl_LabelOk.B : C := (.seq (.kp [0] (.ops [o 2 (.mv (.k (.b false)))])) (.seq (.kp [2] (.ops [o 3 (.mv (.t 0)), o 4 (.call 37 [false, false, false] [.t 3, .k (.i .i64 0), .k (.i .i64 5)]), o 2 (.mv (.t 4))])) C.ret))
def impl_LabelOk.F : V.Fn := ⟨0, impl_LabelOk.B, [.t 2]⟩
def impl_depthOk.B : C := (.seq (.kp [0, 1] (.ops [o 4 (.mv (.k (.b false)))])) (.seq (.seq (.kp [0, 1, 6] (.ops [o 5 (.mv (.t 1)), o 6 (.bin .eql 0 (.t 5) (.k (.i .i64 0)))])) (.cond (.t 6) (.seq (.kp [4] (.ops [o 7 (.mv (.t 0)), o 8 (.iaddr 2 (.t 7) (.k (.i .i64 0))), o 9 (.faddr 1 (.t 8)), o 10 (.load none (.t 9)), o 11 (.bin .eql 0 (.t 10) (.k (.i .i64 0))), o 4 (.mv (.t 11))])) C.ret) C.skip)) (.seq (.kp [4] (.draw (sq 14) [o 12 (.mv (.t 0)), o 13 (.mv (.t 1)), o 14 (.iaddr 2 (.t 12) (.t 13)), o 15 (.faddr 1 (.t 14)), o 16 (.load none (.t 15)), o 17 (.mv (.t 0)), o 18 (.mv (.t 1)), o 19 (.bin .sub 0 (.t 18) (.k (.i .i64 1))), o 20 (.iaddr 2 (.t 17) (.t 19)), o 21 (.faddr 1 (.t 20)), o 22 (.load none (.t 21)), o 23 (.bin .add 0 (.t 22) (.k (.i .i64 1))), o 24 (.call 37 [false, false, false] [.t 16, .k (.i .i64 1), .t 23]), o 4 (.mv (.t 24))])) C.ret)))
def impl_depthOk.F : V.Fn := ⟨1, impl_depthOk.B, [.t 4]⟩
def impl_TreeOk.c0 : C := (.seq (.kp [2] (.ops [o 2 (.mv (.k (.b true)))])) C.ret)
def impl_TreeOk.d1 : C := (.seq (.kp [0, 9, 10, 11, 12] (.ops [o 12 (.bin .lss 0 (.t 11) (.t 10))])) (.seq (.cond (.t 12) C.skip (.exit 0)) (.seq (.blk 1 (.seq (.kp [0, 3, 4, 9, 10, 11] (.ops [o 13 (.mv (.t 11)), o 14 (.iaddr 2 (.t 9) (.t 11)), o 15 (.load (some 2) (.t 14)), o 4 (.alloc [.i .i64 0, .i .i64 0]), o 3 (.mv (.t 13)), oz none none [] (.store 2 (.t 4) (.t 15))])) (.seq (.kp [0, 9, 10, 11, 31] (.ops [o 16 (.faddr 0 (.t 4)), o 17 (.load none (.t 16)), o 18 (.call 107 [false] [.t 17]), o 19 (.un .not (.t 18)), o 20 (.mv (.t 19)), og 21 20 false (.faddr 1 (.t 4)), og 22 20 false (.load none (.t 21)), og 23 20 false (.call 37 [false, false, false] [.t 22, .k (.i .i64 0), .k (.i .i64 12)]), og 24 20 false (.un .not (.t 23)), o 25 (.pick (.t 20) (.k (.b true)) (.t 24)), o 26 (.mv (.t 25)), og 27 26 false (.mv (.t 0)), og 28 26 false (.mv (.t 3)), og 29 26 false (.call 108 [false, false] [.t 27, .t 28]), og 30 26 false (.un .not (.t 29)), o 31 (.pick (.t 26) (.k (.b true)) (.t 30))])) (.cond (.t 31) (.seq (.kp [2] (.ops [o 2 (.mv (.k (.b false)))])) C.ret) C.skip)))) (.kp [0, 9, 10, 11] (.ops [o 32 (.bin .add 0 (.t 11) (.k (.i .i64 1))), o 11 (.mv (.t 32))])))))
def impl_TreeOk.c1 : C := .loop 1 [0, 9, 10, 11] impl_TreeOk.d1
def impl_TreeOk.B : C := (.seq (.kp [0] (.ops [o 2 (.mv (.k (.b false)))])) (.seq (.seq (.kp [0, 8] (.ops [o 5 (.mv (.t 0)), o 6 (.len false (.t 5)), o 7 (.call 37 [false, false, false] [.t 6, .k (.i .i64 1), .k (.i .i64 24)]), o 8 (.un .not (.t 7))])) (.cond (.t 8) (.seq (.kp [2] (.ops [o 2 (.mv (.k (.b false)))])) C.ret) C.skip)) (.seq (.seq (.kp [0, 9, 10, 11] (.ops [o 9 (.mv (.t 0)), o 10 (.len false (.t 9)), o 11 (.mv (.k (.i .i64 0)))])) (.blk 0 impl_TreeOk.c1)) impl_TreeOk.c0)))
def impl_TreeOk.F : V.Fn := ⟨1, impl_TreeOk.B, [.t 2]⟩
def impl_hasNode.B : C := (.seq (.kp [0, 1] (.ops [o 4 (.mv (.k (.b false)))])) (.seq (.kp [4] (.ops [o 5 (.mv (.t 0)), o 6 (.call 99 [false] [.t 5]), o 7 (.mv (.t 6)), og 8 7 true (.mv (.t 1)), og 9 7 true (.mv (.t 0)), og 10 7 true (.len false (.t 9)), og 11 7 true (.bin .sub 0 (.t 10) (.k (.i .i64 1))), og 12 7 true (.call 37 [false, false, false] [.t 8, .k (.i .i64 0), .t 11]), o 13 (.pick (.t 7) (.t 12) (.k (.b false))), o 4 (.mv (.t 13))])) C.ret))
def impl_hasNode.F : V.Fn := ⟨1, impl_hasNode.B, [.t 4]⟩
def impl_endOf.c0 : C := (.seq (.kp [4] (.ops [o 27 (.mv (.t 5)), o 4 (.mv (.t 27))])) C.ret)
def impl_endOf.d1 : C := (.seq (.seq (.kp [0, 1, 5, 24] (.draw (sq 17) [o 8 (.mv (.t 5)), o 9 (.mv (.t 0)), o 10 (.len false (.t 9)), o 11 (.bin .lss 0 (.t 8) (.t 10)), o 12 (.mv (.t 11)), og 13 12 true (.mv (.t 0)), og 14 12 true (.mv (.t 5)), og 15 12 true (.iaddr 2 (.t 13) (.t 14)), og 16 12 true (.faddr 1 (.t 15)), og 17 12 true (.load none (.t 16)), og 18 12 true (.mv (.t 0)), og 19 12 true (.mv (.t 1)), og 20 12 true (.iaddr 2 (.t 18) (.t 19)), og 21 12 true (.faddr 1 (.t 20)), og 22 12 true (.load none (.t 21)), og 23 12 true (.bin .gtr 0 (.t 17) (.t 22)), o 24 (.pick (.t 12) (.t 23) (.k (.b false)))])) (.cond (.t 24) C.skip (.exit 0))) (.blk 1 (.kp [0, 1, 5] (.ops [o 25 (.mv (.t 5)), o 26 (.bin .add 0 (.t 25) (.k (.i .i64 1))), o 5 (.mv (.t 26))]))))
def impl_endOf.c1 : C := .loop 1 [0, 1, 5] impl_endOf.d1
def impl_endOf.B : C := (.seq (.kp [0, 1] (.ops [o 4 (.mv (.k (.i .i64 0)))])) (.seq (.kp [0, 1, 5] (.ops [o 6 (.mv (.t 1)), o 7 (.bin .add 0 (.t 6) (.k (.i .i64 1))), o 5 (.mv (.t 7))])) (.seq (.blk 0 impl_endOf.c1) impl_endOf.c0)))
def impl_endOf.F : V.Fn := ⟨1, impl_endOf.B, [.t 4]⟩
def impl_KidsOf.c0 : C := (.seq (.kp [4] (.ops [o 38 (.mv (.t 5)), o 4 (.mv (.t 38))])) C.ret)
def impl_KidsOf.d1 : C := (.seq (.seq (.kp [0, 1, 5, 6, 19] (.ops [o 15 (.mv (.t 6)), o 16 (.mv (.t 0)), o 17 (.mv (.t 1)), o 18 (.call 123 [false, false] [.t 16, .t 17]), o 19 (.bin .lss 0 (.t 15) (.t 18))])) (.cond (.t 19) C.skip (.exit 0))) (.seq (.blk 1 (.seq (.kp [0, 1, 5, 6, 33] (.draw (sq 12) [o 22 (.mv (.t 0)), o 23 (.mv (.t 6)), o 24 (.iaddr 2 (.t 22) (.t 23)), o 25 (.faddr 1 (.t 24)), o 26 (.load none (.t 25)), o 27 (.mv (.t 0)), o 28 (.mv (.t 1)), o 29 (.iaddr 2 (.t 27) (.t 28)), o 30 (.faddr 1 (.t 29)), o 31 (.load none (.t 30)), o 32 (.bin .add 0 (.t 31) (.k (.i .i64 1))), o 33 (.bin .eql 0 (.t 26) (.t 32))])) (.cond (.t 33) (.kp [0, 1, 5, 6] (.ops [o 34 (.mv (.t 5)), o 35 (.mv (.t 6)), o 36 (.lit 1 1 [.i .i64 0] [(0, .t 35)]), o 37 (.app 1 8 (.t 34) (.t 36)), o 5 (.mv (.t 37))])) C.skip))) (.kp [0, 1, 5, 6] (.ops [o 20 (.mv (.t 6)), o 21 (.bin .add 0 (.t 20) (.k (.i .i64 1))), o 6 (.mv (.t 21))]))))
def impl_KidsOf.c1 : C := .loop 1 [0, 1, 5, 6] impl_KidsOf.d1
def impl_KidsOf.B : C := (.seq (.kp [0, 1] (.ops [o 4 (.mv (.k (.nl 1)))])) (.seq (.kp [0, 1, 5] (.ops [o 7 (.lit 1 0 [.i .i64 0] []), o 5 (.mv (.t 7))])) (.seq (.seq (.kp [0, 1, 5, 11] (.ops [o 8 (.mv (.t 0)), o 9 (.mv (.t 1)), o 10 (.call 134 [false, false] [.t 8, .t 9]), o 11 (.un .not (.t 10))])) (.cond (.t 11) (.seq (.kp [4] (.ops [o 12 (.mv (.t 5)), o 4 (.mv (.t 12))])) C.ret) C.skip)) (.seq (.seq (.kp [0, 1, 5, 6] (.ops [o 13 (.mv (.t 1)), o 14 (.bin .add 0 (.t 13) (.k (.i .i64 1))), o 6 (.mv (.t 14))])) (.blk 0 impl_KidsOf.c1)) impl_KidsOf.c0))))
def impl_KidsOf.F : V.Fn := ⟨1, impl_KidsOf.B, [.t 4]⟩
def impl_NodeAt.c0 : C := (.seq (.kp [4] (.ops [o 32 (.mv (.t 5)), o 4 (.mv (.t 32))])) C.ret)
def impl_NodeAt.d1 : C := (.seq (.kp [0, 5, 12, 13, 14, 15] (.ops [o 15 (.bin .lss 0 (.t 14) (.t 13))])) (.seq (.cond (.t 15) C.skip (.exit 0)) (.seq (.blk 1 (.seq (.kp [0, 5, 7, 12, 13, 14] (.ops [o 16 (.iaddr 1 (.t 12) (.t 14)), o 17 (.load none (.t 16)), o 7 (.mv (.t 17))])) (.seq (.kp [0, 7, 8, 12, 13, 14] (.ops [o 18 (.mv (.t 0)), o 19 (.mv (.t 5)), o 20 (.call 126 [false, false] [.t 18, .t 19]), o 8 (.mv (.t 20))])) (.seq (.seq (.kp [0, 7, 8, 12, 13, 14, 26] (.ops [o 21 (.mv (.t 7)), o 22 (.mv (.t 8)), o 23 (.len false (.t 22)), o 24 (.bin .sub 0 (.t 23) (.k (.i .i64 1))), o 25 (.call 37 [false, false, false] [.t 21, .k (.i .i64 0), .t 24]), o 26 (.un .not (.t 25))])) (.cond (.t 26) (.seq (.kp [4] (.ops [o 4 (.mv (.k (.i .i64 (-1))))])) C.ret) C.skip)) (.kp [0, 5, 12, 13, 14] (.ops [o 27 (.mv (.t 8)), o 28 (.mv (.t 7)), o 29 (.iaddr 1 (.t 27) (.t 28)), o 30 (.load none (.t 29)), o 5 (.mv (.t 30))])))))) (.kp [0, 5, 12, 13, 14] (.ops [o 31 (.bin .add 0 (.t 14) (.k (.i .i64 1))), o 14 (.mv (.t 31))])))))
def impl_NodeAt.c1 : C := .loop 2 [0, 5, 12, 13, 14] impl_NodeAt.d1
def impl_NodeAt.B : C := (.seq (.kp [0, 1] (.ops [o 4 (.mv (.k (.i .i64 0)))])) (.seq (.seq (.kp [0, 1, 11] (.ops [o 9 (.mv (.t 0)), o 10 (.call 99 [false] [.t 9]), o 11 (.un .not (.t 10))])) (.cond (.t 11) (.seq (.kp [4] (.ops [o 4 (.mv (.k (.i .i64 (-1))))])) C.ret) C.skip)) (.seq (.kp [0, 1, 5] (.ops [o 5 (.mv (.k (.i .i64 0)))])) (.seq (.seq (.kp [0, 5, 12, 13, 14] (.ops [o 12 (.mv (.t 1)), o 13 (.len false (.t 12)), o 14 (.mv (.k (.i .i64 0)))])) (.blk 0 impl_NodeAt.c1)) impl_NodeAt.c0))))
def impl_NodeAt.F : V.Fn := ⟨2, impl_NodeAt.B, [.t 4]⟩
def impl_opCode.c0 : C := (.seq (.blk 3 (.seq (.kp [7, 8, 11, 104] (.ops [o 105 (.mv (.t 0)), o 106 (.len false (.t 105)), o 107 (.bin .eql 0 (.t 106) (.k (.i .i64 24))), o 104 (.mv (.t 107))])) (.cond (.t 104) (.seq (.kp [6, 7, 8] (.ops [o 6 (.mv (.k (.i .i64 6))), o 7 (.mv (.k (.i .i64 0))), o 8 (.mv (.k (.i .i64 0)))])) C.ret) (.seq (.kp [7, 8, 108] (.ops [o 109 (.mv (.t 11)), o 110 (.bin .gtr 0 (.t 109) (.k (.i .i64 12))), o 108 (.mv (.t 110))])) (.cond (.t 108) (.seq (.kp [6, 7, 8] (.ops [o 6 (.mv (.k (.i .i64 7))), o 7 (.mv (.k (.i .i64 0))), o 8 (.mv (.k (.i .i64 0)))])) C.ret) C.skip))))) (.seq (.kp [6, 7, 8] (.ops [o 111 (.mv (.t 7)), o 112 (.mv (.t 8)), o 6 (.mv (.k (.i .i64 0))), o 7 (.mv (.t 111)), o 8 (.mv (.t 112))])) C.ret))
def impl_opCode.d1 : C := (.seq (.kp [0, 7, 8, 11, 92, 93, 94, 95] (.ops [o 95 (.bin .lss 0 (.t 94) (.t 93))])) (.seq (.cond (.t 95) C.skip (.exit 1)) (.seq (.blk 2 (.seq (.kp [0, 7, 8, 11, 13, 92, 93, 94] (.ops [o 96 (.iaddr 2 (.t 92) (.t 94)), o 97 (.load (some 2) (.t 96)), o 13 (.alloc [.i .i64 0, .i .i64 0]), oz none none [] (.store 2 (.t 13) (.t 97))])) (.kp [0, 7, 8, 11, 92, 93, 94] (.ops [o 98 (.mv (.t 11)), o 99 (.faddr 1 (.t 13)), o 100 (.load none (.t 99)), o 101 (.bin .add 0 (.t 100) (.k (.i .i64 1))), o 102 (.mm true [.t 98, .t 101]), o 11 (.mv (.t 102))])))) (.kp [0, 7, 8, 11, 92, 93, 94] (.ops [o 103 (.bin .add 0 (.t 94) (.k (.i .i64 1))), o 94 (.mv (.t 103))])))))
def impl_opCode.c1 : C := .loop 2 [0, 7, 8, 11, 92, 93, 94] impl_opCode.d1
def impl_opCode.B : C := (.seq (.kp [0, 2, 4] (.ops [o 4 (.boxK (.t 1)), o 6 (.mv (.k (.i .i64 0))), o 7 (.mv (.k (.i .i64 0))), o 8 (.mv (.k (.i .i64 0)))])) (.seq (.blk 0 (.seq (.kp [0, 2, 4, 14] (.ops [o 15 (.faddr 0 (.t 4)), o 16 (.load none (.t 15)), o 17 (.call 37 [false, false, false] [.t 16, .k (.i .i64 1), .k (.i .i64 3)]), o 18 (.un .not (.t 17)), o 14 (.mv (.t 18))])) (.cond (.t 14) (.seq (.kp [6, 7, 8] (.ops [o 6 (.mv (.k (.i .i64 1))), o 7 (.mv (.k (.i .i64 0))), o 8 (.mv (.k (.i .i64 0)))])) C.ret) (.seq (.kp [0, 2, 4, 19] (.ops [o 20 (.mv (.t 2)), o 21 (.bin .lss 0 (.t 20) (.k (.i .i64 0))), o 19 (.mv (.t 21))])) (.cond (.t 19) (.seq (.kp [6, 7, 8] (.ops [o 6 (.mv (.k (.i .i64 2))), o 7 (.mv (.k (.i .i64 0))), o 8 (.mv (.k (.i .i64 0)))])) C.ret) (.seq (.kp [0, 2, 4, 22] (.ops [o 23 (.faddr 0 (.t 4)), o 24 (.load none (.t 23)), o 25 (.bin .neq 0 (.t 24) (.k (.i .i64 2))), o 26 (.mv (.t 25)), og 27 26 true (.faddr 2 (.t 4)), og 28 26 true (.load none (.t 27)), og 29 26 true (.call 107 [false] [.t 28]), og 30 26 true (.un .not (.t 29)), o 31 (.pick (.t 26) (.t 30) (.k (.b false))), o 22 (.mv (.t 31))])) (.cond (.t 22) (.seq (.kp [6, 7, 8] (.ops [o 6 (.mv (.k (.i .i64 3))), o 7 (.mv (.k (.i .i64 0))), o 8 (.mv (.k (.i .i64 0)))])) C.ret) (.seq (.kp [0, 2, 4, 32] (.ops [o 33 (.faddr 0 (.t 4)), o 34 (.load none (.t 33)), o 35 (.bin .eql 0 (.t 34) (.k (.i .i64 2))), o 36 (.mv (.t 35)), og 37 36 true (.mv (.t 2)), og 38 36 true (.bin .eql 0 (.t 37) (.k (.i .i64 0))), o 39 (.pick (.t 36) (.t 38) (.k (.b false))), o 32 (.mv (.t 39))])) (.cond (.t 32) (.seq (.kp [6, 7, 8] (.ops [o 6 (.mv (.k (.i .i64 4))), o 7 (.mv (.k (.i .i64 0))), o 8 (.mv (.k (.i .i64 0)))])) C.ret) (.seq (.kp [0, 2, 4, 40] (.ops [o 41 (.faddr 0 (.t 4)), o 42 (.load none (.t 41)), o 43 (.bin .neq 0 (.t 42) (.k (.i .i64 3))), o 40 (.mv (.t 43))])) (.cond (.t 40) (.seq (.kp [6, 7, 8] (.ops [o 6 (.mv (.k (.i .i64 0))), o 7 (.mv (.k (.i .i64 0))), o 8 (.mv (.k (.i .i64 0)))])) C.ret) C.skip))))))))))) (.seq (.kp [0, 2, 4, 9] (.ops [o 44 (.mv (.t 0)), o 45 (.mv (.t 2)), o 46 (.call 126 [false, false] [.t 44, .t 45]), o 9 (.mv (.t 46))])) (.seq (.seq (.kp [0, 2, 4, 9, 63] (.ops [o 47 (.faddr 3 (.t 4)), o 48 (.load none (.t 47)), o 49 (.mv (.t 9)), o 50 (.len false (.t 49)), o 51 (.call 37 [false, false, false] [.t 48, .k (.i .i64 0), .t 50]), o 52 (.un .not (.t 51)), o 53 (.mv (.t 52)), og 54 53 false (.faddr 4 (.t 4)), og 55 53 false (.load none (.t 54)), og 56 53 false (.mv (.t 9)), og 57 53 false (.len false (.t 56)), og 58 53 false (.faddr 3 (.t 4)), og 59 53 false (.load none (.t 58)), og 60 53 false (.bin .sub 0 (.t 57) (.t 59)), og 61 53 false (.call 37 [false, false, false] [.t 55, .k (.i .i64 0), .t 60]), og 62 53 false (.un .not (.t 61)), o 63 (.pick (.t 53) (.k (.b true)) (.t 62))])) (.cond (.t 63) (.seq (.kp [6, 7, 8] (.ops [o 6 (.mv (.k (.i .i64 5))), o 7 (.mv (.k (.i .i64 0))), o 8 (.mv (.k (.i .i64 0)))])) C.ret) C.skip)) (.seq (.kp [0, 2, 4, 10] (.ops [o 64 (.mv (.t 9)), o 65 (.mv (.t 0)), o 66 (.mv (.t 2)), o 67 (.call 123 [false, false] [.t 65, .t 66]), o 68 (.lit 1 1 [.i .i64 0] [(0, .t 67)]), o 69 (.app 1 8 (.t 64) (.t 68)), o 10 (.mv (.t 69))])) (.seq (.kp [0, 2, 7, 8] (.draw (sq 15) [o 70 (.mv (.t 10)), o 71 (.faddr 3 (.t 4)), o 72 (.load none (.t 71)), o 73 (.iaddr 1 (.t 70) (.t 72)), o 74 (.load none (.t 73)), o 75 (.mv (.t 10)), o 76 (.faddr 3 (.t 4)), o 77 (.load none (.t 76)), o 78 (.faddr 4 (.t 4)), o 79 (.load none (.t 78)), o 80 (.bin .add 0 (.t 77) (.t 79)), o 81 (.iaddr 1 (.t 75) (.t 80)), o 82 (.load none (.t 81)), o 7 (.mv (.t 74)), o 8 (.mv (.t 82))])) (.seq (.kp [0, 7, 8, 11] (.ops [o 83 (.mv (.t 0)), o 84 (.mv (.t 2)), o 85 (.iaddr 2 (.t 83) (.t 84)), o 86 (.faddr 1 (.t 85)), o 87 (.load none (.t 86)), o 88 (.bin .add 0 (.t 87) (.k (.i .i64 1))), o 11 (.mv (.t 88))])) (.seq (.seq (.kp [0, 7, 8, 11, 92, 93, 94] (.ops [o 89 (.mv (.t 0)), o 90 (.mv (.t 7)), o 91 (.mv (.t 8)), o 92 (.slR 2 (.t 89) (some (.t 90)) (some (.t 91))), o 93 (.len false (.t 92)), o 94 (.mv (.k (.i .i64 0)))])) (.blk 1 impl_opCode.c1)) impl_opCode.c0))))))))
def impl_opCode.F : V.Fn := ⟨2, impl_opCode.B, [.t 6, .t 7, .t 8]⟩
def slices_Delete_impl_Node_impl_Node.B : C := delB 2 16 [.i .i64 0, .i .i64 0]
def slices_Delete_impl_Node_impl_Node.F : V.Fn := delF 2 16 [.i .i64 0, .i .i64 0]
def slices_Insert_impl_Node_impl_Node.B : C := insB 2 16 [.i .i64 0, .i .i64 0] 133
def slices_Insert_impl_Node_impl_Node.F : V.Fn := insF 2 16 [.i .i64 0, .i .i64 0] 133
def impl_ApplyOp.c0 : C := (.seq (.kp [4, 5] (.ops [o 96 (.mv (.t 6)), o 4 (.mv (.t 96)), o 5 (.mv (.k (.i .i64 0)))])) C.ret)
def impl_ApplyOp.c1 : C := (.kp [6] (.ops [o 91 (.mv (.t 6)), o 92 (.mv (.t 7)), o 93 (.mv (.t 7)), o 94 (.bin .add 0 (.t 93) (.k (.i .i64 1))), o 95 (.call 124 [true, false, false] [.t 91, .t 92, .t 94]), o 6 (.mv (.t 95))]))
def impl_ApplyOp.d2 : C := (.seq (.seq (.kp [0, 6, 7, 11, 80] (.ops [o 76 (.mv (.t 11)), o 77 (.mv (.t 0)), o 78 (.mv (.t 7)), o 79 (.call 123 [false, false] [.t 77, .t 78]), o 80 (.bin .lss 0 (.t 76) (.t 79))])) (.cond (.t 80) C.skip (.exit 3))) (.seq (.blk 4 (.kp [0, 6, 7, 11] (.ops [o 83 (.mv (.t 6)), o 84 (.mv (.t 11)), o 85 (.iaddr 2 (.t 83) (.t 84)), o 86 (.faddr 1 (.t 85)), o 87 (.load none (.t 86)), o 88 (.bin .sub 0 (.t 87) (.k (.i .i64 1))), o 89 (.iaddr 2 (.t 83) (.t 84)), o 90 (.faddr 1 (.t 89)), oz none none [] (.store 1 (.t 90) (.t 88))]))) (.kp [0, 6, 7, 11] (.ops [o 81 (.mv (.t 11)), o 82 (.bin .add 0 (.t 81) (.k (.i .i64 1))), o 11 (.mv (.t 82))]))))
def impl_ApplyOp.c2 : C := .loop 2 [0, 6, 7, 11] impl_ApplyOp.d2
def impl_ApplyOp.c3 : C := (.kp [6] (.draw (sq 14) [o 51 (.mv (.t 6)), o 52 (.mv (.t 9)), o 53 (.faddr 2 (.t 3)), o 54 (.load none (.t 53)), o 55 (.mv (.t 0)), o 56 (.mv (.t 7)), o 57 (.iaddr 2 (.t 55) (.t 56)), o 58 (.faddr 1 (.t 57)), o 59 (.load none (.t 58)), o 60 (.bin .add 0 (.t 59) (.k (.i .i64 1))), o 61 (.build [.i .i64 0, .i .i64 0] [(0, 1, .t 54), (1, 1, .t 60)]), o 62 (.lit 2 1 [.i .i64 0, .i .i64 0] [(0, .t 61)]), o 63 (.call 125 [true, false, true] [.t 51, .t 52, .t 62]), o 6 (.mv (.t 63))]))
def impl_ApplyOp.d4 : C := (.seq (.seq (.kp [0, 3, 6, 7, 9, 10, 12, 40] (.ops [o 38 (.mv (.t 12)), o 39 (.mv (.t 10)), o 40 (.bin .lss 0 (.t 38) (.t 39))])) (.cond (.t 40) C.skip (.exit 1))) (.seq (.blk 2 (.kp [0, 3, 6, 7, 9, 10, 12] (.ops [o 43 (.mv (.t 6)), o 44 (.mv (.t 12)), o 45 (.iaddr 2 (.t 43) (.t 44)), o 46 (.faddr 1 (.t 45)), o 47 (.load none (.t 46)), o 48 (.bin .add 0 (.t 47) (.k (.i .i64 1))), o 49 (.iaddr 2 (.t 43) (.t 44)), o 50 (.faddr 1 (.t 49)), oz none none [] (.store 1 (.t 50) (.t 48))]))) (.kp [0, 3, 6, 7, 9, 10, 12] (.ops [o 41 (.mv (.t 12)), o 42 (.bin .add 0 (.t 41) (.k (.i .i64 1))), o 12 (.mv (.t 42))]))))
def impl_ApplyOp.c4 : C := .loop 2 [0, 3, 6, 7, 9, 10, 12] impl_ApplyOp.d4
def impl_ApplyOp.B : C := (.seq (.kp [0, 3] (.ops [o 3 (.boxK (.t 1)), o 4 (.mv (.k (.nl 2))), o 5 (.mv (.k (.i .i64 0)))])) (.seq (.seq (.kp [0, 3, 15] (.ops [o 13 (.mv (.t 0)), o 14 (.call 99 [false] [.t 13]), o 15 (.un .not (.t 14))])) (.cond (.t 15) (.seq (.kp [4, 5] (.ops [o 16 (.lit 2 0 [.i .i64 0, .i .i64 0] []), o 4 (.mv (.t 16)), o 5 (.mv (.k (.i .i64 2)))])) C.ret) C.skip)) (.seq (.kp [0, 3, 6, 7] (.draw (tk [0, 2, 3] (.alt (tk [1, 4, 5, 6, 7] .done) (tk [4, 1, 5, 6, 7] .done))) [o 17 (.mv (.t 0)), o 18 (.call 90 [false] [.t 17]), o 19 (.mv (.t 0)), o 20 (.faddr 1 (.t 3)), o 21 (.load none (.t 20)), o 22 (.call 121 [false, false] [.t 19, .t 21]), o 6 (.mv (.t 18)), o 7 (.mv (.t 22))])) (.seq (.kp [0, 3, 6, 7, 8, 9, 10] (.ops [o 24 (.mv (.t 0)), o 25 (.load (some 5) (.t 3)), o 26 (.mv (.t 7)), o 27 (.call 122 [false, false, false] [.t 24, .t 25, .t 26]), o 23 (.mv (.t 27)), o 28 (.ext 0 (.t 23)), o 29 (.ext 1 (.t 23)), o 30 (.ext 2 (.t 23)), o 8 (.mv (.t 28)), o 9 (.mv (.t 29)), o 10 (.mv (.t 30))])) (.seq (.seq (.kp [0, 3, 6, 7, 8, 9, 10, 32] (.ops [o 31 (.mv (.t 8)), o 32 (.bin .neq 0 (.t 31) (.k (.i .i64 0)))])) (.cond (.t 32) (.seq (.kp [4, 5] (.ops [o 33 (.mv (.t 6)), o 34 (.mv (.t 8)), o 4 (.mv (.t 33)), o 5 (.mv (.t 34))])) C.ret) C.skip)) (.seq (.seq (.kp [0, 3, 6, 7, 9, 10, 36] (.ops [o 35 (.faddr 0 (.t 3)), o 36 (.load none (.t 35))])) (.blk 0 (.seq (.kp [0, 3, 6, 7, 9, 10, 36, 64] (.ops [o 65 (.bin .eql 0 (.t 36) (.k (.i .i64 1))), o 64 (.mv (.t 65))])) (.cond (.t 64) (.kp [6] (.ops [o 66 (.mv (.t 6)), o 67 (.mv (.t 7)), o 68 (.faddr 2 (.t 3)), o 69 (.load none (.t 68)), o 70 (.iaddr 2 (.t 66) (.t 67)), o 71 (.faddr 0 (.t 70)), oz none none [] (.store 1 (.t 71) (.t 69))])) (.seq (.kp [0, 3, 6, 7, 9, 10, 72] (.ops [o 73 (.bin .eql 0 (.t 36) (.k (.i .i64 2))), o 72 (.mv (.t 73))])) (.cond (.t 72) (.seq (.seq (.kp [0, 6, 7, 11] (.ops [o 74 (.mv (.t 7)), o 75 (.bin .add 0 (.t 74) (.k (.i .i64 1))), o 11 (.mv (.t 75))])) (.blk 3 impl_ApplyOp.c2)) impl_ApplyOp.c1) (.seq (.seq (.kp [0, 3, 6, 7, 9, 10, 12] (.ops [o 37 (.mv (.t 9)), o 12 (.mv (.t 37))])) (.blk 1 impl_ApplyOp.c4)) impl_ApplyOp.c3))))))) impl_ApplyOp.c0))))))
def impl_ApplyOp.F : V.Fn := ⟨2, impl_ApplyOp.B, [.t 4, .t 5]⟩
def impl_ApplyAll.c0 : C := (.seq (.kp [4, 5, 6] (.ops [o 38 (.mv (.t 7)), o 39 (.mv (.t 1)), o 40 (.len false (.t 39)), o 4 (.mv (.t 38)), o 5 (.mv (.t 40)), o 6 (.mv (.k (.i .i64 0)))])) C.ret)
def impl_ApplyAll.d1 : C := (.seq (.kp [1, 7, 18, 19, 20, 21] (.ops [o 21 (.bin .lss 0 (.t 20) (.t 19))])) (.seq (.cond (.t 21) C.skip (.exit 0)) (.seq (.blk 1 (.seq (.kp [1, 7, 8, 9, 18, 19, 20] (.ops [o 22 (.mv (.t 20)), o 23 (.iaddr 5 (.t 18) (.t 20)), o 24 (.load (some 5) (.t 23)), o 9 (.alloc [.i .i64 0, .deep false false 1 [], .i .i64 0, .i .i64 0, .i .i64 0]), o 8 (.mv (.t 22)), oz none none [24] (.store 5 (.t 9) (.t 24))])) (.seq (.kp [1, 7, 8, 10, 11, 18, 19, 20] (.ops [o 26 (.mv (.t 7)), o 27 (.load (some 5) (.t 9)), o 28 (.call 100 [false, false] [.t 26, .t 27]), o 25 (.mv (.t 28)), o 29 (.ext 0 (.t 25)), o 30 (.ext 1 (.t 25)), o 10 (.mv (.t 29)), o 11 (.mv (.t 30))])) (.seq (.seq (.kp [1, 7, 8, 10, 11, 18, 19, 20, 32] (.ops [o 31 (.mv (.t 11)), o 32 (.bin .neq 0 (.t 31) (.k (.i .i64 0)))])) (.cond (.t 32) (.seq (.kp [4, 5, 6] (.ops [o 33 (.mv (.t 7)), o 34 (.mv (.t 8)), o 35 (.mv (.t 11)), o 4 (.mv (.t 33)), o 5 (.mv (.t 34)), o 6 (.mv (.t 35))])) C.ret) C.skip)) (.kp [1, 7, 18, 19, 20] (.ops [o 36 (.mv (.t 10)), o 7 (.mv (.t 36))])))))) (.kp [1, 7, 18, 19, 20] (.ops [o 37 (.bin .add 0 (.t 20) (.k (.i .i64 1))), o 20 (.mv (.t 37))])))))
def impl_ApplyAll.c1 : C := .loop 2 [1, 7, 18, 19, 20] impl_ApplyAll.d1
def impl_ApplyAll.B : C := (.seq (.kp [0, 1] (.ops [o 4 (.mv (.k (.nl 2))), o 5 (.mv (.k (.i .i64 0))), o 6 (.mv (.k (.i .i64 0)))])) (.seq (.seq (.kp [0, 1, 14] (.ops [o 12 (.mv (.t 0)), o 13 (.call 99 [false] [.t 12]), o 14 (.un .not (.t 13))])) (.cond (.t 14) (.seq (.kp [4, 5, 6] (.ops [o 15 (.lit 2 0 [.i .i64 0, .i .i64 0] []), o 4 (.mv (.t 15)), o 5 (.mv (.k (.i .i64 0))), o 6 (.mv (.k (.i .i64 2)))])) C.ret) C.skip)) (.seq (.kp [1, 7] (.ops [o 16 (.mv (.t 0)), o 17 (.call 90 [false] [.t 16]), o 7 (.mv (.t 17))])) (.seq (.seq (.kp [1, 7, 18, 19, 20] (.ops [o 18 (.mv (.t 1)), o 19 (.len false (.t 18)), o 20 (.mv (.k (.i .i64 0)))])) (.blk 0 impl_ApplyAll.c1)) impl_ApplyAll.c0))))
def impl_ApplyAll.F : V.Fn := ⟨2, impl_ApplyAll.B, [.t 4, .t 5, .t 6]⟩
def impl_OpOk_lit1.B : C := (.seq (.kp [0] (.ops [o 2 (.mv (.k (.b false)))])) (.seq (.kp [2] (.ops [o 3 (.mv (.t 0)), o 4 (.call 37 [false, false, false] [.t 3, .k (.i .i64 0), .k (.i .i64 24)]), o 5 (.un .not (.t 4)), o 2 (.mv (.t 5))])) C.ret))
def impl_OpOk_lit1.F : V.Fn := ⟨0, impl_OpOk_lit1.B, [.t 2]⟩
def slices_IndexFunc_int_int.c0 : C := (.seq (.kp [4] (.ops [o 4 (.mv (.k (.i .i64 (-1))))])) C.ret)
def slices_IndexFunc_int_int.d1 : C := (.seq (.kp [0, 1, 7, 8, 9] (.ops [o 9 (.bin .lss 0 (.t 8) (.t 7))])) (.seq (.cond (.t 9) C.skip (.exit 0)) (.seq (.blk 1 (.seq (.kp [0, 1, 5, 7, 8] (.ops [o 10 (.mv (.t 8)), o 5 (.mv (.t 10))])) (.seq (.kp [0, 1, 5, 7, 8, 16] (.ops [o 11 (.mv (.t 1)), o 12 (.mv (.t 0)), o 13 (.mv (.t 5)), o 14 (.iaddr 1 (.t 12) (.t 13)), o 15 (.load none (.t 14)), o 16 (.callv (.t 11) [] [.t 15])])) (.cond (.t 16) (.seq (.kp [4] (.ops [o 17 (.mv (.t 5)), o 4 (.mv (.t 17))])) C.ret) C.skip)))) (.kp [0, 1, 7, 8] (.ops [o 18 (.bin .add 0 (.t 8) (.k (.i .i64 1))), o 8 (.mv (.t 18))])))))
def slices_IndexFunc_int_int.c1 : C := .loop 5 [0, 1, 7, 8] slices_IndexFunc_int_int.d1
def slices_IndexFunc_int_int.B : C := (.seq (.kp [0, 1] (.ops [o 4 (.mv (.k (.i .i64 0)))])) (.seq (.seq (.kp [0, 1, 7, 8] (.ops [o 6 (.mv (.t 0)), o 7 (.len false (.t 6)), o 8 (.mv (.k (.i .i64 0)))])) (.blk 0 slices_IndexFunc_int_int.c1)) slices_IndexFunc_int_int.c0))
def slices_IndexFunc_int_int.F : V.Fn := ⟨5, slices_IndexFunc_int_int.B, [.t 4]⟩
def slices_ContainsFunc_int_int.B : C := (.seq (.kp [0, 1] (.ops [o 4 (.mv (.k (.b false)))])) (.seq (.kp [4] (.ops [o 5 (.mv (.t 0)), o 6 (.mv (.t 1)), o 7 (.call 139 [false, false] [.t 5, .t 6]), o 8 (.bin .geq 0 (.t 7) (.k (.i .i64 0))), o 4 (.mv (.t 8))])) C.ret))
def slices_ContainsFunc_int_int.F : V.Fn := ⟨5, slices_ContainsFunc_int_int.B, [.t 4]⟩
def impl_OpOk.B : C := (.seq (.kp [1] (.ops [o 1 (.boxK (.t 0)), o 2 (.mv (.k (.b false)))])) (.seq (.seq (.kp [1, 11] (.ops [o 3 (.faddr 1 (.t 1)), o 4 (.load none (.t 3)), o 5 (.len false (.t 4)), o 6 (.bin .gtr 0 (.t 5) (.k (.i .i64 12))), o 7 (.mv (.t 6)), og 8 7 false (.faddr 1 (.t 1)), og 9 7 false (.load none (.t 8)), og 10 7 false (.call 136 [false, false] [.t 9, .k (.fn 137 [])]), o 11 (.pick (.t 7) (.k (.b true)) (.t 10))])) (.cond (.t 11) (.seq (.kp [2] (.ops [o 2 (.mv (.k (.b false)))])) C.ret) C.skip)) (.seq (.seq (.kp [1, 13] (.ops [o 12 (.faddr 0 (.t 1)), o 13 (.load none (.t 12))])) (.blk 0 (.seq (.kp [1, 13, 14] (.ops [o 15 (.bin .eql 0 (.t 13) (.k (.i .i64 1))), o 14 (.mv (.t 15))])) (.cond (.t 14) (.seq (.kp [2] (.ops [o 16 (.faddr 2 (.t 1)), o 17 (.load none (.t 16)), o 18 (.call 107 [false] [.t 17]), o 19 (.mv (.t 18)), og 20 19 true (.faddr 3 (.t 1)), og 21 19 true (.load none (.t 20)), og 22 19 true (.bin .eql 0 (.t 21) (.k (.i .i64 0))), o 23 (.pick (.t 19) (.t 22) (.k (.b false))), o 24 (.mv (.t 23)), og 25 24 true (.faddr 4 (.t 1)), og 26 24 true (.load none (.t 25)), og 27 24 true (.bin .eql 0 (.t 26) (.k (.i .i64 0))), o 28 (.pick (.t 24) (.t 27) (.k (.b false))), o 2 (.mv (.t 28))])) C.ret) (.seq (.kp [1, 13, 29] (.ops [o 30 (.bin .eql 0 (.t 13) (.k (.i .i64 2))), o 29 (.mv (.t 30))])) (.cond (.t 29) (.seq (.kp [2] (.ops [o 31 (.faddr 2 (.t 1)), o 32 (.load none (.t 31)), o 33 (.bin .eql 0 (.t 32) (.k (.i .i64 0))), o 34 (.mv (.t 33)), og 35 34 true (.faddr 3 (.t 1)), og 36 34 true (.load none (.t 35)), og 37 34 true (.bin .eql 0 (.t 36) (.k (.i .i64 0))), o 38 (.pick (.t 34) (.t 37) (.k (.b false))), o 39 (.mv (.t 38)), og 40 39 true (.faddr 4 (.t 1)), og 41 39 true (.load none (.t 40)), og 42 39 true (.bin .eql 0 (.t 41) (.k (.i .i64 0))), o 43 (.pick (.t 39) (.t 42) (.k (.b false))), o 2 (.mv (.t 43))])) C.ret) (.seq (.kp [1, 44] (.ops [o 45 (.bin .eql 0 (.t 13) (.k (.i .i64 3))), o 44 (.mv (.t 45))])) (.cond (.t 44) (.seq (.kp [2] (.ops [o 46 (.faddr 2 (.t 1)), o 47 (.load none (.t 46)), o 48 (.call 107 [false] [.t 47]), o 49 (.mv (.t 48)), og 50 49 true (.faddr 3 (.t 1)), og 51 49 true (.load none (.t 50)), og 52 49 true (.call 37 [false, false, false] [.t 51, .k (.i .i64 0), .k (.i .i64 24)]), o 53 (.pick (.t 49) (.t 52) (.k (.b false))), o 54 (.mv (.t 53)), og 55 54 true (.faddr 4 (.t 1)), og 56 54 true (.load none (.t 55)), og 57 54 true (.call 37 [false, false, false] [.t 56, .k (.i .i64 0), .k (.i .i64 24)]), o 58 (.pick (.t 54) (.t 57) (.k (.b false))), o 2 (.mv (.t 58))])) C.ret) C.skip)))))))) (.seq (.kp [2] (.ops [o 2 (.mv (.k (.b false)))])) C.ret))))
def impl_OpOk.F : V.Fn := ⟨1, impl_OpOk.B, [.t 2]⟩
def impl_ScriptOk_lit1.B : C := (.seq (.kp [1] (.ops [o 1 (.boxK (.t 0)), o 2 (.mv (.k (.b false)))])) (.seq (.kp [2] (.ops [o 3 (.load (some 5) (.t 1)), o 4 (.call 130 [false] [.t 3]), o 5 (.un .not (.t 4)), o 2 (.mv (.t 5))])) C.ret))
def impl_ScriptOk_lit1.F : V.Fn := ⟨1, impl_ScriptOk_lit1.B, [.t 2]⟩
def slices_IndexFunc_impl_Op_impl_Op.c0 : C := (.seq (.kp [4] (.ops [o 4 (.mv (.k (.i .i64 (-1))))])) C.ret)
def slices_IndexFunc_impl_Op_impl_Op.d1 : C := (.seq (.kp [0, 1, 7, 8, 9] (.ops [o 9 (.bin .lss 0 (.t 8) (.t 7))])) (.seq (.cond (.t 9) C.skip (.exit 0)) (.seq (.blk 1 (.seq (.kp [0, 1, 5, 7, 8] (.ops [o 10 (.mv (.t 8)), o 5 (.mv (.t 10))])) (.seq (.kp [0, 1, 5, 7, 8, 16] (.ops [o 11 (.mv (.t 1)), o 12 (.mv (.t 0)), o 13 (.mv (.t 5)), o 14 (.iaddr 5 (.t 12) (.t 13)), o 15 (.load (some 5) (.t 14)), o 16 (.callv (.t 11) [] [.t 15])])) (.cond (.t 16) (.seq (.kp [4] (.ops [o 17 (.mv (.t 5)), o 4 (.mv (.t 17))])) C.ret) C.skip)))) (.kp [0, 1, 7, 8] (.ops [o 18 (.bin .add 0 (.t 8) (.k (.i .i64 1))), o 8 (.mv (.t 18))])))))
def slices_IndexFunc_impl_Op_impl_Op.c1 : C := .loop 5 [0, 1, 7, 8] slices_IndexFunc_impl_Op_impl_Op.d1
def slices_IndexFunc_impl_Op_impl_Op.B : C := (.seq (.kp [0, 1] (.ops [o 4 (.mv (.k (.i .i64 0)))])) (.seq (.seq (.kp [0, 1, 7, 8] (.ops [o 6 (.mv (.t 0)), o 7 (.len false (.t 6)), o 8 (.mv (.k (.i .i64 0)))])) (.blk 0 slices_IndexFunc_impl_Op_impl_Op.c1)) slices_IndexFunc_impl_Op_impl_Op.c0))
def slices_IndexFunc_impl_Op_impl_Op.F : V.Fn := ⟨5, slices_IndexFunc_impl_Op_impl_Op.B, [.t 4]⟩
def slices_ContainsFunc_impl_Op_impl_Op.B : C := (.seq (.kp [0, 1] (.ops [o 4 (.mv (.k (.b false)))])) (.seq (.kp [4] (.ops [o 5 (.mv (.t 0)), o 6 (.mv (.t 1)), o 7 (.call 135 [false, false] [.t 5, .t 6]), o 8 (.bin .geq 0 (.t 7) (.k (.i .i64 0))), o 4 (.mv (.t 8))])) C.ret))
def slices_ContainsFunc_impl_Op_impl_Op.F : V.Fn := ⟨5, slices_ContainsFunc_impl_Op_impl_Op.B, [.t 4]⟩
def impl_ScriptOk.B : C := (.seq (.kp [0] (.ops [o 2 (.mv (.k (.b false)))])) (.seq (.kp [2] (.ops [o 3 (.mv (.t 0)), o 4 (.len false (.t 3)), o 5 (.bin .leq 0 (.t 4) (.k (.i .i64 60))), o 6 (.mv (.t 5)), og 7 6 true (.mv (.t 0)), og 8 6 true (.call 128 [false, false] [.t 7, .k (.fn 129 [])]), og 9 6 true (.un .not (.t 8)), o 10 (.pick (.t 6) (.t 9) (.k (.b false))), o 2 (.mv (.t 10))])) C.ret))
def impl_ScriptOk.F : V.Fn := ⟨1, impl_ScriptOk.B, [.t 2]⟩
def impl_Hist_trees.c0 : C := (.seq (.kp [2, 3] (.ops [o 54 (.mv (.t 4)), o 2 (.mv (.t 54)), o 3 (.mv (.k (.b true)))])) C.ret)
def impl_Hist_trees.d1 : C := (.seq (.kp [4, 25, 26, 27, 28] (.ops [o 28 (.bin .lss 0 (.t 27) (.t 26))])) (.seq (.cond (.t 28) C.skip (.exit 0)) (.seq (.blk 1 (.seq (.kp [4, 5, 6, 25, 26, 27] (.ops [o 29 (.mv (.t 27)), o 30 (.iaddr 1 (.t 25) (.t 27)), o 31 (.load none (.t 30)), o 5 (.mv (.t 29)), o 6 (.mv (.t 31))])) (.seq (.kp [4, 6, 7, 9, 25, 26, 27] (.ops [o 33 (.mv (.t 4)), o 34 (.mv (.t 5)), o 35 (.iaddr 1 (.t 33) (.t 34)), o 36 (.load none (.t 35)), o 37 (.mv (.t 6)), o 38 (.call 79 [false, false] [.t 36, .t 37]), o 32 (.mv (.t 38)), o 39 (.ext 0 (.t 32)), o 40 (.ext 1 (.t 32)), o 41 (.ext 2 (.t 32)), o 7 (.mv (.t 39)), o 8 (.mv (.t 40)), o 9 (.mv (.t 41))])) (.seq (.seq (.kp [4, 7, 25, 26, 27, 48] (.ops [o 42 (.mv (.t 9)), o 43 (.bin .neq 0 (.t 42) (.k (.i .i64 0))), o 44 (.mv (.t 43)), og 45 44 false (.mv (.t 6)), og 46 44 false (.call 114 [false] [.t 45]), og 47 44 false (.un .not (.t 46)), o 48 (.pick (.t 44) (.k (.b true)) (.t 47))])) (.cond (.t 48) (.seq (.kp [2, 3] (.ops [o 2 (.mv (.k (.nl 1))), o 3 (.mv (.k (.b false)))])) C.ret) C.skip)) (.kp [4, 25, 26, 27] (.ops [o 49 (.mv (.t 4)), o 50 (.mv (.t 7)), o 51 (.lit 1 1 [.deep false false 2 []] [(0, .t 50)]), o 52 (.app 1 24 (.t 49) (.t 51)), o 4 (.mv (.t 52))])))))) (.kp [4, 25, 26, 27] (.ops [o 53 (.bin .add 0 (.t 27) (.k (.i .i64 1))), o 27 (.mv (.t 53))])))))
def impl_Hist_trees.c1 : C := .loop 2 [4, 25, 26, 27] impl_Hist_trees.d1
def impl_Hist_trees.B : C := (.seq (.kp [1] (.ops [o 1 (.boxK (.t 0)), o 2 (.mv (.k (.nl 1))), o 3 (.mv (.k (.b false)))])) (.seq (.seq (.kp [1, 19] (.ops [o 10 (.faddr 0 (.t 1)), o 11 (.load none (.t 10)), o 12 (.call 99 [false] [.t 11]), o 13 (.un .not (.t 12)), o 14 (.mv (.t 13)), og 15 14 false (.faddr 1 (.t 1)), og 16 14 false (.load none (.t 15)), og 17 14 false (.len false (.t 16)), og 18 14 false (.bin .gtr 0 (.t 17) (.k (.i .i64 6))), o 19 (.pick (.t 14) (.k (.b true)) (.t 18))])) (.cond (.t 19) (.seq (.kp [2, 3] (.ops [o 2 (.mv (.k (.nl 1))), o 3 (.mv (.k (.b false)))])) C.ret) C.skip)) (.seq (.kp [1, 4] (.ops [o 20 (.faddr 0 (.t 1)), o 21 (.load none (.t 20)), o 22 (.call 90 [false] [.t 21]), o 23 (.lit 1 1 [.deep false false 2 []] [(0, .t 22)]), o 4 (.mv (.t 23))])) (.seq (.seq (.kp [4, 25, 26, 27] (.ops [o 24 (.faddr 1 (.t 1)), o 25 (.load none (.t 24)), o 26 (.len false (.t 25)), o 27 (.mv (.k (.i .i64 0)))])) (.blk 0 impl_Hist_trees.c1)) impl_Hist_trees.c0))))
def impl_Hist_trees.F : V.Fn := ⟨2, impl_Hist_trees.B, [.t 2, .t 3]⟩
def impl_HistOk.B : C := (.seq (.kp [1] (.ops [o 1 (.boxK (.t 0)), o 2 (.mv (.k (.b false)))])) (.seq (.kp [4] (.ops [o 6 (.load (some 2) (.t 1)), o 7 (.call 93 [false] [.t 6]), o 5 (.mv (.t 7)), o 8 (.ext 0 (.t 5)), o 9 (.ext 1 (.t 5)), o 3 (.mv (.t 8)), o 4 (.mv (.t 9))])) (.seq (.kp [2] (.ops [o 10 (.mv (.t 4)), o 2 (.mv (.t 10))])) C.ret)))
def impl_HistOk.F : V.Fn := ⟨2, impl_HistOk.B, [.t 2]⟩
def impl_HistAdd.B : C := (.seq (.kp [1, 2, 4] (.ops [o 2 (.boxK (.t 0)), o 4 (.alloc [.deep false false 2 [], .deep false false 1 []]), o 5 (.mv (.k (.b false)))])) (.seq (.kp [1, 2, 4, 6] (.ops [o 7 (.load (some 2) (.t 2)), o 8 (.call 54 [false] [.t 7]), o 6 (.alloc [.deep false false 2 [], .deep false false 1 []]), oz none none [] (.store 2 (.t 6) (.t 8))])) (.seq (.kp [2, 4, 6] (.draw (tk [0, 2] (.alt (tk [1, 3, 4, 5, 6, 7] .done) (tk [3] (.alt (tk [1, 4, 5, 6, 7] .done) (tk [4, 1, 5, 6, 7] .done))))) [o 9 (.faddr 1 (.t 6)), o 10 (.load none (.t 9)), o 11 (.mv (.t 1)), o 12 (.call 55 [false, false] [.t 11, .k (.nl 5)]), o 13 (.lit 1 1 [.deep false false 5 []] [(0, .t 12)]), o 14 (.app 1 24 (.t 10) (.t 13)), o 15 (.faddr 1 (.t 6)), oz none none [] (.store 1 (.t 15) (.t 14))])) (.seq (.seq (.kp [2, 4, 6, 18] (.ops [o 16 (.load (some 2) (.t 6)), o 17 (.call 56 [false] [.t 16]), o 18 (.un .not (.t 17))])) (.cond (.t 18) (.seq (.kp [4, 5] (.ops [o 19 (.load (some 2) (.t 2)), o 20 (.call 54 [false] [.t 19]), oz none none [] (.store 2 (.t 4) (.t 20)), o 5 (.mv (.k (.b false)))])) C.ret) C.skip)) (.seq (.kp [4, 5] (.ops [o 21 (.load (some 2) (.t 6)), oz none none [21] (.store 2 (.t 4) (.t 21)), o 5 (.mv (.k (.b true)))])) C.ret)))))
def impl_HistAdd.F : V.Fn := ⟨3, impl_HistAdd.B, [.cell 4 (some 2), .t 5]⟩
def laws_eqNode.B : C := (.seq (.kp [2, 3] (.ops [o 2 (.boxK (.t 0)), o 3 (.boxK (.t 1)), o 4 (.mv (.k (.b false)))])) (.seq (.seq (.kp [2, 3, 9] (.ops [o 5 (.faddr 0 (.t 2)), o 6 (.load none (.t 5)), o 7 (.faddr 0 (.t 3)), o 8 (.load none (.t 7)), o 9 (.bin .neq 0 (.t 6) (.t 8))])) (.cond (.t 9) (.seq (.kp [4] (.ops [o 4 (.mv (.k (.b false)))])) C.ret) C.skip)) (.seq (.seq (.kp [14] (.ops [o 10 (.faddr 1 (.t 2)), o 11 (.load none (.t 10)), o 12 (.faddr 1 (.t 3)), o 13 (.load none (.t 12)), o 14 (.bin .neq 0 (.t 11) (.t 13))])) (.cond (.t 14) (.seq (.kp [4] (.ops [o 4 (.mv (.k (.b false)))])) C.ret) C.skip)) (.seq (.kp [4] (.ops [o 4 (.mv (.k (.b true)))])) C.ret))))
def laws_eqNode.F : V.Fn := ⟨0, laws_eqNode.B, [.t 4]⟩
def laws_eqNodeS.c0 : C := (.seq (.kp [4] (.ops [o 4 (.mv (.k (.b true)))])) C.ret)
def laws_eqNodeS.d1 : C := (.seq (.seq (.kp [0, 1, 5, 14] (.ops [o 11 (.mv (.t 5)), o 12 (.mv (.t 0)), o 13 (.len false (.t 12)), o 14 (.bin .lss 0 (.t 11) (.t 13))])) (.cond (.t 14) C.skip (.exit 0))) (.seq (.blk 1 (.seq (.kp [0, 1, 5, 26] (.draw (sq 10) [o 17 (.mv (.t 0)), o 18 (.mv (.t 5)), o 19 (.iaddr 2 (.t 17) (.t 18)), o 20 (.load (some 2) (.t 19)), o 21 (.mv (.t 1)), o 22 (.mv (.t 5)), o 23 (.iaddr 2 (.t 21) (.t 22)), o 24 (.load (some 2) (.t 23)), o 25 (.call 94 [false, false] [.t 20, .t 24]), o 26 (.un .not (.t 25))])) (.cond (.t 26) (.seq (.kp [4] (.ops [o 4 (.mv (.k (.b false)))])) C.ret) C.skip))) (.kp [0, 1, 5] (.ops [o 15 (.mv (.t 5)), o 16 (.bin .add 0 (.t 15) (.k (.i .i64 1))), o 5 (.mv (.t 16))]))))
def laws_eqNodeS.c1 : C := .loop 2 [0, 1, 5] laws_eqNodeS.d1
def laws_eqNodeS.B : C := (.seq (.kp [0, 1] (.ops [o 4 (.mv (.k (.b false)))])) (.seq (.seq (.kp [0, 1, 10] (.ops [o 6 (.mv (.t 0)), o 7 (.len false (.t 6)), o 8 (.mv (.t 1)), o 9 (.len false (.t 8)), o 10 (.bin .neq 0 (.t 7) (.t 9))])) (.cond (.t 10) (.seq (.kp [4] (.ops [o 4 (.mv (.k (.b false)))])) C.ret) C.skip)) (.seq (.seq (.kp [0, 1, 5] (.ops [o 5 (.mv (.k (.i .i64 0)))])) (.blk 0 laws_eqNodeS.c1)) laws_eqNodeS.c0)))
def laws_eqNodeS.F : V.Fn := ⟨2, laws_eqNodeS.B, [.t 4]⟩
def laws_eqIntS.c0 : C := (.seq (.kp [4] (.ops [o 4 (.mv (.k (.b true)))])) C.ret)
def laws_eqIntS.d1 : C := (.seq (.seq (.kp [0, 1, 5, 14] (.ops [o 11 (.mv (.t 5)), o 12 (.mv (.t 0)), o 13 (.len false (.t 12)), o 14 (.bin .lss 0 (.t 11) (.t 13))])) (.cond (.t 14) C.skip (.exit 0))) (.seq (.blk 1 (.seq (.kp [0, 1, 5, 25] (.draw (sq 9) [o 17 (.mv (.t 0)), o 18 (.mv (.t 5)), o 19 (.iaddr 1 (.t 17) (.t 18)), o 20 (.load none (.t 19)), o 21 (.mv (.t 1)), o 22 (.mv (.t 5)), o 23 (.iaddr 1 (.t 21) (.t 22)), o 24 (.load none (.t 23)), o 25 (.bin .neq 0 (.t 20) (.t 24))])) (.cond (.t 25) (.seq (.kp [4] (.ops [o 4 (.mv (.k (.b false)))])) C.ret) C.skip))) (.kp [0, 1, 5] (.ops [o 15 (.mv (.t 5)), o 16 (.bin .add 0 (.t 15) (.k (.i .i64 1))), o 5 (.mv (.t 16))]))))
def laws_eqIntS.c1 : C := .loop 2 [0, 1, 5] laws_eqIntS.d1
def laws_eqIntS.B : C := (.seq (.kp [0, 1] (.ops [o 4 (.mv (.k (.b false)))])) (.seq (.seq (.kp [0, 1, 10] (.ops [o 6 (.mv (.t 0)), o 7 (.len false (.t 6)), o 8 (.mv (.t 1)), o 9 (.len false (.t 8)), o 10 (.bin .neq 0 (.t 7) (.t 9))])) (.cond (.t 10) (.seq (.kp [4] (.ops [o 4 (.mv (.k (.b false)))])) C.ret) C.skip)) (.seq (.seq (.kp [0, 1, 5] (.ops [o 5 (.mv (.k (.i .i64 0)))])) (.blk 0 laws_eqIntS.c1)) laws_eqIntS.c0)))
def laws_eqIntS.F : V.Fn := ⟨2, laws_eqIntS.B, [.t 4]⟩
def laws_eqOp.B : C := (.seq (.kp [2, 3] (.ops [o 2 (.boxK (.t 0)), o 3 (.boxK (.t 1)), o 4 (.mv (.k (.b false)))])) (.seq (.seq (.kp [2, 3, 9] (.ops [o 5 (.faddr 0 (.t 2)), o 6 (.load none (.t 5)), o 7 (.faddr 0 (.t 3)), o 8 (.load none (.t 7)), o 9 (.bin .neq 0 (.t 6) (.t 8))])) (.cond (.t 9) (.seq (.kp [4] (.ops [o 4 (.mv (.k (.b false)))])) C.ret) C.skip)) (.seq (.seq (.kp [2, 3, 15] (.ops [o 10 (.faddr 1 (.t 2)), o 11 (.load none (.t 10)), o 12 (.faddr 1 (.t 3)), o 13 (.load none (.t 12)), o 14 (.call 95 [false, false] [.t 11, .t 13]), o 15 (.un .not (.t 14))])) (.cond (.t 15) (.seq (.kp [4] (.ops [o 4 (.mv (.k (.b false)))])) C.ret) C.skip)) (.seq (.seq (.kp [2, 3, 20] (.ops [o 16 (.faddr 2 (.t 2)), o 17 (.load none (.t 16)), o 18 (.faddr 2 (.t 3)), o 19 (.load none (.t 18)), o 20 (.bin .neq 0 (.t 17) (.t 19))])) (.cond (.t 20) (.seq (.kp [4] (.ops [o 4 (.mv (.k (.b false)))])) C.ret) C.skip)) (.seq (.seq (.kp [2, 3, 25] (.ops [o 21 (.faddr 3 (.t 2)), o 22 (.load none (.t 21)), o 23 (.faddr 3 (.t 3)), o 24 (.load none (.t 23)), o 25 (.bin .neq 0 (.t 22) (.t 24))])) (.cond (.t 25) (.seq (.kp [4] (.ops [o 4 (.mv (.k (.b false)))])) C.ret) C.skip)) (.seq (.seq (.kp [30] (.ops [o 26 (.faddr 4 (.t 2)), o 27 (.load none (.t 26)), o 28 (.faddr 4 (.t 3)), o 29 (.load none (.t 28)), o 30 (.bin .neq 0 (.t 27) (.t 29))])) (.cond (.t 30) (.seq (.kp [4] (.ops [o 4 (.mv (.k (.b false)))])) C.ret) C.skip)) (.seq (.kp [4] (.ops [o 4 (.mv (.k (.b true)))])) C.ret)))))))
def laws_eqOp.F : V.Fn := ⟨2, laws_eqOp.B, [.t 4]⟩
def laws_eqOpS.c0 : C := (.seq (.kp [4] (.ops [o 4 (.mv (.k (.b true)))])) C.ret)
def laws_eqOpS.d1 : C := (.seq (.seq (.kp [0, 1, 5, 14] (.ops [o 11 (.mv (.t 5)), o 12 (.mv (.t 0)), o 13 (.len false (.t 12)), o 14 (.bin .lss 0 (.t 11) (.t 13))])) (.cond (.t 14) C.skip (.exit 0))) (.seq (.blk 1 (.seq (.kp [0, 1, 5, 26] (.draw (sq 10) [o 17 (.mv (.t 0)), o 18 (.mv (.t 5)), o 19 (.iaddr 5 (.t 17) (.t 18)), o 20 (.load (some 5) (.t 19)), o 21 (.mv (.t 1)), o 22 (.mv (.t 5)), o 23 (.iaddr 5 (.t 21) (.t 22)), o 24 (.load (some 5) (.t 23)), o 25 (.call 59 [false, false] [.t 20, .t 24]), o 26 (.un .not (.t 25))])) (.cond (.t 26) (.seq (.kp [4] (.ops [o 4 (.mv (.k (.b false)))])) C.ret) C.skip))) (.kp [0, 1, 5] (.ops [o 15 (.mv (.t 5)), o 16 (.bin .add 0 (.t 15) (.k (.i .i64 1))), o 5 (.mv (.t 16))]))))
def laws_eqOpS.c1 : C := .loop 2 [0, 1, 5] laws_eqOpS.d1
def laws_eqOpS.B : C := (.seq (.kp [0, 1] (.ops [o 4 (.mv (.k (.b false)))])) (.seq (.seq (.kp [0, 1, 10] (.ops [o 6 (.mv (.t 0)), o 7 (.len false (.t 6)), o 8 (.mv (.t 1)), o 9 (.len false (.t 8)), o 10 (.bin .neq 0 (.t 7) (.t 9))])) (.cond (.t 10) (.seq (.kp [4] (.ops [o 4 (.mv (.k (.b false)))])) C.ret) C.skip)) (.seq (.seq (.kp [0, 1, 5] (.ops [o 5 (.mv (.k (.i .i64 0)))])) (.blk 0 laws_eqOpS.c1)) laws_eqOpS.c0)))
def laws_eqOpS.F : V.Fn := ⟨2, laws_eqOpS.B, [.t 4]⟩
def laws_eqOpSS.c0 : C := (.seq (.kp [4] (.ops [o 4 (.mv (.k (.b true)))])) C.ret)
def laws_eqOpSS.d1 : C := (.seq (.seq (.kp [0, 1, 5, 14] (.ops [o 11 (.mv (.t 5)), o 12 (.mv (.t 0)), o 13 (.len false (.t 12)), o 14 (.bin .lss 0 (.t 11) (.t 13))])) (.cond (.t 14) C.skip (.exit 0))) (.seq (.blk 1 (.seq (.kp [0, 1, 5, 26] (.draw (sq 10) [o 17 (.mv (.t 0)), o 18 (.mv (.t 5)), o 19 (.iaddr 1 (.t 17) (.t 18)), o 20 (.load none (.t 19)), o 21 (.mv (.t 1)), o 22 (.mv (.t 5)), o 23 (.iaddr 1 (.t 21) (.t 22)), o 24 (.load none (.t 23)), o 25 (.call 26 [false, false] [.t 20, .t 24]), o 26 (.un .not (.t 25))])) (.cond (.t 26) (.seq (.kp [4] (.ops [o 4 (.mv (.k (.b false)))])) C.ret) C.skip))) (.kp [0, 1, 5] (.ops [o 15 (.mv (.t 5)), o 16 (.bin .add 0 (.t 15) (.k (.i .i64 1))), o 5 (.mv (.t 16))]))))
def laws_eqOpSS.c1 : C := .loop 2 [0, 1, 5] laws_eqOpSS.d1
def laws_eqOpSS.B : C := (.seq (.kp [0, 1] (.ops [o 4 (.mv (.k (.b false)))])) (.seq (.seq (.kp [0, 1, 10] (.ops [o 6 (.mv (.t 0)), o 7 (.len false (.t 6)), o 8 (.mv (.t 1)), o 9 (.len false (.t 8)), o 10 (.bin .neq 0 (.t 7) (.t 9))])) (.cond (.t 10) (.seq (.kp [4] (.ops [o 4 (.mv (.k (.b false)))])) C.ret) C.skip)) (.seq (.seq (.kp [0, 1, 5] (.ops [o 5 (.mv (.k (.i .i64 0)))])) (.blk 0 laws_eqOpSS.c1)) laws_eqOpSS.c0)))
def laws_eqOpSS.F : V.Fn := ⟨2, laws_eqOpSS.B, [.t 4]⟩
def laws_eqHist.B : C := (.seq (.kp [2, 3] (.ops [o 2 (.boxK (.t 0)), o 3 (.boxK (.t 1)), o 4 (.mv (.k (.b false)))])) (.seq (.seq (.kp [2, 3, 10] (.ops [o 5 (.faddr 0 (.t 2)), o 6 (.load none (.t 5)), o 7 (.faddr 0 (.t 3)), o 8 (.load none (.t 7)), o 9 (.call 57 [false, false] [.t 6, .t 8]), o 10 (.un .not (.t 9))])) (.cond (.t 10) (.seq (.kp [4] (.ops [o 4 (.mv (.k (.b false)))])) C.ret) C.skip)) (.seq (.seq (.kp [16] (.ops [o 11 (.faddr 1 (.t 2)), o 12 (.load none (.t 11)), o 13 (.faddr 1 (.t 3)), o 14 (.load none (.t 13)), o 15 (.call 58 [false, false] [.t 12, .t 14]), o 16 (.un .not (.t 15))])) (.cond (.t 16) (.seq (.kp [4] (.ops [o 4 (.mv (.k (.b false)))])) C.ret) C.skip)) (.seq (.kp [4] (.ops [o 4 (.mv (.k (.b true)))])) C.ret))))
def laws_eqHist.F : V.Fn := ⟨4, laws_eqHist.B, [.t 4]⟩
def laws_markNodeS.c0 : C := (.seq (.kp [4] (.ops [o 26 (.mv (.t 1)), o 4 (.mv (.t 26))])) C.ret)
def laws_markNodeS.d1 : C := (.seq (.seq (.kp [0, 1, 5, 9] (.ops [o 6 (.mv (.t 5)), o 7 (.mv (.t 0)), o 8 (.len false (.t 7)), o 9 (.bin .lss 0 (.t 6) (.t 8))])) (.cond (.t 9) C.skip (.exit 0))) (.seq (.blk 1 (.seq (.kp [0, 1, 5] (.ops [o 12 (.mv (.t 0)), o 13 (.mv (.t 5)), o 14 (.mv (.t 1)), o 15 (.iaddr 2 (.t 12) (.t 13)), o 16 (.faddr 0 (.t 15)), oz none none [] (.store 1 (.t 16) (.t 14))])) (.seq (.kp [0, 1, 5] (.ops [o 17 (.mv (.t 1)), o 18 (.bin .add 0 (.t 17) (.k (.i .i64 1))), o 1 (.mv (.t 18))])) (.seq (.kp [0, 1, 5] (.ops [o 19 (.mv (.t 0)), o 20 (.mv (.t 5)), o 21 (.mv (.t 1)), o 22 (.iaddr 2 (.t 19) (.t 20)), o 23 (.faddr 1 (.t 22)), oz none none [] (.store 1 (.t 23) (.t 21))])) (.kp [0, 1, 5] (.ops [o 24 (.mv (.t 1)), o 25 (.bin .add 0 (.t 24) (.k (.i .i64 1))), o 1 (.mv (.t 25))])))))) (.kp [0, 1, 5] (.ops [o 10 (.mv (.t 5)), o 11 (.bin .add 0 (.t 10) (.k (.i .i64 1))), o 5 (.mv (.t 11))]))))
def laws_markNodeS.c1 : C := .loop 1 [0, 1, 5] laws_markNodeS.d1
def laws_markNodeS.B : C := (.seq (.kp [0, 1] (.ops [o 4 (.mv (.k (.i .i64 0)))])) (.seq (.seq (.kp [0, 1, 5] (.ops [o 5 (.mv (.k (.i .i64 0)))])) (.blk 0 laws_markNodeS.c1)) laws_markNodeS.c0))
def laws_markNodeS.F : V.Fn := ⟨1, laws_markNodeS.B, [.t 4]⟩
def laws_markIntS.c0 : C := (.seq (.kp [4] (.ops [o 18 (.mv (.t 1)), o 4 (.mv (.t 18))])) C.ret)
def laws_markIntS.d1 : C := (.seq (.seq (.kp [0, 1, 5, 9] (.ops [o 6 (.mv (.t 5)), o 7 (.mv (.t 0)), o 8 (.len false (.t 7)), o 9 (.bin .lss 0 (.t 6) (.t 8))])) (.cond (.t 9) C.skip (.exit 0))) (.seq (.blk 1 (.seq (.kp [0, 1, 5] (.ops [o 12 (.mv (.t 0)), o 13 (.mv (.t 5)), o 14 (.mv (.t 1)), o 15 (.iaddr 1 (.t 12) (.t 13)), oz none none [] (.store 1 (.t 15) (.t 14))])) (.kp [0, 1, 5] (.ops [o 16 (.mv (.t 1)), o 17 (.bin .add 0 (.t 16) (.k (.i .i64 1))), o 1 (.mv (.t 17))])))) (.kp [0, 1, 5] (.ops [o 10 (.mv (.t 5)), o 11 (.bin .add 0 (.t 10) (.k (.i .i64 1))), o 5 (.mv (.t 11))]))))
def laws_markIntS.c1 : C := .loop 1 [0, 1, 5] laws_markIntS.d1
def laws_markIntS.B : C := (.seq (.kp [0, 1] (.ops [o 4 (.mv (.k (.i .i64 0)))])) (.seq (.seq (.kp [0, 1, 5] (.ops [o 5 (.mv (.k (.i .i64 0)))])) (.blk 0 laws_markIntS.c1)) laws_markIntS.c0))
def laws_markIntS.F : V.Fn := ⟨1, laws_markIntS.B, [.t 4]⟩
def laws_markOpS.c0 : C := (.seq (.kp [4] (.ops [o 47 (.mv (.t 1)), o 4 (.mv (.t 47))])) C.ret)
def laws_markOpS.d1 : C := (.seq (.seq (.kp [0, 1, 5, 9] (.ops [o 6 (.mv (.t 5)), o 7 (.mv (.t 0)), o 8 (.len false (.t 7)), o 9 (.bin .lss 0 (.t 6) (.t 8))])) (.cond (.t 9) C.skip (.exit 0))) (.seq (.blk 1 (.seq (.kp [0, 1, 5] (.ops [o 12 (.mv (.t 0)), o 13 (.mv (.t 5)), o 14 (.mv (.t 1)), o 15 (.iaddr 5 (.t 12) (.t 13)), o 16 (.faddr 0 (.t 15)), oz none none [] (.store 1 (.t 16) (.t 14))])) (.seq (.kp [0, 1, 5] (.ops [o 17 (.mv (.t 1)), o 18 (.bin .add 0 (.t 17) (.k (.i .i64 1))), o 1 (.mv (.t 18))])) (.seq (.kp [0, 1, 5] (.ops [o 19 (.mv (.t 0)), o 20 (.mv (.t 5)), o 21 (.iaddr 5 (.t 19) (.t 20)), o 22 (.faddr 1 (.t 21)), o 23 (.load none (.t 22)), o 24 (.mv (.t 1)), oz (some 25) none [23] (.call 62 [true, false] [.t 23, .t 24]), o 1 (.mv (.t 25))])) (.seq (.kp [0, 1, 5] (.ops [o 26 (.mv (.t 0)), o 27 (.mv (.t 5)), o 28 (.mv (.t 1)), o 29 (.iaddr 5 (.t 26) (.t 27)), o 30 (.faddr 2 (.t 29)), oz none none [] (.store 1 (.t 30) (.t 28))])) (.seq (.kp [0, 1, 5] (.ops [o 31 (.mv (.t 1)), o 32 (.bin .add 0 (.t 31) (.k (.i .i64 1))), o 1 (.mv (.t 32))])) (.seq (.kp [0, 1, 5] (.ops [o 33 (.mv (.t 0)), o 34 (.mv (.t 5)), o 35 (.mv (.t 1)), o 36 (.iaddr 5 (.t 33) (.t 34)), o 37 (.faddr 3 (.t 36)), oz none none [] (.store 1 (.t 37) (.t 35))])) (.seq (.kp [0, 1, 5] (.ops [o 38 (.mv (.t 1)), o 39 (.bin .add 0 (.t 38) (.k (.i .i64 1))), o 1 (.mv (.t 39))])) (.seq (.kp [0, 1, 5] (.ops [o 40 (.mv (.t 0)), o 41 (.mv (.t 5)), o 42 (.mv (.t 1)), o 43 (.iaddr 5 (.t 40) (.t 41)), o 44 (.faddr 4 (.t 43)), oz none none [] (.store 1 (.t 44) (.t 42))])) (.kp [0, 1, 5] (.ops [o 45 (.mv (.t 1)), o 46 (.bin .add 0 (.t 45) (.k (.i .i64 1))), o 1 (.mv (.t 46))]))))))))))) (.kp [0, 1, 5] (.ops [o 10 (.mv (.t 5)), o 11 (.bin .add 0 (.t 10) (.k (.i .i64 1))), o 5 (.mv (.t 11))]))))
def laws_markOpS.c1 : C := .loop 1 [0, 1, 5] laws_markOpS.d1
def laws_markOpS.B : C := (.seq (.kp [0, 1] (.ops [o 4 (.mv (.k (.i .i64 0)))])) (.seq (.seq (.kp [0, 1, 5] (.ops [o 5 (.mv (.k (.i .i64 0)))])) (.blk 0 laws_markOpS.c1)) laws_markOpS.c0))
def laws_markOpS.F : V.Fn := ⟨1, laws_markOpS.B, [.t 4]⟩
def laws_markOpSS.c0 : C := (.seq (.kp [4] (.ops [o 18 (.mv (.t 1)), o 4 (.mv (.t 18))])) C.ret)
def laws_markOpSS.d1 : C := (.seq (.seq (.kp [0, 1, 5, 9] (.ops [o 6 (.mv (.t 5)), o 7 (.mv (.t 0)), o 8 (.len false (.t 7)), o 9 (.bin .lss 0 (.t 6) (.t 8))])) (.cond (.t 9) C.skip (.exit 0))) (.seq (.blk 1 (.kp [0, 1, 5] (.ops [o 12 (.mv (.t 0)), o 13 (.mv (.t 5)), o 14 (.iaddr 1 (.t 12) (.t 13)), o 15 (.load none (.t 14)), o 16 (.mv (.t 1)), oz (some 17) none [15] (.call 28 [true, false] [.t 15, .t 16]), o 1 (.mv (.t 17))]))) (.kp [0, 1, 5] (.ops [o 10 (.mv (.t 5)), o 11 (.bin .add 0 (.t 10) (.k (.i .i64 1))), o 5 (.mv (.t 11))]))))
def laws_markOpSS.c1 : C := .loop 1 [0, 1, 5] laws_markOpSS.d1
def laws_markOpSS.B : C := (.seq (.kp [0, 1] (.ops [o 4 (.mv (.k (.i .i64 0)))])) (.seq (.seq (.kp [0, 1, 5] (.ops [o 5 (.mv (.k (.i .i64 0)))])) (.blk 0 laws_markOpSS.c1)) laws_markOpSS.c0))
def laws_markOpSS.F : V.Fn := ⟨1, laws_markOpSS.B, [.t 4]⟩
def laws_markHist.B : C := (.seq (.kp [1, 2] (.ops [o 2 (.boxK (.t 0)), o 4 (.mv (.k (.i .i64 0)))])) (.seq (.kp [1, 2] (.ops [o 5 (.faddr 0 (.t 2)), o 6 (.load none (.t 5)), o 7 (.mv (.t 1)), oz (some 8) none [6] (.call 60 [true, false] [.t 6, .t 7]), o 1 (.mv (.t 8))])) (.seq (.kp [1] (.ops [o 9 (.faddr 1 (.t 2)), o 10 (.load none (.t 9)), o 11 (.mv (.t 1)), oz (some 12) none [10] (.call 61 [true, false] [.t 10, .t 11]), o 1 (.mv (.t 12))])) (.seq (.kp [4] (.ops [o 13 (.mv (.t 1)), o 4 (.mv (.t 13))])) C.ret))))
def laws_markHist.F : V.Fn := ⟨2, laws_markHist.B, [.t 4]⟩
def laws_heldNodeS.c0 : C := (.seq (.kp [4] (.ops [o 30 (.mv (.t 1)), o 4 (.mv (.t 30))])) C.ret)
def laws_heldNodeS.d1 : C := (.seq (.seq (.kp [0, 1, 5, 9] (.ops [o 6 (.mv (.t 5)), o 7 (.mv (.t 0)), o 8 (.len false (.t 7)), o 9 (.bin .lss 0 (.t 6) (.t 8))])) (.cond (.t 9) C.skip (.exit 0))) (.seq (.blk 1 (.seq (.seq (.kp [0, 1, 5, 18] (.ops [o 12 (.mv (.t 0)), o 13 (.mv (.t 5)), o 14 (.iaddr 2 (.t 12) (.t 13)), o 15 (.faddr 0 (.t 14)), o 16 (.load none (.t 15)), o 17 (.mv (.t 1)), o 18 (.bin .neq 0 (.t 16) (.t 17))])) (.cond (.t 18) (.seq (.kp [4] (.ops [o 4 (.mv (.k (.i .i64 (-1))))])) C.ret) C.skip)) (.seq (.kp [0, 1, 5] (.ops [o 19 (.mv (.t 1)), o 20 (.bin .add 0 (.t 19) (.k (.i .i64 1))), o 1 (.mv (.t 20))])) (.seq (.seq (.kp [0, 1, 5, 27] (.ops [o 21 (.mv (.t 0)), o 22 (.mv (.t 5)), o 23 (.iaddr 2 (.t 21) (.t 22)), o 24 (.faddr 1 (.t 23)), o 25 (.load none (.t 24)), o 26 (.mv (.t 1)), o 27 (.bin .neq 0 (.t 25) (.t 26))])) (.cond (.t 27) (.seq (.kp [4] (.ops [o 4 (.mv (.k (.i .i64 (-1))))])) C.ret) C.skip)) (.kp [0, 1, 5] (.ops [o 28 (.mv (.t 1)), o 29 (.bin .add 0 (.t 28) (.k (.i .i64 1))), o 1 (.mv (.t 29))])))))) (.kp [0, 1, 5] (.ops [o 10 (.mv (.t 5)), o 11 (.bin .add 0 (.t 10) (.k (.i .i64 1))), o 5 (.mv (.t 11))]))))
def laws_heldNodeS.c1 : C := .loop 1 [0, 1, 5] laws_heldNodeS.d1
def laws_heldNodeS.B : C := (.seq (.kp [0, 1] (.ops [o 4 (.mv (.k (.i .i64 0)))])) (.seq (.seq (.kp [0, 1, 5] (.ops [o 5 (.mv (.k (.i .i64 0)))])) (.blk 0 laws_heldNodeS.c1)) laws_heldNodeS.c0))
def laws_heldNodeS.F : V.Fn := ⟨1, laws_heldNodeS.B, [.t 4]⟩
def laws_heldIntS.c0 : C := (.seq (.kp [4] (.ops [o 20 (.mv (.t 1)), o 4 (.mv (.t 20))])) C.ret)
def laws_heldIntS.d1 : C := (.seq (.seq (.kp [0, 1, 5, 9] (.ops [o 6 (.mv (.t 5)), o 7 (.mv (.t 0)), o 8 (.len false (.t 7)), o 9 (.bin .lss 0 (.t 6) (.t 8))])) (.cond (.t 9) C.skip (.exit 0))) (.seq (.blk 1 (.seq (.seq (.kp [0, 1, 5, 17] (.ops [o 12 (.mv (.t 0)), o 13 (.mv (.t 5)), o 14 (.iaddr 1 (.t 12) (.t 13)), o 15 (.load none (.t 14)), o 16 (.mv (.t 1)), o 17 (.bin .neq 0 (.t 15) (.t 16))])) (.cond (.t 17) (.seq (.kp [4] (.ops [o 4 (.mv (.k (.i .i64 (-1))))])) C.ret) C.skip)) (.kp [0, 1, 5] (.ops [o 18 (.mv (.t 1)), o 19 (.bin .add 0 (.t 18) (.k (.i .i64 1))), o 1 (.mv (.t 19))])))) (.kp [0, 1, 5] (.ops [o 10 (.mv (.t 5)), o 11 (.bin .add 0 (.t 10) (.k (.i .i64 1))), o 5 (.mv (.t 11))]))))
def laws_heldIntS.c1 : C := .loop 1 [0, 1, 5] laws_heldIntS.d1
def laws_heldIntS.B : C := (.seq (.kp [0, 1] (.ops [o 4 (.mv (.k (.i .i64 0)))])) (.seq (.seq (.kp [0, 1, 5] (.ops [o 5 (.mv (.k (.i .i64 0)))])) (.blk 0 laws_heldIntS.c1)) laws_heldIntS.c0))
def laws_heldIntS.F : V.Fn := ⟨1, laws_heldIntS.B, [.t 4]⟩
def laws_heldOpS.c0 : C := (.seq (.kp [4] (.ops [o 57 (.mv (.t 1)), o 4 (.mv (.t 57))])) C.ret)
def laws_heldOpS.d1 : C := (.seq (.seq (.kp [0, 1, 5, 9] (.ops [o 6 (.mv (.t 5)), o 7 (.mv (.t 0)), o 8 (.len false (.t 7)), o 9 (.bin .lss 0 (.t 6) (.t 8))])) (.cond (.t 9) C.skip (.exit 0))) (.seq (.blk 1 (.seq (.seq (.kp [0, 1, 5, 18] (.ops [o 12 (.mv (.t 0)), o 13 (.mv (.t 5)), o 14 (.iaddr 5 (.t 12) (.t 13)), o 15 (.faddr 0 (.t 14)), o 16 (.load none (.t 15)), o 17 (.mv (.t 1)), o 18 (.bin .neq 0 (.t 16) (.t 17))])) (.cond (.t 18) (.seq (.kp [4] (.ops [o 4 (.mv (.k (.i .i64 (-1))))])) C.ret) C.skip)) (.seq (.kp [0, 1, 5] (.ops [o 19 (.mv (.t 1)), o 20 (.bin .add 0 (.t 19) (.k (.i .i64 1))), o 1 (.mv (.t 20))])) (.seq (.kp [0, 1, 5] (.ops [o 21 (.mv (.t 0)), o 22 (.mv (.t 5)), o 23 (.iaddr 5 (.t 21) (.t 22)), o 24 (.faddr 1 (.t 23)), o 25 (.load none (.t 24)), o 26 (.mv (.t 1)), o 27 (.call 115 [false, false] [.t 25, .t 26]), o 1 (.mv (.t 27))])) (.seq (.seq (.kp [0, 1, 5, 29] (.ops [o 28 (.mv (.t 1)), o 29 (.bin .lss 0 (.t 28) (.k (.i .i64 0)))])) (.cond (.t 29) (.seq (.kp [4] (.ops [o 4 (.mv (.k (.i .i64 (-1))))])) C.ret) C.skip)) (.seq (.seq (.kp [0, 1, 5, 36] (.ops [o 30 (.mv (.t 0)), o 31 (.mv (.t 5)), o 32 (.iaddr 5 (.t 30) (.t 31)), o 33 (.faddr 2 (.t 32)), o 34 (.load none (.t 33)), o 35 (.mv (.t 1)), o 36 (.bin .neq 0 (.t 34) (.t 35))])) (.cond (.t 36) (.seq (.kp [4] (.ops [o 4 (.mv (.k (.i .i64 (-1))))])) C.ret) C.skip)) (.seq (.kp [0, 1, 5] (.ops [o 37 (.mv (.t 1)), o 38 (.bin .add 0 (.t 37) (.k (.i .i64 1))), o 1 (.mv (.t 38))])) (.seq (.seq (.kp [0, 1, 5, 45] (.ops [o 39 (.mv (.t 0)), o 40 (.mv (.t 5)), o 41 (.iaddr 5 (.t 39) (.t 40)), o 42 (.faddr 3 (.t 41)), o 43 (.load none (.t 42)), o 44 (.mv (.t 1)), o 45 (.bin .neq 0 (.t 43) (.t 44))])) (.cond (.t 45) (.seq (.kp [4] (.ops [o 4 (.mv (.k (.i .i64 (-1))))])) C.ret) C.skip)) (.seq (.kp [0, 1, 5] (.ops [o 46 (.mv (.t 1)), o 47 (.bin .add 0 (.t 46) (.k (.i .i64 1))), o 1 (.mv (.t 47))])) (.seq (.seq (.kp [0, 1, 5, 54] (.ops [o 48 (.mv (.t 0)), o 49 (.mv (.t 5)), o 50 (.iaddr 5 (.t 48) (.t 49)), o 51 (.faddr 4 (.t 50)), o 52 (.load none (.t 51)), o 53 (.mv (.t 1)), o 54 (.bin .neq 0 (.t 52) (.t 53))])) (.cond (.t 54) (.seq (.kp [4] (.ops [o 4 (.mv (.k (.i .i64 (-1))))])) C.ret) C.skip)) (.kp [0, 1, 5] (.ops [o 55 (.mv (.t 1)), o 56 (.bin .add 0 (.t 55) (.k (.i .i64 1))), o 1 (.mv (.t 56))])))))))))))) (.kp [0, 1, 5] (.ops [o 10 (.mv (.t 5)), o 11 (.bin .add 0 (.t 10) (.k (.i .i64 1))), o 5 (.mv (.t 11))]))))
def laws_heldOpS.c1 : C := .loop 1 [0, 1, 5] laws_heldOpS.d1
def laws_heldOpS.B : C := (.seq (.kp [0, 1] (.ops [o 4 (.mv (.k (.i .i64 0)))])) (.seq (.seq (.kp [0, 1, 5] (.ops [o 5 (.mv (.k (.i .i64 0)))])) (.blk 0 laws_heldOpS.c1)) laws_heldOpS.c0))
def laws_heldOpS.F : V.Fn := ⟨1, laws_heldOpS.B, [.t 4]⟩
def laws_heldOpSS.c0 : C := (.seq (.kp [4] (.ops [o 20 (.mv (.t 1)), o 4 (.mv (.t 20))])) C.ret)
def laws_heldOpSS.d1 : C := (.seq (.seq (.kp [0, 1, 5, 9] (.ops [o 6 (.mv (.t 5)), o 7 (.mv (.t 0)), o 8 (.len false (.t 7)), o 9 (.bin .lss 0 (.t 6) (.t 8))])) (.cond (.t 9) C.skip (.exit 0))) (.seq (.blk 1 (.seq (.kp [0, 1, 5] (.ops [o 12 (.mv (.t 0)), o 13 (.mv (.t 5)), o 14 (.iaddr 1 (.t 12) (.t 13)), o 15 (.load none (.t 14)), o 16 (.mv (.t 1)), o 17 (.call 96 [false, false] [.t 15, .t 16]), o 1 (.mv (.t 17))])) (.seq (.kp [0, 1, 5, 19] (.ops [o 18 (.mv (.t 1)), o 19 (.bin .lss 0 (.t 18) (.k (.i .i64 0)))])) (.cond (.t 19) (.seq (.kp [4] (.ops [o 4 (.mv (.k (.i .i64 (-1))))])) C.ret) C.skip)))) (.kp [0, 1, 5] (.ops [o 10 (.mv (.t 5)), o 11 (.bin .add 0 (.t 10) (.k (.i .i64 1))), o 5 (.mv (.t 11))]))))
def laws_heldOpSS.c1 : C := .loop 1 [0, 1, 5] laws_heldOpSS.d1
def laws_heldOpSS.B : C := (.seq (.kp [0, 1] (.ops [o 4 (.mv (.k (.i .i64 0)))])) (.seq (.seq (.kp [0, 1, 5] (.ops [o 5 (.mv (.k (.i .i64 0)))])) (.blk 0 laws_heldOpSS.c1)) laws_heldOpSS.c0))
def laws_heldOpSS.F : V.Fn := ⟨1, laws_heldOpSS.B, [.t 4]⟩
def laws_heldHist.B : C := (.seq (.kp [1, 2] (.ops [o 2 (.boxK (.t 0)), o 4 (.mv (.k (.i .i64 0)))])) (.seq (.kp [1, 2] (.ops [o 5 (.faddr 0 (.t 2)), o 6 (.load none (.t 5)), o 7 (.mv (.t 1)), o 8 (.call 63 [false, false] [.t 6, .t 7]), o 1 (.mv (.t 8))])) (.seq (.seq (.kp [1, 2, 10] (.ops [o 9 (.mv (.t 1)), o 10 (.bin .lss 0 (.t 9) (.k (.i .i64 0)))])) (.cond (.t 10) (.seq (.kp [4] (.ops [o 4 (.mv (.k (.i .i64 (-1))))])) C.ret) C.skip)) (.seq (.kp [1] (.ops [o 11 (.faddr 1 (.t 2)), o 12 (.load none (.t 11)), o 13 (.mv (.t 1)), o 14 (.call 64 [false, false] [.t 12, .t 13]), o 1 (.mv (.t 14))])) (.seq (.seq (.kp [1, 16] (.ops [o 15 (.mv (.t 1)), o 16 (.bin .lss 0 (.t 15) (.k (.i .i64 0)))])) (.cond (.t 16) (.seq (.kp [4] (.ops [o 4 (.mv (.k (.i .i64 (-1))))])) C.ret) C.skip)) (.seq (.kp [4] (.ops [o 17 (.mv (.t 1)), o 4 (.mv (.t 17))])) C.ret))))))
def laws_heldHist.F : V.Fn := ⟨2, laws_heldHist.B, [.t 4]⟩
def laws_FnExactHistAdd.B : C := (.seq (.kp [1, 2] (.ops [o 2 (.boxK (.t 0)), o 4 (.mv (.k (.b false)))])) (.seq (.kp [1, 2, 5] (.ops [o 5 (.mv (.k (.i .i64 1048576)))])) (.seq (.kp [1, 2, 5] (.ops [o 17 (.load (some 2) (.t 2)), o 18 (.mv (.t 5)), o 19 (.call 19 [false, false] [.t 17, .t 18]), o 5 (.mv (.t 19))])) (.seq (.seq (.kp [1, 2, 5, 21] (.ops [o 20 (.mv (.t 5)), o 21 (.bin .lss 0 (.t 20) (.k (.i .i64 0)))])) (.cond (.t 21) (.seq (.kp [4] (.ops [o 4 (.mv (.k (.b true)))])) C.ret) C.skip)) (.seq (.kp [1, 2, 5] (.ops [o 22 (.mv (.t 1)), o 23 (.mv (.t 5)), o 24 (.call 20 [false, false] [.t 22, .t 23]), o 5 (.mv (.t 24))])) (.seq (.seq (.kp [1, 2, 26] (.ops [o 25 (.mv (.t 5)), o 26 (.bin .lss 0 (.t 25) (.k (.i .i64 0)))])) (.cond (.t 26) (.seq (.kp [4] (.ops [o 4 (.mv (.k (.b true)))])) C.ret) C.skip)) (.seq (.kp [1, 2, 6, 7] (.ops [o 28 (.load (some 2) (.t 2)), o 29 (.call 22 [false] [.t 28]), o 30 (.mv (.t 1)), o 31 (.call 23 [false] [.t 30]), o 32 (.call 21 [false, false] [.t 29, .t 31]), o 27 (.mv (.t 32)), o 33 (.ext 0 (.t 27)), o 34 (.ext 1 (.t 27)), o 6 (.alloc [.deep false false 2 [], .deep false false 1 []]), oz none none [] (.store 2 (.t 6) (.t 33)), o 7 (.mv (.t 34))])) (.seq (.kp [1, 2, 6, 7, 8] (.ops [o 35 (.load (some 2) (.t 2)), o 36 (.call 22 [false] [.t 35]), o 8 (.alloc [.deep false false 2 [], .deep false false 1 []]), oz none none [] (.store 2 (.t 8) (.t 36))])) (.seq (.kp [1, 2, 6, 7, 8, 9] (.ops [o 37 (.mv (.t 1)), o 38 (.call 23 [false] [.t 37]), o 9 (.mv (.t 38))])) (.seq (.kp [1, 2, 6, 7, 8, 9, 10, 11] (.ops [o 40 (.load (some 2) (.t 8)), o 41 (.mv (.t 9)), o 42 (.call 24 [false, false] [.t 40, .t 41]), o 39 (.mv (.t 42)), o 43 (.ext 0 (.t 39)), o 44 (.ext 1 (.t 39)), o 10 (.alloc [.deep false false 2 [], .deep false false 1 []]), oz none none [] (.store 2 (.t 10) (.t 43)), o 11 (.mv (.t 44))])) (.seq (.seq (.kp [1, 2, 6, 7, 8, 9, 10, 11, 53] (.ops [o 45 (.load (some 2) (.t 10)), o 46 (.load (some 2) (.t 6)), o 47 (.call 25 [false, false] [.t 45, .t 46]), o 48 (.un .not (.t 47)), o 49 (.mv (.t 48)), og 50 49 false (.mv (.t 11)), og 51 49 false (.mv (.t 7)), og 52 49 false (.bin .neq 1 (.t 50) (.t 51)), o 53 (.pick (.t 49) (.k (.b true)) (.t 52))])) (.cond (.t 53) (.seq (.kp [4] (.ops [o 4 (.mv (.k (.b false)))])) C.ret) C.skip)) (.seq (.seq (.kp [1, 2, 6, 7, 8, 9, 10, 11, 58] (.draw (tk [1] (.alt (tk [0, 2, 3, 4] .done) (tk [2, 0, 3, 4] .done))) [o 54 (.load (some 2) (.t 8)), o 55 (.load (some 2) (.t 2)), o 56 (.call 22 [false] [.t 55]), o 57 (.call 25 [false, false] [.t 54, .t 56]), o 58 (.un .not (.t 57))])) (.cond (.t 58) (.seq (.kp [4] (.ops [o 4 (.mv (.k (.b false)))])) C.ret) C.skip)) (.seq (.seq (.kp [1, 2, 6, 7, 8, 9, 10, 11, 63] (.ops [o 59 (.mv (.t 9)), o 60 (.mv (.t 1)), o 61 (.call 23 [false] [.t 60]), o 62 (.call 26 [false, false] [.t 59, .t 61]), o 63 (.un .not (.t 62))])) (.cond (.t 63) (.seq (.kp [4] (.ops [o 4 (.mv (.k (.b false)))])) C.ret) C.skip)) (.seq (.kp [1, 2, 6, 7, 8, 9, 10, 11, 12] (.ops [o 12 (.mv (.k (.i .i64 1)))])) (.seq (.kp [1, 2, 6, 7, 9, 10, 11, 12] (.ops [o 64 (.load (some 2) (.t 8)), o 65 (.mv (.t 12)), oz (some 66) none [64] (.call 27 [true, false] [.t 64, .t 65]), o 12 (.mv (.t 66))])) (.seq (.kp [1, 2, 6, 7, 10, 11, 12] (.ops [o 67 (.mv (.t 9)), o 68 (.mv (.t 12)), o 69 (.call 28 [true, false] [.t 67, .t 68]), o 12 (.mv (.t 69))])) (.seq (.seq (.kp [1, 2, 6, 7, 10, 82] (.ops [o 70 (.mv (.t 12)), o 71 (.bin .lss 0 (.t 70) (.k (.i .i64 0))), o 72 (.mv (.t 71)), og 73 72 false (.load (some 2) (.t 10)), og 74 72 false (.load (some 2) (.t 6)), og 75 72 false (.call 25 [false, false] [.t 73, .t 74]), og 76 72 false (.un .not (.t 75)), o 77 (.pick (.t 72) (.k (.b true)) (.t 76)), o 78 (.mv (.t 77)), og 79 78 false (.mv (.t 11)), og 80 78 false (.mv (.t 7)), og 81 78 false (.bin .neq 1 (.t 79) (.t 80)), o 82 (.pick (.t 78) (.k (.b true)) (.t 81))])) (.cond (.t 82) (.seq (.kp [4] (.ops [o 4 (.mv (.k (.b false)))])) C.ret) C.skip)) (.seq (.kp [1, 2, 6, 7, 10, 13] (.ops [o 13 (.mv (.k (.i .i64 1)))])) (.seq (.kp [1, 2, 6, 7, 10, 13] (.ops [o 83 (.load (some 2) (.t 10)), o 84 (.mv (.t 13)), oz (some 85) none [83] (.call 27 [true, false] [.t 83, .t 84]), o 13 (.mv (.t 85))])) (.seq (.kp [1, 2, 6, 7, 10, 13, 14] (.ops [o 14 (.mv (.k (.i .i64 1)))])) (.seq (.kp [1, 2, 6, 7, 10, 13, 14] (.ops [o 86 (.load (some 2) (.t 10)), o 87 (.mv (.t 14)), o 88 (.call 29 [false, false] [.t 86, .t 87]), o 14 (.mv (.t 88))])) (.seq (.seq (.kp [1, 2, 6, 7, 10, 13, 14, 90] (.ops [o 89 (.mv (.t 14)), o 90 (.bin .lss 0 (.t 89) (.k (.i .i64 0)))])) (.cond (.t 90) (.seq (.kp [4] (.ops [o 4 (.mv (.k (.b false)))])) C.ret) C.skip)) (.seq (.seq (.kp [1, 2, 6, 7, 10, 13, 93] (.ops [o 91 (.mv (.t 14)), o 92 (.mv (.t 13)), o 93 (.bin .neq 0 (.t 91) (.t 92))])) (.cond (.t 93) (.seq (.kp [4] (.ops [o 4 (.mv (.k (.b false)))])) C.ret) C.skip)) (.seq (.kp [6, 7, 10, 13, 15, 16] (.ops [o 95 (.load (some 2) (.t 2)), o 96 (.call 22 [false] [.t 95]), o 97 (.mv (.t 1)), o 98 (.call 23 [false] [.t 97]), o 99 (.call 24 [false, false] [.t 96, .t 98]), o 94 (.mv (.t 99)), o 100 (.ext 0 (.t 94)), o 101 (.ext 1 (.t 94)), o 15 (.alloc [.deep false false 2 [], .deep false false 1 []]), oz none none [] (.store 2 (.t 15) (.t 100)), o 16 (.mv (.t 101))])) (.seq (.seq (.kp [10, 13, 110] (.ops [o 102 (.load (some 2) (.t 15)), o 103 (.load (some 2) (.t 6)), o 104 (.call 25 [false, false] [.t 102, .t 103]), o 105 (.un .not (.t 104)), o 106 (.mv (.t 105)), og 107 106 false (.mv (.t 16)), og 108 106 false (.mv (.t 7)), og 109 106 false (.bin .neq 1 (.t 107) (.t 108)), o 110 (.pick (.t 106) (.k (.b true)) (.t 109))])) (.cond (.t 110) (.seq (.kp [4] (.ops [o 4 (.mv (.k (.b false)))])) C.ret) C.skip)) (.seq (.kp [10, 13, 14] (.ops [o 14 (.mv (.k (.i .i64 1)))])) (.seq (.kp [13, 14] (.ops [o 111 (.load (some 2) (.t 10)), o 112 (.mv (.t 14)), o 113 (.call 29 [false, false] [.t 111, .t 112]), o 14 (.mv (.t 113))])) (.seq (.seq (.kp [13, 14, 115] (.ops [o 114 (.mv (.t 14)), o 115 (.bin .lss 0 (.t 114) (.k (.i .i64 0)))])) (.cond (.t 115) (.seq (.kp [4] (.ops [o 4 (.mv (.k (.b false)))])) C.ret) C.skip)) (.seq (.seq (.kp [118] (.ops [o 116 (.mv (.t 14)), o 117 (.mv (.t 13)), o 118 (.bin .neq 0 (.t 116) (.t 117))])) (.cond (.t 118) (.seq (.kp [4] (.ops [o 4 (.mv (.k (.b false)))])) C.ret) C.skip)) (.seq (.kp [4] (.ops [o 4 (.mv (.k (.b true)))])) C.ret))))))))))))))))))))))))))))))
def laws_FnExactHistAdd.F : V.Fn := ⟨3, laws_FnExactHistAdd.B, [.t 4]⟩
def tab : List (Nat × V.Fn) := [(45, laws_szNodeS.F), (84, laws_szIntS.F), (47, laws_szOp.F), (20, laws_szOpS.F), (46, laws_szOpSS.F), (19, laws_szHist.F), (88, laws_toNode.F), (51, laws_toNodeS.F), (89, laws_toIntS.F), (53, laws_toOp.F), (23, laws_toOpS.F), (52, laws_toOpSS.F), (22, laws_toHist.F), (85, spec_l3Copy.F), (49, spec_l19Copy.F), (48, spec_l24Copy.F), (33, spec_l1In.F), (71, spec_LabelOk.F), (86, spec_TreeOk.F), (131, spec_l3At.F), (118, spec_EndOf.F), (120, spec_KidsOf.F), (116, spec_NodeAt.F), (117, spec_l13Code.F), (119, spec_l13Shift.F), (97, spec_ApplyOp.F), (73, spec_ApplyAll.F), (127, spec_l15Path.F), (111, spec_OpOk.F), (87, spec_ScriptOk.F), (50, spec_HistOk.F), (21, spec_HistAdd.F), (90, slices_Clone_impl_Node_impl_Node.F), (112, slices_Grow_impl_Op_impl_Op.F), (91, slices_Concat_impl_Op_impl_Op.F), (113, slices_Clone_int_int.F), (92, impl_opCopy.F), (55, impl_Joined.F), (54, impl_histCopy.F), (37, impl_within.F), (107, impl_LabelOk.F), (108, impl_depthOk.F), (99, impl_TreeOk.F), (134, impl_hasNode.F), (123, impl_endOf.F), (126, impl_KidsOf.F), (121, impl_NodeAt.F), (122, impl_opCode.F), (124, slices_Delete_impl_Node_impl_Node.F), (125, slices_Insert_impl_Node_impl_Node.F), (100, impl_ApplyOp.F), (79, impl_ApplyAll.F), (137, impl_OpOk_lit1.F), (139, slices_IndexFunc_int_int.F), (136, slices_ContainsFunc_int_int.F), (130, impl_OpOk.F), (129, impl_ScriptOk_lit1.F), (135, slices_IndexFunc_impl_Op_impl_Op.F), (128, slices_ContainsFunc_impl_Op_impl_Op.F), (114, impl_ScriptOk.F), (93, impl_Hist_trees.F), (56, impl_HistOk.F), (24, impl_HistAdd.F), (94, laws_eqNode.F), (57, laws_eqNodeS.F), (95, laws_eqIntS.F), (59, laws_eqOp.F), (26, laws_eqOpS.F), (58, laws_eqOpSS.F), (25, laws_eqHist.F), (60, laws_markNodeS.F), (62, laws_markIntS.F), (28, laws_markOpS.F), (61, laws_markOpSS.F), (27, laws_markHist.F), (63, laws_heldNodeS.F), (115, laws_heldIntS.F), (96, laws_heldOpS.F), (64, laws_heldOpSS.F), (29, laws_heldHist.F), (6, laws_FnExactHistAdd.F)]
def env : V.Env := ⟨fun f => tab.lookup f, fun _ => none⟩
end Go.Proofs.Ytinlbiphjgpmmaa.P
end YtinlbiphjgpmmaaLC
section YtinlbiphjgpmmaaL45
namespace Go.Proofs.Ytinlbiphjgpmmaa.P
open Go Go.RowKit Go.Proofs.Ytinlbiphjgpmmaa.V
set_option linter.unusedVariables false
set_option linter.unusedSimpArgs false
set_option linter.all false
set_option maxRecDepth 100000
/-! ### laws_szNodeS: function 45 -/
def laws_szNodeS.f (l0 : List S122) (a1 : Int) : Option Int := if (wrap64 (a1 - (l0.length : Int))) < 0 then (some (-1)) else (some (wrap64 (a1 - (l0.length : Int))))
set_option maxHeartbeats 4000000 in
theorem laws_szNodeS.link {l0 : List S122} {a1 : Int} {r : Int} (H : laws_szNodeS.f l0 a1 = some r) : callW env 45 [.deep false true 2 (l0.map e122), .i .i64 a1] = some ([.i .i64 r], [none]) := by
  unfold laws_szNodeS.f at H
  refine callW_fn' (F := laws_szNodeS.F) (tm := tmOf [(0, .slc 0 [] 0 2 0 l0.length), (1, .i .i64 a1)]) (rs := rsL [(0, some ⟨false, 2, 0, (l0.map e122)⟩)]) (nx := 1) (ow := [false]) rfl (by rfl) (by simp only [SN]) (by simp only [SN]) (by decide) ?_
  show W env laws_szNodeS.B _ (Qf [.t 4] [false] _)
  unfold laws_szNodeS.B
  try simp only [TN, simprocAttr]
  rcases ite_or H with ⟨h1, H⟩ | ⟨h1, H⟩
  · skip
    injection H with H; subst H
    try simp only [TN, simprocAttr, h1]
    try rfl
  · skip
    injection H with H; subst H
    try simp only [TN, simprocAttr, h1]
    try rfl
end Go.Proofs.Ytinlbiphjgpmmaa.P
end YtinlbiphjgpmmaaL45
section YtinlbiphjgpmmaaL84
namespace Go.Proofs.Ytinlbiphjgpmmaa.P
open Go Go.RowKit Go.Proofs.Ytinlbiphjgpmmaa.V
set_option linter.unusedVariables false
set_option linter.unusedSimpArgs false
set_option linter.all false
set_option maxRecDepth 100000
/-! ### laws_szIntS: function 84 -/
def laws_szIntS.f (l0 : List Int) (a1 : Int) : Option Int := if (wrap64 (a1 - (l0.length : Int))) < 0 then (some (-1)) else (some (wrap64 (a1 - (l0.length : Int))))
set_option maxHeartbeats 4000000 in
theorem laws_szIntS.link {l0 : List Int} {a1 : Int} {r : Int} (H : laws_szIntS.f l0 a1 = some r) : callW env 84 [.deep false true 1 (l0.map eI), .i .i64 a1] = some ([.i .i64 r], [none]) := by
  unfold laws_szIntS.f at H
  refine callW_fn' (F := laws_szIntS.F) (tm := tmOf [(0, .slc 0 [] 0 1 0 l0.length), (1, .i .i64 a1)]) (rs := rsL [(0, some ⟨false, 1, 0, (l0.map eI)⟩)]) (nx := 1) (ow := [false]) rfl (by rfl) (by simp only [SN]) (by simp only [SN]) (by decide) ?_
  show W env laws_szIntS.B _ (Qf [.t 4] [false] _)
  unfold laws_szIntS.B
  try simp only [TN, simprocAttr]
  rcases ite_or H with ⟨h1, H⟩ | ⟨h1, H⟩
  · skip
    injection H with H; subst H
    try simp only [TN, simprocAttr, h1]
    try rfl
  · skip
    injection H with H; subst H
    try simp only [TN, simprocAttr, h1]
    try rfl
end Go.Proofs.Ytinlbiphjgpmmaa.P
end YtinlbiphjgpmmaaL84
section YtinlbiphjgpmmaaL47
namespace Go.Proofs.Ytinlbiphjgpmmaa.P
open Go Go.RowKit Go.Proofs.Ytinlbiphjgpmmaa.V
set_option linter.unusedVariables false
set_option linter.unusedSimpArgs false
set_option linter.all false
set_option maxRecDepth 100000
/-! ### laws_szOp: function 47 -/
def laws_szOp.f (a0_0 : Int) (l0_1 : List Int) (a0_2 : Int) (a0_3 : Int) (a0_4 : Int) (a1 : Int) : Option Int := (laws_szIntS.f l0_1 a1).bind fun t1 => (if t1 < 0 then (some (-1)) else (some t1))
set_option maxHeartbeats 4000000 in
theorem laws_szOp.link {a0_0 : Int} {l0_1 : List Int} {a0_2 : Int} {a0_3 : Int} {a0_4 : Int} {a1 : Int} {r : Int} (H : laws_szOp.f a0_0 l0_1 a0_2 a0_3 a0_4 a1 = some r) : callW env 47 [.agg [.i .i64 a0_0, .deep false true 1 (l0_1.map eI), .i .i64 a0_2, .i .i64 a0_3, .i .i64 a0_4], .i .i64 a1] = some ([.i .i64 r], [none]) := by
  unfold laws_szOp.f at H
  refine callW_fn' (F := laws_szOp.F) (tm := tmOf [(0, .agg [.i .i64 a0_0, .slc 0 [] 0 1 0 l0_1.length, .i .i64 a0_2, .i .i64 a0_3, .i .i64 a0_4]), (1, .i .i64 a1)]) (rs := rsL [(0, some ⟨false, 1, 0, (l0_1.map eI)⟩)]) (nx := 1) (ow := [false]) rfl (by rfl) (by simp only [SN]) (by simp only [SN]) (by decide) ?_
  show W env laws_szOp.B _ (Qf [.t 4] [false] _)
  unfold laws_szOp.B
  obtain ⟨t1, e1, H⟩ := bnd_some H
  have e1 := laws_szIntS.link e1
  try simp only [TN, simprocAttr, e1]
  rcases ite_or H with ⟨h2, H⟩ | ⟨h2, H⟩
  · skip
    injection H with H; subst H
    try simp only [TN, simprocAttr, e1, h2]
    try rfl
  · skip
    injection H with H; subst H
    try simp only [TN, simprocAttr, e1, h2]
    try rfl
end Go.Proofs.Ytinlbiphjgpmmaa.P
end YtinlbiphjgpmmaaL47
section YtinlbiphjgpmmaaL20
namespace Go.Proofs.Ytinlbiphjgpmmaa.P
open Go Go.RowKit Go.Proofs.Ytinlbiphjgpmmaa.V
set_option linter.unusedVariables false
set_option linter.unusedSimpArgs false
set_option linter.all false
set_option maxRecDepth 100000
/-! ### laws_szOpS: function 20 -/
def laws_szOpS.l0 : Nat → (List S81) → Int → Int → Option Int
 | 0, _, _, _ => none
 | k + 1, l0, x1, x5 => if x5 < (l0.length : Int) then (if 0 ≤ x5 then ((laws_szOp.f ((rd_T81 l0 x5).f0) ((rd_T81 l0 x5).f1) ((rd_T81 l0 x5).f2) ((rd_T81 l0 x5).f3) ((rd_T81 l0 x5).f4) x1).bind fun t1 => (if t1 < 0 then (some (-1)) else (laws_szOpS.l0 k l0 t1 (wrap64 (x5 + 1))))) else none) else (some x1)
def laws_szOpS.f (k : Nat) (l0 : List S81) (a1 : Int) : Option Int := if (wrap64 (a1 - (l0.length : Int))) < 0 then (some (-1)) else (laws_szOpS.l0 k l0 (wrap64 (a1 - (l0.length : Int))) 0)
def laws_szOpS.P0 (k : Nat) : Prop := ∀ (l0 : List S81) (x1 : Int) (x5 : Int) (r : Int), laws_szOpS.l0 k l0 x1 x5 = some r → ∀ st, canon 1 [0, 1, 5] st = ⟨tmOf [(0, .slc 0 [] 0 5 0 l0.length), (1, .i .i64 x1), (5, .i .i64 x5)], rsL [(0, some ⟨false, 5, 0, (l0.map (e81 true))⟩)], 1⟩ → W env laws_szOpS.c1 st (Qb 0 (Qs env laws_szOpS.c0 (Qf [.t 4] [false] ([.i .i64 r], [none]))))
set_option maxHeartbeats 4000000 in
theorem laws_szOpS.s0 (k : Nat) (ih : laws_szOpS.P0 k) : laws_szOpS.P0 (k + 1) := by
  intro l0 x1 x5 r H st hst
  rw [laws_szOpS.l0] at H
  rw [W_loopc (show laws_szOpS.c1 = C.loop 1 [0, 1, 5] laws_szOpS.d1 from rfl), hst]
  unfold laws_szOpS.d1
  try simp only [TN, simprocAttr, laws_szOpS.c0]
  rcases ite_or H with ⟨h1, H⟩ | ⟨h1, H⟩
  · skip
    obtain ⟨h2, H⟩ := ite_no H
    obtain ⟨t1, e3, H⟩ := bnd_some H
    have e3 := laws_szOp.link e3
    try simp only [TN, simprocAttr, laws_szOpS.c0, h1, h2, e3]
    rcases ite_or H with ⟨h4, H⟩ | ⟨h4, H⟩
    · skip
      injection H with H; subst H
      try simp only [TN, simprocAttr, laws_szOpS.c0, h1, h2, e3, h4]
      try rfl
    · skip
      try simp only [TN, simprocAttr, laws_szOpS.c0, h1, h2, e3, h4]
      refine ih _ _ _ _ H _ ?_
      first | (rw [canon_eq]; done) | (rw [canon_eq]; rfl) | (rw [canon_eq]; simp only [List.length_set, List.length_append, List.length_replicate]; rfl)
  · skip
    injection H with H; subst H
    try simp only [TN, simprocAttr, laws_szOpS.c0, h1]
    try rfl
theorem laws_szOpS.w : ∀ k, laws_szOpS.P0 k := by
  intro k
  induction k with
  | zero => exact by intro l0 x1 x5 r H; cases (show (none : Option Int) = some r from H)
  | succ k ih => exact laws_szOpS.s0 k ih
set_option maxHeartbeats 4000000 in
theorem laws_szOpS.link {k : Nat} {l0 : List S81} {a1 : Int} {r : Int} (H : laws_szOpS.f k l0 a1 = some r) : callW env 20 [.deep false true 5 (l0.map (e81 true)), .i .i64 a1] = some ([.i .i64 r], [none]) := by
  unfold laws_szOpS.f at H
  refine callW_fn' (F := laws_szOpS.F) (tm := tmOf [(0, .slc 0 [] 0 5 0 l0.length), (1, .i .i64 a1)]) (rs := rsL [(0, some ⟨false, 5, 0, (l0.map (e81 true))⟩)]) (nx := 1) (ow := [false]) rfl (by rfl) (by simp only [SN]) (by simp only [SN]) (by decide) ?_
  show W env laws_szOpS.B _ (Qf [.t 4] [false] _)
  unfold laws_szOpS.B
  try simp only [TN, simprocAttr, laws_szOpS.c0]
  rcases ite_or H with ⟨h1, H⟩ | ⟨h1, H⟩
  · skip
    injection H with H; subst H
    try simp only [TN, simprocAttr, laws_szOpS.c0, h1]
    try rfl
  · skip
    try simp only [TN, simprocAttr, laws_szOpS.c0, h1]
    refine (laws_szOpS.w k) _ _ _ _ H _ ?_
    first | (rw [canon_eq]; done) | (rw [canon_eq]; rfl) | (rw [canon_eq]; simp only [List.length_set, List.length_append, List.length_replicate]; rfl)
end Go.Proofs.Ytinlbiphjgpmmaa.P
end YtinlbiphjgpmmaaL20
section YtinlbiphjgpmmaaL46
namespace Go.Proofs.Ytinlbiphjgpmmaa.P
open Go Go.RowKit Go.Proofs.Ytinlbiphjgpmmaa.V
set_option linter.unusedVariables false
set_option linter.unusedSimpArgs false
set_option linter.all false
set_option maxRecDepth 100000
/-! ### laws_szOpSS: function 46 -/
def laws_szOpSS.l0 : Nat → (List (List S81)) → Int → Int → Option Int
 | 0, _, _, _ => none
 | k + 1, l0, x1, x5 => if x5 < (l0.length : Int) then (if 0 ≤ x5 then ((laws_szOpS.f k (rdL l0 x5) x1).bind fun t1 => (if t1 < 0 then (some (-1)) else (laws_szOpSS.l0 k l0 t1 (wrap64 (x5 + 1))))) else none) else (some x1)
def laws_szOpSS.f (k : Nat) (l0 : List (List S81)) (a1 : Int) : Option Int := if (wrap64 (a1 - (l0.length : Int))) < 0 then (some (-1)) else (laws_szOpSS.l0 k l0 (wrap64 (a1 - (l0.length : Int))) 0)
def laws_szOpSS.P0 (k : Nat) : Prop := ∀ (l0 : List (List S81)) (x1 : Int) (x5 : Int) (r : Int), laws_szOpSS.l0 k l0 x1 x5 = some r → ∀ st, canon 1 [0, 1, 5] st = ⟨tmOf [(0, .slc 0 [] 0 1 0 l0.length), (1, .i .i64 x1), (5, .i .i64 x5)], rsL [(0, some ⟨false, 1, 0, (l0.map (eL 5 true (e81 true)))⟩)], 1⟩ → W env laws_szOpSS.c1 st (Qb 0 (Qs env laws_szOpSS.c0 (Qf [.t 4] [false] ([.i .i64 r], [none]))))
set_option maxHeartbeats 4000000 in
theorem laws_szOpSS.s0 (k : Nat) (ih : laws_szOpSS.P0 k) : laws_szOpSS.P0 (k + 1) := by
  intro l0 x1 x5 r H st hst
  rw [laws_szOpSS.l0] at H
  rw [W_loopc (show laws_szOpSS.c1 = C.loop 1 [0, 1, 5] laws_szOpSS.d1 from rfl), hst]
  unfold laws_szOpSS.d1
  try simp only [TN, simprocAttr, laws_szOpSS.c0]
  rcases ite_or H with ⟨h1, H⟩ | ⟨h1, H⟩
  · skip
    obtain ⟨h2, H⟩ := ite_no H
    obtain ⟨t1, e3, H⟩ := bnd_some H
    have e3 := laws_szOpS.link e3
    try simp only [TN, simprocAttr, laws_szOpSS.c0, h1, h2, e3]
    rcases ite_or H with ⟨h4, H⟩ | ⟨h4, H⟩
    · skip
      injection H with H; subst H
      try simp only [TN, simprocAttr, laws_szOpSS.c0, h1, h2, e3, h4]
      try rfl
    · skip
      try simp only [TN, simprocAttr, laws_szOpSS.c0, h1, h2, e3, h4]
      refine ih _ _ _ _ H _ ?_
      first | (rw [canon_eq]; done) | (rw [canon_eq]; rfl) | (rw [canon_eq]; simp only [List.length_set, List.length_append, List.length_replicate]; rfl)
  · skip
    injection H with H; subst H
    try simp only [TN, simprocAttr, laws_szOpSS.c0, h1]
    try rfl
theorem laws_szOpSS.w : ∀ k, laws_szOpSS.P0 k := by
  intro k
  induction k with
  | zero => exact by intro l0 x1 x5 r H; cases (show (none : Option Int) = some r from H)
  | succ k ih => exact laws_szOpSS.s0 k ih
set_option maxHeartbeats 4000000 in
theorem laws_szOpSS.link {k : Nat} {l0 : List (List S81)} {a1 : Int} {r : Int} (H : laws_szOpSS.f k l0 a1 = some r) : callW env 46 [.deep false true 1 (l0.map (eL 5 true (e81 true))), .i .i64 a1] = some ([.i .i64 r], [none]) := by
  unfold laws_szOpSS.f at H
  refine callW_fn' (F := laws_szOpSS.F) (tm := tmOf [(0, .slc 0 [] 0 1 0 l0.length), (1, .i .i64 a1)]) (rs := rsL [(0, some ⟨false, 1, 0, (l0.map (eL 5 true (e81 true)))⟩)]) (nx := 1) (ow := [false]) rfl (by rfl) (by simp only [SN]) (by simp only [SN]) (by decide) ?_
  show W env laws_szOpSS.B _ (Qf [.t 4] [false] _)
  unfold laws_szOpSS.B
  try simp only [TN, simprocAttr, laws_szOpSS.c0]
  rcases ite_or H with ⟨h1, H⟩ | ⟨h1, H⟩
  · skip
    injection H with H; subst H
    try simp only [TN, simprocAttr, laws_szOpSS.c0, h1]
    try rfl
  · skip
    try simp only [TN, simprocAttr, laws_szOpSS.c0, h1]
    refine (laws_szOpSS.w k) _ _ _ _ H _ ?_
    first | (rw [canon_eq]; done) | (rw [canon_eq]; rfl) | (rw [canon_eq]; simp only [List.length_set, List.length_append, List.length_replicate]; rfl)
end Go.Proofs.Ytinlbiphjgpmmaa.P
end YtinlbiphjgpmmaaL46
section YtinlbiphjgpmmaaL19
namespace Go.Proofs.Ytinlbiphjgpmmaa.P
open Go Go.RowKit Go.Proofs.Ytinlbiphjgpmmaa.V
set_option linter.unusedVariables false
set_option linter.unusedSimpArgs false
set_option linter.all false
set_option maxRecDepth 100000
/-! ### laws_szHist: function 19 -/
def laws_szHist.f (k : Nat) (l0_0 : List S122) (l0_1 : List (List S81)) (a1 : Int) : Option Int := (laws_szNodeS.f l0_0 a1).bind fun t1 => (if t1 < 0 then (some (-1)) else ((laws_szOpSS.f k l0_1 t1).bind fun t2 => (if t2 < 0 then (some (-1)) else (some t2))))
set_option maxHeartbeats 4000000 in
theorem laws_szHist.link {k : Nat} {l0_0 : List S122} {l0_1 : List (List S81)} {a1 : Int} {r : Int} (H : laws_szHist.f k l0_0 l0_1 a1 = some r) : callW env 19 [.agg [.deep false true 2 (l0_0.map e122), .deep false true 1 (l0_1.map (eL 5 true (e81 true)))], .i .i64 a1] = some ([.i .i64 r], [none, none]) := by
  unfold laws_szHist.f at H
  refine callW_fn' (F := laws_szHist.F) (tm := tmOf [(0, .agg [.slc 0 [] 0 2 0 l0_0.length, .slc 1 [] 0 1 0 l0_1.length]), (1, .i .i64 a1)]) (rs := rsL [(0, some ⟨false, 2, 0, (l0_0.map e122)⟩), (1, some ⟨false, 1, 0, (l0_1.map (eL 5 true (e81 true)))⟩)]) (nx := 2) (ow := [false, false]) rfl (by rfl) (by simp only [SN]) (by simp only [SN]) (by decide) ?_
  show W env laws_szHist.B _ (Qf [.t 4] [false, false] _)
  unfold laws_szHist.B
  obtain ⟨t1, e1, H⟩ := bnd_some H
  have e1 := laws_szNodeS.link e1
  try simp only [TN, simprocAttr, e1]
  rcases ite_or H with ⟨h2, H⟩ | ⟨h2, H⟩
  · skip
    injection H with H; subst H
    try simp only [TN, simprocAttr, e1, h2]
    try rfl
  · skip
    obtain ⟨t2, e3, H⟩ := bnd_some H
    have e3 := laws_szOpSS.link e3
    try simp only [TN, simprocAttr, e1, h2, e3]
    rcases ite_or H with ⟨h4, H⟩ | ⟨h4, H⟩
    · skip
      injection H with H; subst H
      try simp only [TN, simprocAttr, e1, h2, e3, h4]
      try rfl
    · skip
      injection H with H; subst H
      try simp only [TN, simprocAttr, e1, h2, e3, h4]
      try rfl
end Go.Proofs.Ytinlbiphjgpmmaa.P
end YtinlbiphjgpmmaaL19
section YtinlbiphjgpmmaaL49
namespace Go.Proofs.Ytinlbiphjgpmmaa.P
open Go Go.RowKit Go.Proofs.Ytinlbiphjgpmmaa.V
set_option linter.unusedVariables false
set_option linter.unusedSimpArgs false
set_option linter.all false
set_option maxRecDepth 100000
/-! ### spec_l19Copy: function 49 -/
def spec_l19Copy.l0 : Nat → (List S87) → (List S87) → Int → Option (List S87)
 | 0, _, _, _ => none
 | k + 1, l0, x3, x4 => if x4 < (l0.length : Int) then (if 0 ≤ x4 then (if ((rd_T87 l0 x4).f1).length * 8 ≤ 140737488355328 then (if x3.length < 2513169434916 then (spec_l19Copy.l0 k l0 (x3 ++ ([(⟨(rd_T87 l0 x4).f0, (rd_T87 l0 x4).f1, (rd_T87 l0 x4).f2, (rd_T87 l0 x4).f3, (rd_T87 l0 x4).f4⟩ : S87)])) (wrap64 (x4 + 1))) else none) else none) else none) else (some x3)
def spec_l19Copy.f (k : Nat) (l0 : List S87) : Option (List S87) := spec_l19Copy.l0 k l0 ([] : List S87) 0
def spec_l19Copy.P0 (k : Nat) : Prop := ∀ (l0 : List S87) (x3 : List S87) (x4 : Int) (r : (List S87)), spec_l19Copy.l0 k l0 x3 x4 = some r → ∀ st, canon 1 [0, 3, 4] st = ⟨tmOf [(0, .slc 0 [] 0 5 0 l0.length), (3, .slc 1 [] 0 5 0 x3.length), (4, .i .i64 x4)], rsL [(0, some ⟨false, 5, 0, (l0.map (e87 false))⟩), (1, some ⟨true, 5, 0, (x3.map (e87 false))⟩)], 2⟩ → W env spec_l19Copy.c1 st (Qb 0 (Qs env spec_l19Copy.c0 (Qf [.t 2] [false] ([.deep false false 5 (r.map (e87 false))], [none]))))
set_option maxHeartbeats 4000000 in
theorem spec_l19Copy.s0 (k : Nat) (ih : spec_l19Copy.P0 k) : spec_l19Copy.P0 (k + 1) := by
  intro l0 x3 x4 r H st hst
  rw [spec_l19Copy.l0] at H
  rw [W_loopc (show spec_l19Copy.c1 = C.loop 1 [0, 3, 4] spec_l19Copy.d1 from rfl), hst]
  unfold spec_l19Copy.d1
  try simp only [TN, simprocAttr, spec_l19Copy.c0]
  rcases ite_or H with ⟨h1, H⟩ | ⟨h1, H⟩
  · skip
    obtain ⟨h2, H⟩ := ite_no H
    obtain ⟨h3, H⟩ := ite_no H
    obtain ⟨h4, H⟩ := ite_no H
    have h5 : (x3.length + 1) * 56 ≤ 140737488355328 := by omega
    try simp only [TN, simprocAttr, spec_l19Copy.c0, h1, h2, h3, @litX_87_1, h4, h5]
    refine ih _ _ _ _ H _ ?_
    first | (rw [canon_eq]; done) | (rw [canon_eq]; rfl) | (rw [canon_eq]; simp only [List.length_set, List.length_append, List.length_replicate]; rfl)
  · skip
    injection H with H; subst H
    try simp only [TN, simprocAttr, spec_l19Copy.c0, h1]
    try rfl
theorem spec_l19Copy.w : ∀ k, spec_l19Copy.P0 k := by
  intro k
  induction k with
  | zero => exact by intro l0 x3 x4 r H; cases (show (none : Option (List S87)) = some r from H)
  | succ k ih => exact spec_l19Copy.s0 k ih
set_option maxHeartbeats 4000000 in
theorem spec_l19Copy.link {k : Nat} {l0 : List S87} {r : (List S87)} (H : spec_l19Copy.f k l0 = some r) : callW env 49 [.deep false true 5 (l0.map (e87 false))] = some ([.deep false false 5 (r.map (e87 false))], [none]) := by
  unfold spec_l19Copy.f at H
  refine callW_fn' (F := spec_l19Copy.F) (tm := tmOf [(0, .slc 0 [] 0 5 0 l0.length)]) (rs := rsL [(0, some ⟨false, 5, 0, (l0.map (e87 false))⟩)]) (nx := 1) (ow := [false]) rfl (by rfl) (by simp only [SN]) (by simp only [SN]) (by decide) ?_
  show W env spec_l19Copy.B _ (Qf [.t 2] [false] _)
  unfold spec_l19Copy.B
  try simp only [TN, simprocAttr, spec_l19Copy.c0]
  refine (spec_l19Copy.w k) _ _ _ _ H _ ?_
  first | (rw [canon_eq]; done) | (rw [canon_eq]; rfl) | (rw [canon_eq]; simp only [List.length_set, List.length_append, List.length_replicate]; rfl)
end Go.Proofs.Ytinlbiphjgpmmaa.P
end YtinlbiphjgpmmaaL49
section YtinlbiphjgpmmaaL85
namespace Go.Proofs.Ytinlbiphjgpmmaa.P
open Go Go.RowKit Go.Proofs.Ytinlbiphjgpmmaa.V
set_option linter.unusedVariables false
set_option linter.unusedSimpArgs false
set_option linter.all false
set_option maxRecDepth 100000
/-! ### spec_l3Copy: function 85 -/
def spec_l3Copy.f (l0 : List S105) : Option (List S105) := if l0.length * 16 ≤ 140737488355328 then (some l0) else none
set_option maxHeartbeats 4000000 in
theorem spec_l3Copy.link {l0 : List S105} {r : (List S105)} (H : spec_l3Copy.f l0 = some r) : callW env 85 [.deep false true 2 (l0.map e105)] = some ([.deep false false 2 (r.map e105)], [none]) := by
  unfold spec_l3Copy.f at H
  refine callW_fn' (F := spec_l3Copy.F) (tm := tmOf [(0, .slc 0 [] 0 2 0 l0.length)]) (rs := rsL [(0, some ⟨false, 2, 0, (l0.map e105)⟩)]) (nx := 1) (ow := [false]) rfl (by rfl) (by simp only [SN]) (by simp only [SN]) (by decide) ?_
  show W env spec_l3Copy.B _ (Qf [.t 2] [false] _)
  unfold spec_l3Copy.B
  obtain ⟨h1, H⟩ := ite_no H
  injection H with H; subst H
  try simp only [TN, simprocAttr, h1]
  try rfl
end Go.Proofs.Ytinlbiphjgpmmaa.P
end YtinlbiphjgpmmaaL85
section YtinlbiphjgpmmaaL48
namespace Go.Proofs.Ytinlbiphjgpmmaa.P
open Go Go.RowKit Go.Proofs.Ytinlbiphjgpmmaa.V
set_option linter.unusedVariables false
set_option linter.unusedSimpArgs false
set_option linter.all false
set_option maxRecDepth 100000
/-! ### spec_l24Copy: function 48 -/
def spec_l24Copy.l0 : Nat → (List S105) → (List (List S87)) → Int → (List S105) → (List (List S87)) → (List S105) → (List (List S87)) → Option ((List S105) × (List (List S87)))
 | 0, _, _, _, _, _, _, _ => none
 | k + 1, l0_0, l0_1, x4, c2_0, c2_1, c3_0, c3_1 => if x4 < (l0_1.length : Int) then (if 0 ≤ x4 then ((spec_l19Copy.f k (rdL l0_1 x4)).bind fun t2 => (if c3_1.length < 5864062014805 then (spec_l24Copy.l0 k l0_0 l0_1 (wrap64 (x4 + 1)) c2_0 c2_1 c3_0 (c3_1 ++ ([t2]))) else none)) else none) else (some (c3_0, c3_1))
def spec_l24Copy.f (k : Nat) (l0_0 : List S105) (l0_1 : List (List S87)) : Option ((List S105) × (List (List S87))) := (spec_l3Copy.f l0_0).bind fun t1 => (spec_l24Copy.l0 k l0_0 l0_1 0 [] [] t1 [])
def spec_l24Copy.P0 (k : Nat) : Prop := ∀ (l0_0 : List S105) (l0_1 : List (List S87)) (x4 : Int) (c2_0 : List S105) (c2_1 : List (List S87)) (c3_0 : List S105) (c3_1 : List (List S87)) (r : (List S105) × (List (List S87))), spec_l24Copy.l0 k l0_0 l0_1 x4 c2_0 c2_1 c3_0 c3_1 = some r → ∀ st, canon 2 [1, 2, 3, 4] st = ⟨tmOf [(1, .bx [.slc 0 [] 0 2 0 l0_0.length, .slc 1 [] 0 1 0 l0_1.length] 0), (2, .ptr 2 [] 0 0 0), (3, .ptr 3 [] 0 0 0), (4, .i .i64 x4)], rsL [(0, some ⟨false, 2, 0, (l0_0.map e105)⟩), (1, some ⟨false, 1, 0, (l0_1.map (eL 5 false (e87 false)))⟩), (2, some ⟨true, 2, 0, [[.deep false false 2 (c2_0.map e105), .deep false false 1 (c2_1.map (eL 5 false (e87 false)))]]⟩), (3, some ⟨true, 2, 0, [[.deep false false 2 (c3_0.map e105), .deep false false 1 (c3_1.map (eL 5 false (e87 false)))]]⟩)], 4⟩ → W env spec_l24Copy.c1 st (Qb 0 (Qs env spec_l24Copy.c0 (Qf [.cell 2 (some 2)] [false, false] ([.agg [.deep false false 2 (r.1.map e105), .deep false false 1 (r.2.map (eL 5 false (e87 false)))]], [none, none]))))
set_option maxHeartbeats 4000000 in
theorem spec_l24Copy.s0 (k : Nat) (ih : spec_l24Copy.P0 k) : spec_l24Copy.P0 (k + 1) := by
  intro l0_0 l0_1 x4 c2_0 c2_1 c3_0 c3_1 r H st hst
  rw [spec_l24Copy.l0] at H
  rw [W_loopc (show spec_l24Copy.c1 = C.loop 2 [1, 2, 3, 4] spec_l24Copy.d1 from rfl), hst]
  unfold spec_l24Copy.d1
  try simp only [TN, simprocAttr, spec_l24Copy.c0]
  rcases ite_or H with ⟨h1, H⟩ | ⟨h1, H⟩
  · skip
    obtain ⟨h2, H⟩ := ite_no H
    obtain ⟨t2, e3, H⟩ := bnd_some H
    have e3 := spec_l19Copy.link e3
    obtain ⟨h4, H⟩ := ite_no H
    have h5 : (c3_1.length + 1) * 24 ≤ 140737488355328 := by omega
    try simp only [TN, simprocAttr, spec_l24Copy.c0, h1, h2, e3, h4, h5]
    refine ih _ _ _ _ _ _ _ _ H _ ?_
    first | (rw [canon_eq]; done) | (rw [canon_eq]; rfl) | (rw [canon_eq]; simp only [List.length_set, List.length_append, List.length_replicate]; rfl)
  · skip
    injection H with H; subst H
    try simp only [TN, simprocAttr, spec_l24Copy.c0, h1]
    try rfl
theorem spec_l24Copy.w : ∀ k, spec_l24Copy.P0 k := by
  intro k
  induction k with
  | zero => exact by intro l0_0 l0_1 x4 c2_0 c2_1 c3_0 c3_1 r H; cases (show (none : Option ((List S105) × (List (List S87)))) = some r from H)
  | succ k ih => exact spec_l24Copy.s0 k ih
set_option maxHeartbeats 4000000 in
theorem spec_l24Copy.link {k : Nat} {l0_0 : List S105} {l0_1 : List (List S87)} {r : (List S105) × (List (List S87))} (H : spec_l24Copy.f k l0_0 l0_1 = some r) : callW env 48 [.agg [.deep false true 2 (l0_0.map e105), .deep false true 1 (l0_1.map (eL 5 false (e87 false)))]] = some ([.agg [.deep false false 2 (r.1.map e105), .deep false false 1 (r.2.map (eL 5 false (e87 false)))]], [none, none]) := by
  unfold spec_l24Copy.f at H
  refine callW_fn' (F := spec_l24Copy.F) (tm := tmOf [(0, .agg [.slc 0 [] 0 2 0 l0_0.length, .slc 1 [] 0 1 0 l0_1.length])]) (rs := rsL [(0, some ⟨false, 2, 0, (l0_0.map e105)⟩), (1, some ⟨false, 1, 0, (l0_1.map (eL 5 false (e87 false)))⟩)]) (nx := 2) (ow := [false, false]) rfl (by rfl) (by simp only [SN]) (by simp only [SN]) (by decide) ?_
  show W env spec_l24Copy.B _ (Qf [.cell 2 (some 2)] [false, false] _)
  unfold spec_l24Copy.B
  obtain ⟨t1, e1, H⟩ := bnd_some H
  have e1 := spec_l3Copy.link e1
  try simp only [TN, simprocAttr, spec_l24Copy.c0, e1]
  refine (spec_l24Copy.w k) _ _ _ _ _ _ _ _ H _ ?_
  first | (rw [canon_eq]; done) | (rw [canon_eq]; rfl) | (rw [canon_eq]; simp only [List.length_set, List.length_append, List.length_replicate]; rfl)
end Go.Proofs.Ytinlbiphjgpmmaa.P
end YtinlbiphjgpmmaaL48
section YtinlbiphjgpmmaaL33
namespace Go.Proofs.Ytinlbiphjgpmmaa.P
open Go Go.RowKit Go.Proofs.Ytinlbiphjgpmmaa.V
set_option linter.unusedVariables false
set_option linter.unusedSimpArgs false
set_option linter.all false
set_option maxRecDepth 100000
/-! ### spec_l1In: function 33 -/
def spec_l1In.f (a0 : Int) (a1 : Int) (a2 : Int) : Option Bool := if a0 ≥ a1 then (some (decide (a0 ≤ a2))) else (some false)
set_option maxHeartbeats 4000000 in
theorem spec_l1In.link {a0 : Int} {a1 : Int} {a2 : Int} {r : Bool} (H : spec_l1In.f a0 a1 a2 = some r) : callW env 33 [.i .i64 a0, .i .i64 a1, .i .i64 a2] = some ([.b r], []) := by
  unfold spec_l1In.f at H
  refine callW_fn' (F := spec_l1In.F) (tm := tmOf [(0, .i .i64 a0), (1, .i .i64 a1), (2, .i .i64 a2)]) (rs := rsL []) (nx := 0) (ow := []) rfl (by rfl) (by simp only [SN]) (by simp only [SN]) (by decide) ?_
  show W env spec_l1In.B _ (Qf [.t 6] [] _)
  unfold spec_l1In.B
  try simp only [TN, simprocAttr]
  rcases ite_or H with ⟨h1, H⟩ | ⟨h1, H⟩
  · skip
    injection H with H; subst H
    try simp only [TN, simprocAttr, h1]
    try rfl
  · skip
    injection H with H; subst H
    try simp only [TN, simprocAttr, h1]
    try rfl
end Go.Proofs.Ytinlbiphjgpmmaa.P
end YtinlbiphjgpmmaaL33
section YtinlbiphjgpmmaaL71
namespace Go.Proofs.Ytinlbiphjgpmmaa.P
open Go Go.RowKit Go.Proofs.Ytinlbiphjgpmmaa.V
set_option linter.unusedVariables false
set_option linter.unusedSimpArgs false
set_option linter.all false
set_option maxRecDepth 100000
/-! ### spec_LabelOk: function 71 -/
def spec_LabelOk.f (a0 : Int) : Option Bool := (spec_l1In.f a0 0 5).bind fun t1 => (some t1)
set_option maxHeartbeats 4000000 in
theorem spec_LabelOk.link {a0 : Int} {r : Bool} (H : spec_LabelOk.f a0 = some r) : callW env 71 [.i .i64 a0] = some ([.b r], []) := by
  unfold spec_LabelOk.f at H
  refine callW_fn' (F := spec_LabelOk.F) (tm := tmOf [(0, .i .i64 a0)]) (rs := rsL []) (nx := 0) (ow := []) rfl (by rfl) (by simp only [SN]) (by simp only [SN]) (by decide) ?_
  show W env spec_LabelOk.B _ (Qf [.t 2] [] _)
  unfold spec_LabelOk.B
  obtain ⟨t1, e1, H⟩ := bnd_some H
  have e1 := spec_l1In.link e1
  injection H with H; subst H
  try simp only [TN, simprocAttr, e1]
  try rfl
end Go.Proofs.Ytinlbiphjgpmmaa.P
end YtinlbiphjgpmmaaL71
section YtinlbiphjgpmmaaL86
namespace Go.Proofs.Ytinlbiphjgpmmaa.P
open Go Go.RowKit Go.Proofs.Ytinlbiphjgpmmaa.V
set_option linter.unusedVariables false
set_option linter.unusedSimpArgs false
set_option linter.all false
set_option maxRecDepth 100000
/-! ### spec_TreeOk: function 86 -/
def spec_TreeOk.l0 : Nat → (List S105) → Int → Option Bool
 | 0, _, _ => none
 | k + 1, l0, x3 => if x3 < (l0.length : Int) then (if 0 ≤ x3 then ((spec_LabelOk.f ((rd_T105 l0 x3).f0)).bind fun t1 => (if t1 = true then ((spec_l1In.f ((rd_T105 l0 x3).f1) 0 12).bind fun t2 => (if t2 = true then (if (decide (((rd_T105 l0 x3).f1) = 0)) = (decide (x3 = 0)) then (if x3 > 0 then (if 0 ≤ wrap64 (x3 - 1) then (if wrap64 (x3 - 1) < (l0.length : Int) then (if ((rd_T105 l0 x3).f1) > (wrap64 (((rd_T105 l0 (wrap64 (x3 - 1))).f1) + 1)) then (some false) else (spec_TreeOk.l0 k l0 (wrap64 (x3 + 1)))) else none) else none) else (spec_TreeOk.l0 k l0 (wrap64 (x3 + 1)))) else (some false)) else (some false))) else (some false))) else none) else ((spec_l1In.f (l0.length : Int) 1 24).bind fun t3 => (some t3))
def spec_TreeOk.f (k : Nat) (l0 : List S105) : Option Bool := spec_TreeOk.l0 k l0 0
def spec_TreeOk.P0 (k : Nat) : Prop := ∀ (l0 : List S105) (x3 : Int) (r : Bool), spec_TreeOk.l0 k l0 x3 = some r → ∀ st, canon 1 [0, 3] st = ⟨tmOf [(0, .slc 0 [] 0 2 0 l0.length), (3, .i .i64 x3)], rsL [(0, some ⟨false, 2, 0, (l0.map e105)⟩)], 1⟩ → W env spec_TreeOk.c1 st (Qb 0 (Qs env spec_TreeOk.c0 (Qf [.t 2] [false] ([.b r], [none]))))
set_option maxHeartbeats 4000000 in
theorem spec_TreeOk.s0 (k : Nat) (ih : spec_TreeOk.P0 k) : spec_TreeOk.P0 (k + 1) := by
  intro l0 x3 r H st hst
  rw [spec_TreeOk.l0] at H
  rw [W_loopc (show spec_TreeOk.c1 = C.loop 1 [0, 3] spec_TreeOk.d1 from rfl), hst]
  unfold spec_TreeOk.d1
  try simp only [TN, simprocAttr, spec_TreeOk.c0]
  rcases ite_or H with ⟨h1, H⟩ | ⟨h1, H⟩
  · skip
    obtain ⟨h2, H⟩ := ite_no H
    obtain ⟨t1, e3, H⟩ := bnd_some H
    have e3 := spec_LabelOk.link e3
    try simp only [TN, simprocAttr, spec_TreeOk.c0, h1, h2, e3]
    rcases ite_b H with ⟨h4, H⟩ | ⟨h4, H⟩
    · skip
      obtain ⟨t2, e5, H⟩ := bnd_some H
      have e5 := spec_l1In.link e5
      try simp only [TN, simprocAttr, spec_TreeOk.c0, h1, h2, e3, h4, e5]
      rcases ite_b H with ⟨h6, H⟩ | ⟨h6, H⟩
      · skip
        try simp only [TN, simprocAttr, spec_TreeOk.c0, h1, h2, e3, h4, e5, h6]
        rcases ite_or H with ⟨h7, H⟩ | ⟨h7, H⟩
        · skip
          try simp only [TN, simprocAttr, spec_TreeOk.c0, h1, h2, e3, h4, e5, h6, eq_true h7]
          rcases ite_or H with ⟨h8, H⟩ | ⟨h8, H⟩
          · skip
            obtain ⟨h9, H⟩ := ite_no H
            obtain ⟨h10, H⟩ := ite_no H
            try simp only [TN, simprocAttr, spec_TreeOk.c0, h1, h2, e3, h4, e5, h6, eq_true h7, h8, h9, h10]
            rcases ite_or H with ⟨h11, H⟩ | ⟨h11, H⟩
            · skip
              injection H with H; subst H
              try simp only [TN, simprocAttr, spec_TreeOk.c0, h1, h2, e3, h4, e5, h6, eq_true h7, h8, h9, h10, h11]
              try rfl
            · skip
              try simp only [TN, simprocAttr, spec_TreeOk.c0, h1, h2, e3, h4, e5, h6, eq_true h7, h8, h9, h10, h11]
              refine ih _ _ _ H _ ?_
              first | (rw [canon_eq]; done) | (rw [canon_eq]; rfl) | (rw [canon_eq]; simp only [List.length_set, List.length_append, List.length_replicate]; rfl)
          · skip
            try simp only [TN, simprocAttr, spec_TreeOk.c0, h1, h2, e3, h4, e5, h6, eq_true h7, h8]
            refine ih _ _ _ H _ ?_
            first | (rw [canon_eq]; done) | (rw [canon_eq]; rfl) | (rw [canon_eq]; simp only [List.length_set, List.length_append, List.length_replicate]; rfl)
        · skip
          injection H with H; subst H
          try simp only [TN, simprocAttr, spec_TreeOk.c0, h1, h2, e3, h4, e5, h6, h7]
          try rfl
      · skip
        injection H with H; subst H
        try simp only [TN, simprocAttr, spec_TreeOk.c0, h1, h2, e3, h4, e5, h6]
        try rfl
    · skip
      injection H with H; subst H
      try simp only [TN, simprocAttr, spec_TreeOk.c0, h1, h2, e3, h4]
      try rfl
  · skip
    obtain ⟨t3, e12, H⟩ := bnd_some H
    have e12 := spec_l1In.link e12
    injection H with H; subst H
    try simp only [TN, simprocAttr, spec_TreeOk.c0, h1, e12]
    try rfl
theorem spec_TreeOk.w : ∀ k, spec_TreeOk.P0 k := by
  intro k
  induction k with
  | zero => exact by intro l0 x3 r H; cases (show (none : Option Bool) = some r from H)
  | succ k ih => exact spec_TreeOk.s0 k ih
set_option maxHeartbeats 4000000 in
theorem spec_TreeOk.link {k : Nat} {l0 : List S105} {r : Bool} (H : spec_TreeOk.f k l0 = some r) : callW env 86 [.deep false true 2 (l0.map e105)] = some ([.b r], [none]) := by
  unfold spec_TreeOk.f at H
  refine callW_fn' (F := spec_TreeOk.F) (tm := tmOf [(0, .slc 0 [] 0 2 0 l0.length)]) (rs := rsL [(0, some ⟨false, 2, 0, (l0.map e105)⟩)]) (nx := 1) (ow := [false]) rfl (by rfl) (by simp only [SN]) (by simp only [SN]) (by decide) ?_
  show W env spec_TreeOk.B _ (Qf [.t 2] [false] _)
  unfold spec_TreeOk.B
  try simp only [TN, simprocAttr, spec_TreeOk.c0]
  refine (spec_TreeOk.w k) _ _ _ H _ ?_
  first | (rw [canon_eq]; done) | (rw [canon_eq]; rfl) | (rw [canon_eq]; simp only [List.length_set, List.length_append, List.length_replicate]; rfl)
end Go.Proofs.Ytinlbiphjgpmmaa.P
end YtinlbiphjgpmmaaL86
section YtinlbiphjgpmmaaL131
namespace Go.Proofs.Ytinlbiphjgpmmaa.P
open Go Go.RowKit Go.Proofs.Ytinlbiphjgpmmaa.V
set_option linter.unusedVariables false
set_option linter.unusedSimpArgs false
set_option linter.all false
set_option maxRecDepth 100000
/-! ### spec_l3At: function 131 -/
def spec_l3At.f (k : Nat) (l0 : List S105) (a1 : Int) : Option Bool := (spec_TreeOk.f k l0).bind fun t1 => (if t1 = true then ((spec_l1In.f a1 0 (wrap64 ((l0.length : Int) - 1))).bind fun t2 => (some t2)) else (some false))
set_option maxHeartbeats 4000000 in
theorem spec_l3At.link {k : Nat} {l0 : List S105} {a1 : Int} {r : Bool} (H : spec_l3At.f k l0 a1 = some r) : callW env 131 [.deep false true 2 (l0.map e105), .i .i64 a1] = some ([.b r], [none]) := by
  unfold spec_l3At.f at H
  refine callW_fn' (F := spec_l3At.F) (tm := tmOf [(0, .slc 0 [] 0 2 0 l0.length), (1, .i .i64 a1)]) (rs := rsL [(0, some ⟨false, 2, 0, (l0.map e105)⟩)]) (nx := 1) (ow := [false]) rfl (by rfl) (by simp only [SN]) (by simp only [SN]) (by decide) ?_
  show W env spec_l3At.B _ (Qf [.t 4] [false] _)
  unfold spec_l3At.B
  obtain ⟨t1, e1, H⟩ := bnd_some H
  have e1 := spec_TreeOk.link e1
  try simp only [TN, simprocAttr, e1]
  rcases ite_b H with ⟨h2, H⟩ | ⟨h2, H⟩
  · skip
    obtain ⟨t2, e3, H⟩ := bnd_some H
    have e3 := spec_l1In.link e3
    injection H with H; subst H
    try simp only [TN, simprocAttr, e1, h2, e3]
    try rfl
  · skip
    injection H with H; subst H
    try simp only [TN, simprocAttr, e1, h2]
    try rfl
end Go.Proofs.Ytinlbiphjgpmmaa.P
end YtinlbiphjgpmmaaL131
section YtinlbiphjgpmmaaL118
namespace Go.Proofs.Ytinlbiphjgpmmaa.P
open Go Go.RowKit Go.Proofs.Ytinlbiphjgpmmaa.V
set_option linter.unusedVariables false
set_option linter.unusedSimpArgs false
set_option linter.all false
set_option maxRecDepth 100000
/-! ### spec_EndOf: function 118 -/
def spec_EndOf.l0 : Nat → (List S105) → Int → Int → Option Int
 | 0, _, _, _ => none
 | k + 1, l0, a1, x5 => if x5 < (l0.length : Int) then (if 0 ≤ x5 then (if 0 ≤ a1 then (if a1 < (l0.length : Int) then (if ((rd_T105 l0 x5).f1) > ((rd_T105 l0 a1).f1) then (spec_EndOf.l0 k l0 a1 (wrap64 (x5 + 1))) else (some x5)) else none) else none) else none) else (some x5)
def spec_EndOf.f (k : Nat) (l0 : List S105) (a1 : Int) : Option Int := (spec_l3At.f k l0 a1).bind fun t1 => (if t1 = true then (spec_EndOf.l0 k l0 a1 (wrap64 (a1 + 1))) else (some (-1)))
def spec_EndOf.P0 (k : Nat) : Prop := ∀ (l0 : List S105) (a1 : Int) (x5 : Int) (r : Int), spec_EndOf.l0 k l0 a1 x5 = some r → ∀ st, canon 1 [0, 1, 5] st = ⟨tmOf [(0, .slc 0 [] 0 2 0 l0.length), (1, .i .i64 a1), (5, .i .i64 x5)], rsL [(0, some ⟨false, 2, 0, (l0.map e105)⟩)], 1⟩ → W env spec_EndOf.c1 st (Qb 0 (Qs env spec_EndOf.c0 (Qf [.t 4] [false] ([.i .i64 r], [none]))))
set_option maxHeartbeats 4000000 in
theorem spec_EndOf.s0 (k : Nat) (ih : spec_EndOf.P0 k) : spec_EndOf.P0 (k + 1) := by
  intro l0 a1 x5 r H st hst
  rw [spec_EndOf.l0] at H
  rw [W_loopc (show spec_EndOf.c1 = C.loop 1 [0, 1, 5] spec_EndOf.d1 from rfl), hst]
  unfold spec_EndOf.d1
  try simp only [TN, simprocAttr, spec_EndOf.c0]
  rcases ite_or H with ⟨h1, H⟩ | ⟨h1, H⟩
  · skip
    obtain ⟨h2, H⟩ := ite_no H
    obtain ⟨h3, H⟩ := ite_no H
    obtain ⟨h4, H⟩ := ite_no H
    try simp only [TN, simprocAttr, spec_EndOf.c0, h1, h2, h3, h4]
    rcases ite_or H with ⟨h5, H⟩ | ⟨h5, H⟩
    · skip
      try simp only [TN, simprocAttr, spec_EndOf.c0, h1, h2, h3, h4, h5]
      refine ih _ _ _ _ H _ ?_
      first | (rw [canon_eq]; done) | (rw [canon_eq]; rfl) | (rw [canon_eq]; simp only [List.length_set, List.length_append, List.length_replicate]; rfl)
    · skip
      injection H with H; subst H
      try simp only [TN, simprocAttr, spec_EndOf.c0, h1, h2, h3, h4, h5]
      try rfl
  · skip
    injection H with H; subst H
    try simp only [TN, simprocAttr, spec_EndOf.c0, h1]
    try rfl
theorem spec_EndOf.w : ∀ k, spec_EndOf.P0 k := by
  intro k
  induction k with
  | zero => exact by intro l0 a1 x5 r H; cases (show (none : Option Int) = some r from H)
  | succ k ih => exact spec_EndOf.s0 k ih
set_option maxHeartbeats 4000000 in
theorem spec_EndOf.link {k : Nat} {l0 : List S105} {a1 : Int} {r : Int} (H : spec_EndOf.f k l0 a1 = some r) : callW env 118 [.deep false true 2 (l0.map e105), .i .i64 a1] = some ([.i .i64 r], [none]) := by
  unfold spec_EndOf.f at H
  refine callW_fn' (F := spec_EndOf.F) (tm := tmOf [(0, .slc 0 [] 0 2 0 l0.length), (1, .i .i64 a1)]) (rs := rsL [(0, some ⟨false, 2, 0, (l0.map e105)⟩)]) (nx := 1) (ow := [false]) rfl (by rfl) (by simp only [SN]) (by simp only [SN]) (by decide) ?_
  show W env spec_EndOf.B _ (Qf [.t 4] [false] _)
  unfold spec_EndOf.B
  obtain ⟨t1, e1, H⟩ := bnd_some H
  have e1 := spec_l3At.link e1
  try simp only [TN, simprocAttr, spec_EndOf.c0, e1]
  rcases ite_b H with ⟨h2, H⟩ | ⟨h2, H⟩
  · skip
    try simp only [TN, simprocAttr, spec_EndOf.c0, e1, h2]
    refine (spec_EndOf.w k) _ _ _ _ H _ ?_
    first | (rw [canon_eq]; done) | (rw [canon_eq]; rfl) | (rw [canon_eq]; simp only [List.length_set, List.length_append, List.length_replicate]; rfl)
  · skip
    injection H with H; subst H
    try simp only [TN, simprocAttr, spec_EndOf.c0, e1, h2]
    try rfl
end Go.Proofs.Ytinlbiphjgpmmaa.P
end YtinlbiphjgpmmaaL118
section YtinlbiphjgpmmaaL120
namespace Go.Proofs.Ytinlbiphjgpmmaa.P
open Go Go.RowKit Go.Proofs.Ytinlbiphjgpmmaa.V
set_option linter.unusedVariables false
set_option linter.unusedSimpArgs false
set_option linter.all false
set_option maxRecDepth 100000
/-! ### spec_KidsOf: function 120 -/
def spec_KidsOf.l0 : Nat → (List S105) → Int → (List Int) → Int → Option (List Int)
 | 0, _, _, _, _ => none
 | k + 1, l0, a1, x5, x6 => (spec_l3At.f k l0 a1).bind fun t1 => (if t1 = true then ((spec_EndOf.f k l0 a1).bind fun t2 => (if x6 < t2 then (if 0 ≤ x6 then (if x6 < (l0.length : Int) then (if 0 ≤ a1 then (if a1 < (l0.length : Int) then (if ((rd_T105 l0 x6).f1) = (wrap64 (((rd_T105 l0 a1).f1) + 1)) then (if x5.length < 17592186044416 then (spec_KidsOf.l0 k l0 a1 (x5 ++ ([x6])) (wrap64 (x6 + 1))) else none) else (spec_KidsOf.l0 k l0 a1 x5 (wrap64 (x6 + 1)))) else none) else none) else none) else none) else (some x5))) else (some x5))
def spec_KidsOf.f (k : Nat) (l0 : List S105) (a1 : Int) : Option (List Int) := spec_KidsOf.l0 k l0 a1 ([] : List Int) (wrap64 (a1 + 1))
def spec_KidsOf.P0 (k : Nat) : Prop := ∀ (l0 : List S105) (a1 : Int) (x5 : List Int) (x6 : Int) (r : (List Int)), spec_KidsOf.l0 k l0 a1 x5 x6 = some r → ∀ st, canon 1 [0, 1, 5, 6] st = ⟨tmOf [(0, .slc 0 [] 0 2 0 l0.length), (1, .i .i64 a1), (5, .slc 1 [] 0 1 0 x5.length), (6, .i .i64 x6)], rsL [(0, some ⟨false, 2, 0, (l0.map e105)⟩), (1, some ⟨true, 1, 0, (x5.map eI)⟩)], 2⟩ → W env spec_KidsOf.c1 st (Qb 0 (Qs env spec_KidsOf.c0 (Qf [.t 4] [false] ([.deep false false 1 (r.map eI)], [none]))))
set_option maxHeartbeats 4000000 in
theorem spec_KidsOf.s0 (k : Nat) (ih : spec_KidsOf.P0 k) : spec_KidsOf.P0 (k + 1) := by
  intro l0 a1 x5 x6 r H st hst
  rw [spec_KidsOf.l0] at H
  rw [W_loopc (show spec_KidsOf.c1 = C.loop 1 [0, 1, 5, 6] spec_KidsOf.d1 from rfl), hst]
  unfold spec_KidsOf.d1
  obtain ⟨t1, e1, H⟩ := bnd_some H
  have e1 := spec_l3At.link e1
  try simp only [TN, simprocAttr, spec_KidsOf.c0, e1]
  rcases ite_b H with ⟨h2, H⟩ | ⟨h2, H⟩
  · skip
    obtain ⟨t2, e3, H⟩ := bnd_some H
    have e3 := spec_EndOf.link e3
    try simp only [TN, simprocAttr, spec_KidsOf.c0, e1, h2, e3]
    rcases ite_or H with ⟨h4, H⟩ | ⟨h4, H⟩
    · skip
      obtain ⟨h5, H⟩ := ite_no H
      obtain ⟨h6, H⟩ := ite_no H
      obtain ⟨h7, H⟩ := ite_no H
      obtain ⟨h8, H⟩ := ite_no H
      try simp only [TN, simprocAttr, spec_KidsOf.c0, e1, h2, e3, h4, h5, h6, h7, h8]
      rcases ite_or H with ⟨h9, H⟩ | ⟨h9, H⟩
      · skip
        obtain ⟨h10, H⟩ := ite_no H
        have h11 : (x5.length + 1) * 8 ≤ 140737488355328 := by omega
        try simp only [TN, simprocAttr, spec_KidsOf.c0, e1, h2, e3, h4, h5, h6, h7, h8, eq_true h9, h10, h11]
        refine ih _ _ _ _ _ H _ ?_
        first | (rw [canon_eq]; done) | (rw [canon_eq]; rfl) | (rw [canon_eq]; simp only [List.length_set, List.length_append, List.length_replicate]; rfl)
      · skip
        try simp only [TN, simprocAttr, spec_KidsOf.c0, e1, h2, e3, h4, h5, h6, h7, h8, h9]
        refine ih _ _ _ _ _ H _ ?_
        first | (rw [canon_eq]; done) | (rw [canon_eq]; rfl) | (rw [canon_eq]; simp only [List.length_set, List.length_append, List.length_replicate]; rfl)
    · skip
      injection H with H; subst H
      try simp only [TN, simprocAttr, spec_KidsOf.c0, e1, h2, e3, h4]
      try rfl
  · skip
    injection H with H; subst H
    try simp only [TN, simprocAttr, spec_KidsOf.c0, e1, h2]
    try rfl
theorem spec_KidsOf.w : ∀ k, spec_KidsOf.P0 k := by
  intro k
  induction k with
  | zero => exact by intro l0 a1 x5 x6 r H; cases (show (none : Option (List Int)) = some r from H)
  | succ k ih => exact spec_KidsOf.s0 k ih
set_option maxHeartbeats 4000000 in
theorem spec_KidsOf.link {k : Nat} {l0 : List S105} {a1 : Int} {r : (List Int)} (H : spec_KidsOf.f k l0 a1 = some r) : callW env 120 [.deep false true 2 (l0.map e105), .i .i64 a1] = some ([.deep false false 1 (r.map eI)], [none]) := by
  unfold spec_KidsOf.f at H
  refine callW_fn' (F := spec_KidsOf.F) (tm := tmOf [(0, .slc 0 [] 0 2 0 l0.length), (1, .i .i64 a1)]) (rs := rsL [(0, some ⟨false, 2, 0, (l0.map e105)⟩)]) (nx := 1) (ow := [false]) rfl (by rfl) (by simp only [SN]) (by simp only [SN]) (by decide) ?_
  show W env spec_KidsOf.B _ (Qf [.t 4] [false] _)
  unfold spec_KidsOf.B
  try simp only [TN, simprocAttr, spec_KidsOf.c0]
  refine (spec_KidsOf.w k) _ _ _ _ _ H _ ?_
  first | (rw [canon_eq]; done) | (rw [canon_eq]; rfl) | (rw [canon_eq]; simp only [List.length_set, List.length_append, List.length_replicate]; rfl)
end Go.Proofs.Ytinlbiphjgpmmaa.P
end YtinlbiphjgpmmaaL120
section YtinlbiphjgpmmaaL116
namespace Go.Proofs.Ytinlbiphjgpmmaa.P
open Go Go.RowKit Go.Proofs.Ytinlbiphjgpmmaa.V
set_option linter.unusedVariables false
set_option linter.unusedSimpArgs false
set_option linter.all false
set_option maxRecDepth 100000
/-! ### spec_NodeAt: function 116 -/
def spec_NodeAt.l0 : Nat → (List S105) → (List Int) → Int → Int → Option Int
 | 0, _, _, _, _ => none
 | k + 1, l0, l1, x5, x6 => if x6 < (l1.length : Int) then ((spec_KidsOf.f k l0 x5).bind fun t2 => (if 0 ≤ x6 then ((spec_l1In.f (rd l1 x6) 0 (wrap64 ((t2.length : Int) - 1))).bind fun t3 => (if t3 = true then (if 0 ≤ rd l1 x6 then (if rd l1 x6 < (t2.length : Int) then (spec_NodeAt.l0 k l0 l1 (rd t2 (rd l1 x6)) (wrap64 (x6 + 1))) else none) else none) else (some (-1)))) else none)) else (some x5)
def spec_NodeAt.f (k : Nat) (l0 : List S105) (l1 : List Int) : Option Int := (spec_TreeOk.f k l0).bind fun t1 => (if t1 = true then (spec_NodeAt.l0 k l0 l1 0 0) else (some (-1)))
def spec_NodeAt.P0 (k : Nat) : Prop := ∀ (l0 : List S105) (l1 : List Int) (x5 : Int) (x6 : Int) (r : Int), spec_NodeAt.l0 k l0 l1 x5 x6 = some r → ∀ st, canon 2 [0, 1, 5, 6] st = ⟨tmOf [(0, .slc 0 [] 0 2 0 l0.length), (1, .slc 1 [] 0 1 0 l1.length), (5, .i .i64 x5), (6, .i .i64 x6)], rsL [(0, some ⟨false, 2, 0, (l0.map e105)⟩), (1, some ⟨false, 1, 0, (l1.map eI)⟩)], 2⟩ → W env spec_NodeAt.c1 st (Qb 0 (Qs env spec_NodeAt.c0 (Qf [.t 4] [false, false] ([.i .i64 r], [none, none]))))
set_option maxHeartbeats 4000000 in
theorem spec_NodeAt.s0 (k : Nat) (ih : spec_NodeAt.P0 k) : spec_NodeAt.P0 (k + 1) := by
  intro l0 l1 x5 x6 r H st hst
  rw [spec_NodeAt.l0] at H
  rw [W_loopc (show spec_NodeAt.c1 = C.loop 2 [0, 1, 5, 6] spec_NodeAt.d1 from rfl), hst]
  unfold spec_NodeAt.d1
  try simp only [TN, simprocAttr, spec_NodeAt.c0]
  rcases ite_or H with ⟨h1, H⟩ | ⟨h1, H⟩
  · skip
    obtain ⟨t2, e2, H⟩ := bnd_some H
    have e2 := spec_KidsOf.link e2
    obtain ⟨h3, H⟩ := ite_no H
    obtain ⟨t3, e4, H⟩ := bnd_some H
    have e4 := spec_l1In.link e4
    try simp only [TN, simprocAttr, spec_NodeAt.c0, h1, e2, h3, e4]
    rcases ite_b H with ⟨h5, H⟩ | ⟨h5, H⟩
    · skip
      obtain ⟨h6, H⟩ := ite_no H
      obtain ⟨h7, H⟩ := ite_no H
      try simp only [TN, simprocAttr, spec_NodeAt.c0, h1, e2, h3, e4, h5, h6, h7]
      refine ih _ _ _ _ _ H _ ?_
      first | (rw [canon_eq]; done) | (rw [canon_eq]; rfl) | (rw [canon_eq]; simp only [List.length_set, List.length_append, List.length_replicate]; rfl)
    · skip
      injection H with H; subst H
      try simp only [TN, simprocAttr, spec_NodeAt.c0, h1, e2, h3, e4, h5]
      try rfl
  · skip
    injection H with H; subst H
    try simp only [TN, simprocAttr, spec_NodeAt.c0, h1]
    try rfl
theorem spec_NodeAt.w : ∀ k, spec_NodeAt.P0 k := by
  intro k
  induction k with
  | zero => exact by intro l0 l1 x5 x6 r H; cases (show (none : Option Int) = some r from H)
  | succ k ih => exact spec_NodeAt.s0 k ih
set_option maxHeartbeats 4000000 in
theorem spec_NodeAt.link {k : Nat} {l0 : List S105} {l1 : List Int} {r : Int} (H : spec_NodeAt.f k l0 l1 = some r) : callW env 116 [.deep false true 2 (l0.map e105), .deep false true 1 (l1.map eI)] = some ([.i .i64 r], [none, none]) := by
  unfold spec_NodeAt.f at H
  refine callW_fn' (F := spec_NodeAt.F) (tm := tmOf [(0, .slc 0 [] 0 2 0 l0.length), (1, .slc 1 [] 0 1 0 l1.length)]) (rs := rsL [(0, some ⟨false, 2, 0, (l0.map e105)⟩), (1, some ⟨false, 1, 0, (l1.map eI)⟩)]) (nx := 2) (ow := [false, false]) rfl (by rfl) (by simp only [SN]) (by simp only [SN]) (by decide) ?_
  show W env spec_NodeAt.B _ (Qf [.t 4] [false, false] _)
  unfold spec_NodeAt.B
  obtain ⟨t1, e1, H⟩ := bnd_some H
  have e1 := spec_TreeOk.link e1
  try simp only [TN, simprocAttr, spec_NodeAt.c0, e1]
  rcases ite_b H with ⟨h2, H⟩ | ⟨h2, H⟩
  · skip
    try simp only [TN, simprocAttr, spec_NodeAt.c0, e1, h2]
    refine (spec_NodeAt.w k) _ _ _ _ _ H _ ?_
    first | (rw [canon_eq]; done) | (rw [canon_eq]; rfl) | (rw [canon_eq]; simp only [List.length_set, List.length_append, List.length_replicate]; rfl)
  · skip
    injection H with H; subst H
    try simp only [TN, simprocAttr, spec_NodeAt.c0, e1, h2]
    try rfl
end Go.Proofs.Ytinlbiphjgpmmaa.P
end YtinlbiphjgpmmaaL116
section YtinlbiphjgpmmaaL117
namespace Go.Proofs.Ytinlbiphjgpmmaa.P
open Go Go.RowKit Go.Proofs.Ytinlbiphjgpmmaa.V
set_option linter.unusedVariables false
set_option linter.unusedSimpArgs false
set_option linter.all false
set_option maxRecDepth 100000
/-! ### spec_l13Code: function 117 -/
def spec_l13Code.l0 : Nat → (List S105) → Int → Int → Int → Int → (List Int) → Option (Int × Int × Int)
 | 0, _, _, _, _, _, _ => none
 | k + 1, l0, x10, x11, x12, x13, l1_1 => if x13 < x11 then (if 0 ≤ x13 then (if x13 < (l0.length : Int) then (spec_l13Code.l0 k l0 x10 x11 (mx x12 (wrap64 (((rd_T105 l0 x13).f1) + 1))) (wrap64 (x13 + 1)) l1_1) else none) else none) else (if x12 > 12 then (some (7, 0, 0)) else (some (0, x10, x11)))
def spec_l13Code.f (k : Nat) (l0 : List S105) (a1_0 : Int) (l1_1 : List Int) (a1_2 : Int) (a1_3 : Int) (a1_4 : Int) (a2 : Int) : Option (Int × Int × Int) := (spec_l1In.f a1_0 1 3).bind fun t1 => (if t1 = true then (if a2 < 0 then (some (2, 0, 0)) else (if a1_0 = 2 then (if a2 = 0 then (some (4, 0, 0)) else (if a1_0 = 3 then ((spec_KidsOf.f k l0 a2).bind fun t2 => ((spec_l1In.f a1_3 0 (t2.length : Int)).bind fun t3 => (if t3 = true then ((spec_l1In.f a1_4 0 (wrap64 ((t2.length : Int) - a1_3))).bind fun t4 => (if t4 = true then ((spec_EndOf.f k l0 a2).bind fun t5 => (if t2.length < 17592186044416 then ((some (t2 ++ ([t5]) : List Int)).bind fun y0 => (if 0 ≤ a1_3 then (if a1_3 < (y0.length : Int) then (if 0 ≤ wrap64 (a1_3 + a1_4) then (if wrap64 (a1_3 + a1_4) < (y0.length : Int) then (if (l0.length : Int) = 24 then (some (6, 0, 0)) else (if 0 ≤ a2 then (if a2 < (l0.length : Int) then (spec_l13Code.l0 k l0 (rd y0 a1_3) (rd y0 (wrap64 (a1_3 + a1_4))) (wrap64 (((rd_T105 l0 a2).f1) + 1)) (rd y0 a1_3) l1_1) else none) else none)) else none) else none) else none) else none)) else none)) else (some (5, 0, 0)))) else (some (5, 0, 0))))) else (some (0, 0, 0)))) else ((spec_LabelOk.f a1_2).bind fun t6 => (if t6 = true then (if a1_0 = 3 then ((spec_KidsOf.f k l0 a2).bind fun t7 => ((spec_l1In.f a1_3 0 (t7.length : Int)).bind fun t8 => (if t8 = true then ((spec_l1In.f a1_4 0 (wrap64 ((t7.length : Int) - a1_3))).bind fun t9 => (if t9 = true then ((spec_EndOf.f k l0 a2).bind fun t10 => (if t7.length < 17592186044416 then ((some (t7 ++ ([t10]) : List Int)).bind fun y1 => (if 0 ≤ a1_3 then (if a1_3 < (y1.length : Int) then (if 0 ≤ wrap64 (a1_3 + a1_4) then (if wrap64 (a1_3 + a1_4) < (y1.length : Int) then (if (l0.length : Int) = 24 then (some (6, 0, 0)) else (if 0 ≤ a2 then (if a2 < (l0.length : Int) then (spec_l13Code.l0 k l0 (rd y1 a1_3) (rd y1 (wrap64 (a1_3 + a1_4))) (wrap64 (((rd_T105 l0 a2).f1) + 1)) (rd y1 a1_3) l1_1) else none) else none)) else none) else none) else none) else none)) else none)) else (some (5, 0, 0)))) else (some (5, 0, 0))))) else (some (0, 0, 0))) else (some (3, 0, 0)))))) else (some (1, 0, 0)))
def spec_l13Code.P0 (k : Nat) : Prop := ∀ (l0 : List S105) (x10 : Int) (x11 : Int) (x12 : Int) (x13 : Int) (l1_1 : List Int) (r : Int × Int × Int), spec_l13Code.l0 k l0 x10 x11 x12 x13 l1_1 = some r → ∀ st, canon 2 [0, 10, 11, 12, 13] st = ⟨tmOf [(0, .slc 0 [] 0 2 0 l0.length), (10, .i .i64 x10), (11, .i .i64 x11), (12, .i .i64 x12), (13, .i .i64 x13)], rsL [(0, some ⟨false, 2, 0, (l0.map e105)⟩), (1, some ⟨false, 1, 0, (l1_1.map eI)⟩)], 2⟩ → W env spec_l13Code.c1 st (Qb 1 (Qs env spec_l13Code.c0 (Qf [.t 6, .t 7, .t 8] [false, false] ([.i .i64 r.1, .i .i64 r.2.1, .i .i64 r.2.2], [none, none]))))
set_option maxHeartbeats 4000000 in
theorem spec_l13Code.s0 (k : Nat) (ih : spec_l13Code.P0 k) : spec_l13Code.P0 (k + 1) := by
  intro l0 x10 x11 x12 x13 l1_1 r H st hst
  rw [spec_l13Code.l0] at H
  rw [W_loopc (show spec_l13Code.c1 = C.loop 2 [0, 10, 11, 12, 13] spec_l13Code.d1 from rfl), hst]
  unfold spec_l13Code.d1
  try simp only [TN, simprocAttr, spec_l13Code.c0]
  rcases ite_or H with ⟨h1, H⟩ | ⟨h1, H⟩
  · skip
    obtain ⟨h2, H⟩ := ite_no H
    obtain ⟨h3, H⟩ := ite_no H
    try simp only [TN, simprocAttr, spec_l13Code.c0, h1, h2, h3]
    refine ih _ _ _ _ _ _ _ H _ ?_
    first | (rw [canon_eq]; done) | (rw [canon_eq]; rfl) | (rw [canon_eq]; simp only [List.length_set, List.length_append, List.length_replicate]; rfl)
  · skip
    try simp only [TN, simprocAttr, spec_l13Code.c0, h1]
    rcases ite_or H with ⟨h4, H⟩ | ⟨h4, H⟩
    · skip
      injection H with H; subst H
      try simp only [TN, simprocAttr, spec_l13Code.c0, h1, h4]
      try rfl
    · skip
      injection H with H; subst H
      try simp only [TN, simprocAttr, spec_l13Code.c0, h1, h4]
      try rfl
theorem spec_l13Code.w : ∀ k, spec_l13Code.P0 k := by
  intro k
  induction k with
  | zero => exact by intro l0 x10 x11 x12 x13 l1_1 r H; cases (show (none : Option (Int × Int × Int)) = some r from H)
  | succ k ih => exact spec_l13Code.s0 k ih
set_option maxHeartbeats 4000000 in
theorem spec_l13Code.link {k : Nat} {l0 : List S105} {a1_0 : Int} {l1_1 : List Int} {a1_2 : Int} {a1_3 : Int} {a1_4 : Int} {a2 : Int} {r : Int × Int × Int} (H : spec_l13Code.f k l0 a1_0 l1_1 a1_2 a1_3 a1_4 a2 = some r) : callW env 117 [.deep false true 2 (l0.map e105), .agg [.i .i64 a1_0, .deep false true 1 (l1_1.map eI), .i .i64 a1_2, .i .i64 a1_3, .i .i64 a1_4], .i .i64 a2] = some ([.i .i64 r.1, .i .i64 r.2.1, .i .i64 r.2.2], [none, none]) := by
  unfold spec_l13Code.f at H
  refine callW_fn' (F := spec_l13Code.F) (tm := tmOf [(0, .slc 0 [] 0 2 0 l0.length), (1, .agg [.i .i64 a1_0, .slc 1 [] 0 1 0 l1_1.length, .i .i64 a1_2, .i .i64 a1_3, .i .i64 a1_4]), (2, .i .i64 a2)]) (rs := rsL [(0, some ⟨false, 2, 0, (l0.map e105)⟩), (1, some ⟨false, 1, 0, (l1_1.map eI)⟩)]) (nx := 2) (ow := [false, false]) rfl (by rfl) (by simp only [SN]) (by simp only [SN]) (by decide) ?_
  show W env spec_l13Code.B _ (Qf [.t 6, .t 7, .t 8] [false, false] _)
  unfold spec_l13Code.B
  obtain ⟨t1, e1, H⟩ := bnd_some H
  have e1 := spec_l1In.link e1
  try simp only [TN, simprocAttr, spec_l13Code.c0, e1]
  rcases ite_b H with ⟨h2, H⟩ | ⟨h2, H⟩
  · skip
    try simp only [TN, simprocAttr, spec_l13Code.c0, e1, h2]
    rcases ite_or H with ⟨h3, H⟩ | ⟨h3, H⟩
    · skip
      injection H with H; subst H
      try simp only [TN, simprocAttr, spec_l13Code.c0, e1, h2, h3]
      try rfl
    · skip
      try simp only [TN, simprocAttr, spec_l13Code.c0, e1, h2, h3]
      rcases ite_or H with ⟨h4, H⟩ | ⟨h4, H⟩
      · skip
        try simp only [TN, simprocAttr, spec_l13Code.c0, e1, h2, h3, eq_true h4]
        rcases ite_or H with ⟨h5, H⟩ | ⟨h5, H⟩
        · skip
          injection H with H; subst H
          try simp only [TN, simprocAttr, spec_l13Code.c0, e1, h2, h3, eq_true h4, eq_true h5]
          try rfl
        · skip
          try simp only [TN, simprocAttr, spec_l13Code.c0, e1, h2, h3, eq_true h4, h5]
          rcases ite_or H with ⟨h6, H⟩ | ⟨h6, H⟩
          · skip
            obtain ⟨t2, e7, H⟩ := bnd_some H
            have e7 := spec_KidsOf.link e7
            obtain ⟨t3, e8, H⟩ := bnd_some H
            have e8 := spec_l1In.link e8
            try simp only [TN, simprocAttr, spec_l13Code.c0, e1, h2, h3, eq_true h4, h5, eq_true h6, e7, e8]
            rcases ite_b H with ⟨h9, H⟩ | ⟨h9, H⟩
            · skip
              obtain ⟨t4, e10, H⟩ := bnd_some H
              have e10 := spec_l1In.link e10
              try simp only [TN, simprocAttr, spec_l13Code.c0, e1, h2, h3, eq_true h4, h5, eq_true h6, e7, e8, h9, e10]
              rcases ite_b H with ⟨h11, H⟩ | ⟨h11, H⟩
              · skip
                obtain ⟨t5, e12, H⟩ := bnd_some H
                have e12 := spec_EndOf.link e12
                obtain ⟨h13, H⟩ := ite_no H
                have h14 : (t2.length + 1) * 8 ≤ 140737488355328 := by omega
                obtain ⟨_, hy15, H⟩ := some_bnd H; subst hy15
                obtain ⟨h16, H⟩ := ite_no H
                obtain ⟨h17, H⟩ := ite_no H
                obtain ⟨h18, H⟩ := ite_no H
                obtain ⟨h19, H⟩ := ite_no H
                try simp only [TN, simprocAttr, spec_l13Code.c0, e1, h2, h3, eq_true h4, h5, eq_true h6, e7, e8, h9, e10, h11, e12, h13, h14, h16, h17, h18, h19]
                rcases ite_or H with ⟨h20, H⟩ | ⟨h20, H⟩
                · skip
                  injection H with H; subst H
                  try simp only [TN, simprocAttr, spec_l13Code.c0, e1, h2, h3, eq_true h4, h5, eq_true h6, e7, e8, h9, e10, h11, e12, h13, h14, h16, h17, h18, h19, eq_true h20]
                  try rfl
                · skip
                  obtain ⟨h21, H⟩ := ite_no H
                  obtain ⟨h22, H⟩ := ite_no H
                  try simp only [TN, simprocAttr, spec_l13Code.c0, e1, h2, h3, eq_true h4, h5, eq_true h6, e7, e8, h9, e10, h11, e12, h13, h14, h16, h17, h18, h19, h20, h21, h22]
                  refine (spec_l13Code.w k) _ _ _ _ _ _ _ H _ ?_
                  first | (rw [canon_eq]; done) | (rw [canon_eq]; rfl) | (rw [canon_eq]; simp only [List.length_set, List.length_append, List.length_replicate]; rfl)
              · skip
                injection H with H; subst H
                try simp only [TN, simprocAttr, spec_l13Code.c0, e1, h2, h3, eq_true h4, h5, eq_true h6, e7, e8, h9, e10, h11]
                try rfl
            · skip
              injection H with H; subst H
              try simp only [TN, simprocAttr, spec_l13Code.c0, e1, h2, h3, eq_true h4, h5, eq_true h6, e7, e8, h9]
              try rfl
          · skip
            injection H with H; subst H
            try simp only [TN, simprocAttr, spec_l13Code.c0, e1, h2, h3, eq_true h4, h5, h6]
            try rfl
      · skip
        obtain ⟨t6, e23, H⟩ := bnd_some H
        have e23 := spec_LabelOk.link e23
        try simp only [TN, simprocAttr, spec_l13Code.c0, e1, h2, h3, h4, e23]
        rcases ite_b H with ⟨h24, H⟩ | ⟨h24, H⟩
        · skip
          try simp only [TN, simprocAttr, spec_l13Code.c0, e1, h2, h3, h4, e23, h24]
          rcases ite_or H with ⟨h25, H⟩ | ⟨h25, H⟩
          · skip
            obtain ⟨t7, e26, H⟩ := bnd_some H
            have e26 := spec_KidsOf.link e26
            obtain ⟨t8, e27, H⟩ := bnd_some H
            have e27 := spec_l1In.link e27
            try simp only [TN, simprocAttr, spec_l13Code.c0, e1, h2, h3, h4, e23, h24, eq_true h25, e26, e27]
            rcases ite_b H with ⟨h28, H⟩ | ⟨h28, H⟩
            · skip
              obtain ⟨t9, e29, H⟩ := bnd_some H
              have e29 := spec_l1In.link e29
              try simp only [TN, simprocAttr, spec_l13Code.c0, e1, h2, h3, h4, e23, h24, eq_true h25, e26, e27, h28, e29]
              rcases ite_b H with ⟨h30, H⟩ | ⟨h30, H⟩
              · skip
                obtain ⟨t10, e31, H⟩ := bnd_some H
                have e31 := spec_EndOf.link e31
                obtain ⟨h32, H⟩ := ite_no H
                have h33 : (t7.length + 1) * 8 ≤ 140737488355328 := by omega
                obtain ⟨_, hy34, H⟩ := some_bnd H; subst hy34
                obtain ⟨h35, H⟩ := ite_no H
                obtain ⟨h36, H⟩ := ite_no H
                obtain ⟨h37, H⟩ := ite_no H
                obtain ⟨h38, H⟩ := ite_no H
                try simp only [TN, simprocAttr, spec_l13Code.c0, e1, h2, h3, h4, e23, h24, eq_true h25, e26, e27, h28, e29, h30, e31, h32, h33, h35, h36, h37, h38]
                rcases ite_or H with ⟨h39, H⟩ | ⟨h39, H⟩
                · skip
                  injection H with H; subst H
                  try simp only [TN, simprocAttr, spec_l13Code.c0, e1, h2, h3, h4, e23, h24, eq_true h25, e26, e27, h28, e29, h30, e31, h32, h33, h35, h36, h37, h38, eq_true h39]
                  try rfl
                · skip
                  obtain ⟨h40, H⟩ := ite_no H
                  obtain ⟨h41, H⟩ := ite_no H
                  try simp only [TN, simprocAttr, spec_l13Code.c0, e1, h2, h3, h4, e23, h24, eq_true h25, e26, e27, h28, e29, h30, e31, h32, h33, h35, h36, h37, h38, h39, h40, h41]
                  refine (spec_l13Code.w k) _ _ _ _ _ _ _ H _ ?_
                  first | (rw [canon_eq]; done) | (rw [canon_eq]; rfl) | (rw [canon_eq]; simp only [List.length_set, List.length_append, List.length_replicate]; rfl)
              · skip
                injection H with H; subst H
                try simp only [TN, simprocAttr, spec_l13Code.c0, e1, h2, h3, h4, e23, h24, eq_true h25, e26, e27, h28, e29, h30]
                try rfl
            · skip
              injection H with H; subst H
              try simp only [TN, simprocAttr, spec_l13Code.c0, e1, h2, h3, h4, e23, h24, eq_true h25, e26, e27, h28]
              try rfl
          · skip
            injection H with H; subst H
            try simp only [TN, simprocAttr, spec_l13Code.c0, e1, h2, h3, h4, e23, h24, h25]
            try rfl
        · skip
          injection H with H; subst H
          try simp only [TN, simprocAttr, spec_l13Code.c0, e1, h2, h3, h4, e23, h24]
          try rfl
  · skip
    injection H with H; subst H
    try simp only [TN, simprocAttr, spec_l13Code.c0, e1, h2]
    try rfl
end Go.Proofs.Ytinlbiphjgpmmaa.P
end YtinlbiphjgpmmaaL117
section YtinlbiphjgpmmaaL119
namespace Go.Proofs.Ytinlbiphjgpmmaa.P
open Go Go.RowKit Go.Proofs.Ytinlbiphjgpmmaa.V
set_option linter.unusedVariables false
set_option linter.unusedSimpArgs false
set_option linter.all false
set_option maxRecDepth 100000
/-! ### spec_l13Shift: function 119 -/
def spec_l13Shift.l0 : Nat → (List S105) → Int → Int → (List S105) → Int → Option (List S105)
 | 0, _, _, _, _, _ => none
 | k + 1, l0, a2, a3, x9, a1 => if a1 < a2 then (if 0 ≤ a1 then (if a1 < (l0.length : Int) then (if x9.length < 8796093022208 then (spec_l13Shift.l0 k l0 a2 a3 (x9 ++ ([(⟨(rd_T105 l0 a1).f0, wrap64 (((rd_T105 l0 a1).f1) + a3)⟩ : S105)])) (wrap64 (a1 + 1))) else none) else none) else none) else (some x9)
def spec_l13Shift.f (k : Nat) (l0 : List S105) (a1 : Int) (a2 : Int) (a3 : Int) : Option (List S105) := spec_l13Shift.l0 k l0 a2 a3 ([] : List S105) a1
def spec_l13Shift.P0 (k : Nat) : Prop := ∀ (l0 : List S105) (a2 : Int) (a3 : Int) (x9 : List S105) (a1 : Int) (r : (List S105)), spec_l13Shift.l0 k l0 a2 a3 x9 a1 = some r → ∀ st, canon 1 [0, 2, 3, 9, 10] st = ⟨tmOf [(0, .slc 0 [] 0 2 0 l0.length), (2, .i .i64 a2), (3, .i .i64 a3), (9, .slc 1 [] 0 2 0 x9.length), (10, .i .i64 a1)], rsL [(0, some ⟨false, 2, 0, (l0.map e105)⟩), (1, some ⟨true, 2, 0, (x9.map e105)⟩)], 2⟩ → W env spec_l13Shift.c1 st (Qb 0 (Qs env spec_l13Shift.c0 (Qf [.t 8] [false] ([.deep false false 2 (r.map e105)], [none]))))
set_option maxHeartbeats 4000000 in
theorem spec_l13Shift.s0 (k : Nat) (ih : spec_l13Shift.P0 k) : spec_l13Shift.P0 (k + 1) := by
  intro l0 a2 a3 x9 a1 r H st hst
  rw [spec_l13Shift.l0] at H
  rw [W_loopc (show spec_l13Shift.c1 = C.loop 1 [0, 2, 3, 9, 10] spec_l13Shift.d1 from rfl), hst]
  unfold spec_l13Shift.d1
  try simp only [TN, simprocAttr, spec_l13Shift.c0]
  rcases ite_or H with ⟨h1, H⟩ | ⟨h1, H⟩
  · skip
    obtain ⟨h2, H⟩ := ite_no H
    obtain ⟨h3, H⟩ := ite_no H
    obtain ⟨h4, H⟩ := ite_no H
    have h5 : (x9.length + 1) * 16 ≤ 140737488355328 := by omega
    try simp only [TN, simprocAttr, spec_l13Shift.c0, h1, h2, h3, @litX_105_1, h4, h5]
    refine ih _ _ _ _ _ _ H _ ?_
    first | (rw [canon_eq]; done) | (rw [canon_eq]; rfl) | (rw [canon_eq]; simp only [List.length_set, List.length_append, List.length_replicate]; rfl)
  · skip
    injection H with H; subst H
    try simp only [TN, simprocAttr, spec_l13Shift.c0, h1]
    try rfl
theorem spec_l13Shift.w : ∀ k, spec_l13Shift.P0 k := by
  intro k
  induction k with
  | zero => exact by intro l0 a2 a3 x9 a1 r H; cases (show (none : Option (List S105)) = some r from H)
  | succ k ih => exact spec_l13Shift.s0 k ih
set_option maxHeartbeats 4000000 in
theorem spec_l13Shift.link {k : Nat} {l0 : List S105} {a1 : Int} {a2 : Int} {a3 : Int} {r : (List S105)} (H : spec_l13Shift.f k l0 a1 a2 a3 = some r) : callW env 119 [.deep false true 2 (l0.map e105), .i .i64 a1, .i .i64 a2, .i .i64 a3] = some ([.deep false false 2 (r.map e105)], [none]) := by
  unfold spec_l13Shift.f at H
  refine callW_fn' (F := spec_l13Shift.F) (tm := tmOf [(0, .slc 0 [] 0 2 0 l0.length), (1, .i .i64 a1), (2, .i .i64 a2), (3, .i .i64 a3)]) (rs := rsL [(0, some ⟨false, 2, 0, (l0.map e105)⟩)]) (nx := 1) (ow := [false]) rfl (by rfl) (by simp only [SN]) (by simp only [SN]) (by decide) ?_
  show W env spec_l13Shift.B _ (Qf [.t 8] [false] _)
  unfold spec_l13Shift.B
  try simp only [TN, simprocAttr, spec_l13Shift.c0]
  refine (spec_l13Shift.w k) _ _ _ _ _ _ H _ ?_
  first | (rw [canon_eq]; done) | (rw [canon_eq]; rfl) | (rw [canon_eq]; simp only [List.length_set, List.length_append, List.length_replicate]; rfl)
end Go.Proofs.Ytinlbiphjgpmmaa.P
end YtinlbiphjgpmmaaL119
section YtinlbiphjgpmmaaL97
namespace Go.Proofs.Ytinlbiphjgpmmaa.P
open Go Go.RowKit Go.Proofs.Ytinlbiphjgpmmaa.V
set_option linter.unusedVariables false
set_option linter.unusedSimpArgs false
set_option linter.all false
set_option maxRecDepth 100000
/-! ### spec_ApplyOp: function 97 -/
def spec_ApplyOp.f (k : Nat) (l0 : List S105) (a1_0 : Int) (l1_1 : List Int) (a1_2 : Int) (a1_3 : Int) (a1_4 : Int) : Option ((List S105) × Int) := (spec_TreeOk.f k l0).bind fun t1 => (if t1 = true then ((spec_NodeAt.f k l0 l1_1).bind fun t2 => ((spec_l3Copy.f l0).bind fun t3 => ((spec_l13Code.f k l0 a1_0 l1_1 a1_2 a1_3 a1_4 t2).bind fun bt4 => (if bt4.1 = 0 then (if a1_0 = 1 then (if 0 ≤ t2 then (if t2 < (t3.length : Int) then (some ((t3.set (t2 : Int).toNat (⟨a1_2, (rd_T105 t3 t2).f1⟩ : S105)), bt4.1)) else none) else none) else (if a1_0 = 2 then ((spec_EndOf.f k l0 t2).bind fun t5 => ((spec_l13Shift.f k l0 0 t2 0).bind fun t6 => ((spec_l13Shift.f k l0 (wrap64 (t2 + 1)) t5 (-1)).bind fun t7 => (if (t6.length + t7.length) * 16 ≤ 140737488355328 then ((some (t6 ++ t7 : List S105)).bind fun y1 => ((spec_l13Shift.f k l0 t5 (l0.length : Int) 0).bind fun t8 => (if (y1.length + t8.length) * 16 ≤ 140737488355328 then (some ((y1 ++ t8), bt4.1)) else none))) else none)))) else (if 0 ≤ t2 then (if t2 < (l0.length : Int) then ((spec_l13Shift.f k l0 0 bt4.2.1 0).bind fun t9 => (if t9.length < 8796093022208 then ((some (t9 ++ ([(⟨a1_2, wrap64 (((rd_T105 l0 t2).f1) + 1)⟩ : S105)]) : List S105)).bind fun y3 => ((spec_l13Shift.f k l0 bt4.2.1 bt4.2.2 1).bind fun t10 => (if (y3.length + t10.length) * 16 ≤ 140737488355328 then ((some (y3 ++ t10 : List S105)).bind fun y4 => ((spec_l13Shift.f k l0 bt4.2.2 (l0.length : Int) 0).bind fun t11 => (if (y4.length + t11.length) * 16 ≤ 140737488355328 then (some ((y4 ++ t11), bt4.1)) else none))) else none))) else none)) else none) else none))) else (some (t3, bt4.1)))))) else (some (([] : List S105), 2)))
set_option maxHeartbeats 4000000 in
theorem spec_ApplyOp.link {k : Nat} {l0 : List S105} {a1_0 : Int} {l1_1 : List Int} {a1_2 : Int} {a1_3 : Int} {a1_4 : Int} {r : (List S105) × Int} (H : spec_ApplyOp.f k l0 a1_0 l1_1 a1_2 a1_3 a1_4 = some r) : callW env 97 [.deep false true 2 (l0.map e105), .agg [.i .i64 a1_0, .deep false true 1 (l1_1.map eI), .i .i64 a1_2, .i .i64 a1_3, .i .i64 a1_4]] = some ([.deep false false 2 (r.1.map e105), .i .i64 r.2], [none, none]) := by
  unfold spec_ApplyOp.f at H
  refine callW_fn' (F := spec_ApplyOp.F) (tm := tmOf [(0, .slc 0 [] 0 2 0 l0.length), (1, .agg [.i .i64 a1_0, .slc 1 [] 0 1 0 l1_1.length, .i .i64 a1_2, .i .i64 a1_3, .i .i64 a1_4])]) (rs := rsL [(0, some ⟨false, 2, 0, (l0.map e105)⟩), (1, some ⟨false, 1, 0, (l1_1.map eI)⟩)]) (nx := 2) (ow := [false, false]) rfl (by rfl) (by simp only [SN]) (by simp only [SN]) (by decide) ?_
  show W env spec_ApplyOp.B _ (Qf [.t 4, .t 5] [false, false] _)
  unfold spec_ApplyOp.B
  obtain ⟨t1, e1, H⟩ := bnd_some H
  have e1 := spec_TreeOk.link e1
  try simp only [TN, simprocAttr, e1]
  rcases ite_b H with ⟨h2, H⟩ | ⟨h2, H⟩
  · skip
    obtain ⟨t2, e3, H⟩ := bnd_some H
    have e3 := spec_NodeAt.link e3
    obtain ⟨t3, e4, H⟩ := bnd_some H
    have e4 := spec_l3Copy.link e4
    obtain ⟨bt4, e5, H⟩ := bnd_some H
    have e5 := spec_l13Code.link e5
    try simp only [TN, simprocAttr, e1, h2, e3, e4, e5]
    rcases ite_or H with ⟨h6, H⟩ | ⟨h6, H⟩
    · skip
      try simp only [TN, simprocAttr, e1, h2, e3, e4, e5, eq_true h6]
      rcases ite_or H with ⟨h7, H⟩ | ⟨h7, H⟩
      · skip
        obtain ⟨h8, H⟩ := ite_no H
        obtain ⟨h9, H⟩ := ite_no H
        injection H with H; subst H
        try simp only [TN, simprocAttr, e1, h2, e3, e4, e5, eq_true h6, eq_true h7, h8, h9]
        try rfl
      · skip
        try simp only [TN, simprocAttr, e1, h2, e3, e4, e5, eq_true h6, h7]
        rcases ite_or H with ⟨h10, H⟩ | ⟨h10, H⟩
        · skip
          obtain ⟨t5, e11, H⟩ := bnd_some H
          have e11 := spec_EndOf.link e11
          obtain ⟨t6, e12, H⟩ := bnd_some H
          have e12 := spec_l13Shift.link e12
          obtain ⟨t7, e13, H⟩ := bnd_some H
          have e13 := spec_l13Shift.link e13
          obtain ⟨h14, H⟩ := ite_no H
          obtain ⟨_, hy15, H⟩ := some_bnd H; subst hy15
          obtain ⟨t8, e16, H⟩ := bnd_some H
          have e16 := spec_l13Shift.link e16
          obtain ⟨h17, H⟩ := ite_no H
          injection H with H; subst H
          try simp only [TN, simprocAttr, e1, h2, e3, e4, e5, eq_true h6, h7, eq_true h10, e11, e12, e13, h14, e16, h17]
          try rfl
        · skip
          obtain ⟨h18, H⟩ := ite_no H
          obtain ⟨h19, H⟩ := ite_no H
          obtain ⟨t9, e20, H⟩ := bnd_some H
          have e20 := spec_l13Shift.link e20
          obtain ⟨h21, H⟩ := ite_no H
          have h22 : (t9.length + 1) * 16 ≤ 140737488355328 := by omega
          obtain ⟨_, hy23, H⟩ := some_bnd H; subst hy23
          obtain ⟨t10, e24, H⟩ := bnd_some H
          have e24 := spec_l13Shift.link e24
          obtain ⟨h25, H⟩ := ite_no H
          obtain ⟨_, hy26, H⟩ := some_bnd H; subst hy26
          obtain ⟨t11, e27, H⟩ := bnd_some H
          have e27 := spec_l13Shift.link e27
          obtain ⟨h28, H⟩ := ite_no H
          injection H with H; subst H
          try simp only [TN, simprocAttr, e1, h2, e3, e4, e5, eq_true h6, h7, h10, h18, h19, e20, @litX_105_1, h21, h22, e24, h25, e27, h28]
          try rfl
    · skip
      injection H with H; subst H
      try simp only [TN, simprocAttr, e1, h2, e3, e4, e5, h6]
      try rfl
  · skip
    injection H with H; subst H
    try simp only [TN, simprocAttr, e1, h2]
    try rfl
end Go.Proofs.Ytinlbiphjgpmmaa.P
end YtinlbiphjgpmmaaL97
section YtinlbiphjgpmmaaL73
namespace Go.Proofs.Ytinlbiphjgpmmaa.P
open Go Go.RowKit Go.Proofs.Ytinlbiphjgpmmaa.V
set_option linter.unusedVariables false
set_option linter.unusedSimpArgs false
set_option linter.all false
set_option maxRecDepth 100000
/-! ### spec_ApplyAll: function 73 -/
def spec_ApplyAll.l0 : Nat → (List S87) → (List S105) → Int → (List S105) → Option ((List S105) × Int × Int)
 | 0, _, _, _, _ => none
 | k + 1, l1, x7, x8, l0 => if x8 < (l1.length : Int) then (if 0 ≤ x8 then ((spec_ApplyOp.f k x7 ((rd_T87 l1 x8).f0) ((rd_T87 l1 x8).f1) ((rd_T87 l1 x8).f2) ((rd_T87 l1 x8).f3) ((rd_T87 l1 x8).f4)).bind fun bt3 => (if bt3.2 = 0 then (spec_ApplyAll.l0 k l1 bt3.1 (wrap64 (x8 + 1)) l0) else (some (x7, x8, bt3.2)))) else none) else (some (x7, (l1.length : Int), 0))
def spec_ApplyAll.f (k : Nat) (l0 : List S105) (l1 : List S87) : Option ((List S105) × Int × Int) := (spec_TreeOk.f k l0).bind fun t1 => (if t1 = true then ((spec_l3Copy.f l0).bind fun t2 => (spec_ApplyAll.l0 k l1 t2 0 l0)) else (some (([] : List S105), 0, 2)))
def spec_ApplyAll.P0 (k : Nat) : Prop := ∀ (l1 : List S87) (x7 : List S105) (x8 : Int) (l0 : List S105) (r : (List S105) × Int × Int), spec_ApplyAll.l0 k l1 x7 x8 l0 = some r → ∀ st, canon 2 [1, 7, 8] st = ⟨tmOf [(1, .slc 1 [] 0 5 0 l1.length), (7, .slc 2 [] 0 2 0 x7.length), (8, .i .i64 x8)], rsL [(0, some ⟨false, 2, 0, (l0.map e105)⟩), (1, some ⟨false, 5, 0, (l1.map (e87 false))⟩), (2, some ⟨true, 2, 0, (x7.map e105)⟩)], 3⟩ → W env spec_ApplyAll.c1 st (Qb 0 (Qs env spec_ApplyAll.c0 (Qf [.t 4, .t 5, .t 6] [false, false] ([.deep false false 2 (r.1.map e105), .i .i64 r.2.1, .i .i64 r.2.2], [none, none]))))
set_option maxHeartbeats 4000000 in
theorem spec_ApplyAll.s0 (k : Nat) (ih : spec_ApplyAll.P0 k) : spec_ApplyAll.P0 (k + 1) := by
  intro l1 x7 x8 l0 r H st hst
  rw [spec_ApplyAll.l0] at H
  rw [W_loopc (show spec_ApplyAll.c1 = C.loop 2 [1, 7, 8] spec_ApplyAll.d1 from rfl), hst]
  unfold spec_ApplyAll.d1
  try simp only [TN, simprocAttr, spec_ApplyAll.c0]
  rcases ite_or H with ⟨h1, H⟩ | ⟨h1, H⟩
  · skip
    obtain ⟨h2, H⟩ := ite_no H
    obtain ⟨bt3, e3, H⟩ := bnd_some H
    have e3 := spec_ApplyOp.link e3
    try simp only [TN, simprocAttr, spec_ApplyAll.c0, h1, h2, e3]
    rcases ite_or H with ⟨h4, H⟩ | ⟨h4, H⟩
    · skip
      try simp only [TN, simprocAttr, spec_ApplyAll.c0, h1, h2, e3, eq_true h4]
      refine ih _ _ _ _ _ H _ ?_
      first | (rw [canon_eq]; done) | (rw [canon_eq]; rfl) | (rw [canon_eq]; simp only [List.length_set, List.length_append, List.length_replicate]; rfl)
    · skip
      injection H with H; subst H
      try simp only [TN, simprocAttr, spec_ApplyAll.c0, h1, h2, e3, h4]
      try rfl
  · skip
    injection H with H; subst H
    try simp only [TN, simprocAttr, spec_ApplyAll.c0, h1]
    try rfl
theorem spec_ApplyAll.w : ∀ k, spec_ApplyAll.P0 k := by
  intro k
  induction k with
  | zero => exact by intro l1 x7 x8 l0 r H; cases (show (none : Option ((List S105) × Int × Int)) = some r from H)
  | succ k ih => exact spec_ApplyAll.s0 k ih
set_option maxHeartbeats 4000000 in
theorem spec_ApplyAll.link {k : Nat} {l0 : List S105} {l1 : List S87} {r : (List S105) × Int × Int} (H : spec_ApplyAll.f k l0 l1 = some r) : callW env 73 [.deep false true 2 (l0.map e105), .deep false true 5 (l1.map (e87 false))] = some ([.deep false false 2 (r.1.map e105), .i .i64 r.2.1, .i .i64 r.2.2], [none, none]) := by
  unfold spec_ApplyAll.f at H
  refine callW_fn' (F := spec_ApplyAll.F) (tm := tmOf [(0, .slc 0 [] 0 2 0 l0.length), (1, .slc 1 [] 0 5 0 l1.length)]) (rs := rsL [(0, some ⟨false, 2, 0, (l0.map e105)⟩), (1, some ⟨false, 5, 0, (l1.map (e87 false))⟩)]) (nx := 2) (ow := [false, false]) rfl (by rfl) (by simp only [SN]) (by simp only [SN]) (by decide) ?_
  show W env spec_ApplyAll.B _ (Qf [.t 4, .t 5, .t 6] [false, false] _)
  unfold spec_ApplyAll.B
  obtain ⟨t1, e1, H⟩ := bnd_some H
  have e1 := spec_TreeOk.link e1
  try simp only [TN, simprocAttr, spec_ApplyAll.c0, e1]
  rcases ite_b H with ⟨h2, H⟩ | ⟨h2, H⟩
  · skip
    obtain ⟨t2, e3, H⟩ := bnd_some H
    have e3 := spec_l3Copy.link e3
    try simp only [TN, simprocAttr, spec_ApplyAll.c0, e1, h2, e3]
    refine (spec_ApplyAll.w k) _ _ _ _ _ H _ ?_
    first | (rw [canon_eq]; done) | (rw [canon_eq]; rfl) | (rw [canon_eq]; simp only [List.length_set, List.length_append, List.length_replicate]; rfl)
  · skip
    injection H with H; subst H
    try simp only [TN, simprocAttr, spec_ApplyAll.c0, e1, h2]
    try rfl
end Go.Proofs.Ytinlbiphjgpmmaa.P
end YtinlbiphjgpmmaaL73
section YtinlbiphjgpmmaaL127
namespace Go.Proofs.Ytinlbiphjgpmmaa.P
open Go Go.RowKit Go.Proofs.Ytinlbiphjgpmmaa.V
set_option linter.unusedVariables false
set_option linter.unusedSimpArgs false
set_option linter.all false
set_option maxRecDepth 100000
/-! ### spec_l15Path: function 127 -/
def spec_l15Path.l0 : Nat → (List Int) → Int → Option Bool
 | 0, _, _ => none
 | k + 1, l0, x3 => if x3 < (l0.length : Int) then (if 0 ≤ x3 then ((spec_l1In.f (rd l0 x3) 0 24).bind fun t1 => (if t1 = true then (spec_l15Path.l0 k l0 (wrap64 (x3 + 1))) else (some false))) else none) else (some (decide ((l0.length : Int) ≤ 12)))
def spec_l15Path.f (k : Nat) (l0 : List Int) : Option Bool := spec_l15Path.l0 k l0 0
def spec_l15Path.P0 (k : Nat) : Prop := ∀ (l0 : List Int) (x3 : Int) (r : Bool), spec_l15Path.l0 k l0 x3 = some r → ∀ st, canon 1 [0, 3] st = ⟨tmOf [(0, .slc 0 [] 0 1 0 l0.length), (3, .i .i64 x3)], rsL [(0, some ⟨false, 1, 0, (l0.map eI)⟩)], 1⟩ → W env spec_l15Path.c1 st (Qb 0 (Qs env spec_l15Path.c0 (Qf [.t 2] [false] ([.b r], [none]))))
set_option maxHeartbeats 4000000 in
theorem spec_l15Path.s0 (k : Nat) (ih : spec_l15Path.P0 k) : spec_l15Path.P0 (k + 1) := by
  intro l0 x3 r H st hst
  rw [spec_l15Path.l0] at H
  rw [W_loopc (show spec_l15Path.c1 = C.loop 1 [0, 3] spec_l15Path.d1 from rfl), hst]
  unfold spec_l15Path.d1
  try simp only [TN, simprocAttr, spec_l15Path.c0]
  rcases ite_or H with ⟨h1, H⟩ | ⟨h1, H⟩
  · skip
    obtain ⟨h2, H⟩ := ite_no H
    obtain ⟨t1, e3, H⟩ := bnd_some H
    have e3 := spec_l1In.link e3
    try simp only [TN, simprocAttr, spec_l15Path.c0, h1, h2, e3]
    rcases ite_b H with ⟨h4, H⟩ | ⟨h4, H⟩
    · skip
      try simp only [TN, simprocAttr, spec_l15Path.c0, h1, h2, e3, h4]
      refine ih _ _ _ H _ ?_
      first | (rw [canon_eq]; done) | (rw [canon_eq]; rfl) | (rw [canon_eq]; simp only [List.length_set, List.length_append, List.length_replicate]; rfl)
    · skip
      injection H with H; subst H
      try simp only [TN, simprocAttr, spec_l15Path.c0, h1, h2, e3, h4]
      try rfl
  · skip
    injection H with H; subst H
    try simp only [TN, simprocAttr, spec_l15Path.c0, h1]
    try rfl
theorem spec_l15Path.w : ∀ k, spec_l15Path.P0 k := by
  intro k
  induction k with
  | zero => exact by intro l0 x3 r H; cases (show (none : Option Bool) = some r from H)
  | succ k ih => exact spec_l15Path.s0 k ih
set_option maxHeartbeats 4000000 in
theorem spec_l15Path.link {k : Nat} {l0 : List Int} {r : Bool} (H : spec_l15Path.f k l0 = some r) : callW env 127 [.deep false true 1 (l0.map eI)] = some ([.b r], [none]) := by
  unfold spec_l15Path.f at H
  refine callW_fn' (F := spec_l15Path.F) (tm := tmOf [(0, .slc 0 [] 0 1 0 l0.length)]) (rs := rsL [(0, some ⟨false, 1, 0, (l0.map eI)⟩)]) (nx := 1) (ow := [false]) rfl (by rfl) (by simp only [SN]) (by simp only [SN]) (by decide) ?_
  show W env spec_l15Path.B _ (Qf [.t 2] [false] _)
  unfold spec_l15Path.B
  try simp only [TN, simprocAttr, spec_l15Path.c0]
  refine (spec_l15Path.w k) _ _ _ H _ ?_
  first | (rw [canon_eq]; done) | (rw [canon_eq]; rfl) | (rw [canon_eq]; simp only [List.length_set, List.length_append, List.length_replicate]; rfl)
end Go.Proofs.Ytinlbiphjgpmmaa.P
end YtinlbiphjgpmmaaL127
section YtinlbiphjgpmmaaL111
namespace Go.Proofs.Ytinlbiphjgpmmaa.P
open Go Go.RowKit Go.Proofs.Ytinlbiphjgpmmaa.V
set_option linter.unusedVariables false
set_option linter.unusedSimpArgs false
set_option linter.all false
set_option maxRecDepth 100000
/-! ### spec_OpOk: function 111 -/
def spec_OpOk.f (k : Nat) (a0_0 : Int) (l0_1 : List Int) (a0_2 : Int) (a0_3 : Int) (a0_4 : Int) : Option Bool := (spec_l15Path.f k l0_1).bind fun t1 => (if t1 = true then (if a0_0 = 1 then ((spec_LabelOk.f a0_2).bind fun t2 => (if t2 = true then (if a0_3 = 0 then (some (a0_4 == 0)) else (some false)) else (some false))) else (if a0_0 = 2 then (if a0_2 = 0 then (if a0_3 = 0 then (some (a0_4 == 0)) else (some false)) else (some false)) else (if a0_0 = 3 then ((spec_LabelOk.f a0_2).bind fun t3 => (if t3 = true then ((spec_l1In.f a0_3 0 24).bind fun t4 => (if t4 = true then ((spec_l1In.f a0_4 0 24).bind fun t5 => (some t5)) else (some false))) else (some false))) else (some false)))) else (some false))
set_option maxHeartbeats 4000000 in
theorem spec_OpOk.link {k : Nat} {a0_0 : Int} {l0_1 : List Int} {a0_2 : Int} {a0_3 : Int} {a0_4 : Int} {r : Bool} (H : spec_OpOk.f k a0_0 l0_1 a0_2 a0_3 a0_4 = some r) : callW env 111 [.agg [.i .i64 a0_0, .deep false true 1 (l0_1.map eI), .i .i64 a0_2, .i .i64 a0_3, .i .i64 a0_4]] = some ([.b r], [none]) := by
  unfold spec_OpOk.f at H
  refine callW_fn' (F := spec_OpOk.F) (tm := tmOf [(0, .agg [.i .i64 a0_0, .slc 0 [] 0 1 0 l0_1.length, .i .i64 a0_2, .i .i64 a0_3, .i .i64 a0_4])]) (rs := rsL [(0, some ⟨false, 1, 0, (l0_1.map eI)⟩)]) (nx := 1) (ow := [false]) rfl (by rfl) (by simp only [SN]) (by simp only [SN]) (by decide) ?_
  show W env spec_OpOk.B _ (Qf [.t 2] [false] _)
  unfold spec_OpOk.B
  obtain ⟨t1, e1, H⟩ := bnd_some H
  have e1 := spec_l15Path.link e1
  try simp only [TN, simprocAttr, e1]
  rcases ite_b H with ⟨h2, H⟩ | ⟨h2, H⟩
  · skip
    try simp only [TN, simprocAttr, e1, h2]
    rcases ite_or H with ⟨h3, H⟩ | ⟨h3, H⟩
    · skip
      obtain ⟨t2, e4, H⟩ := bnd_some H
      have e4 := spec_LabelOk.link e4
      try simp only [TN, simprocAttr, e1, h2, eq_true h3, e4]
      rcases ite_b H with ⟨h5, H⟩ | ⟨h5, H⟩
      · skip
        try simp only [TN, simprocAttr, e1, h2, eq_true h3, e4, h5]
        rcases ite_or H with ⟨h6, H⟩ | ⟨h6, H⟩
        · skip
          injection H with H; subst H
          try simp only [TN, simprocAttr, e1, h2, eq_true h3, e4, h5, eq_true h6]
          try rfl
        · skip
          injection H with H; subst H
          try simp only [TN, simprocAttr, e1, h2, eq_true h3, e4, h5, h6]
          try rfl
      · skip
        injection H with H; subst H
        try simp only [TN, simprocAttr, e1, h2, eq_true h3, e4, h5]
        try rfl
    · skip
      try simp only [TN, simprocAttr, e1, h2, h3]
      rcases ite_or H with ⟨h7, H⟩ | ⟨h7, H⟩
      · skip
        try simp only [TN, simprocAttr, e1, h2, h3, eq_true h7]
        rcases ite_or H with ⟨h8, H⟩ | ⟨h8, H⟩
        · skip
          try simp only [TN, simprocAttr, e1, h2, h3, eq_true h7, eq_true h8]
          rcases ite_or H with ⟨h9, H⟩ | ⟨h9, H⟩
          · skip
            injection H with H; subst H
            try simp only [TN, simprocAttr, e1, h2, h3, eq_true h7, eq_true h8, eq_true h9]
            try rfl
          · skip
            injection H with H; subst H
            try simp only [TN, simprocAttr, e1, h2, h3, eq_true h7, eq_true h8, h9]
            try rfl
        · skip
          injection H with H; subst H
          try simp only [TN, simprocAttr, e1, h2, h3, eq_true h7, h8]
          try rfl
      · skip
        try simp only [TN, simprocAttr, e1, h2, h3, h7]
        rcases ite_or H with ⟨h10, H⟩ | ⟨h10, H⟩
        · skip
          obtain ⟨t3, e11, H⟩ := bnd_some H
          have e11 := spec_LabelOk.link e11
          try simp only [TN, simprocAttr, e1, h2, h3, h7, eq_true h10, e11]
          rcases ite_b H with ⟨h12, H⟩ | ⟨h12, H⟩
          · skip
            obtain ⟨t4, e13, H⟩ := bnd_some H
            have e13 := spec_l1In.link e13
            try simp only [TN, simprocAttr, e1, h2, h3, h7, eq_true h10, e11, h12, e13]
            rcases ite_b H with ⟨h14, H⟩ | ⟨h14, H⟩
            · skip
              obtain ⟨t5, e15, H⟩ := bnd_some H
              have e15 := spec_l1In.link e15
              injection H with H; subst H
              try simp only [TN, simprocAttr, e1, h2, h3, h7, eq_true h10, e11, h12, e13, h14, e15]
              try rfl
            · skip
              injection H with H; subst H
              try simp only [TN, simprocAttr, e1, h2, h3, h7, eq_true h10, e11, h12, e13, h14]
              try rfl
          · skip
            injection H with H; subst H
            try simp only [TN, simprocAttr, e1, h2, h3, h7, eq_true h10, e11, h12]
            try rfl
        · skip
          injection H with H; subst H
          try simp only [TN, simprocAttr, e1, h2, h3, h7, h10]
          try rfl
  · skip
    injection H with H; subst H
    try simp only [TN, simprocAttr, e1, h2]
    try rfl
end Go.Proofs.Ytinlbiphjgpmmaa.P
end YtinlbiphjgpmmaaL111
section YtinlbiphjgpmmaaL87
namespace Go.Proofs.Ytinlbiphjgpmmaa.P
open Go Go.RowKit Go.Proofs.Ytinlbiphjgpmmaa.V
set_option linter.unusedVariables false
set_option linter.unusedSimpArgs false
set_option linter.all false
set_option maxRecDepth 100000
/-! ### spec_ScriptOk: function 87 -/
def spec_ScriptOk.l0 : Nat → (List S87) → Int → Option Bool
 | 0, _, _ => none
 | k + 1, l0, x3 => if x3 < (l0.length : Int) then (if 0 ≤ x3 then ((spec_OpOk.f k ((rd_T87 l0 x3).f0) ((rd_T87 l0 x3).f1) ((rd_T87 l0 x3).f2) ((rd_T87 l0 x3).f3) ((rd_T87 l0 x3).f4)).bind fun t1 => (if t1 = true then (spec_ScriptOk.l0 k l0 (wrap64 (x3 + 1))) else (some false))) else none) else (some (decide ((l0.length : Int) ≤ 60)))
def spec_ScriptOk.f (k : Nat) (l0 : List S87) : Option Bool := spec_ScriptOk.l0 k l0 0
def spec_ScriptOk.P0 (k : Nat) : Prop := ∀ (l0 : List S87) (x3 : Int) (r : Bool), spec_ScriptOk.l0 k l0 x3 = some r → ∀ st, canon 1 [0, 3] st = ⟨tmOf [(0, .slc 0 [] 0 5 0 l0.length), (3, .i .i64 x3)], rsL [(0, some ⟨false, 5, 0, (l0.map (e87 false))⟩)], 1⟩ → W env spec_ScriptOk.c1 st (Qb 0 (Qs env spec_ScriptOk.c0 (Qf [.t 2] [false] ([.b r], [none]))))
set_option maxHeartbeats 4000000 in
theorem spec_ScriptOk.s0 (k : Nat) (ih : spec_ScriptOk.P0 k) : spec_ScriptOk.P0 (k + 1) := by
  intro l0 x3 r H st hst
  rw [spec_ScriptOk.l0] at H
  rw [W_loopc (show spec_ScriptOk.c1 = C.loop 1 [0, 3] spec_ScriptOk.d1 from rfl), hst]
  unfold spec_ScriptOk.d1
  try simp only [TN, simprocAttr, spec_ScriptOk.c0]
  rcases ite_or H with ⟨h1, H⟩ | ⟨h1, H⟩
  · skip
    obtain ⟨h2, H⟩ := ite_no H
    obtain ⟨t1, e3, H⟩ := bnd_some H
    have e3 := spec_OpOk.link e3
    try simp only [TN, simprocAttr, spec_ScriptOk.c0, h1, h2, e3]
    rcases ite_b H with ⟨h4, H⟩ | ⟨h4, H⟩
    · skip
      try simp only [TN, simprocAttr, spec_ScriptOk.c0, h1, h2, e3, h4]
      refine ih _ _ _ H _ ?_
      first | (rw [canon_eq]; done) | (rw [canon_eq]; rfl) | (rw [canon_eq]; simp only [List.length_set, List.length_append, List.length_replicate]; rfl)
    · skip
      injection H with H; subst H
      try simp only [TN, simprocAttr, spec_ScriptOk.c0, h1, h2, e3, h4]
      try rfl
  · skip
    injection H with H; subst H
    try simp only [TN, simprocAttr, spec_ScriptOk.c0, h1]
    try rfl
theorem spec_ScriptOk.w : ∀ k, spec_ScriptOk.P0 k := by
  intro k
  induction k with
  | zero => exact by intro l0 x3 r H; cases (show (none : Option Bool) = some r from H)
  | succ k ih => exact spec_ScriptOk.s0 k ih
set_option maxHeartbeats 4000000 in
theorem spec_ScriptOk.link {k : Nat} {l0 : List S87} {r : Bool} (H : spec_ScriptOk.f k l0 = some r) : callW env 87 [.deep false true 5 (l0.map (e87 false))] = some ([.b r], [none]) := by
  unfold spec_ScriptOk.f at H
  refine callW_fn' (F := spec_ScriptOk.F) (tm := tmOf [(0, .slc 0 [] 0 5 0 l0.length)]) (rs := rsL [(0, some ⟨false, 5, 0, (l0.map (e87 false))⟩)]) (nx := 1) (ow := [false]) rfl (by rfl) (by simp only [SN]) (by simp only [SN]) (by decide) ?_
  show W env spec_ScriptOk.B _ (Qf [.t 2] [false] _)
  unfold spec_ScriptOk.B
  try simp only [TN, simprocAttr, spec_ScriptOk.c0]
  refine (spec_ScriptOk.w k) _ _ _ H _ ?_
  first | (rw [canon_eq]; done) | (rw [canon_eq]; rfl) | (rw [canon_eq]; simp only [List.length_set, List.length_append, List.length_replicate]; rfl)
end Go.Proofs.Ytinlbiphjgpmmaa.P
end YtinlbiphjgpmmaaL87
section YtinlbiphjgpmmaaL50
namespace Go.Proofs.Ytinlbiphjgpmmaa.P
open Go Go.RowKit Go.Proofs.Ytinlbiphjgpmmaa.V
set_option linter.unusedVariables false
set_option linter.unusedSimpArgs false
set_option linter.all false
set_option maxRecDepth 100000
/-! ### spec_HistOk: function 50 -/
def spec_HistOk.l0 : Nat → (List S105) → (List (List S87)) → (List S105) → Int → Option Bool
 | 0, _, _, _, _ => none
 | k + 1, l0_0, l0_1, x3, x4 => if x4 < (l0_1.length : Int) then (if 0 ≤ x4 then ((spec_ApplyAll.f k x3 (rdL l0_1 x4)).bind fun bt3 => (if bt3.2.2 = 0 then ((spec_ScriptOk.f k (rdL l0_1 x4)).bind fun t4 => (if t4 = true then (spec_HistOk.l0 k l0_0 l0_1 bt3.1 (wrap64 (x4 + 1))) else (some false))) else (some false))) else none) else (some true)
def spec_HistOk.f (k : Nat) (l0_0 : List S105) (l0_1 : List (List S87)) : Option Bool := (spec_TreeOk.f k l0_0).bind fun t1 => (if t1 = true then (if (l0_1.length : Int) > 6 then (some false) else ((spec_l3Copy.f l0_0).bind fun t2 => (spec_HistOk.l0 k l0_0 l0_1 t2 0))) else (some false))
def spec_HistOk.P0 (k : Nat) : Prop := ∀ (l0_0 : List S105) (l0_1 : List (List S87)) (x3 : List S105) (x4 : Int) (r : Bool), spec_HistOk.l0 k l0_0 l0_1 x3 x4 = some r → ∀ st, canon 2 [1, 3, 4] st = ⟨tmOf [(1, .bx [.slc 0 [] 0 2 0 l0_0.length, .slc 1 [] 0 1 0 l0_1.length] 0), (3, .slc 2 [] 0 2 0 x3.length), (4, .i .i64 x4)], rsL [(0, some ⟨false, 2, 0, (l0_0.map e105)⟩), (1, some ⟨false, 1, 0, (l0_1.map (eL 5 false (e87 false)))⟩), (2, some ⟨true, 2, 0, (x3.map e105)⟩)], 3⟩ → W env spec_HistOk.c1 st (Qb 0 (Qs env spec_HistOk.c0 (Qf [.t 2] [false, false] ([.b r], [none, none]))))
set_option maxHeartbeats 4000000 in
theorem spec_HistOk.s0 (k : Nat) (ih : spec_HistOk.P0 k) : spec_HistOk.P0 (k + 1) := by
  intro l0_0 l0_1 x3 x4 r H st hst
  rw [spec_HistOk.l0] at H
  rw [W_loopc (show spec_HistOk.c1 = C.loop 2 [1, 3, 4] spec_HistOk.d1 from rfl), hst]
  unfold spec_HistOk.d1
  try simp only [TN, simprocAttr, spec_HistOk.c0]
  rcases ite_or H with ⟨h1, H⟩ | ⟨h1, H⟩
  · skip
    obtain ⟨h2, H⟩ := ite_no H
    obtain ⟨bt3, e3, H⟩ := bnd_some H
    have e3 := spec_ApplyAll.link e3
    try simp only [TN, simprocAttr, spec_HistOk.c0, h1, h2, e3]
    rcases ite_or H with ⟨h4, H⟩ | ⟨h4, H⟩
    · skip
      obtain ⟨t4, e5, H⟩ := bnd_some H
      have e5 := spec_ScriptOk.link e5
      try simp only [TN, simprocAttr, spec_HistOk.c0, h1, h2, e3, eq_true h4, e5]
      rcases ite_b H with ⟨h6, H⟩ | ⟨h6, H⟩
      · skip
        try simp only [TN, simprocAttr, spec_HistOk.c0, h1, h2, e3, eq_true h4, e5, h6]
        refine ih _ _ _ _ _ H _ ?_
        first | (rw [canon_eq]; done) | (rw [canon_eq]; rfl) | (rw [canon_eq]; simp only [List.length_set, List.length_append, List.length_replicate]; rfl)
      · skip
        injection H with H; subst H
        try simp only [TN, simprocAttr, spec_HistOk.c0, h1, h2, e3, eq_true h4, e5, h6]
        try rfl
    · skip
      injection H with H; subst H
      try simp only [TN, simprocAttr, spec_HistOk.c0, h1, h2, e3, h4]
      try rfl
  · skip
    injection H with H; subst H
    try simp only [TN, simprocAttr, spec_HistOk.c0, h1]
    try rfl
theorem spec_HistOk.w : ∀ k, spec_HistOk.P0 k := by
  intro k
  induction k with
  | zero => exact by intro l0_0 l0_1 x3 x4 r H; cases (show (none : Option Bool) = some r from H)
  | succ k ih => exact spec_HistOk.s0 k ih
set_option maxHeartbeats 4000000 in
theorem spec_HistOk.link {k : Nat} {l0_0 : List S105} {l0_1 : List (List S87)} {r : Bool} (H : spec_HistOk.f k l0_0 l0_1 = some r) : callW env 50 [.agg [.deep false true 2 (l0_0.map e105), .deep false true 1 (l0_1.map (eL 5 false (e87 false)))]] = some ([.b r], [none, none]) := by
  unfold spec_HistOk.f at H
  refine callW_fn' (F := spec_HistOk.F) (tm := tmOf [(0, .agg [.slc 0 [] 0 2 0 l0_0.length, .slc 1 [] 0 1 0 l0_1.length])]) (rs := rsL [(0, some ⟨false, 2, 0, (l0_0.map e105)⟩), (1, some ⟨false, 1, 0, (l0_1.map (eL 5 false (e87 false)))⟩)]) (nx := 2) (ow := [false, false]) rfl (by rfl) (by simp only [SN]) (by simp only [SN]) (by decide) ?_
  show W env spec_HistOk.B _ (Qf [.t 2] [false, false] _)
  unfold spec_HistOk.B
  obtain ⟨t1, e1, H⟩ := bnd_some H
  have e1 := spec_TreeOk.link e1
  try simp only [TN, simprocAttr, spec_HistOk.c0, e1]
  rcases ite_b H with ⟨h2, H⟩ | ⟨h2, H⟩
  · skip
    try simp only [TN, simprocAttr, spec_HistOk.c0, e1, h2]
    rcases ite_or H with ⟨h3, H⟩ | ⟨h3, H⟩
    · skip
      injection H with H; subst H
      try simp only [TN, simprocAttr, spec_HistOk.c0, e1, h2, h3]
      try rfl
    · skip
      obtain ⟨t2, e4, H⟩ := bnd_some H
      have e4 := spec_l3Copy.link e4
      try simp only [TN, simprocAttr, spec_HistOk.c0, e1, h2, h3, e4]
      refine (spec_HistOk.w k) _ _ _ _ _ H _ ?_
      first | (rw [canon_eq]; done) | (rw [canon_eq]; rfl) | (rw [canon_eq]; simp only [List.length_set, List.length_append, List.length_replicate]; rfl)
  · skip
    injection H with H; subst H
    try simp only [TN, simprocAttr, spec_HistOk.c0, e1, h2]
    try rfl
end Go.Proofs.Ytinlbiphjgpmmaa.P
end YtinlbiphjgpmmaaL50
section YtinlbiphjgpmmaaL21
namespace Go.Proofs.Ytinlbiphjgpmmaa.P
open Go Go.RowKit Go.Proofs.Ytinlbiphjgpmmaa.V
set_option linter.unusedVariables false
set_option linter.unusedSimpArgs false
set_option linter.all false
set_option maxRecDepth 100000
/-! ### spec_HistAdd: function 21 -/
def spec_HistAdd.f (k : Nat) (l0_0 : List S105) (l0_1 : List (List S87)) (l1 : List S87) : Option ((List S105) × (List (List S87)) × Bool) := (spec_l24Copy.f k l0_0 l0_1).bind fun bt1 => ((spec_l19Copy.f k l1).bind fun t2 => (if bt1.2.length < 5864062014805 then ((some (bt1.2 ++ ([t2]) : List (List S87))).bind fun y0 => ((spec_HistOk.f k bt1.1 y0).bind fun t3 => (if t3 = true then (some (bt1.1, y0, true)) else (some (bt1.1, bt1.2, false))))) else none))
set_option maxHeartbeats 4000000 in
theorem spec_HistAdd.link {k : Nat} {l0_0 : List S105} {l0_1 : List (List S87)} {l1 : List S87} {r : (List S105) × (List (List S87)) × Bool} (H : spec_HistAdd.f k l0_0 l0_1 l1 = some r) : callW env 21 [.agg [.deep false true 2 (l0_0.map e105), .deep false true 1 (l0_1.map (eL 5 false (e87 false)))], .deep false true 5 (l1.map (e87 false))] = some ([.agg [.deep false false 2 (r.1.map e105), .deep false false 1 (r.2.1.map (eL 5 false (e87 false)))], .b r.2.2], [none, none, none]) := by
  unfold spec_HistAdd.f at H
  refine callW_fn' (F := spec_HistAdd.F) (tm := tmOf [(0, .agg [.slc 0 [] 0 2 0 l0_0.length, .slc 1 [] 0 1 0 l0_1.length]), (1, .slc 2 [] 0 5 0 l1.length)]) (rs := rsL [(0, some ⟨false, 2, 0, (l0_0.map e105)⟩), (1, some ⟨false, 1, 0, (l0_1.map (eL 5 false (e87 false)))⟩), (2, some ⟨false, 5, 0, (l1.map (e87 false))⟩)]) (nx := 3) (ow := [false, false, false]) rfl (by rfl) (by simp only [SN]) (by simp only [SN]) (by decide) ?_
  show W env spec_HistAdd.B _ (Qf [.cell 4 (some 2), .t 5] [false, false, false] _)
  unfold spec_HistAdd.B
  obtain ⟨bt1, e1, H⟩ := bnd_some H
  have e1 := spec_l24Copy.link e1
  obtain ⟨t2, e2, H⟩ := bnd_some H
  have e2 := spec_l19Copy.link e2
  obtain ⟨h3, H⟩ := ite_no H
  have h4 : (bt1.2.length + 1) * 24 ≤ 140737488355328 := by omega
  obtain ⟨_, hy5, H⟩ := some_bnd H; subst hy5
  obtain ⟨t3, e6, H⟩ := bnd_some H
  have e6 := spec_HistOk.link e6
  try simp only [TN, simprocAttr, e1, e2, h3, h4, e6]
  rcases ite_b H with ⟨h7, H⟩ | ⟨h7, H⟩
  · skip
    injection H with H; subst H
    try simp only [TN, simprocAttr, e1, e2, h3, h4, e6, h7]
    try rfl
  · skip
    injection H with H; subst H
    try simp only [TN, simprocAttr, e1, e2, h3, h4, e6, h7]
    try rfl
end Go.Proofs.Ytinlbiphjgpmmaa.P
end YtinlbiphjgpmmaaL21
section YtinlbiphjgpmmaaL88
namespace Go.Proofs.Ytinlbiphjgpmmaa.P
open Go Go.RowKit Go.Proofs.Ytinlbiphjgpmmaa.V
set_option linter.unusedVariables false
set_option linter.unusedSimpArgs false
set_option linter.all false
set_option maxRecDepth 100000
/-! ### laws_toNode: function 88 -/
def laws_toNode.f (a0_0 : Int) (a0_1 : Int) : Option (Int × Int) := some (a0_0, a0_1)
set_option maxHeartbeats 4000000 in
theorem laws_toNode.link {a0_0 : Int} {a0_1 : Int} {r : Int × Int} (H : laws_toNode.f a0_0 a0_1 = some r) : callW env 88 [.agg [.i .i64 a0_0, .i .i64 a0_1]] = some ([.agg [.i .i64 r.1, .i .i64 r.2]], []) := by
  unfold laws_toNode.f at H
  refine callW_fn' (F := laws_toNode.F) (tm := tmOf [(0, .agg [.i .i64 a0_0, .i .i64 a0_1])]) (rs := rsL []) (nx := 0) (ow := []) rfl (by rfl) (by simp only [SN]) (by simp only [SN]) (by decide) ?_
  show W env laws_toNode.B _ (Qf [.cell 2 (some 2)] [] _)
  unfold laws_toNode.B
  injection H with H; subst H
  try simp only [TN, simprocAttr]
  try rfl
end Go.Proofs.Ytinlbiphjgpmmaa.P
end YtinlbiphjgpmmaaL88
section YtinlbiphjgpmmaaL51
namespace Go.Proofs.Ytinlbiphjgpmmaa.P
open Go Go.RowKit Go.Proofs.Ytinlbiphjgpmmaa.V
set_option linter.unusedVariables false
set_option linter.unusedSimpArgs false
set_option linter.all false
set_option maxRecDepth 100000
/-! ### laws_toNodeS: function 51 -/
def laws_toNodeS.l0 : Nat → (List S122) → (List S105) → Int → Option (List S105)
 | 0, _, _, _ => none
 | k + 1, l0, x3, x4 => if x4 < (l0.length : Int) then (if 0 ≤ x4 then ((laws_toNode.f ((rd_T122 l0 x4).f0) ((rd_T122 l0 x4).f1)).bind fun bt1 => (if x4 < (x3.length : Int) then (laws_toNodeS.l0 k l0 (x3.set (x4 : Int).toNat (⟨bt1.1, bt1.2⟩ : S105)) (wrap64 (x4 + 1))) else none)) else none) else (some x3)
def laws_toNodeS.f (k : Nat) (l0 : List S122) : Option (List S105) := if 0 ≤ (l0.length : Int) then (if (l0.length : Int) * 16 ≤ 140737488355328 then (laws_toNodeS.l0 k l0 (List.replicate ((l0.length : Int) : Int).toNat z105) 0) else none) else none
def laws_toNodeS.P0 (k : Nat) : Prop := ∀ (l0 : List S122) (x3 : List S105) (x4 : Int) (r : (List S105)), laws_toNodeS.l0 k l0 x3 x4 = some r → ∀ st, canon 1 [0, 3, 4] st = ⟨tmOf [(0, .slc 0 [] 0 2 0 l0.length), (3, .slc 1 [] 0 2 0 x3.length), (4, .i .i64 x4)], rsL [(0, some ⟨false, 2, 0, (l0.map e122)⟩), (1, some ⟨true, 2, 0, (x3.map e105)⟩)], 2⟩ → W env laws_toNodeS.c1 st (Qb 0 (Qs env laws_toNodeS.c0 (Qf [.t 2] [false] ([.deep false false 2 (r.map e105)], [none]))))
set_option maxHeartbeats 4000000 in
theorem laws_toNodeS.s0 (k : Nat) (ih : laws_toNodeS.P0 k) : laws_toNodeS.P0 (k + 1) := by
  intro l0 x3 x4 r H st hst
  rw [laws_toNodeS.l0] at H
  rw [W_loopc (show laws_toNodeS.c1 = C.loop 1 [0, 3, 4] laws_toNodeS.d1 from rfl), hst]
  unfold laws_toNodeS.d1
  try simp only [TN, simprocAttr, laws_toNodeS.c0]
  rcases ite_or H with ⟨h1, H⟩ | ⟨h1, H⟩
  · skip
    obtain ⟨h2, H⟩ := ite_no H
    obtain ⟨bt1, e3, H⟩ := bnd_some H
    have e3 := laws_toNode.link e3
    obtain ⟨h4, H⟩ := ite_no H
    try simp only [TN, simprocAttr, laws_toNodeS.c0, h1, h2, e3, h4]
    refine ih _ _ _ _ H _ ?_
    first | (rw [canon_eq]; done) | (rw [canon_eq]; rfl) | (rw [canon_eq]; simp only [List.length_set, List.length_append, List.length_replicate]; rfl)
  · skip
    injection H with H; subst H
    try simp only [TN, simprocAttr, laws_toNodeS.c0, h1]
    try rfl
theorem laws_toNodeS.w : ∀ k, laws_toNodeS.P0 k := by
  intro k
  induction k with
  | zero => exact by intro l0 x3 x4 r H; cases (show (none : Option (List S105)) = some r from H)
  | succ k ih => exact laws_toNodeS.s0 k ih
set_option maxHeartbeats 4000000 in
theorem laws_toNodeS.link {k : Nat} {l0 : List S122} {r : (List S105)} (H : laws_toNodeS.f k l0 = some r) : callW env 51 [.deep false true 2 (l0.map e122)] = some ([.deep false false 2 (r.map e105)], [none]) := by
  unfold laws_toNodeS.f at H
  refine callW_fn' (F := laws_toNodeS.F) (tm := tmOf [(0, .slc 0 [] 0 2 0 l0.length)]) (rs := rsL [(0, some ⟨false, 2, 0, (l0.map e122)⟩)]) (nx := 1) (ow := [false]) rfl (by rfl) (by simp only [SN]) (by simp only [SN]) (by decide) ?_
  show W env laws_toNodeS.B _ (Qf [.t 2] [false] _)
  unfold laws_toNodeS.B
  obtain ⟨h1, H⟩ := ite_no H
  obtain ⟨h2, H⟩ := ite_no H
  try simp only [TN, simprocAttr, laws_toNodeS.c0, h1, h2, @m105]
  refine (laws_toNodeS.w k) _ _ _ _ H _ ?_
  first | (rw [canon_eq]; done) | (rw [canon_eq]; rfl) | (rw [canon_eq]; simp only [List.length_set, List.length_append, List.length_replicate]; rfl)
end Go.Proofs.Ytinlbiphjgpmmaa.P
end YtinlbiphjgpmmaaL51
section YtinlbiphjgpmmaaL89
namespace Go.Proofs.Ytinlbiphjgpmmaa.P
open Go Go.RowKit Go.Proofs.Ytinlbiphjgpmmaa.V
set_option linter.unusedVariables false
set_option linter.unusedSimpArgs false
set_option linter.all false
set_option maxRecDepth 100000
/-! ### laws_toIntS: function 89 -/
def laws_toIntS.l0 : Nat → (List Int) → (List Int) → Int → Option (List Int)
 | 0, _, _, _ => none
 | k + 1, l0, x3, x4 => if x4 < (l0.length : Int) then (if 0 ≤ x4 then (if x4 < (x3.length : Int) then (laws_toIntS.l0 k l0 (x3.set (x4 : Int).toNat (rd l0 x4)) (wrap64 (x4 + 1))) else none) else none) else (some x3)
def laws_toIntS.f (k : Nat) (l0 : List Int) : Option (List Int) := if 0 ≤ (l0.length : Int) then (if (l0.length : Int) * 8 ≤ 140737488355328 then (laws_toIntS.l0 k l0 (List.replicate ((l0.length : Int) : Int).toNat (0 : Int)) 0) else none) else none
def laws_toIntS.P0 (k : Nat) : Prop := ∀ (l0 : List Int) (x3 : List Int) (x4 : Int) (r : (List Int)), laws_toIntS.l0 k l0 x3 x4 = some r → ∀ st, canon 1 [0, 3, 4] st = ⟨tmOf [(0, .slc 0 [] 0 1 0 l0.length), (3, .slc 1 [] 0 1 0 x3.length), (4, .i .i64 x4)], rsL [(0, some ⟨false, 1, 0, (l0.map eI)⟩), (1, some ⟨true, 1, 0, (x3.map eI)⟩)], 2⟩ → W env laws_toIntS.c1 st (Qb 0 (Qs env laws_toIntS.c0 (Qf [.t 2] [false] ([.deep false false 1 (r.map eI)], [none]))))
set_option maxHeartbeats 4000000 in
theorem laws_toIntS.s0 (k : Nat) (ih : laws_toIntS.P0 k) : laws_toIntS.P0 (k + 1) := by
  intro l0 x3 x4 r H st hst
  rw [laws_toIntS.l0] at H
  rw [W_loopc (show laws_toIntS.c1 = C.loop 1 [0, 3, 4] laws_toIntS.d1 from rfl), hst]
  unfold laws_toIntS.d1
  try simp only [TN, simprocAttr, laws_toIntS.c0]
  rcases ite_or H with ⟨h1, H⟩ | ⟨h1, H⟩
  · skip
    obtain ⟨h2, H⟩ := ite_no H
    obtain ⟨h3, H⟩ := ite_no H
    try simp only [TN, simprocAttr, laws_toIntS.c0, h1, h2, h3]
    refine ih _ _ _ _ H _ ?_
    first | (rw [canon_eq]; done) | (rw [canon_eq]; rfl) | (rw [canon_eq]; simp only [List.length_set, List.length_append, List.length_replicate]; rfl)
  · skip
    injection H with H; subst H
    try simp only [TN, simprocAttr, laws_toIntS.c0, h1]
    try rfl
theorem laws_toIntS.w : ∀ k, laws_toIntS.P0 k := by
  intro k
  induction k with
  | zero => exact by intro l0 x3 x4 r H; cases (show (none : Option (List Int)) = some r from H)
  | succ k ih => exact laws_toIntS.s0 k ih
set_option maxHeartbeats 4000000 in
theorem laws_toIntS.link {k : Nat} {l0 : List Int} {r : (List Int)} (H : laws_toIntS.f k l0 = some r) : callW env 89 [.deep false true 1 (l0.map eI)] = some ([.deep false false 1 (r.map eI)], [none]) := by
  unfold laws_toIntS.f at H
  refine callW_fn' (F := laws_toIntS.F) (tm := tmOf [(0, .slc 0 [] 0 1 0 l0.length)]) (rs := rsL [(0, some ⟨false, 1, 0, (l0.map eI)⟩)]) (nx := 1) (ow := [false]) rfl (by rfl) (by simp only [SN]) (by simp only [SN]) (by decide) ?_
  show W env laws_toIntS.B _ (Qf [.t 2] [false] _)
  unfold laws_toIntS.B
  obtain ⟨h1, H⟩ := ite_no H
  obtain ⟨h2, H⟩ := ite_no H
  try simp only [TN, simprocAttr, laws_toIntS.c0, h1, h2]
  refine (laws_toIntS.w k) _ _ _ _ H _ ?_
  first | (rw [canon_eq]; done) | (rw [canon_eq]; rfl) | (rw [canon_eq]; simp only [List.length_set, List.length_append, List.length_replicate]; rfl)
end Go.Proofs.Ytinlbiphjgpmmaa.P
end YtinlbiphjgpmmaaL89
section YtinlbiphjgpmmaaL53
namespace Go.Proofs.Ytinlbiphjgpmmaa.P
open Go Go.RowKit Go.Proofs.Ytinlbiphjgpmmaa.V
set_option linter.unusedVariables false
set_option linter.unusedSimpArgs false
set_option linter.all false
set_option maxRecDepth 100000
/-! ### laws_toOp: function 53 -/
def laws_toOp.f (k : Nat) (a0_0 : Int) (l0_1 : List Int) (a0_2 : Int) (a0_3 : Int) (a0_4 : Int) : Option (Int × (List Int) × Int × Int × Int) := (laws_toIntS.f k l0_1).bind fun t1 => (some (a0_0, t1, a0_2, a0_3, a0_4))
set_option maxHeartbeats 4000000 in
theorem laws_toOp.link {k : Nat} {a0_0 : Int} {l0_1 : List Int} {a0_2 : Int} {a0_3 : Int} {a0_4 : Int} {r : Int × (List Int) × Int × Int × Int} (H : laws_toOp.f k a0_0 l0_1 a0_2 a0_3 a0_4 = some r) : callW env 53 [.agg [.i .i64 a0_0, .deep false true 1 (l0_1.map eI), .i .i64 a0_2, .i .i64 a0_3, .i .i64 a0_4]] = some ([.agg [.i .i64 r.1, .deep false false 1 (r.2.1.map eI), .i .i64 r.2.2.1, .i .i64 r.2.2.2.1, .i .i64 r.2.2.2.2]], [none]) := by
  unfold laws_toOp.f at H
  refine callW_fn' (F := laws_toOp.F) (tm := tmOf [(0, .agg [.i .i64 a0_0, .slc 0 [] 0 1 0 l0_1.length, .i .i64 a0_2, .i .i64 a0_3, .i .i64 a0_4])]) (rs := rsL [(0, some ⟨false, 1, 0, (l0_1.map eI)⟩)]) (nx := 1) (ow := [false]) rfl (by rfl) (by simp only [SN]) (by simp only [SN]) (by decide) ?_
  show W env laws_toOp.B _ (Qf [.cell 2 (some 5)] [false] _)
  unfold laws_toOp.B
  obtain ⟨t1, e1, H⟩ := bnd_some H
  have e1 := laws_toIntS.link e1
  injection H with H; subst H
  try simp only [TN, simprocAttr, e1]
  try rfl
end Go.Proofs.Ytinlbiphjgpmmaa.P
end YtinlbiphjgpmmaaL53
section YtinlbiphjgpmmaaL23
namespace Go.Proofs.Ytinlbiphjgpmmaa.P
open Go Go.RowKit Go.Proofs.Ytinlbiphjgpmmaa.V
set_option linter.unusedVariables false
set_option linter.unusedSimpArgs false
set_option linter.all false
set_option maxRecDepth 100000
/-! ### laws_toOpS: function 23 -/
def laws_toOpS.l0 : Nat → (List S81) → (List S87) → Int → Option (List S87)
 | 0, _, _, _ => none
 | k + 1, l0, x3, x4 => if x4 < (l0.length : Int) then (if 0 ≤ x4 then ((laws_toOp.f k ((rd_T81 l0 x4).f0) ((rd_T81 l0 x4).f1) ((rd_T81 l0 x4).f2) ((rd_T81 l0 x4).f3) ((rd_T81 l0 x4).f4)).bind fun bt1 => (if x4 < (x3.length : Int) then (laws_toOpS.l0 k l0 (x3.set (x4 : Int).toNat (⟨bt1.1, bt1.2.1, bt1.2.2.1, bt1.2.2.2.1, bt1.2.2.2.2⟩ : S87)) (wrap64 (x4 + 1))) else none)) else none) else (some x3)
def laws_toOpS.f (k : Nat) (l0 : List S81) : Option (List S87) := if 0 ≤ (l0.length : Int) then (if (l0.length : Int) * 56 ≤ 140737488355328 then (laws_toOpS.l0 k l0 (List.replicate ((l0.length : Int) : Int).toNat z87) 0) else none) else none
def laws_toOpS.P0 (k : Nat) : Prop := ∀ (l0 : List S81) (x3 : List S87) (x4 : Int) (r : (List S87)), laws_toOpS.l0 k l0 x3 x4 = some r → ∀ st, canon 1 [0, 3, 4] st = ⟨tmOf [(0, .slc 0 [] 0 5 0 l0.length), (3, .slc 1 [] 0 5 0 x3.length), (4, .i .i64 x4)], rsL [(0, some ⟨false, 5, 0, (l0.map (e81 true))⟩), (1, some ⟨true, 5, 0, (x3.map (e87 false))⟩)], 2⟩ → W env laws_toOpS.c1 st (Qb 0 (Qs env laws_toOpS.c0 (Qf [.t 2] [false] ([.deep false false 5 (r.map (e87 false))], [none]))))
set_option maxHeartbeats 4000000 in
theorem laws_toOpS.s0 (k : Nat) (ih : laws_toOpS.P0 k) : laws_toOpS.P0 (k + 1) := by
  intro l0 x3 x4 r H st hst
  rw [laws_toOpS.l0] at H
  rw [W_loopc (show laws_toOpS.c1 = C.loop 1 [0, 3, 4] laws_toOpS.d1 from rfl), hst]
  unfold laws_toOpS.d1
  try simp only [TN, simprocAttr, laws_toOpS.c0]
  rcases ite_or H with ⟨h1, H⟩ | ⟨h1, H⟩
  · skip
    obtain ⟨h2, H⟩ := ite_no H
    obtain ⟨bt1, e3, H⟩ := bnd_some H
    have e3 := laws_toOp.link e3
    obtain ⟨h4, H⟩ := ite_no H
    try simp only [TN, simprocAttr, laws_toOpS.c0, h1, h2, e3, h4]
    refine ih _ _ _ _ H _ ?_
    first | (rw [canon_eq]; done) | (rw [canon_eq]; rfl) | (rw [canon_eq]; simp only [List.length_set, List.length_append, List.length_replicate]; rfl)
  · skip
    injection H with H; subst H
    try simp only [TN, simprocAttr, laws_toOpS.c0, h1]
    try rfl
theorem laws_toOpS.w : ∀ k, laws_toOpS.P0 k := by
  intro k
  induction k with
  | zero => exact by intro l0 x3 x4 r H; cases (show (none : Option (List S87)) = some r from H)
  | succ k ih => exact laws_toOpS.s0 k ih
set_option maxHeartbeats 4000000 in
theorem laws_toOpS.link {k : Nat} {l0 : List S81} {r : (List S87)} (H : laws_toOpS.f k l0 = some r) : callW env 23 [.deep false true 5 (l0.map (e81 true))] = some ([.deep false false 5 (r.map (e87 false))], [none]) := by
  unfold laws_toOpS.f at H
  refine callW_fn' (F := laws_toOpS.F) (tm := tmOf [(0, .slc 0 [] 0 5 0 l0.length)]) (rs := rsL [(0, some ⟨false, 5, 0, (l0.map (e81 true))⟩)]) (nx := 1) (ow := [false]) rfl (by rfl) (by simp only [SN]) (by simp only [SN]) (by decide) ?_
  show W env laws_toOpS.B _ (Qf [.t 2] [false] _)
  unfold laws_toOpS.B
  obtain ⟨h1, H⟩ := ite_no H
  obtain ⟨h2, H⟩ := ite_no H
  try simp only [TN, simprocAttr, laws_toOpS.c0, h1, h2, @m87]
  refine (laws_toOpS.w k) _ _ _ _ H _ ?_
  first | (rw [canon_eq]; done) | (rw [canon_eq]; rfl) | (rw [canon_eq]; simp only [List.length_set, List.length_append, List.length_replicate]; rfl)
end Go.Proofs.Ytinlbiphjgpmmaa.P
end YtinlbiphjgpmmaaL23
section YtinlbiphjgpmmaaL52
namespace Go.Proofs.Ytinlbiphjgpmmaa.P
open Go Go.RowKit Go.Proofs.Ytinlbiphjgpmmaa.V
set_option linter.unusedVariables false
set_option linter.unusedSimpArgs false
set_option linter.all false
set_option maxRecDepth 100000
/-! ### laws_toOpSS: function 52 -/
def laws_toOpSS.l0 : Nat → (List (List S81)) → (List (List S87)) → Int → Option (List (List S87))
 | 0, _, _, _ => none
 | k + 1, l0, x3, x4 => if x4 < (l0.length : Int) then (if 0 ≤ x4 then ((laws_toOpS.f k (rdL l0 x4)).bind fun t1 => (if x4 < (x3.length : Int) then (laws_toOpSS.l0 k l0 (x3.set (x4 : Int).toNat t1) (wrap64 (x4 + 1))) else none)) else none) else (some x3)
def laws_toOpSS.f (k : Nat) (l0 : List (List S81)) : Option (List (List S87)) := if 0 ≤ (l0.length : Int) then (if (l0.length : Int) * 24 ≤ 140737488355328 then (laws_toOpSS.l0 k l0 (List.replicate ((l0.length : Int) : Int).toNat ([] : List S87)) 0) else none) else none
def laws_toOpSS.P0 (k : Nat) : Prop := ∀ (l0 : List (List S81)) (x3 : List (List S87)) (x4 : Int) (r : (List (List S87))), laws_toOpSS.l0 k l0 x3 x4 = some r → ∀ st, canon 1 [0, 3, 4] st = ⟨tmOf [(0, .slc 0 [] 0 1 0 l0.length), (3, .slc 1 [] 0 1 0 x3.length), (4, .i .i64 x4)], rsL [(0, some ⟨false, 1, 0, (l0.map (eL 5 true (e81 true)))⟩), (1, some ⟨true, 1, 0, (x3.map (eL 5 false (e87 false)))⟩)], 2⟩ → W env laws_toOpSS.c1 st (Qb 0 (Qs env laws_toOpSS.c0 (Qf [.t 2] [false] ([.deep false false 1 (r.map (eL 5 false (e87 false)))], [none]))))
set_option maxHeartbeats 4000000 in
theorem laws_toOpSS.s0 (k : Nat) (ih : laws_toOpSS.P0 k) : laws_toOpSS.P0 (k + 1) := by
  intro l0 x3 x4 r H st hst
  rw [laws_toOpSS.l0] at H
  rw [W_loopc (show laws_toOpSS.c1 = C.loop 1 [0, 3, 4] laws_toOpSS.d1 from rfl), hst]
  unfold laws_toOpSS.d1
  try simp only [TN, simprocAttr, laws_toOpSS.c0]
  rcases ite_or H with ⟨h1, H⟩ | ⟨h1, H⟩
  · skip
    obtain ⟨h2, H⟩ := ite_no H
    obtain ⟨t1, e3, H⟩ := bnd_some H
    have e3 := laws_toOpS.link e3
    obtain ⟨h4, H⟩ := ite_no H
    try simp only [TN, simprocAttr, laws_toOpSS.c0, h1, h2, e3, h4]
    refine ih _ _ _ _ H _ ?_
    first | (rw [canon_eq]; done) | (rw [canon_eq]; rfl) | (rw [canon_eq]; simp only [List.length_set, List.length_append, List.length_replicate]; rfl)
  · skip
    injection H with H; subst H
    try simp only [TN, simprocAttr, laws_toOpSS.c0, h1]
    try rfl
theorem laws_toOpSS.w : ∀ k, laws_toOpSS.P0 k := by
  intro k
  induction k with
  | zero => exact by intro l0 x3 x4 r H; cases (show (none : Option (List (List S87))) = some r from H)
  | succ k ih => exact laws_toOpSS.s0 k ih
set_option maxHeartbeats 4000000 in
theorem laws_toOpSS.link {k : Nat} {l0 : List (List S81)} {r : (List (List S87))} (H : laws_toOpSS.f k l0 = some r) : callW env 52 [.deep false true 1 (l0.map (eL 5 true (e81 true)))] = some ([.deep false false 1 (r.map (eL 5 false (e87 false)))], [none]) := by
  unfold laws_toOpSS.f at H
  refine callW_fn' (F := laws_toOpSS.F) (tm := tmOf [(0, .slc 0 [] 0 1 0 l0.length)]) (rs := rsL [(0, some ⟨false, 1, 0, (l0.map (eL 5 true (e81 true)))⟩)]) (nx := 1) (ow := [false]) rfl (by rfl) (by simp only [SN]) (by simp only [SN]) (by decide) ?_
  show W env laws_toOpSS.B _ (Qf [.t 2] [false] _)
  unfold laws_toOpSS.B
  obtain ⟨h1, H⟩ := ite_no H
  obtain ⟨h2, H⟩ := ite_no H
  try simp only [TN, simprocAttr, laws_toOpSS.c0, h1, h2, mks_t (e := (eL 5 false (e87 false))) (z := ([] : List S87)) (zs := [.deep false false 5 []]) rfl]
  refine (laws_toOpSS.w k) _ _ _ _ H _ ?_
  first | (rw [canon_eq]; done) | (rw [canon_eq]; rfl) | (rw [canon_eq]; simp only [List.length_set, List.length_append, List.length_replicate]; rfl)
end Go.Proofs.Ytinlbiphjgpmmaa.P
end YtinlbiphjgpmmaaL52
section YtinlbiphjgpmmaaL22
namespace Go.Proofs.Ytinlbiphjgpmmaa.P
open Go Go.RowKit Go.Proofs.Ytinlbiphjgpmmaa.V
set_option linter.unusedVariables false
set_option linter.unusedSimpArgs false
set_option linter.all false
set_option maxRecDepth 100000
/-! ### laws_toHist: function 22 -/
def laws_toHist.f (k : Nat) (l0_0 : List S122) (l0_1 : List (List S81)) : Option ((List S105) × (List (List S87))) := (laws_toNodeS.f k l0_0).bind fun t1 => ((laws_toOpSS.f k l0_1).bind fun t2 => (some (t1, t2)))
set_option maxHeartbeats 4000000 in
theorem laws_toHist.link {k : Nat} {l0_0 : List S122} {l0_1 : List (List S81)} {r : (List S105) × (List (List S87))} (H : laws_toHist.f k l0_0 l0_1 = some r) : callW env 22 [.agg [.deep false true 2 (l0_0.map e122), .deep false true 1 (l0_1.map (eL 5 true (e81 true)))]] = some ([.agg [.deep false false 2 (r.1.map e105), .deep false false 1 (r.2.map (eL 5 false (e87 false)))]], [none, none]) := by
  unfold laws_toHist.f at H
  refine callW_fn' (F := laws_toHist.F) (tm := tmOf [(0, .agg [.slc 0 [] 0 2 0 l0_0.length, .slc 1 [] 0 1 0 l0_1.length])]) (rs := rsL [(0, some ⟨false, 2, 0, (l0_0.map e122)⟩), (1, some ⟨false, 1, 0, (l0_1.map (eL 5 true (e81 true)))⟩)]) (nx := 2) (ow := [false, false]) rfl (by rfl) (by simp only [SN]) (by simp only [SN]) (by decide) ?_
  show W env laws_toHist.B _ (Qf [.cell 2 (some 2)] [false, false] _)
  unfold laws_toHist.B
  obtain ⟨t1, e1, H⟩ := bnd_some H
  have e1 := laws_toNodeS.link e1
  obtain ⟨t2, e2, H⟩ := bnd_some H
  have e2 := laws_toOpSS.link e2
  injection H with H; subst H
  try simp only [TN, simprocAttr, e1, e2]
  try rfl
end Go.Proofs.Ytinlbiphjgpmmaa.P
end YtinlbiphjgpmmaaL22
section YtinlbiphjgpmmaaL112
namespace Go.Proofs.Ytinlbiphjgpmmaa.P
open Go Go.RowKit Go.Proofs.Ytinlbiphjgpmmaa.V
set_option linter.unusedVariables false
set_option linter.unusedSimpArgs false
set_option linter.all false
set_option maxRecDepth 100000
/-! ### slices_Grow_impl_Op_impl_Op: function 112 -/
def slices_Grow_impl_Op_impl_Op.j0 : Nat → Int → Option Unit
 | 0, _ => none
 | k + 1, a1 => if (wrap64 (a1 - (wrap64 (0)))) > 0 then (if 0 < wrap64 (a1 - (wrap64 (0))) then (if (wrap64 (a1 - (wrap64 (0)))).toNat * 56 ≤ 140737488355328 then (if 0 ≤ ((List.replicate (wrap64 (a1 - (wrap64 (0))) : Int).toNat z87).length : Int) then (some ()) else none) else none) else none) else (some ())
def slices_Grow_impl_Op_impl_Op.f (k : Nat) (a1 : Int) : Option Unit := if a1 < 0 then (none) else (slices_Grow_impl_Op_impl_Op.j0 k a1)
def slices_Grow_impl_Op_impl_Op.P0 (k : Nat) : Prop := ∀ (a1 : Int) (r : Unit), slices_Grow_impl_Op_impl_Op.j0 k a1 = some r → ∀ st, canon 1 [0, 1] st = ⟨tmOf [(0, .nl 5), (1, .i .i64 a1)], rsL [(0, none)], 1⟩ → W env slices_Grow_impl_Op_impl_Op.c0 (canon 1 [0, 1] st) (Qf [.t 4] [] ([.deep false false 5 (([] : List S87).map (e87 false))], []))
set_option maxHeartbeats 4000000 in
theorem slices_Grow_impl_Op_impl_Op.s0 (k : Nat) (ih : slices_Grow_impl_Op_impl_Op.P0 k) : slices_Grow_impl_Op_impl_Op.P0 (k + 1) := by
  intro a1 r H st hst
  rw [slices_Grow_impl_Op_impl_Op.j0] at H
  rw [hst]; unfold slices_Grow_impl_Op_impl_Op.c0
  try simp only [TN, simprocAttr]
  rcases ite_or H with ⟨h1, H⟩ | ⟨h1, H⟩
  · skip
    obtain ⟨h2, H⟩ := ite_no H
    obtain ⟨h3, H⟩ := ite_no H
    obtain ⟨h4, H⟩ := ite_no H
    injection H with H; subst H
    try simp only [TN, simprocAttr, h1, h2, h3, @az87, h4]
    try rfl
  · skip
    injection H with H; subst H
    try simp only [TN, simprocAttr, h1]
    try rfl
theorem slices_Grow_impl_Op_impl_Op.w : ∀ k, slices_Grow_impl_Op_impl_Op.P0 k := by
  intro k
  induction k with
  | zero => exact by intro a1 r H; cases (show (none : Option Unit) = some r from H)
  | succ k ih => exact slices_Grow_impl_Op_impl_Op.s0 k ih
set_option maxHeartbeats 4000000 in
theorem slices_Grow_impl_Op_impl_Op.link {k : Nat} {a1 : Int} {r : Unit} (H : slices_Grow_impl_Op_impl_Op.f k a1 = some r) : callW env 112 [.nl 5, .i .i64 a1] = some ([.deep false false 5 (([] : List S87).map (e87 false))], []) := by
  unfold slices_Grow_impl_Op_impl_Op.f at H
  refine callW_fn' (F := slices_Grow_impl_Op_impl_Op.F) (tm := tmOf [(0, .nl 5), (1, .i .i64 a1)]) (rs := rsL []) (nx := 0) (ow := []) rfl (by rfl) (by simp only [SN]) (by simp only [SN]) (by decide) ?_
  show W env slices_Grow_impl_Op_impl_Op.B _ (Qf [.t 4] [] _)
  unfold slices_Grow_impl_Op_impl_Op.B
  try simp only [TN, simprocAttr]
  rcases ite_or H with ⟨h1, H⟩ | ⟨h1, H⟩
  · skip
    cases H
  · skip
    try simp only [TN, simprocAttr, h1]
    refine (slices_Grow_impl_Op_impl_Op.w k) _ _ H _ ?_
    first | (rw [canon_eq]; done) | (rw [canon_eq]; rfl) | (rw [canon_eq]; simp only [List.length_set, List.length_append, List.length_replicate]; rfl)
end Go.Proofs.Ytinlbiphjgpmmaa.P
end YtinlbiphjgpmmaaL112
section YtinlbiphjgpmmaaL91
namespace Go.Proofs.Ytinlbiphjgpmmaa.P
open Go Go.RowKit Go.Proofs.Ytinlbiphjgpmmaa.V
set_option linter.unusedVariables false
set_option linter.unusedSimpArgs false
set_option linter.all false
set_option maxRecDepth 100000
/-! ### slices_Concat_impl_Op_impl_Op: function 91 -/
mutual
def slices_Concat_impl_Op_impl_Op.l0 : Nat → (List (List S87)) → Int → (List (List S87)) → Int → Int → Option (List S87)
 | 0, _, _, _, _, _ => none
 | k + 1, l0, x3, x9, x10, x11 => if x11 < x10 then (if 0 ≤ x11 then (if x11 < (l0.length : Int) then (if (wrap64 (x3 + ((rdL l0 x11).length : Int))) < 0 then (none) else (slices_Concat_impl_Op_impl_Op.l0 k l0 (wrap64 (x3 + ((rdL l0 x11).length : Int))) l0 x10 (wrap64 (x11 + 1)))) else none) else none) else ((slices_Grow_impl_Op_impl_Op.f k x3).bind fun bt1 => (slices_Concat_impl_Op_impl_Op.l1 k l0 (l0.length : Int) 0))
def slices_Concat_impl_Op_impl_Op.l1 : Nat → (List (List S87)) → Int → Int → Option (List S87)
 | 0, _, _, _ => none
 | k + 1, l0, x26, x27 => if x27 < x26 then (if 0 ≤ x27 then (if x27 < (l0.length : Int) then (if (rdL l0 x27).length * 56 ≤ 140737488355328 then (slices_Concat_impl_Op_impl_Op.l2 k (rdL l0 x27) l0 x26 (wrap64 (x27 + 1))) else none) else none) else none) else (some ([] : List S87))
def slices_Concat_impl_Op_impl_Op.l2 : Nat → (List S87) → (List (List S87)) → Int → Int → Option (List S87)
 | 0, _, _, _, _ => none
 | k + 1, x6, l0, x26, x27 => if x27 < x26 then (if 0 ≤ x27 then (if x27 < (l0.length : Int) then (if (x6.length + (rdL l0 x27).length) * 56 ≤ 140737488355328 then (slices_Concat_impl_Op_impl_Op.l2 k (x6 ++ (rdL l0 x27)) l0 x26 (wrap64 (x27 + 1))) else none) else none) else none) else (some x6)
end
def slices_Concat_impl_Op_impl_Op.f (k : Nat) (l0 : List (List S87)) : Option (List S87) := slices_Concat_impl_Op_impl_Op.l0 k l0 0 l0 (l0.length : Int) 0
def slices_Concat_impl_Op_impl_Op.P0 (k : Nat) : Prop := ∀ (l0 : List (List S87)) (x3 : Int) (x9 : List (List S87)) (x10 : Int) (x11 : Int) (r : (List S87)), x9 = l0 → slices_Concat_impl_Op_impl_Op.l0 k l0 x3 x9 x10 x11 = some r → ∀ st, canon 1 [0, 3, 9, 10, 11] st = ⟨tmOf [(0, .slc 0 [] 0 1 0 l0.length), (3, .i .i64 x3), (9, .slc 0 [] 0 1 0 l0.length), (10, .i .i64 x10), (11, .i .i64 x11)], rsL [(0, some ⟨true, 1, 0, (l0.map (eL 5 true (e87 false)))⟩)], 1⟩ → W env slices_Concat_impl_Op_impl_Op.c1 st (Qb 0 (Qs env slices_Concat_impl_Op_impl_Op.c0 (Qf [.t 2] [true] ([.deep false false 5 (r.map (e87 true))], [some (l0.map (eL 5 true (e87 false)))]))))
def slices_Concat_impl_Op_impl_Op.P1 (k : Nat) : Prop := ∀ (l0 : List (List S87)) (x26 : Int) (x27 : Int) (r : (List S87)), slices_Concat_impl_Op_impl_Op.l1 k l0 x26 x27 = some r → ∀ st, canon 1 [6, 25, 26, 27] st = ⟨tmOf [(6, .slc 1 [] 0 5 0 0), (25, .slc 0 [] 0 1 0 l0.length), (26, .i .i64 x26), (27, .i .i64 x27)], rsL [(0, some ⟨true, 1, 0, (l0.map (eL 5 true (e87 false)))⟩), (1, some ⟨true, 5, 0, (([] : List S87).map (e87 false))⟩)], 2⟩ → W env slices_Concat_impl_Op_impl_Op.c3 st (Qb 2 (Qs env slices_Concat_impl_Op_impl_Op.c2 (Qf [.t 2] [true] ([.deep false false 5 (r.map (e87 true))], [some (l0.map (eL 5 true (e87 false)))]))))
def slices_Concat_impl_Op_impl_Op.P2 (k : Nat) : Prop := ∀ (x6 : List S87) (l0 : List (List S87)) (x26 : Int) (x27 : Int) (r : (List S87)), slices_Concat_impl_Op_impl_Op.l2 k x6 l0 x26 x27 = some r → ∀ st, canon 1 [6, 25, 26, 27] st = ⟨tmOf [(6, .slc 1 [] 0 5 0 x6.length), (25, .slc 0 [] 0 1 0 l0.length), (26, .i .i64 x26), (27, .i .i64 x27)], rsL [(0, some ⟨true, 1, 0, (l0.map (eL 5 true (e87 false)))⟩), (1, some ⟨true, 5, 0, (x6.map (e87 true))⟩)], 2⟩ → W env slices_Concat_impl_Op_impl_Op.c3 st (Qb 2 (Qs env slices_Concat_impl_Op_impl_Op.c2 (Qf [.t 2] [true] ([.deep false false 5 (r.map (e87 true))], [some (l0.map (eL 5 true (e87 false)))]))))
set_option maxHeartbeats 4000000 in
theorem slices_Concat_impl_Op_impl_Op.s0 (k : Nat) (ih : slices_Concat_impl_Op_impl_Op.P0 k ∧ slices_Concat_impl_Op_impl_Op.P1 k ∧ slices_Concat_impl_Op_impl_Op.P2 k) : slices_Concat_impl_Op_impl_Op.P0 (k + 1) := by
  intro l0 x3 x9 x10 x11 r a0 H st hst
  subst a0
  rw [slices_Concat_impl_Op_impl_Op.l0] at H
  rw [W_loopc (show slices_Concat_impl_Op_impl_Op.c1 = C.loop 1 [0, 3, 9, 10, 11] slices_Concat_impl_Op_impl_Op.d1 from rfl), hst]
  unfold slices_Concat_impl_Op_impl_Op.d1
  try simp only [TN, simprocAttr, slices_Concat_impl_Op_impl_Op.c0, slices_Concat_impl_Op_impl_Op.c2]
  rcases ite_or H with ⟨h1, H⟩ | ⟨h1, H⟩
  · skip
    obtain ⟨h2, H⟩ := ite_no H
    obtain ⟨h3, H⟩ := ite_no H
    try simp only [TN, simprocAttr, slices_Concat_impl_Op_impl_Op.c0, slices_Concat_impl_Op_impl_Op.c2, h1, h2, h3]
    rcases ite_or H with ⟨h4, H⟩ | ⟨h4, H⟩
    · skip
      cases H
    · skip
      try simp only [TN, simprocAttr, slices_Concat_impl_Op_impl_Op.c0, slices_Concat_impl_Op_impl_Op.c2, h1, h2, h3, h4]
      refine ih.1 _ _ _ _ _ _ rfl H _ ?_
      first | (rw [canon_eq]; done) | (rw [canon_eq]; rfl) | (rw [canon_eq]; simp only [List.length_set, List.length_append, List.length_replicate]; rfl)
  · skip
    obtain ⟨bt1, e5, H⟩ := bnd_some H
    have e5 := slices_Grow_impl_Op_impl_Op.link e5
    try simp only [TN, simprocAttr, slices_Concat_impl_Op_impl_Op.c0, slices_Concat_impl_Op_impl_Op.c2, h1, e5]
    refine ih.2.1 _ _ _ _ H _ ?_
    first | (rw [canon_eq]; done) | (rw [canon_eq]; rfl) | (rw [canon_eq]; simp only [List.length_set, List.length_append, List.length_replicate]; rfl)
set_option maxHeartbeats 4000000 in
theorem slices_Concat_impl_Op_impl_Op.s1 (k : Nat) (ih : slices_Concat_impl_Op_impl_Op.P0 k ∧ slices_Concat_impl_Op_impl_Op.P1 k ∧ slices_Concat_impl_Op_impl_Op.P2 k) : slices_Concat_impl_Op_impl_Op.P1 (k + 1) := by
  intro l0 x26 x27 r H st hst
  rw [slices_Concat_impl_Op_impl_Op.l1] at H
  rw [W_loopc (show slices_Concat_impl_Op_impl_Op.c3 = C.loop 1 [6, 25, 26, 27] slices_Concat_impl_Op_impl_Op.d3 from rfl), hst]
  unfold slices_Concat_impl_Op_impl_Op.d3
  try simp only [TN, simprocAttr, slices_Concat_impl_Op_impl_Op.c0, slices_Concat_impl_Op_impl_Op.c2]
  rcases ite_or H with ⟨h1, H⟩ | ⟨h1, H⟩
  · skip
    obtain ⟨h2, H⟩ := ite_no H
    obtain ⟨h3, H⟩ := ite_no H
    obtain ⟨h4, H⟩ := ite_no H
    try simp only [TN, simprocAttr, slices_Concat_impl_Op_impl_Op.c0, slices_Concat_impl_Op_impl_Op.c2, h1, h2, h3, h4]
    refine ih.2.2 _ _ _ _ _ H _ ?_
    first | (rw [canon_eq]; done) | (rw [canon_eq]; rfl) | (rw [canon_eq]; simp only [List.length_set, List.length_append, List.length_replicate]; rfl)
  · skip
    injection H with H; subst H
    try simp only [TN, simprocAttr, slices_Concat_impl_Op_impl_Op.c0, slices_Concat_impl_Op_impl_Op.c2, h1]
    try rfl
set_option maxHeartbeats 4000000 in
theorem slices_Concat_impl_Op_impl_Op.s2 (k : Nat) (ih : slices_Concat_impl_Op_impl_Op.P0 k ∧ slices_Concat_impl_Op_impl_Op.P1 k ∧ slices_Concat_impl_Op_impl_Op.P2 k) : slices_Concat_impl_Op_impl_Op.P2 (k + 1) := by
  intro x6 l0 x26 x27 r H st hst
  rw [slices_Concat_impl_Op_impl_Op.l2] at H
  rw [W_loopc (show slices_Concat_impl_Op_impl_Op.c3 = C.loop 1 [6, 25, 26, 27] slices_Concat_impl_Op_impl_Op.d3 from rfl), hst]
  unfold slices_Concat_impl_Op_impl_Op.d3
  try simp only [TN, simprocAttr, slices_Concat_impl_Op_impl_Op.c0, slices_Concat_impl_Op_impl_Op.c2]
  rcases ite_or H with ⟨h1, H⟩ | ⟨h1, H⟩
  · skip
    obtain ⟨h2, H⟩ := ite_no H
    obtain ⟨h3, H⟩ := ite_no H
    obtain ⟨h4, H⟩ := ite_no H
    try simp only [TN, simprocAttr, slices_Concat_impl_Op_impl_Op.c0, slices_Concat_impl_Op_impl_Op.c2, h1, h2, h3, h4]
    refine ih.2.2 _ _ _ _ _ H _ ?_
    first | (rw [canon_eq]; done) | (rw [canon_eq]; rfl) | (rw [canon_eq]; simp only [List.length_set, List.length_append, List.length_replicate]; rfl)
  · skip
    injection H with H; subst H
    try simp only [TN, simprocAttr, slices_Concat_impl_Op_impl_Op.c0, slices_Concat_impl_Op_impl_Op.c2, h1]
    try rfl
theorem slices_Concat_impl_Op_impl_Op.w : ∀ k, slices_Concat_impl_Op_impl_Op.P0 k ∧ slices_Concat_impl_Op_impl_Op.P1 k ∧ slices_Concat_impl_Op_impl_Op.P2 k := by
  intro k
  induction k with
  | zero => exact ⟨(by intro l0 x3 x9 x10 x11 r _ H; cases (show (none : Option (List S87)) = some r from H)), (by intro l0 x26 x27 r H; cases (show (none : Option (List S87)) = some r from H)), (by intro x6 l0 x26 x27 r H; cases (show (none : Option (List S87)) = some r from H))⟩
  | succ k ih => exact ⟨(slices_Concat_impl_Op_impl_Op.s0 k ih), (slices_Concat_impl_Op_impl_Op.s1 k ih), (slices_Concat_impl_Op_impl_Op.s2 k ih)⟩
set_option maxHeartbeats 4000000 in
theorem slices_Concat_impl_Op_impl_Op.link {k : Nat} {l0 : List (List S87)} {r : (List S87)} (H : slices_Concat_impl_Op_impl_Op.f k l0 = some r) : callW env 91 [.deep false false 1 (l0.map (eL 5 true (e87 false)))] = some ([.deep false false 5 (r.map (e87 true))], [some (l0.map (eL 5 true (e87 false)))]) := by
  unfold slices_Concat_impl_Op_impl_Op.f at H
  refine callW_fn' (F := slices_Concat_impl_Op_impl_Op.F) (tm := tmOf [(0, .slc 0 [] 0 1 0 l0.length)]) (rs := rsL [(0, some ⟨true, 1, 0, (l0.map (eL 5 true (e87 false)))⟩)]) (nx := 1) (ow := [true]) rfl (by rfl) (by simp only [SN]) (by simp only [SN]) (by decide) ?_
  show W env slices_Concat_impl_Op_impl_Op.B _ (Qf [.t 2] [true] _)
  unfold slices_Concat_impl_Op_impl_Op.B
  try simp only [TN, simprocAttr, slices_Concat_impl_Op_impl_Op.c0, slices_Concat_impl_Op_impl_Op.c2]
  refine (slices_Concat_impl_Op_impl_Op.w k).1 _ _ _ _ _ _ rfl H _ ?_
  first | (rw [canon_eq]; done) | (rw [canon_eq]; rfl) | (rw [canon_eq]; simp only [List.length_set, List.length_append, List.length_replicate]; rfl)
end Go.Proofs.Ytinlbiphjgpmmaa.P
end YtinlbiphjgpmmaaL91
section YtinlbiphjgpmmaaL113
namespace Go.Proofs.Ytinlbiphjgpmmaa.P
open Go Go.RowKit Go.Proofs.Ytinlbiphjgpmmaa.V
set_option linter.unusedVariables false
set_option linter.unusedSimpArgs false
set_option linter.all false
set_option maxRecDepth 100000
/-! ### slices_Clone_int_int: function 113 -/
def slices_Clone_int_int.f (l0 : List Int) : Option (List Int) := if l0.length * 8 ≤ 140737488355328 then some l0 else none
set_option maxHeartbeats 4000000 in
theorem slices_Clone_int_int.link {l0 : List Int} {r : List Int} (H : slices_Clone_int_int.f l0 = some r) : callW env 113 [.deep false true 1 (l0.map eI)] = some ([.deep false false 1 (r.map eI)], [none]) := by
  unfold slices_Clone_int_int.f at H
  obtain ⟨h, H⟩ := ite_no H
  injection H with H; subst H
  refine callW_fn' (F := slices_Clone_int_int.F) (tm := tmOf [(0, .slc 0 [] 0 1 0 l0.length)]) (rs := rsL [(0, some ⟨false, 1, 0, (l0.map eI)⟩)]) (nx := 1) (ow := [false]) rfl (by rfl) (by simp only [SN]) (by simp only [SN]) (by decide) ?_
  show W env slices_Clone_int_int.B _ (Qf [.t 2] [false] _)
  unfold slices_Clone_int_int.B
  by_cases hz : l0 = []
  · subst hz
    have hn : isNil 0 = .mb := rfl
    try simp only [TN, simprocAttr, List.length_nil, List.map_nil, hn]
    try exact ⟨rfl, rfl⟩
  · have hn : isNil l0.length = .b false := by
      cases l0 with
      | nil => exact absurd rfl hz
      | cons x l => rfl
    try simp only [TN, simprocAttr, h, hn]
    try rfl
end Go.Proofs.Ytinlbiphjgpmmaa.P
end YtinlbiphjgpmmaaL113
section YtinlbiphjgpmmaaL92
namespace Go.Proofs.Ytinlbiphjgpmmaa.P
open Go Go.RowKit Go.Proofs.Ytinlbiphjgpmmaa.V
set_option linter.unusedVariables false
set_option linter.unusedSimpArgs false
set_option linter.all false
set_option maxRecDepth 100000
/-! ### impl_opCopy: function 92 -/
def impl_opCopy.f (a0_0 : Int) (l0_1 : List Int) (a0_2 : Int) (a0_3 : Int) (a0_4 : Int) : Option (Int × (List Int) × Int × Int × Int) := (slices_Clone_int_int.f l0_1).bind fun t1 => (some (a0_0, t1, a0_2, a0_3, a0_4))
set_option maxHeartbeats 4000000 in
theorem impl_opCopy.link {a0_0 : Int} {l0_1 : List Int} {a0_2 : Int} {a0_3 : Int} {a0_4 : Int} {r : Int × (List Int) × Int × Int × Int} (H : impl_opCopy.f a0_0 l0_1 a0_2 a0_3 a0_4 = some r) : callW env 92 [.agg [.i .i64 a0_0, .deep false true 1 (l0_1.map eI), .i .i64 a0_2, .i .i64 a0_3, .i .i64 a0_4]] = some ([.agg [.i .i64 r.1, .deep false false 1 (r.2.1.map eI), .i .i64 r.2.2.1, .i .i64 r.2.2.2.1, .i .i64 r.2.2.2.2]], [none]) := by
  unfold impl_opCopy.f at H
  refine callW_fn' (F := impl_opCopy.F) (tm := tmOf [(0, .agg [.i .i64 a0_0, .slc 0 [] 0 1 0 l0_1.length, .i .i64 a0_2, .i .i64 a0_3, .i .i64 a0_4])]) (rs := rsL [(0, some ⟨false, 1, 0, (l0_1.map eI)⟩)]) (nx := 1) (ow := [false]) rfl (by rfl) (by simp only [SN]) (by simp only [SN]) (by decide) ?_
  show W env impl_opCopy.B _ (Qf [.cell 2 (some 5)] [false] _)
  unfold impl_opCopy.B
  obtain ⟨t1, e1, H⟩ := bnd_some H
  have e1 := slices_Clone_int_int.link e1
  injection H with H; subst H
  try simp only [TN, simprocAttr, e1]
  try rfl
end Go.Proofs.Ytinlbiphjgpmmaa.P
end YtinlbiphjgpmmaaL92
section YtinlbiphjgpmmaaL55
namespace Go.Proofs.Ytinlbiphjgpmmaa.P
open Go Go.RowKit Go.Proofs.Ytinlbiphjgpmmaa.V
set_option linter.unusedVariables false
set_option linter.unusedSimpArgs false
set_option linter.all false
set_option maxRecDepth 100000
/-! ### impl_Joined: function 55 -/
def impl_Joined.l0 : Nat → (List S87) → (List S87) → Int → Int → (List S87) → (List S87) → Option (List S87)
 | 0, _, _, _, _, _, _ => none
 | k + 1, x5, x12, x13, x14, l0, l1 => if x14 < x13 then (if 0 ≤ x14 then (if x14 < (x12.length : Int) then ((impl_opCopy.f ((rd_T87 x12 x14).f0) ((rd_T87 x12 x14).f1) ((rd_T87 x12 x14).f2) ((rd_T87 x12 x14).f3) ((rd_T87 x12 x14).f4)).bind fun bt2 => (if x5.length < 2513169434916 then (impl_Joined.l0 k (x5 ++ ([(⟨bt2.1, bt2.2.1, bt2.2.2.1, bt2.2.2.2.1, bt2.2.2.2.2⟩ : S87)])) x12 x13 (wrap64 (x14 + 1)) l0 l1) else none)) else none) else none) else (some x5)
def impl_Joined.f (k : Nat) (l0 : List S87) (l1 : List S87) : Option (List S87) := (slices_Concat_impl_Op_impl_Op.f k ([l0, l1])).bind fun t1 => (impl_Joined.l0 k ([] : List S87) t1 (t1.length : Int) 0 l0 l1)
def impl_Joined.P0 (k : Nat) : Prop := ∀ (x5 : List S87) (x12 : List S87) (x13 : Int) (x14 : Int) (l0 : List S87) (l1 : List S87) (r : (List S87)), impl_Joined.l0 k x5 x12 x13 x14 l0 l1 = some r → ∀ st, canon 2 [5, 12, 13, 14] st = ⟨tmOf [(5, .slc 2 [] 0 5 0 x5.length), (12, .slc 3 [] 0 5 0 x12.length), (13, .i .i64 x13), (14, .i .i64 x14)], rsL [(0, some ⟨false, 5, 0, (l0.map (e87 false))⟩), (1, some ⟨false, 5, 0, (l1.map (e87 false))⟩), (2, some ⟨true, 5, 0, (x5.map (e87 false))⟩), (3, some ⟨true, 5, 0, (x12.map (e87 true))⟩)], 4⟩ → W env impl_Joined.c1 st (Qb 0 (Qs env impl_Joined.c0 (Qf [.t 4] [false, false] ([.deep false false 5 (r.map (e87 false))], [none, none]))))
set_option maxHeartbeats 4000000 in
theorem impl_Joined.s0 (k : Nat) (ih : impl_Joined.P0 k) : impl_Joined.P0 (k + 1) := by
  intro x5 x12 x13 x14 l0 l1 r H st hst
  rw [impl_Joined.l0] at H
  rw [W_loopc (show impl_Joined.c1 = C.loop 2 [5, 12, 13, 14] impl_Joined.d1 from rfl), hst]
  unfold impl_Joined.d1
  try simp only [TN, simprocAttr, impl_Joined.c0]
  rcases ite_or H with ⟨h1, H⟩ | ⟨h1, H⟩
  · skip
    obtain ⟨h2, H⟩ := ite_no H
    obtain ⟨h3, H⟩ := ite_no H
    obtain ⟨bt2, e4, H⟩ := bnd_some H
    have e4 := impl_opCopy.link e4
    obtain ⟨h5, H⟩ := ite_no H
    have h6 : (x5.length + 1) * 56 ≤ 140737488355328 := by omega
    try simp only [TN, simprocAttr, impl_Joined.c0, h1, h2, h3, e4, @litX_87_1, h5, h6]
    refine ih _ _ _ _ _ _ _ H _ ?_
    first | (rw [canon_eq]; done) | (rw [canon_eq]; rfl) | (rw [canon_eq]; simp only [List.length_set, List.length_append, List.length_replicate]; rfl)
  · skip
    injection H with H; subst H
    try simp only [TN, simprocAttr, impl_Joined.c0, h1]
    try rfl
theorem impl_Joined.w : ∀ k, impl_Joined.P0 k := by
  intro k
  induction k with
  | zero => exact by intro x5 x12 x13 x14 l0 l1 r H; cases (show (none : Option (List S87)) = some r from H)
  | succ k ih => exact impl_Joined.s0 k ih
set_option maxHeartbeats 4000000 in
theorem impl_Joined.link {k : Nat} {l0 : List S87} {l1 : List S87} {r : (List S87)} (H : impl_Joined.f k l0 l1 = some r) : callW env 55 [.deep false true 5 (l0.map (e87 false)), .deep false true 5 (l1.map (e87 false))] = some ([.deep false false 5 (r.map (e87 false))], [none, none]) := by
  unfold impl_Joined.f at H
  refine callW_fn' (F := impl_Joined.F) (tm := tmOf [(0, .slc 0 [] 0 5 0 l0.length), (1, .slc 1 [] 0 5 0 l1.length)]) (rs := rsL [(0, some ⟨false, 5, 0, (l0.map (e87 false))⟩), (1, some ⟨false, 5, 0, (l1.map (e87 false))⟩)]) (nx := 2) (ow := [false, false]) rfl (by rfl) (by simp only [SN]) (by simp only [SN]) (by decide) ?_
  show W env impl_Joined.B _ (Qf [.t 4] [false, false] _)
  unfold impl_Joined.B
  obtain ⟨t1, e1, H⟩ := bnd_some H
  have e1 := slices_Concat_impl_Op_impl_Op.link e1
  try simp only [TN, simprocAttr, impl_Joined.c0, e1]
  refine (impl_Joined.w k) _ _ _ _ _ _ _ H _ ?_
  first | (rw [canon_eq]; done) | (rw [canon_eq]; rfl) | (rw [canon_eq]; simp only [List.length_set, List.length_append, List.length_replicate]; rfl)
end Go.Proofs.Ytinlbiphjgpmmaa.P
end YtinlbiphjgpmmaaL55
section YtinlbiphjgpmmaaL90
namespace Go.Proofs.Ytinlbiphjgpmmaa.P
open Go Go.RowKit Go.Proofs.Ytinlbiphjgpmmaa.V
set_option linter.unusedVariables false
set_option linter.unusedSimpArgs false
set_option linter.all false
set_option maxRecDepth 100000
/-! ### slices_Clone_impl_Node_impl_Node: function 90 -/
def slices_Clone_impl_Node_impl_Node.f (l0 : List S105) : Option (List S105) := if l0.length * 16 ≤ 140737488355328 then some l0 else none
set_option maxHeartbeats 4000000 in
theorem slices_Clone_impl_Node_impl_Node.link {l0 : List S105} {r : List S105} (H : slices_Clone_impl_Node_impl_Node.f l0 = some r) : callW env 90 [.deep false true 2 (l0.map e105)] = some ([.deep false false 2 (r.map e105)], [none]) := by
  unfold slices_Clone_impl_Node_impl_Node.f at H
  obtain ⟨h, H⟩ := ite_no H
  injection H with H; subst H
  refine callW_fn' (F := slices_Clone_impl_Node_impl_Node.F) (tm := tmOf [(0, .slc 0 [] 0 2 0 l0.length)]) (rs := rsL [(0, some ⟨false, 2, 0, (l0.map e105)⟩)]) (nx := 1) (ow := [false]) rfl (by rfl) (by simp only [SN]) (by simp only [SN]) (by decide) ?_
  show W env slices_Clone_impl_Node_impl_Node.B _ (Qf [.t 2] [false] _)
  unfold slices_Clone_impl_Node_impl_Node.B
  by_cases hz : l0 = []
  · subst hz
    have hn : isNil 0 = .mb := rfl
    try simp only [TN, simprocAttr, List.length_nil, List.map_nil, hn]
    try exact ⟨rfl, rfl⟩
  · have hn : isNil l0.length = .b false := by
      cases l0 with
      | nil => exact absurd rfl hz
      | cons x l => rfl
    try simp only [TN, simprocAttr, h, hn]
    try rfl
end Go.Proofs.Ytinlbiphjgpmmaa.P
end YtinlbiphjgpmmaaL90
