/- FnExactHistUndo: L30 L112 L91 L113 L92 L55 L90 L54 L37 L107 L108 L99 L123 L134 L126 L121 L122 L124 L125 L100 L79 L137 L139 L136 L130 L129 L135 L128 L114 L93 L56 L24 L101 L102 L67 L68 L31 L7 XBase XRd XIntsEq XInts XEv XOpsM XEvP XOpsC XMark XScrOk XTree XEnd XKids XHas XKidsI XEvR XNodeA XCodeA XApply XApplyA XHistT XRev XInv XHistU XIntsTo XHistL XHistM PureFnExactHistUndo. -/
import Derived.Test.YtinlbiphjgpmmaaBFnExactHistUndo3
set_option linter.all false
set_option maxRecDepth 100000
set_option maxHeartbeats 8000000
section
namespace Go.Proofs.Ytinlbiphjgpmmaa.P
open Go Go.RowKit Go.Proofs.Ytinlbiphjgpmmaa.V
def QaM.f (k : Nat) (l0_0 : List QQ) (l0_1 : List (List S87)) : Option ((List QQ) × (List (List S87)) × Bool) := (QA.f k l0_0 l0_1).bind fun t1 => (if t1 = true then (if (l0_1.length : Int) = 0 then ((QK.f k l0_0 l0_1).bind fun bt2 => (some (bt2.1, bt2.2, false))) else ((Q3.f k l0_0 l0_1 (wrap64 ((l0_1.length : Int) - 1))).bind fun t3 => (if 0 ≤ wrap64 ((l0_1.length : Int) - 1) then (if wrap64 ((l0_1.length : Int) - 1) < (l0_1.length : Int) then ((Q2.f k t3 (rdL l0_1 (wrap64 ((l0_1.length : Int) - 1)))).bind fun bt4 => (if bt4.2 = true then ((QaU.f k l0_0 l0_1 bt4.1).bind fun bt5 => (some (bt5.1, bt5.2.1, bt5.2.2))) else ((QK.f k l0_0 l0_1).bind fun bt6 => (some (bt6.1, bt6.2, false))))) else none) else none))) else ((QK.f k l0_0 l0_1).bind fun bt7 => (some (bt7.1, bt7.2, false))))
theorem QaM.link {k : Nat} {l0_0 : List QQ} {l0_1 : List (List S87)} {r : (List QQ) × (List (List S87)) × Bool} (H : QaM.f k l0_0 l0_1 = some r) : Qat env 30 [.agg [.deep false true 2 (l0_0.map QaA), .deep false true 1 (l0_1.map (eL 5 false (e87 false)))]] = some ([.agg [.deep false false 2 (r.1.map QaA), .deep false false 1 (r.2.1.map (eL 5 false (e87 false)))], .b r.2.2], [none, none]) := by
 unfold QaM.f at H
 refine Qy (F := QaM.F) (tm := Qaw [(0, .agg [.slc 0 [] 0 2 0 l0_0.length, .slc 1 [] 0 1 0 l0_1.length])]) (rs := rsL [(0, some ⟨false, 2, 0, (l0_0.map QaA)⟩), (1, some ⟨false, 1, 0, (l0_1.map (eL 5 false (e87 false)))⟩)]) (nx := 2) (ow := [false, false]) rfl (by rfl) (by simp only [SN]) (by simp only [SN]) (by decide) ?_
 show W env QaM.B _ (Qf [.cell 2 (some 2), .t 3] [false, false] _)
 unfold QaM.B
 obtain ⟨t1, e1, H⟩ := Qm H
 have e1 := QA.link e1
 try simp only [TN, simprocAttr, e1]
 rcases Qa1 H with ⟨h2, H⟩ | ⟨h2, H⟩
 ·skip
  try simp only [TN, simprocAttr, e1, h2]
  rcases QP H with ⟨h3, H⟩ | ⟨h3, H⟩
  ·skip
   obtain ⟨bt2, e4, H⟩ := Qm H
   have e4 := QK.link e4
   injection H with H; subst H
   try simp only [TN, simprocAttr, e1, h2, eq_true h3, e4]
   try rfl
  ·skip
   obtain ⟨t3, e5, H⟩ := Qm H
   have e5 := Q3.link e5
   obtain ⟨h6, H⟩ := Qr H
   obtain ⟨h7, H⟩ := Qr H
   obtain ⟨bt4, e8, H⟩ := Qm H
   have e8 := Q2.link e8
   try simp only [TN, simprocAttr, e1, h2, h3, e5, h6, h7, e8]
   rcases Qa1 H with ⟨h9, H⟩ | ⟨h9, H⟩
   ·skip
    obtain ⟨bt5, e10, H⟩ := Qm H
    have e10 := QaU.link e10
    injection H with H; subst H
    try simp only [TN, simprocAttr, e1, h2, h3, e5, h6, h7, e8, h9, e10]
    try rfl
   ·skip
    obtain ⟨bt6, e11, H⟩ := Qm H
    have e11 := QK.link e11
    injection H with H; subst H
    try simp only [TN, simprocAttr, e1, h2, h3, e5, h6, h7, e8, h9, e11]
    try rfl
 ·skip
  obtain ⟨bt7, e12, H⟩ := Qm H
  have e12 := QK.link e12
  injection H with H; subst H
  try simp only [TN, simprocAttr, e1, h2, e12]
  try rfl
end Go.Proofs.Ytinlbiphjgpmmaa.P
end
section
namespace Go.Proofs.Ytinlbiphjgpmmaa.P
open Go Go.RowKit Go.Proofs.Ytinlbiphjgpmmaa.V
def Qn.j0 : Nat → Int → Option Unit
 | 0, _ => none
 | k + 1, a1 => if (wrap64 (a1 - (wrap64 (0)))) > 0 then (if 0 < wrap64 (a1 - (wrap64 (0))) then (if (wrap64 (a1 - (wrap64 (0)))).toNat * 56 ≤ 140737488355328 then (if 0 ≤ ((List.replicate (wrap64 (a1 - (wrap64 (0))) : Int).toNat z87).length : Int) then (some ()) else none) else none) else none) else (some ())
def Qn.f (k : Nat) (a1 : Int) : Option Unit := if a1 < 0 then (none) else (Qn.j0 k a1)
def Qn.P0 (k : Nat) : Prop := ∀ (a1 : Int) (r : Unit), Qn.j0 k a1 = some r → ∀ st, canon 1 [0, 1] st = ⟨Qaw [(0, .nl 5), (1, .i .i64 a1)], rsL [(0, none)], 1⟩ → W env Qn.c0 (canon 1 [0, 1] st) (Qf [.t 4] [] ([.deep false false 5 (([] : List S87).map (e87 false))], []))
theorem Qn.s0 (k : Nat) (ih : Qn.P0 k) : Qn.P0 (k + 1) := by
 intro a1 r H st hst
 rw [Qn.j0] at H
 rw [hst]; unfold Qn.c0
 try simp only [TN, simprocAttr]
 rcases QP H with ⟨h1, H⟩ | ⟨h1, H⟩
 ·skip
  obtain ⟨h2, H⟩ := Qr H
  obtain ⟨h3, H⟩ := Qr H
  obtain ⟨h4, H⟩ := Qr H
  injection H with H; subst H
  try simp only [TN, simprocAttr, h1, h2, h3, @QzP, h4]
  try rfl
 ·skip
  injection H with H; subst H
  try simp only [TN, simprocAttr, h1]
  try rfl
theorem Qn.w : ∀ k, Qn.P0 k := by
 intro k
 induction k with
 | zero => exact by intro a1 r H; cases (show (none : Option Unit) = some r from H)
 | succ k ih => exact Qn.s0 k ih
theorem Qn.link {k : Nat} {a1 : Int} {r : Unit} (H : Qn.f k a1 = some r) : Qat env 112 [.nl 5, .i .i64 a1] = some ([.deep false false 5 (([] : List S87).map (e87 false))], []) := by
 unfold Qn.f at H
 refine Qy (F := Qn.F) (tm := Qaw [(0, .nl 5), (1, .i .i64 a1)]) (rs := rsL []) (nx := 0) (ow := []) rfl (by rfl) (by simp only [SN]) (by simp only [SN]) (by decide) ?_
 show W env Qn.B _ (Qf [.t 4] [] _)
 unfold Qn.B
 try simp only [TN, simprocAttr]
 rcases QP H with ⟨h1, H⟩ | ⟨h1, H⟩
 ·skip
  cases H
 ·skip
  try simp only [TN, simprocAttr, h1]
  refine (Qn.w k) _ _ H _ ?_
  first | (rw [Qc]; done) | (rw [Qc]; rfl) | (rw [Qc]; simp only [List.length_set, List.length_append, List.length_replicate]; rfl)
end Go.Proofs.Ytinlbiphjgpmmaa.P
end
section
namespace Go.Proofs.Ytinlbiphjgpmmaa.P
open Go Go.RowKit Go.Proofs.Ytinlbiphjgpmmaa.V
mutual
def Qa.l0 : Nat → (List (List S87)) → Int → (List (List S87)) → Int → Int → Option (List S87)
 | 0, _, _, _, _, _ => none
 | k + 1, l0, x3, x9, x10, x11 => if x11 < x10 then (if 0 ≤ x11 then (if x11 < (l0.length : Int) then (if (wrap64 (x3 + ((rdL l0 x11).length : Int))) < 0 then (none) else (Qa.l0 k l0 (wrap64 (x3 + ((rdL l0 x11).length : Int))) l0 x10 (wrap64 (x11 + 1)))) else none) else none) else ((Qn.f k x3).bind fun bt1 => (Qa.l1 k l0 (l0.length : Int) 0))
def Qa.l1 : Nat → (List (List S87)) → Int → Int → Option (List S87)
 | 0, _, _, _ => none
 | k + 1, l0, x26, x27 => if x27 < x26 then (if 0 ≤ x27 then (if x27 < (l0.length : Int) then (if (rdL l0 x27).length * 56 ≤ 140737488355328 then (Qa.l2 k (rdL l0 x27) l0 x26 (wrap64 (x27 + 1))) else none) else none) else none) else (some ([] : List S87))
def Qa.l2 : Nat → (List S87) → (List (List S87)) → Int → Int → Option (List S87)
 | 0, _, _, _, _ => none
 | k + 1, x6, l0, x26, x27 => if x27 < x26 then (if 0 ≤ x27 then (if x27 < (l0.length : Int) then (if (x6.length + (rdL l0 x27).length) * 56 ≤ 140737488355328 then (Qa.l2 k (x6 ++ (rdL l0 x27)) l0 x26 (wrap64 (x27 + 1))) else none) else none) else none) else (some x6)
end
def Qa.f (k : Nat) (l0 : List (List S87)) : Option (List S87) := Qa.l0 k l0 0 l0 (l0.length : Int) 0
def Qa.P0 (k : Nat) : Prop := ∀ (l0 : List (List S87)) (x3 : Int) (x9 : List (List S87)) (x10 : Int) (x11 : Int) (r : (List S87)), x9 = l0 → Qa.l0 k l0 x3 x9 x10 x11 = some r → ∀ st, canon 1 [0, 3, 9, 10, 11] st = ⟨Qaw [(0, .slc 0 [] 0 1 0 l0.length), (3, .i .i64 x3), (9, .slc 0 [] 0 1 0 l0.length), (10, .i .i64 x10), (11, .i .i64 x11)], rsL [(0, some ⟨true, 1, 0, (l0.map (eL 5 true (e87 false)))⟩)], 1⟩ → W env Qa.c1 st (Qb 0 (Qs env Qa.c0 (Qf [.t 2] [true] ([.deep false false 5 (r.map (e87 true))], [some (l0.map (eL 5 true (e87 false)))]))))
def Qa.P1 (k : Nat) : Prop := ∀ (l0 : List (List S87)) (x26 : Int) (x27 : Int) (r : (List S87)), Qa.l1 k l0 x26 x27 = some r → ∀ st, canon 1 [6, 25, 26, 27] st = ⟨Qaw [(6, .slc 1 [] 0 5 0 0), (25, .slc 0 [] 0 1 0 l0.length), (26, .i .i64 x26), (27, .i .i64 x27)], rsL [(0, some ⟨true, 1, 0, (l0.map (eL 5 true (e87 false)))⟩), (1, some ⟨true, 5, 0, (([] : List S87).map (e87 false))⟩)], 2⟩ → W env Qa.c3 st (Qb 2 (Qs env Qa.c2 (Qf [.t 2] [true] ([.deep false false 5 (r.map (e87 true))], [some (l0.map (eL 5 true (e87 false)))]))))
def Qa.P2 (k : Nat) : Prop := ∀ (x6 : List S87) (l0 : List (List S87)) (x26 : Int) (x27 : Int) (r : (List S87)), Qa.l2 k x6 l0 x26 x27 = some r → ∀ st, canon 1 [6, 25, 26, 27] st = ⟨Qaw [(6, .slc 1 [] 0 5 0 x6.length), (25, .slc 0 [] 0 1 0 l0.length), (26, .i .i64 x26), (27, .i .i64 x27)], rsL [(0, some ⟨true, 1, 0, (l0.map (eL 5 true (e87 false)))⟩), (1, some ⟨true, 5, 0, (x6.map (e87 true))⟩)], 2⟩ → W env Qa.c3 st (Qb 2 (Qs env Qa.c2 (Qf [.t 2] [true] ([.deep false false 5 (r.map (e87 true))], [some (l0.map (eL 5 true (e87 false)))]))))
theorem Qa.s0 (k : Nat) (ih : Qa.P0 k ∧ Qa.P1 k ∧ Qa.P2 k) : Qa.P0 (k + 1) := by
 intro l0 x3 x9 x10 x11 r a0 H st hst
 subst a0
 rw [Qa.l0] at H
 rw [Qax (show Qa.c1 = C.loop 1 [0, 3, 9, 10, 11] Qa.d1 from rfl), hst]
 unfold Qa.d1
 try simp only [TN, simprocAttr, Qa.c0, Qa.c2]
 rcases QP H with ⟨h1, H⟩ | ⟨h1, H⟩
 ·skip
  obtain ⟨h2, H⟩ := Qr H
  obtain ⟨h3, H⟩ := Qr H
  try simp only [TN, simprocAttr, Qa.c0, Qa.c2, h1, h2, h3]
  rcases QP H with ⟨h4, H⟩ | ⟨h4, H⟩
  ·skip
   cases H
  ·skip
   try simp only [TN, simprocAttr, Qa.c0, Qa.c2, h1, h2, h3, h4]
   refine ih.1 _ _ _ _ _ _ rfl H _ ?_
   first | (rw [Qc]; done) | (rw [Qc]; rfl) | (rw [Qc]; simp only [List.length_set, List.length_append, List.length_replicate]; rfl)
 ·skip
  obtain ⟨bt1, e5, H⟩ := Qm H
  have e5 := Qn.link e5
  try simp only [TN, simprocAttr, Qa.c0, Qa.c2, h1, e5]
  refine ih.2.1 _ _ _ _ H _ ?_
  first | (rw [Qc]; done) | (rw [Qc]; rfl) | (rw [Qc]; simp only [List.length_set, List.length_append, List.length_replicate]; rfl)
theorem Qa.s1 (k : Nat) (ih : Qa.P0 k ∧ Qa.P1 k ∧ Qa.P2 k) : Qa.P1 (k + 1) := by
 intro l0 x26 x27 r H st hst
 rw [Qa.l1] at H
 rw [Qax (show Qa.c3 = C.loop 1 [6, 25, 26, 27] Qa.d3 from rfl), hst]
 unfold Qa.d3
 try simp only [TN, simprocAttr, Qa.c0, Qa.c2]
 rcases QP H with ⟨h1, H⟩ | ⟨h1, H⟩
 ·skip
  obtain ⟨h2, H⟩ := Qr H
  obtain ⟨h3, H⟩ := Qr H
  obtain ⟨h4, H⟩ := Qr H
  try simp only [TN, simprocAttr, Qa.c0, Qa.c2, h1, h2, h3, h4]
  refine ih.2.2 _ _ _ _ _ H _ ?_
  first | (rw [Qc]; done) | (rw [Qc]; rfl) | (rw [Qc]; simp only [List.length_set, List.length_append, List.length_replicate]; rfl)
 ·skip
  injection H with H; subst H
  try simp only [TN, simprocAttr, Qa.c0, Qa.c2, h1]
  try rfl
theorem Qa.s2 (k : Nat) (ih : Qa.P0 k ∧ Qa.P1 k ∧ Qa.P2 k) : Qa.P2 (k + 1) := by
 intro x6 l0 x26 x27 r H st hst
 rw [Qa.l2] at H
 rw [Qax (show Qa.c3 = C.loop 1 [6, 25, 26, 27] Qa.d3 from rfl), hst]
 unfold Qa.d3
 try simp only [TN, simprocAttr, Qa.c0, Qa.c2]
 rcases QP H with ⟨h1, H⟩ | ⟨h1, H⟩
 ·skip
  obtain ⟨h2, H⟩ := Qr H
  obtain ⟨h3, H⟩ := Qr H
  obtain ⟨h4, H⟩ := Qr H
  try simp only [TN, simprocAttr, Qa.c0, Qa.c2, h1, h2, h3, h4]
  refine ih.2.2 _ _ _ _ _ H _ ?_
  first | (rw [Qc]; done) | (rw [Qc]; rfl) | (rw [Qc]; simp only [List.length_set, List.length_append, List.length_replicate]; rfl)
 ·skip
  injection H with H; subst H
  try simp only [TN, simprocAttr, Qa.c0, Qa.c2, h1]
  try rfl
theorem Qa.w : ∀ k, Qa.P0 k ∧ Qa.P1 k ∧ Qa.P2 k := by
 intro k
 induction k with
 | zero => exact ⟨(by intro l0 x3 x9 x10 x11 r _ H; cases (show (none : Option (List S87)) = some r from H)), (by intro l0 x26 x27 r H; cases (show (none : Option (List S87)) = some r from H)), (by intro x6 l0 x26 x27 r H; cases (show (none : Option (List S87)) = some r from H))⟩
 | succ k ih => exact ⟨(Qa.s0 k ih), (Qa.s1 k ih), (Qa.s2 k ih)⟩
theorem Qa.link {k : Nat} {l0 : List (List S87)} {r : (List S87)} (H : Qa.f k l0 = some r) : Qat env 91 [.deep false false 1 (l0.map (eL 5 true (e87 false)))] = some ([.deep false false 5 (r.map (e87 true))], [some (l0.map (eL 5 true (e87 false)))]) := by
 unfold Qa.f at H
 refine Qy (F := Qa.F) (tm := Qaw [(0, .slc 0 [] 0 1 0 l0.length)]) (rs := rsL [(0, some ⟨true, 1, 0, (l0.map (eL 5 true (e87 false)))⟩)]) (nx := 1) (ow := [true]) rfl (by rfl) (by simp only [SN]) (by simp only [SN]) (by decide) ?_
 show W env Qa.B _ (Qf [.t 2] [true] _)
 unfold Qa.B
 try simp only [TN, simprocAttr, Qa.c0, Qa.c2]
 refine (Qa.w k).1 _ _ _ _ _ _ rfl H _ ?_
 first | (rw [Qc]; done) | (rw [Qc]; rfl) | (rw [Qc]; simp only [List.length_set, List.length_append, List.length_replicate]; rfl)
end Go.Proofs.Ytinlbiphjgpmmaa.P
end
section
namespace Go.Proofs.Ytinlbiphjgpmmaa.P
open Go Go.RowKit Go.Proofs.Ytinlbiphjgpmmaa.V
def Qad.f (l0 : List Int) : Option (List Int) := if l0.length * 8 ≤ 140737488355328 then some l0 else none
theorem Qad.link {l0 : List Int} {r : List Int} (H : Qad.f l0 = some r) : Qat env 113 [.deep false true 1 (l0.map eI)] = some ([.deep false false 1 (r.map eI)], [none]) := by
 unfold Qad.f at H
 obtain ⟨h, H⟩ := Qr H
 injection H with H; subst H
 refine Qy (F := Qad.F) (tm := Qaw [(0, .slc 0 [] 0 1 0 l0.length)]) (rs := rsL [(0, some ⟨false, 1, 0, (l0.map eI)⟩)]) (nx := 1) (ow := [false]) rfl (by rfl) (by simp only [SN]) (by simp only [SN]) (by decide) ?_
 show W env Qad.B _ (Qf [.t 2] [false] _)
 unfold Qad.B
 by_cases hz : l0 = []
 ·subst hz
  have hn : Qgx 0 = .mb := rfl
  try simp only [TN, simprocAttr, List.length_nil, List.map_nil, hn]
  try exact ⟨rfl, rfl⟩
 ·have hn : Qgx l0.length = .b false := by
   cases l0 with
   | nil => exact absurd rfl hz
   | cons x l => rfl
  try simp only [TN, simprocAttr, h, hn]
  try rfl
end Go.Proofs.Ytinlbiphjgpmmaa.P
end
section
namespace Go.Proofs.Ytinlbiphjgpmmaa.P
open Go Go.RowKit Go.Proofs.Ytinlbiphjgpmmaa.V
def Qbj.f (a0_0 : Int) (l0_1 : List Int) (a0_2 : Int) (a0_3 : Int) (a0_4 : Int) : Option (Int × (List Int) × Int × Int × Int) := (Qad.f l0_1).bind fun t1 => (some (a0_0, t1, a0_2, a0_3, a0_4))
theorem Qbj.link {a0_0 : Int} {l0_1 : List Int} {a0_2 : Int} {a0_3 : Int} {a0_4 : Int} {r : Int × (List Int) × Int × Int × Int} (H : Qbj.f a0_0 l0_1 a0_2 a0_3 a0_4 = some r) : Qat env 92 [.agg [.i .i64 a0_0, .deep false true 1 (l0_1.map eI), .i .i64 a0_2, .i .i64 a0_3, .i .i64 a0_4]] = some ([.agg [.i .i64 r.1, .deep false false 1 (r.2.1.map eI), .i .i64 r.2.2.1, .i .i64 r.2.2.2.1, .i .i64 r.2.2.2.2]], [none]) := by
 unfold Qbj.f at H
 refine Qy (F := Qbj.F) (tm := Qaw [(0, .agg [.i .i64 a0_0, .slc 0 [] 0 1 0 l0_1.length, .i .i64 a0_2, .i .i64 a0_3, .i .i64 a0_4])]) (rs := rsL [(0, some ⟨false, 1, 0, (l0_1.map eI)⟩)]) (nx := 1) (ow := [false]) rfl (by rfl) (by simp only [SN]) (by simp only [SN]) (by decide) ?_
 show W env Qbj.B _ (Qf [.cell 2 (some 5)] [false] _)
 unfold Qbj.B
 obtain ⟨t1, e1, H⟩ := Qm H
 have e1 := Qad.link e1
 injection H with H; subst H
 try simp only [TN, simprocAttr, e1]
 try rfl
end Go.Proofs.Ytinlbiphjgpmmaa.P
end
section
namespace Go.Proofs.Ytinlbiphjgpmmaa.P
open Go Go.RowKit Go.Proofs.Ytinlbiphjgpmmaa.V
def Q8.l0 : Nat → (List S87) → (List S87) → Int → Int → (List S87) → (List S87) → Option (List S87)
 | 0, _, _, _, _, _, _ => none
 | k + 1, x5, x12, x13, x14, l0, l1 => if x14 < x13 then (if 0 ≤ x14 then (if x14 < (x12.length : Int) then ((Qbj.f ((QU x12 x14).f0) ((QU x12 x14).f1) ((QU x12 x14).f2) ((QU x12 x14).f3) ((QU x12 x14).f4)).bind fun bt2 => (if x5.length < 2513169434916 then (Q8.l0 k (x5 ++ ([(⟨bt2.1, bt2.2.1, bt2.2.2.1, bt2.2.2.2.1, bt2.2.2.2.2⟩ : S87)])) x12 x13 (wrap64 (x14 + 1)) l0 l1) else none)) else none) else none) else (some x5)
def Q8.f (k : Nat) (l0 : List S87) (l1 : List S87) : Option (List S87) := (Qa.f k ([l0, l1])).bind fun t1 => (Q8.l0 k ([] : List S87) t1 (t1.length : Int) 0 l0 l1)
def Q8.P0 (k : Nat) : Prop := ∀ (x5 : List S87) (x12 : List S87) (x13 : Int) (x14 : Int) (l0 : List S87) (l1 : List S87) (r : (List S87)), Q8.l0 k x5 x12 x13 x14 l0 l1 = some r → ∀ st, canon 2 [5, 12, 13, 14] st = ⟨Qaw [(5, .slc 2 [] 0 5 0 x5.length), (12, .slc 3 [] 0 5 0 x12.length), (13, .i .i64 x13), (14, .i .i64 x14)], rsL [(0, some ⟨false, 5, 0, (l0.map (e87 false))⟩), (1, some ⟨false, 5, 0, (l1.map (e87 false))⟩), (2, some ⟨true, 5, 0, (x5.map (e87 false))⟩), (3, some ⟨true, 5, 0, (x12.map (e87 true))⟩)], 4⟩ → W env Q8.c1 st (Qb 0 (Qs env Q8.c0 (Qf [.t 4] [false, false] ([.deep false false 5 (r.map (e87 false))], [none, none]))))
theorem Q8.s0 (k : Nat) (ih : Q8.P0 k) : Q8.P0 (k + 1) := by
 intro x5 x12 x13 x14 l0 l1 r H st hst
 rw [Q8.l0] at H
 rw [Qax (show Q8.c1 = C.loop 2 [5, 12, 13, 14] Q8.d1 from rfl), hst]
 unfold Q8.d1
 try simp only [TN, simprocAttr, Q8.c0]
 rcases QP H with ⟨h1, H⟩ | ⟨h1, H⟩
 ·skip
  obtain ⟨h2, H⟩ := Qr H
  obtain ⟨h3, H⟩ := Qr H
  obtain ⟨bt2, e4, H⟩ := Qm H
  have e4 := Qbj.link e4
  obtain ⟨h5, H⟩ := Qr H
  have h6 : (x5.length + 1) * 56 ≤ 140737488355328 := by omega
  try simp only [TN, simprocAttr, Q8.c0, h1, h2, h3, e4, @Qdk, h5, h6]
  refine ih _ _ _ _ _ _ _ H _ ?_
  first | (rw [Qc]; done) | (rw [Qc]; rfl) | (rw [Qc]; simp only [List.length_set, List.length_append, List.length_replicate]; rfl)
 ·skip
  injection H with H; subst H
  try simp only [TN, simprocAttr, Q8.c0, h1]
  try rfl
theorem Q8.w : ∀ k, Q8.P0 k := by
 intro k
 induction k with
 | zero => exact by intro x5 x12 x13 x14 l0 l1 r H; cases (show (none : Option (List S87)) = some r from H)
 | succ k ih => exact Q8.s0 k ih
theorem Q8.link {k : Nat} {l0 : List S87} {l1 : List S87} {r : (List S87)} (H : Q8.f k l0 l1 = some r) : Qat env 55 [.deep false true 5 (l0.map (e87 false)), .deep false true 5 (l1.map (e87 false))] = some ([.deep false false 5 (r.map (e87 false))], [none, none]) := by
 unfold Q8.f at H
 refine Qy (F := Q8.F) (tm := Qaw [(0, .slc 0 [] 0 5 0 l0.length), (1, .slc 1 [] 0 5 0 l1.length)]) (rs := rsL [(0, some ⟨false, 5, 0, (l0.map (e87 false))⟩), (1, some ⟨false, 5, 0, (l1.map (e87 false))⟩)]) (nx := 2) (ow := [false, false]) rfl (by rfl) (by simp only [SN]) (by simp only [SN]) (by decide) ?_
 show W env Q8.B _ (Qf [.t 4] [false, false] _)
 unfold Q8.B
 obtain ⟨t1, e1, H⟩ := Qm H
 have e1 := Qa.link e1
 try simp only [TN, simprocAttr, Q8.c0, e1]
 refine (Q8.w k) _ _ _ _ _ _ _ H _ ?_
 first | (rw [Qc]; done) | (rw [Qc]; rfl) | (rw [Qc]; simp only [List.length_set, List.length_append, List.length_replicate]; rfl)
end Go.Proofs.Ytinlbiphjgpmmaa.P
end
section
namespace Go.Proofs.Ytinlbiphjgpmmaa.P
open Go Go.RowKit Go.Proofs.Ytinlbiphjgpmmaa.V
def Qp.f (l0 : List QQ) : Option (List QQ) := if l0.length * 16 ≤ 140737488355328 then some l0 else none
theorem Qp.link {l0 : List QQ} {r : List QQ} (H : Qp.f l0 = some r) : Qat env 90 [.deep false true 2 (l0.map QaA)] = some ([.deep false false 2 (r.map QaA)], [none]) := by
 unfold Qp.f at H
 obtain ⟨h, H⟩ := Qr H
 injection H with H; subst H
 refine Qy (F := Qp.F) (tm := Qaw [(0, .slc 0 [] 0 2 0 l0.length)]) (rs := rsL [(0, some ⟨false, 2, 0, (l0.map QaA)⟩)]) (nx := 1) (ow := [false]) rfl (by rfl) (by simp only [SN]) (by simp only [SN]) (by decide) ?_
 show W env Qp.B _ (Qf [.t 2] [false] _)
 unfold Qp.B
 by_cases hz : l0 = []
 ·subst hz
  have hn : Qgx 0 = .mb := rfl
  try simp only [TN, simprocAttr, List.length_nil, List.map_nil, hn]
  try exact ⟨rfl, rfl⟩
 ·have hn : Qgx l0.length = .b false := by
   cases l0 with
   | nil => exact absurd rfl hz
   | cons x l => rfl
  try simp only [TN, simprocAttr, h, hn]
  try rfl
end Go.Proofs.Ytinlbiphjgpmmaa.P
end
section
namespace Go.Proofs.Ytinlbiphjgpmmaa.P
open Go Go.RowKit Go.Proofs.Ytinlbiphjgpmmaa.V
def QD.l0 : Nat → (List (List S87)) → Int → Int → (List QQ) → (List QQ) → (List (List S87)) → (List QQ) → (List (List S87)) → Option ((List QQ) × (List (List S87)))
 | 0, _, _, _, _, _, _, _, _ => none
 | k + 1, l0_1, x12, x13, l0_0, c2_0, c2_1, c3_0, c3_1 => if x13 < x12 then (if 0 ≤ x13 then (if x13 < (l0_1.length : Int) then ((Q8.f k (rdL l0_1 x13) []).bind fun t2 => (if c3_1.length < 5864062014805 then (QD.l0 k l0_1 x12 (wrap64 (x13 + 1)) l0_0 c2_0 c2_1 c3_0 (c3_1 ++ ([t2]))) else none)) else none) else none) else (some (c3_0, c3_1))
def QD.f (k : Nat) (l0_0 : List QQ) (l0_1 : List (List S87)) : Option ((List QQ) × (List (List S87))) := (Qp.f l0_0).bind fun t1 => (QD.l0 k l0_1 (l0_1.length : Int) 0 l0_0 [] [] t1 [])
def QD.P0 (k : Nat) : Prop := ∀ (l0_1 : List (List S87)) (x12 : Int) (x13 : Int) (l0_0 : List QQ) (c2_0 : List QQ) (c2_1 : List (List S87)) (c3_0 : List QQ) (c3_1 : List (List S87)) (r : (List QQ) × (List (List S87))), QD.l0 k l0_1 x12 x13 l0_0 c2_0 c2_1 c3_0 c3_1 = some r → ∀ st, canon 2 [2, 3, 11, 12, 13] st = ⟨Qaw [(2, .ptr 2 [] 0 0 0), (3, .ptr 3 [] 0 0 0), (11, .slc 1 [] 0 1 0 l0_1.length), (12, .i .i64 x12), (13, .i .i64 x13)], rsL [(0, some ⟨false, 2, 0, (l0_0.map QaA)⟩), (1, some ⟨false, 1, 0, (l0_1.map (eL 5 false (e87 false)))⟩), (2, some ⟨true, 2, 0, [[.deep false false 2 (c2_0.map QaA), .deep false false 1 (c2_1.map (eL 5 false (e87 false)))]]⟩), (3, some ⟨true, 2, 0, [[.deep false false 2 (c3_0.map QaA), .deep false false 1 (c3_1.map (eL 5 false (e87 false)))]]⟩)], 4⟩ → W env QD.c1 st (Qb 0 (Qs env QD.c0 (Qf [.cell 2 (some 2)] [false, false] ([.agg [.deep false false 2 (r.1.map QaA), .deep false false 1 (r.2.map (eL 5 false (e87 false)))]], [none, none]))))
theorem QD.s0 (k : Nat) (ih : QD.P0 k) : QD.P0 (k + 1) := by
 intro l0_1 x12 x13 l0_0 c2_0 c2_1 c3_0 c3_1 r H st hst
 rw [QD.l0] at H
 rw [Qax (show QD.c1 = C.loop 2 [2, 3, 11, 12, 13] QD.d1 from rfl), hst]
 unfold QD.d1
 try simp only [TN, simprocAttr, QD.c0]
 rcases QP H with ⟨h1, H⟩ | ⟨h1, H⟩
 ·skip
  obtain ⟨h2, H⟩ := Qr H
  obtain ⟨h3, H⟩ := Qr H
  obtain ⟨t2, e4, H⟩ := Qm H
  have e4 := Q8.link e4
  simp only [List.map_nil] at e4
  obtain ⟨h5, H⟩ := Qr H
  have h6 : (c3_1.length + 1) * 24 ≤ 140737488355328 := by omega
  try simp only [TN, simprocAttr, QD.c0, h1, h2, h3, e4, h5, h6]
  refine ih _ _ _ _ _ _ _ _ _ H _ ?_
  first | (rw [Qc]; done) | (rw [Qc]; rfl) | (rw [Qc]; simp only [List.length_set, List.length_append, List.length_replicate]; rfl)
 ·skip
  injection H with H; subst H
  try simp only [TN, simprocAttr, QD.c0, h1]
  try rfl
theorem QD.w : ∀ k, QD.P0 k := by
 intro k
 induction k with
 | zero => exact by intro l0_1 x12 x13 l0_0 c2_0 c2_1 c3_0 c3_1 r H; cases (show (none : Option ((List QQ) × (List (List S87)))) = some r from H)
 | succ k ih => exact QD.s0 k ih
theorem QD.link {k : Nat} {l0_0 : List QQ} {l0_1 : List (List S87)} {r : (List QQ) × (List (List S87))} (H : QD.f k l0_0 l0_1 = some r) : Qat env 54 [.agg [.deep false true 2 (l0_0.map QaA), .deep false true 1 (l0_1.map (eL 5 false (e87 false)))]] = some ([.agg [.deep false false 2 (r.1.map QaA), .deep false false 1 (r.2.map (eL 5 false (e87 false)))]], [none, none]) := by
 unfold QD.f at H
 refine Qy (F := QD.F) (tm := Qaw [(0, .agg [.slc 0 [] 0 2 0 l0_0.length, .slc 1 [] 0 1 0 l0_1.length])]) (rs := rsL [(0, some ⟨false, 2, 0, (l0_0.map QaA)⟩), (1, some ⟨false, 1, 0, (l0_1.map (eL 5 false (e87 false)))⟩)]) (nx := 2) (ow := [false, false]) rfl (by rfl) (by simp only [SN]) (by simp only [SN]) (by decide) ?_
 show W env QD.B _ (Qf [.cell 2 (some 2)] [false, false] _)
 unfold QD.B
 obtain ⟨t1, e1, H⟩ := Qm H
 have e1 := Qp.link e1
 try simp only [TN, simprocAttr, QD.c0, e1]
 refine (QD.w k) _ _ _ _ _ _ _ _ _ H _ ?_
 first | (rw [Qc]; done) | (rw [Qc]; rfl) | (rw [Qc]; simp only [List.length_set, List.length_append, List.length_replicate]; rfl)
end Go.Proofs.Ytinlbiphjgpmmaa.P
end
section
namespace Go.Proofs.Ytinlbiphjgpmmaa.P
open Go Go.RowKit Go.Proofs.Ytinlbiphjgpmmaa.V
def Qaf.f (a0 : Int) (a1 : Int) (a2 : Int) : Option Bool := if a1 ≤ a0 then (some (decide (a0 ≤ a2))) else (some false)
theorem Qaf.link {a0 : Int} {a1 : Int} {a2 : Int} {r : Bool} (H : Qaf.f a0 a1 a2 = some r) : Qat env 37 [.i .i64 a0, .i .i64 a1, .i .i64 a2] = some ([.b r], []) := by
 unfold Qaf.f at H
 refine Qy (F := Qaf.F) (tm := Qaw [(0, .i .i64 a0), (1, .i .i64 a1), (2, .i .i64 a2)]) (rs := rsL []) (nx := 0) (ow := []) rfl (by rfl) (by simp only [SN]) (by simp only [SN]) (by decide) ?_
 show W env Qaf.B _ (Qf [.t 6] [] _)
 unfold Qaf.B
 try simp only [TN, simprocAttr]
 rcases QP H with ⟨h1, H⟩ | ⟨h1, H⟩
 ·skip
  injection H with H; subst H
  try simp only [TN, simprocAttr, h1]
  try rfl
 ·skip
  injection H with H; subst H
  try simp only [TN, simprocAttr, h1]
  try rfl
end Go.Proofs.Ytinlbiphjgpmmaa.P
end
section
namespace Go.Proofs.Ytinlbiphjgpmmaa.P
open Go Go.RowKit Go.Proofs.Ytinlbiphjgpmmaa.V
def QaE.f (a0 : Int) : Option Bool := (Qaf.f a0 0 5).bind fun t1 => (some t1)
theorem QaE.link {a0 : Int} {r : Bool} (H : QaE.f a0 = some r) : Qat env 107 [.i .i64 a0] = some ([.b r], []) := by
 unfold QaE.f at H
 refine Qy (F := QaE.F) (tm := Qaw [(0, .i .i64 a0)]) (rs := rsL []) (nx := 0) (ow := []) rfl (by rfl) (by simp only [SN]) (by simp only [SN]) (by decide) ?_
 show W env QaE.B _ (Qf [.t 2] [] _)
 unfold QaE.B
 obtain ⟨t1, e1, H⟩ := Qm H
 have e1 := Qaf.link e1
 injection H with H; subst H
 try simp only [TN, simprocAttr, e1]
 try rfl
end Go.Proofs.Ytinlbiphjgpmmaa.P
end
section
namespace Go.Proofs.Ytinlbiphjgpmmaa.P
open Go Go.RowKit Go.Proofs.Ytinlbiphjgpmmaa.V
def QaW.f (l0 : List QQ) (a1 : Int) : Option Bool := if a1 = 0 then (if 0 < (l0.length : Int) then (some (((Qap l0 0).f1) == 0)) else none) else (if 0 ≤ a1 then (if a1 < (l0.length : Int) then (if 0 ≤ wrap64 (a1 - 1) then (if wrap64 (a1 - 1) < (l0.length : Int) then ((Qaf.f ((Qap l0 a1).f1) 1 (wrap64 (((Qap l0 (wrap64 (a1 - 1))).f1) + 1))).bind fun t1 => (some t1)) else none) else none) else none) else none)
theorem QaW.link {l0 : List QQ} {a1 : Int} {r : Bool} (H : QaW.f l0 a1 = some r) : Qat env 108 [.deep false true 2 (l0.map QaA), .i .i64 a1] = some ([.b r], [none]) := by
 unfold QaW.f at H
 refine Qy (F := QaW.F) (tm := Qaw [(0, .slc 0 [] 0 2 0 l0.length), (1, .i .i64 a1)]) (rs := rsL [(0, some ⟨false, 2, 0, (l0.map QaA)⟩)]) (nx := 1) (ow := [false]) rfl (by rfl) (by simp only [SN]) (by simp only [SN]) (by decide) ?_
 show W env QaW.B _ (Qf [.t 4] [false] _)
 unfold QaW.B
 try simp only [TN, simprocAttr]
 rcases QP H with ⟨h1, H⟩ | ⟨h1, H⟩
 ·skip
  obtain ⟨h2, H⟩ := Qr H
  injection H with H; subst H
  try simp only [TN, simprocAttr, eq_true h1, h2]
  try rfl
 ·skip
  obtain ⟨h3, H⟩ := Qr H
  obtain ⟨h4, H⟩ := Qr H
  obtain ⟨h5, H⟩ := Qr H
  obtain ⟨h6, H⟩ := Qr H
  obtain ⟨t1, e7, H⟩ := Qm H
  have e7 := Qaf.link e7
  injection H with H; subst H
  try simp only [TN, simprocAttr, h1, h3, h4, h5, h6, e7]
  try rfl
end Go.Proofs.Ytinlbiphjgpmmaa.P
end
section
namespace Go.Proofs.Ytinlbiphjgpmmaa.P
open Go Go.RowKit Go.Proofs.Ytinlbiphjgpmmaa.V
def QB.l0 : Nat → (List QQ) → (List QQ) → Int → Int → Option Bool
 | 0, _, _, _, _ => none
 | k + 1, l0, x9, x10, x11 => if x11 < x10 then (if 0 ≤ x11 then (if x11 < (l0.length : Int) then ((QaE.f ((Qap l0 x11).f0)).bind fun t2 => (if t2 = true then ((Qaf.f ((Qap l0 x11).f1) 0 12).bind fun t3 => (if t3 = true then ((QaW.f l0 x11).bind fun t4 => (if t4 = true then (QB.l0 k l0 l0 x10 (wrap64 (x11 + 1))) else (some false))) else (some false))) else (some false))) else none) else none) else (some true)
def QB.f (k : Nat) (l0 : List QQ) : Option Bool := (Qaf.f (l0.length : Int) 1 24).bind fun t1 => (if t1 = true then (QB.l0 k l0 l0 (l0.length : Int) 0) else (some false))
def QB.P0 (k : Nat) : Prop := ∀ (l0 : List QQ) (x9 : List QQ) (x10 : Int) (x11 : Int) (r : Bool), x9 = l0 → QB.l0 k l0 x9 x10 x11 = some r → ∀ st, canon 1 [0, 9, 10, 11] st = ⟨Qaw [(0, .slc 0 [] 0 2 0 l0.length), (9, .slc 0 [] 0 2 0 l0.length), (10, .i .i64 x10), (11, .i .i64 x11)], rsL [(0, some ⟨false, 2, 0, (l0.map QaA)⟩)], 1⟩ → W env QB.c1 st (Qb 0 (Qs env QB.c0 (Qf [.t 2] [false] ([.b r], [none]))))
theorem QB.s0 (k : Nat) (ih : QB.P0 k) : QB.P0 (k + 1) := by
 intro l0 x9 x10 x11 r a0 H st hst
 subst a0
 rw [QB.l0] at H
 rw [Qax (show QB.c1 = C.loop 1 [0, 9, 10, 11] QB.d1 from rfl), hst]
 unfold QB.d1
 try simp only [TN, simprocAttr, QB.c0]
 rcases QP H with ⟨h1, H⟩ | ⟨h1, H⟩
 ·skip
  obtain ⟨h2, H⟩ := Qr H
  obtain ⟨h3, H⟩ := Qr H
  obtain ⟨t2, e4, H⟩ := Qm H
  have e4 := QaE.link e4
  try simp only [TN, simprocAttr, QB.c0, h1, h2, h3, e4]
  rcases Qa1 H with ⟨h5, H⟩ | ⟨h5, H⟩
  ·skip
   obtain ⟨t3, e6, H⟩ := Qm H
   have e6 := Qaf.link e6
   try simp only [TN, simprocAttr, QB.c0, h1, h2, h3, e4, h5, e6]
   rcases Qa1 H with ⟨h7, H⟩ | ⟨h7, H⟩
   ·skip
    obtain ⟨t4, e8, H⟩ := Qm H
    have e8 := QaW.link e8
    try simp only [TN, simprocAttr, QB.c0, h1, h2, h3, e4, h5, e6, h7, e8]
    rcases Qa1 H with ⟨h9, H⟩ | ⟨h9, H⟩
    ·skip
     try simp only [TN, simprocAttr, QB.c0, h1, h2, h3, e4, h5, e6, h7, e8, h9]
     refine ih _ _ _ _ _ rfl H _ ?_
     first | (rw [Qc]; done) | (rw [Qc]; rfl) | (rw [Qc]; simp only [List.length_set, List.length_append, List.length_replicate]; rfl)
    ·skip
     injection H with H; subst H
     try simp only [TN, simprocAttr, QB.c0, h1, h2, h3, e4, h5, e6, h7, e8, h9]
     try rfl
   ·skip
    injection H with H; subst H
    try simp only [TN, simprocAttr, QB.c0, h1, h2, h3, e4, h5, e6, h7]
    try rfl
  ·skip
   injection H with H; subst H
   try simp only [TN, simprocAttr, QB.c0, h1, h2, h3, e4, h5]
   try rfl
 ·skip
  injection H with H; subst H
  try simp only [TN, simprocAttr, QB.c0, h1]
  try rfl
theorem QB.w : ∀ k, QB.P0 k := by
 intro k
 induction k with
 | zero => exact by intro l0 x9 x10 x11 r _ H; cases (show (none : Option Bool) = some r from H)
 | succ k ih => exact QB.s0 k ih
theorem QB.link {k : Nat} {l0 : List QQ} {r : Bool} (H : QB.f k l0 = some r) : Qat env 99 [.deep false true 2 (l0.map QaA)] = some ([.b r], [none]) := by
 unfold QB.f at H
 refine Qy (F := QB.F) (tm := Qaw [(0, .slc 0 [] 0 2 0 l0.length)]) (rs := rsL [(0, some ⟨false, 2, 0, (l0.map QaA)⟩)]) (nx := 1) (ow := [false]) rfl (by rfl) (by simp only [SN]) (by simp only [SN]) (by decide) ?_
 show W env QB.B _ (Qf [.t 2] [false] _)
 unfold QB.B
 obtain ⟨t1, e1, H⟩ := Qm H
 have e1 := Qaf.link e1
 try simp only [TN, simprocAttr, QB.c0, e1]
 rcases Qa1 H with ⟨h2, H⟩ | ⟨h2, H⟩
 ·skip
  try simp only [TN, simprocAttr, QB.c0, e1, h2]
  refine (QB.w k) _ _ _ _ _ rfl H _ ?_
  first | (rw [Qc]; done) | (rw [Qc]; rfl) | (rw [Qc]; simp only [List.length_set, List.length_append, List.length_replicate]; rfl)
 ·skip
  injection H with H; subst H
  try simp only [TN, simprocAttr, QB.c0, e1, h2]
  try rfl
end Go.Proofs.Ytinlbiphjgpmmaa.P
end
section
namespace Go.Proofs.Ytinlbiphjgpmmaa.P
open Go Go.RowKit Go.Proofs.Ytinlbiphjgpmmaa.V
def Q9.l0 : Nat → (List QQ) → Int → Int → Option Int
 | 0, _, _, _ => none
 | k + 1, l0, a1, x5 => if x5 < (l0.length : Int) then (if 0 ≤ x5 then (if 0 ≤ a1 then (if a1 < (l0.length : Int) then (if ((Qap l0 x5).f1) > ((Qap l0 a1).f1) then (Q9.l0 k l0 a1 (wrap64 (x5 + 1))) else (some x5)) else none) else none) else none) else (some x5)
def Q9.f (k : Nat) (l0 : List QQ) (a1 : Int) : Option Int := Q9.l0 k l0 a1 (wrap64 (a1 + 1))
def Q9.P0 (k : Nat) : Prop := ∀ (l0 : List QQ) (a1 : Int) (x5 : Int) (r : Int), Q9.l0 k l0 a1 x5 = some r → ∀ st, canon 1 [0, 1, 5] st = ⟨Qaw [(0, .slc 0 [] 0 2 0 l0.length), (1, .i .i64 a1), (5, .i .i64 x5)], rsL [(0, some ⟨false, 2, 0, (l0.map QaA)⟩)], 1⟩ → W env Q9.c1 st (Qb 0 (Qs env Q9.c0 (Qf [.t 4] [false] ([.i .i64 r], [none]))))
theorem Q9.s0 (k : Nat) (ih : Q9.P0 k) : Q9.P0 (k + 1) := by
 intro l0 a1 x5 r H st hst
 rw [Q9.l0] at H
 rw [Qax (show Q9.c1 = C.loop 1 [0, 1, 5] Q9.d1 from rfl), hst]
 unfold Q9.d1
 try simp only [TN, simprocAttr, Q9.c0]
 rcases QP H with ⟨h1, H⟩ | ⟨h1, H⟩
 ·skip
  obtain ⟨h2, H⟩ := Qr H
  obtain ⟨h3, H⟩ := Qr H
  obtain ⟨h4, H⟩ := Qr H
  try simp only [TN, simprocAttr, Q9.c0, h1, h2, h3, h4]
  rcases QP H with ⟨h5, H⟩ | ⟨h5, H⟩
  ·skip
   try simp only [TN, simprocAttr, Q9.c0, h1, h2, h3, h4, h5]
   refine ih _ _ _ _ H _ ?_
   first | (rw [Qc]; done) | (rw [Qc]; rfl) | (rw [Qc]; simp only [List.length_set, List.length_append, List.length_replicate]; rfl)
  ·skip
   injection H with H; subst H
   try simp only [TN, simprocAttr, Q9.c0, h1, h2, h3, h4, h5]
   try rfl
 ·skip
  injection H with H; subst H
  try simp only [TN, simprocAttr, Q9.c0, h1]
  try rfl
theorem Q9.w : ∀ k, Q9.P0 k := by
 intro k
 induction k with
 | zero => exact by intro l0 a1 x5 r H; cases (show (none : Option Int) = some r from H)
 | succ k ih => exact Q9.s0 k ih
theorem Q9.link {k : Nat} {l0 : List QQ} {a1 : Int} {r : Int} (H : Q9.f k l0 a1 = some r) : Qat env 123 [.deep false true 2 (l0.map QaA), .i .i64 a1] = some ([.i .i64 r], [none]) := by
 unfold Q9.f at H
 refine Qy (F := Q9.F) (tm := Qaw [(0, .slc 0 [] 0 2 0 l0.length), (1, .i .i64 a1)]) (rs := rsL [(0, some ⟨false, 2, 0, (l0.map QaA)⟩)]) (nx := 1) (ow := [false]) rfl (by rfl) (by simp only [SN]) (by simp only [SN]) (by decide) ?_
 show W env Q9.B _ (Qf [.t 4] [false] _)
 unfold Q9.B
 try simp only [TN, simprocAttr, Q9.c0]
 refine (Q9.w k) _ _ _ _ H _ ?_
 first | (rw [Qc]; done) | (rw [Qc]; rfl) | (rw [Qc]; simp only [List.length_set, List.length_append, List.length_replicate]; rfl)
end Go.Proofs.Ytinlbiphjgpmmaa.P
end
section
namespace Go.Proofs.Ytinlbiphjgpmmaa.P
open Go Go.RowKit Go.Proofs.Ytinlbiphjgpmmaa.V
def QaV.f (k : Nat) (l0 : List QQ) (a1 : Int) : Option Bool := (QB.f k l0).bind fun t1 => (if t1 = true then ((Qaf.f a1 0 (wrap64 ((l0.length : Int) - 1))).bind fun t2 => (some t2)) else (some false))
theorem QaV.link {k : Nat} {l0 : List QQ} {a1 : Int} {r : Bool} (H : QaV.f k l0 a1 = some r) : Qat env 134 [.deep false true 2 (l0.map QaA), .i .i64 a1] = some ([.b r], [none]) := by
 unfold QaV.f at H
 refine Qy (F := QaV.F) (tm := Qaw [(0, .slc 0 [] 0 2 0 l0.length), (1, .i .i64 a1)]) (rs := rsL [(0, some ⟨false, 2, 0, (l0.map QaA)⟩)]) (nx := 1) (ow := [false]) rfl (by rfl) (by simp only [SN]) (by simp only [SN]) (by decide) ?_
 show W env QaV.B _ (Qf [.t 4] [false] _)
 unfold QaV.B
 obtain ⟨t1, e1, H⟩ := Qm H
 have e1 := QB.link e1
 try simp only [TN, simprocAttr, e1]
 rcases Qa1 H with ⟨h2, H⟩ | ⟨h2, H⟩
 ·skip
  obtain ⟨t2, e3, H⟩ := Qm H
  have e3 := Qaf.link e3
  injection H with H; subst H
  try simp only [TN, simprocAttr, e1, h2, e3]
  try rfl
 ·skip
  injection H with H; subst H
  try simp only [TN, simprocAttr, e1, h2]
  try rfl
end Go.Proofs.Ytinlbiphjgpmmaa.P
end
section
namespace Go.Proofs.Ytinlbiphjgpmmaa.P
open Go Go.RowKit Go.Proofs.Ytinlbiphjgpmmaa.V
def QO.l0 : Nat → (List QQ) → Int → (List Int) → Int → Option (List Int)
 | 0, _, _, _, _ => none
 | k + 1, l0, a1, x5, x6 => (Q9.f k l0 a1).bind fun t2 => (if x6 < t2 then (if 0 ≤ x6 then (if x6 < (l0.length : Int) then (if 0 ≤ a1 then (if a1 < (l0.length : Int) then (if ((Qap l0 x6).f1) = (wrap64 (((Qap l0 a1).f1) + 1)) then (if x5.length < 17592186044416 then (QO.l0 k l0 a1 (x5 ++ ([x6])) (wrap64 (x6 + 1))) else none) else (QO.l0 k l0 a1 x5 (wrap64 (x6 + 1)))) else none) else none) else none) else none) else (some x5))
def QO.f (k : Nat) (l0 : List QQ) (a1 : Int) : Option (List Int) := (QaV.f k l0 a1).bind fun t1 => (if t1 = true then (QO.l0 k l0 a1 ([] : List Int) (wrap64 (a1 + 1))) else (some ([] : List Int)))
def QO.P0 (k : Nat) : Prop := ∀ (l0 : List QQ) (a1 : Int) (x5 : List Int) (x6 : Int) (r : (List Int)), QO.l0 k l0 a1 x5 x6 = some r → ∀ st, canon 1 [0, 1, 5, 6] st = ⟨Qaw [(0, .slc 0 [] 0 2 0 l0.length), (1, .i .i64 a1), (5, .slc 1 [] 0 1 0 x5.length), (6, .i .i64 x6)], rsL [(0, some ⟨false, 2, 0, (l0.map QaA)⟩), (1, some ⟨true, 1, 0, (x5.map eI)⟩)], 2⟩ → W env QO.c1 st (Qb 0 (Qs env QO.c0 (Qf [.t 4] [false] ([.deep false false 1 (r.map eI)], [none]))))
theorem QO.s0 (k : Nat) (ih : QO.P0 k) : QO.P0 (k + 1) := by
 intro l0 a1 x5 x6 r H st hst
 rw [QO.l0] at H
 rw [Qax (show QO.c1 = C.loop 1 [0, 1, 5, 6] QO.d1 from rfl), hst]
 unfold QO.d1
 obtain ⟨t2, e1, H⟩ := Qm H
 have e1 := Q9.link e1
 try simp only [TN, simprocAttr, QO.c0, e1]
 rcases QP H with ⟨h2, H⟩ | ⟨h2, H⟩
 ·skip
  obtain ⟨h3, H⟩ := Qr H
  obtain ⟨h4, H⟩ := Qr H
  obtain ⟨h5, H⟩ := Qr H
  obtain ⟨h6, H⟩ := Qr H
  try simp only [TN, simprocAttr, QO.c0, e1, h2, h3, h4, h5, h6]
  rcases QP H with ⟨h7, H⟩ | ⟨h7, H⟩
  ·skip
   obtain ⟨h8, H⟩ := Qr H
   have h9 : (x5.length + 1) * 8 ≤ 140737488355328 := by omega
   try simp only [TN, simprocAttr, QO.c0, e1, h2, h3, h4, h5, h6, eq_true h7, h8, h9]
   refine ih _ _ _ _ _ H _ ?_
   first | (rw [Qc]; done) | (rw [Qc]; rfl) | (rw [Qc]; simp only [List.length_set, List.length_append, List.length_replicate]; rfl)
  ·skip
   try simp only [TN, simprocAttr, QO.c0, e1, h2, h3, h4, h5, h6, h7]
   refine ih _ _ _ _ _ H _ ?_
   first | (rw [Qc]; done) | (rw [Qc]; rfl) | (rw [Qc]; simp only [List.length_set, List.length_append, List.length_replicate]; rfl)
 ·skip
  injection H with H; subst H
  try simp only [TN, simprocAttr, QO.c0, e1, h2]
  try rfl
theorem QO.w : ∀ k, QO.P0 k := by
 intro k
 induction k with
 | zero => exact by intro l0 a1 x5 x6 r H; cases (show (none : Option (List Int)) = some r from H)
 | succ k ih => exact QO.s0 k ih
theorem QO.link {k : Nat} {l0 : List QQ} {a1 : Int} {r : (List Int)} (H : QO.f k l0 a1 = some r) : Qat env 126 [.deep false true 2 (l0.map QaA), .i .i64 a1] = some ([.deep false false 1 (r.map eI)], [none]) := by
 unfold QO.f at H
 refine Qy (F := QO.F) (tm := Qaw [(0, .slc 0 [] 0 2 0 l0.length), (1, .i .i64 a1)]) (rs := rsL [(0, some ⟨false, 2, 0, (l0.map QaA)⟩)]) (nx := 1) (ow := [false]) rfl (by rfl) (by simp only [SN]) (by simp only [SN]) (by decide) ?_
 show W env QO.B _ (Qf [.t 4] [false] _)
 unfold QO.B
 obtain ⟨t1, e1, H⟩ := Qm H
 have e1 := QaV.link e1
 try simp only [TN, simprocAttr, QO.c0, e1]
 rcases Qa1 H with ⟨h2, H⟩ | ⟨h2, H⟩
 ·skip
  try simp only [TN, simprocAttr, QO.c0, e1, h2]
  refine (QO.w k) _ _ _ _ _ H _ ?_
  first | (rw [Qc]; done) | (rw [Qc]; rfl) | (rw [Qc]; simp only [List.length_set, List.length_append, List.length_replicate]; rfl)
 ·skip
  injection H with H; subst H
  try simp only [TN, simprocAttr, QO.c0, e1, h2]
  try rfl
end Go.Proofs.Ytinlbiphjgpmmaa.P
end
section
namespace Go.Proofs.Ytinlbiphjgpmmaa.P
open Go Go.RowKit Go.Proofs.Ytinlbiphjgpmmaa.V
def QW.l0 : Nat → (List QQ) → Int → (List Int) → Int → Int → Option Int
 | 0, _, _, _, _, _ => none
 | k + 1, l0, x5, l1, x13, x14 => if x14 < x13 then (if 0 ≤ x14 then (if x14 < (l1.length : Int) then ((QO.f k l0 x5).bind fun t2 => ((Qaf.f (rd l1 x14) 0 (wrap64 ((t2.length : Int) - 1))).bind fun t3 => (if t3 = true then (if 0 ≤ rd l1 x14 then (if rd l1 x14 < (t2.length : Int) then (QW.l0 k l0 (rd t2 (rd l1 x14)) l1 x13 (wrap64 (x14 + 1))) else none) else none) else (some (-1))))) else none) else none) else (some x5)
def QW.f (k : Nat) (l0 : List QQ) (l1 : List Int) : Option Int := (QB.f k l0).bind fun t1 => (if t1 = true then (QW.l0 k l0 0 l1 (l1.length : Int) 0) else (some (-1)))
def QW.P0 (k : Nat) : Prop := ∀ (l0 : List QQ) (x5 : Int) (l1 : List Int) (x13 : Int) (x14 : Int) (r : Int), QW.l0 k l0 x5 l1 x13 x14 = some r → ∀ st, canon 2 [0, 5, 12, 13, 14] st = ⟨Qaw [(0, .slc 0 [] 0 2 0 l0.length), (5, .i .i64 x5), (12, .slc 1 [] 0 1 0 l1.length), (13, .i .i64 x13), (14, .i .i64 x14)], rsL [(0, some ⟨false, 2, 0, (l0.map QaA)⟩), (1, some ⟨false, 1, 0, (l1.map eI)⟩)], 2⟩ → W env QW.c1 st (Qb 0 (Qs env QW.c0 (Qf [.t 4] [false, false] ([.i .i64 r], [none, none]))))
theorem QW.s0 (k : Nat) (ih : QW.P0 k) : QW.P0 (k + 1) := by
 intro l0 x5 l1 x13 x14 r H st hst
 rw [QW.l0] at H
 rw [Qax (show QW.c1 = C.loop 2 [0, 5, 12, 13, 14] QW.d1 from rfl), hst]
 unfold QW.d1
 try simp only [TN, simprocAttr, QW.c0]
 rcases QP H with ⟨h1, H⟩ | ⟨h1, H⟩
 ·skip
  obtain ⟨h2, H⟩ := Qr H
  obtain ⟨h3, H⟩ := Qr H
  obtain ⟨t2, e4, H⟩ := Qm H
  have e4 := QO.link e4
  obtain ⟨t3, e5, H⟩ := Qm H
  have e5 := Qaf.link e5
  try simp only [TN, simprocAttr, QW.c0, h1, h2, h3, e4, e5]
  rcases Qa1 H with ⟨h6, H⟩ | ⟨h6, H⟩
  ·skip
   obtain ⟨h7, H⟩ := Qr H
   obtain ⟨h8, H⟩ := Qr H
   try simp only [TN, simprocAttr, QW.c0, h1, h2, h3, e4, e5, h6, h7, h8]
   refine ih _ _ _ _ _ _ H _ ?_
   first | (rw [Qc]; done) | (rw [Qc]; rfl) | (rw [Qc]; simp only [List.length_set, List.length_append, List.length_replicate]; rfl)
  ·skip
   injection H with H; subst H
   try simp only [TN, simprocAttr, QW.c0, h1, h2, h3, e4, e5, h6]
   try rfl
 ·skip
  injection H with H; subst H
  try simp only [TN, simprocAttr, QW.c0, h1]
  try rfl
theorem QW.w : ∀ k, QW.P0 k := by
 intro k
 induction k with
 | zero => exact by intro l0 x5 l1 x13 x14 r H; cases (show (none : Option Int) = some r from H)
 | succ k ih => exact QW.s0 k ih
theorem QW.link {k : Nat} {l0 : List QQ} {l1 : List Int} {r : Int} (H : QW.f k l0 l1 = some r) : Qat env 121 [.deep false true 2 (l0.map QaA), .deep false true 1 (l1.map eI)] = some ([.i .i64 r], [none, none]) := by
 unfold QW.f at H
 refine Qy (F := QW.F) (tm := Qaw [(0, .slc 0 [] 0 2 0 l0.length), (1, .slc 1 [] 0 1 0 l1.length)]) (rs := rsL [(0, some ⟨false, 2, 0, (l0.map QaA)⟩), (1, some ⟨false, 1, 0, (l1.map eI)⟩)]) (nx := 2) (ow := [false, false]) rfl (by rfl) (by simp only [SN]) (by simp only [SN]) (by decide) ?_
 show W env QW.B _ (Qf [.t 4] [false, false] _)
 unfold QW.B
 obtain ⟨t1, e1, H⟩ := Qm H
 have e1 := QB.link e1
 try simp only [TN, simprocAttr, QW.c0, e1]
 rcases Qa1 H with ⟨h2, H⟩ | ⟨h2, H⟩
 ·skip
  try simp only [TN, simprocAttr, QW.c0, e1, h2]
  refine (QW.w k) _ _ _ _ _ _ H _ ?_
  first | (rw [Qc]; done) | (rw [Qc]; rfl) | (rw [Qc]; simp only [List.length_set, List.length_append, List.length_replicate]; rfl)
 ·skip
  injection H with H; subst H
  try simp only [TN, simprocAttr, QW.c0, e1, h2]
  try rfl
end Go.Proofs.Ytinlbiphjgpmmaa.P
end
section
namespace Go.Proofs.Ytinlbiphjgpmmaa.P
open Go Go.RowKit Go.Proofs.Ytinlbiphjgpmmaa.V
def Qv.l0 : Nat → (List QQ) → Int → Int → Int → (List QQ) → Int → Int → (List Int) → Option (Int × Int × Int)
 | 0, _, _, _, _, _, _, _, _ => none
 | k + 1, l0, x7, x8, x11, x92, x93, x94, l1_1 => if x94 < x93 then (if 0 ≤ x94 then (if x94 < (x92.length : Int) then (Qv.l0 k l0 x7 x8 (mx x11 (wrap64 (((Qap x92 x94).f1) + 1))) x92 x93 (wrap64 (x94 + 1)) l1_1) else none) else none) else (if (l0.length : Int) = 24 then (some (6, 0, 0)) else (if x11 > 12 then (some (7, 0, 0)) else (some (0, x7, x8))))
def Qv.f (k : Nat) (l0 : List QQ) (a1_0 : Int) (l1_1 : List Int) (a1_2 : Int) (a1_3 : Int) (a1_4 : Int) (a2 : Int) : Option (Int × Int × Int) := (Qaf.f a1_0 1 3).bind fun t1 => (if t1 = true then (if a2 < 0 then (some (2, 0, 0)) else (if a1_0 = 2 then (if a2 = 0 then (some (4, 0, 0)) else (if a1_0 = 3 then ((QO.f k l0 a2).bind fun t2 => ((Qaf.f a1_3 0 (t2.length : Int)).bind fun t3 => (if t3 = true then ((Qaf.f a1_4 0 (wrap64 ((t2.length : Int) - a1_3))).bind fun t4 => (if t4 = true then ((Q9.f k l0 a2).bind fun t5 => (if t2.length < 17592186044416 then ((some (t2 ++ ([t5]) : List Int)).bind fun y0 => (if 0 ≤ a1_3 then (if a1_3 < (y0.length : Int) then (if 0 ≤ wrap64 (a1_3 + a1_4) then (if wrap64 (a1_3 + a1_4) < (y0.length : Int) then (if 0 ≤ a2 then (if a2 < (l0.length : Int) then (if rd y0 (wrap64 (a1_3 + a1_4)) ≤ (l0.length : Int) then (if 0 ≤ rd y0 a1_3 then (if rd y0 a1_3 ≤ rd y0 (wrap64 (a1_3 + a1_4)) then ((some ((l0.take (rd y0 (wrap64 (a1_3 + a1_4)) : Int).toNat).drop (rd y0 a1_3 : Int).toNat : List QQ)).bind fun y1 => (Qv.l0 k l0 (rd y0 a1_3) (rd y0 (wrap64 (a1_3 + a1_4))) (wrap64 (((Qap l0 a2).f1) + 1)) y1 (y1.length : Int) 0 l1_1)) else none) else none) else none) else none) else none) else none) else none) else none) else none)) else none)) else (some (5, 0, 0)))) else (some (5, 0, 0))))) else (some (0, 0, 0)))) else ((QaE.f a1_2).bind fun t6 => (if t6 = true then (if a1_0 = 3 then ((QO.f k l0 a2).bind fun t7 => ((Qaf.f a1_3 0 (t7.length : Int)).bind fun t8 => (if t8 = true then ((Qaf.f a1_4 0 (wrap64 ((t7.length : Int) - a1_3))).bind fun t9 => (if t9 = true then ((Q9.f k l0 a2).bind fun t10 => (if t7.length < 17592186044416 then ((some (t7 ++ ([t10]) : List Int)).bind fun y2 => (if 0 ≤ a1_3 then (if a1_3 < (y2.length : Int) then (if 0 ≤ wrap64 (a1_3 + a1_4) then (if wrap64 (a1_3 + a1_4) < (y2.length : Int) then (if 0 ≤ a2 then (if a2 < (l0.length : Int) then (if rd y2 (wrap64 (a1_3 + a1_4)) ≤ (l0.length : Int) then (if 0 ≤ rd y2 a1_3 then (if rd y2 a1_3 ≤ rd y2 (wrap64 (a1_3 + a1_4)) then ((some ((l0.take (rd y2 (wrap64 (a1_3 + a1_4)) : Int).toNat).drop (rd y2 a1_3 : Int).toNat : List QQ)).bind fun y3 => (Qv.l0 k l0 (rd y2 a1_3) (rd y2 (wrap64 (a1_3 + a1_4))) (wrap64 (((Qap l0 a2).f1) + 1)) y3 (y3.length : Int) 0 l1_1)) else none) else none) else none) else none) else none) else none) else none) else none) else none)) else none)) else (some (5, 0, 0)))) else (some (5, 0, 0))))) else (some (0, 0, 0))) else (some (3, 0, 0)))))) else (some (1, 0, 0)))
def Qv.P0 (k : Nat) : Prop := ∀ (l0 : List QQ) (x7 : Int) (x8 : Int) (x11 : Int) (x92 : List QQ) (x93 : Int) (x94 : Int) (l1_1 : List Int) (ox92 : Nat) (r : Int × Int × Int), (List.drop ox92 l0).take (List.length x92) = x92 → Qv.l0 k l0 x7 x8 x11 x92 x93 x94 l1_1 = some r → ∀ st, canon 2 [0, 7, 8, 11, 92, 93, 94] st = ⟨Qaw [(0, .slc 0 [] 0 2 0 l0.length), (7, .i .i64 x7), (8, .i .i64 x8), (11, .i .i64 x11), (92, .slc 0 [] 0 2 ox92 x92.length), (93, .i .i64 x93), (94, .i .i64 x94)], rsL [(0, some ⟨false, 2, 0, (l0.map QaA)⟩), (1, some ⟨false, 1, 0, (l1_1.map eI)⟩)], 2⟩ → W env Qv.c1 st (Qb 1 (Qs env Qv.c0 (Qf [.t 6, .t 7, .t 8] [false, false] ([.i .i64 r.1, .i .i64 r.2.1, .i .i64 r.2.2], [none, none]))))
theorem Qv.s0 (k : Nat) (ih : Qv.P0 k) : Qv.P0 (k + 1) := by
 intro l0 x7 x8 x11 x92 x93 x94 l1_1 ox92 r v0 H st hst
 have vg0 : ∀ {j : Int}, 0 ≤ j → j < (List.length x92 : Int) → (l0.map QaA)[ox92 + j.toNat]? = some (QaA (Qap x92 j)) := fun h1 h2 => Ql6 v0 h1 h2
 have vw0 := QeU (e := QaA) v0
 rw [Qv.l0] at H
 rw [Qax (show Qv.c1 = C.loop 2 [0, 7, 8, 11, 92, 93, 94] Qv.d1 from rfl), hst]
 unfold Qv.d1
 try simp only [TN, simprocAttr, Qv.c0, vg0, vw0]
 rcases QP H with ⟨h1, H⟩ | ⟨h1, H⟩
 ·skip
  obtain ⟨h2, H⟩ := Qr H
  obtain ⟨h3, H⟩ := Qr H
  try simp only [TN, simprocAttr, Qv.c0, vg0, vw0, h1, h2, h3]
  refine ih _ _ _ _ _ _ _ _ (ox92) _ (by assumption) H _ ?_
  first | (rw [Qc]; done) | (rw [Qc]; rfl) | (rw [Qc]; simp only [List.length_set, List.length_append, List.length_replicate]; rfl)
 ·skip
  try simp only [TN, simprocAttr, Qv.c0, vg0, vw0, h1]
  rcases QP H with ⟨h4, H⟩ | ⟨h4, H⟩
  ·skip
   injection H with H; subst H
   try simp only [TN, simprocAttr, Qv.c0, vg0, vw0, h1, eq_true h4]
   try rfl
  ·skip
   try simp only [TN, simprocAttr, Qv.c0, vg0, vw0, h1, h4]
   rcases QP H with ⟨h5, H⟩ | ⟨h5, H⟩
   ·skip
    injection H with H; subst H
    try simp only [TN, simprocAttr, Qv.c0, vg0, vw0, h1, h4, h5]
    try rfl
   ·skip
    injection H with H; subst H
    try simp only [TN, simprocAttr, Qv.c0, vg0, vw0, h1, h4, h5]
    try rfl
theorem Qv.w : ∀ k, Qv.P0 k := by
 intro k
 induction k with
 | zero => exact by intro l0 x7 x8 x11 x92 x93 x94 l1_1 _ r _ H; cases (show (none : Option (Int × Int × Int)) = some r from H)
 | succ k ih => exact Qv.s0 k ih
theorem Qv.link {k : Nat} {l0 : List QQ} {a1_0 : Int} {l1_1 : List Int} {a1_2 : Int} {a1_3 : Int} {a1_4 : Int} {a2 : Int} {r : Int × Int × Int} (H : Qv.f k l0 a1_0 l1_1 a1_2 a1_3 a1_4 a2 = some r) : Qat env 122 [.deep false true 2 (l0.map QaA), .agg [.i .i64 a1_0, .deep false true 1 (l1_1.map eI), .i .i64 a1_2, .i .i64 a1_3, .i .i64 a1_4], .i .i64 a2] = some ([.i .i64 r.1, .i .i64 r.2.1, .i .i64 r.2.2], [none, none]) := by
 unfold Qv.f at H
 refine Qy (F := Qv.F) (tm := Qaw [(0, .slc 0 [] 0 2 0 l0.length), (1, .agg [.i .i64 a1_0, .slc 1 [] 0 1 0 l1_1.length, .i .i64 a1_2, .i .i64 a1_3, .i .i64 a1_4]), (2, .i .i64 a2)]) (rs := rsL [(0, some ⟨false, 2, 0, (l0.map QaA)⟩), (1, some ⟨false, 1, 0, (l1_1.map eI)⟩)]) (nx := 2) (ow := [false, false]) rfl (by rfl) (by simp only [SN]) (by simp only [SN]) (by decide) ?_
 show W env Qv.B _ (Qf [.t 6, .t 7, .t 8] [false, false] _)
 unfold Qv.B
 obtain ⟨t1, e1, H⟩ := Qm H
 have e1 := Qaf.link e1
 try simp only [TN, simprocAttr, Qv.c0, e1]
 rcases Qa1 H with ⟨h2, H⟩ | ⟨h2, H⟩
 ·skip
  try simp only [TN, simprocAttr, Qv.c0, e1, h2]
  rcases QP H with ⟨h3, H⟩ | ⟨h3, H⟩
  ·skip
   injection H with H; subst H
   try simp only [TN, simprocAttr, Qv.c0, e1, h2, h3]
   try rfl
  ·skip
   try simp only [TN, simprocAttr, Qv.c0, e1, h2, h3]
   rcases QP H with ⟨h4, H⟩ | ⟨h4, H⟩
   ·skip
    try simp only [TN, simprocAttr, Qv.c0, e1, h2, h3, eq_true h4]
    rcases QP H with ⟨h5, H⟩ | ⟨h5, H⟩
    ·skip
     injection H with H; subst H
     try simp only [TN, simprocAttr, Qv.c0, e1, h2, h3, eq_true h4, eq_true h5]
     try rfl
    ·skip
     try simp only [TN, simprocAttr, Qv.c0, e1, h2, h3, eq_true h4, h5]
     rcases QP H with ⟨h6, H⟩ | ⟨h6, H⟩
     ·skip
      obtain ⟨t2, e7, H⟩ := Qm H
      have e7 := QO.link e7
      obtain ⟨t3, e8, H⟩ := Qm H
      have e8 := Qaf.link e8
      try simp only [TN, simprocAttr, Qv.c0, e1, h2, h3, eq_true h4, h5, eq_true h6, e7, e8]
      rcases Qa1 H with ⟨h9, H⟩ | ⟨h9, H⟩
      ·skip
       obtain ⟨t4, e10, H⟩ := Qm H
       have e10 := Qaf.link e10
       try simp only [TN, simprocAttr, Qv.c0, e1, h2, h3, eq_true h4, h5, eq_true h6, e7, e8, h9, e10]
       rcases Qa1 H with ⟨h11, H⟩ | ⟨h11, H⟩
       ·skip
        obtain ⟨t5, e12, H⟩ := Qm H
        have e12 := Q9.link e12
        obtain ⟨h13, H⟩ := Qr H
        have h14 : (t2.length + 1) * 8 ≤ 140737488355328 := by omega
        obtain ⟨_, hy15, H⟩ := Qbx H; subst hy15
        obtain ⟨h16, H⟩ := Qr H
        obtain ⟨h17, H⟩ := Qr H
        obtain ⟨h18, H⟩ := Qr H
        obtain ⟨h19, H⟩ := Qr H
        obtain ⟨h20, H⟩ := Qr H
        obtain ⟨h21, H⟩ := Qr H
        obtain ⟨h22, H⟩ := Qr H
        obtain ⟨h23, H⟩ := Qr H
        obtain ⟨h24, H⟩ := Qr H
        obtain ⟨y1, hy1, H⟩ := Qbx H
        have h25 : (rd (t2 ++ ([t5])) (wrap64 (a1_3 + a1_4)) : Int).toNat - (rd (t2 ++ ([t5])) a1_3 : Int).toNat = List.length y1 := by rw [← hy1]; simp only [List.length_drop, List.length_take] <;> omega
        have cw25 : (List.drop (0 + (rd (t2 ++ ([t5])) a1_3 : Int).toNat) l0).take (List.length y1) = y1 := by rw [← h25, Nat.zero_add, ← List.drop_take]; exact hy1
        have g25 : ∀ {j : Int}, 0 ≤ j → j < (List.length y1 : Int) → (l0.map QaA)[0 + (rd (t2 ++ ([t5])) a1_3 : Int).toNat + j.toNat]? = some (QaA (Qap y1 j)) := fun h1 h2 => Ql6 cw25 h1 h2
        have w25 := QeU (e := QaA) cw25
        try simp only [TN, simprocAttr, Qv.c0, e1, h2, h3, eq_true h4, h5, eq_true h6, e7, e8, h9, e10, h11, e12, h13, h14, h16, h17, h18, h19, h20, h21, h22, h23, h24, h25, g25, w25]
        refine (Qv.w k) _ _ _ _ _ _ _ _ ((0 + (rd (t2 ++ ([t5])) a1_3 : Int).toNat)) _ (by assumption) H _ ?_
        first | (rw [Qc]; done) | (rw [Qc]; rfl) | (rw [Qc]; simp only [List.length_set, List.length_append, List.length_replicate]; rfl)
       ·skip
        injection H with H; subst H
        try simp only [TN, simprocAttr, Qv.c0, e1, h2, h3, eq_true h4, h5, eq_true h6, e7, e8, h9, e10, h11]
        try rfl
      ·skip
       injection H with H; subst H
       try simp only [TN, simprocAttr, Qv.c0, e1, h2, h3, eq_true h4, h5, eq_true h6, e7, e8, h9]
       try rfl
     ·skip
      injection H with H; subst H
      try simp only [TN, simprocAttr, Qv.c0, e1, h2, h3, eq_true h4, h5, h6]
      try rfl
   ·skip
    obtain ⟨t6, e26, H⟩ := Qm H
    have e26 := QaE.link e26
    try simp only [TN, simprocAttr, Qv.c0, e1, h2, h3, h4, e26]
    rcases Qa1 H with ⟨h27, H⟩ | ⟨h27, H⟩
    ·skip
     try simp only [TN, simprocAttr, Qv.c0, e1, h2, h3, h4, e26, h27]
     rcases QP H with ⟨h28, H⟩ | ⟨h28, H⟩
     ·skip
      obtain ⟨t7, e29, H⟩ := Qm H
      have e29 := QO.link e29
      obtain ⟨t8, e30, H⟩ := Qm H
      have e30 := Qaf.link e30
      try simp only [TN, simprocAttr, Qv.c0, e1, h2, h3, h4, e26, h27, eq_true h28, e29, e30]
      rcases Qa1 H with ⟨h31, H⟩ | ⟨h31, H⟩
      ·skip
       obtain ⟨t9, e32, H⟩ := Qm H
       have e32 := Qaf.link e32
       try simp only [TN, simprocAttr, Qv.c0, e1, h2, h3, h4, e26, h27, eq_true h28, e29, e30, h31, e32]
       rcases Qa1 H with ⟨h33, H⟩ | ⟨h33, H⟩
       ·skip
        obtain ⟨t10, e34, H⟩ := Qm H
        have e34 := Q9.link e34
        obtain ⟨h35, H⟩ := Qr H
        have h36 : (t7.length + 1) * 8 ≤ 140737488355328 := by omega
        obtain ⟨_, hy37, H⟩ := Qbx H; subst hy37
        obtain ⟨h38, H⟩ := Qr H
        obtain ⟨h39, H⟩ := Qr H
        obtain ⟨h40, H⟩ := Qr H
        obtain ⟨h41, H⟩ := Qr H
        obtain ⟨h42, H⟩ := Qr H
        obtain ⟨h43, H⟩ := Qr H
        obtain ⟨h44, H⟩ := Qr H
        obtain ⟨h45, H⟩ := Qr H
        obtain ⟨h46, H⟩ := Qr H
        obtain ⟨y3, hy3, H⟩ := Qbx H
        have h47 : (rd (t7 ++ ([t10])) (wrap64 (a1_3 + a1_4)) : Int).toNat - (rd (t7 ++ ([t10])) a1_3 : Int).toNat = List.length y3 := by rw [← hy3]; simp only [List.length_drop, List.length_take] <;> omega
        have cw47 : (List.drop (0 + (rd (t7 ++ ([t10])) a1_3 : Int).toNat) l0).take (List.length y3) = y3 := by rw [← h47, Nat.zero_add, ← List.drop_take]; exact hy3
        have g47 : ∀ {j : Int}, 0 ≤ j → j < (List.length y3 : Int) → (l0.map QaA)[0 + (rd (t7 ++ ([t10])) a1_3 : Int).toNat + j.toNat]? = some (QaA (Qap y3 j)) := fun h1 h2 => Ql6 cw47 h1 h2
        have w47 := QeU (e := QaA) cw47
        try simp only [TN, simprocAttr, Qv.c0, e1, h2, h3, h4, e26, h27, eq_true h28, e29, e30, h31, e32, h33, e34, h35, h36, h38, h39, h40, h41, h42, h43, h44, h45, h46, h47, g47, w47]
        refine (Qv.w k) _ _ _ _ _ _ _ _ ((0 + (rd (t7 ++ ([t10])) a1_3 : Int).toNat)) _ (by assumption) H _ ?_
        first | (rw [Qc]; done) | (rw [Qc]; rfl) | (rw [Qc]; simp only [List.length_set, List.length_append, List.length_replicate]; rfl)
       ·skip
        injection H with H; subst H
        try simp only [TN, simprocAttr, Qv.c0, e1, h2, h3, h4, e26, h27, eq_true h28, e29, e30, h31, e32, h33]
        try rfl
      ·skip
       injection H with H; subst H
       try simp only [TN, simprocAttr, Qv.c0, e1, h2, h3, h4, e26, h27, eq_true h28, e29, e30, h31]
       try rfl
     ·skip
      injection H with H; subst H
      try simp only [TN, simprocAttr, Qv.c0, e1, h2, h3, h4, e26, h27, h28]
      try rfl
    ·skip
     injection H with H; subst H
     try simp only [TN, simprocAttr, Qv.c0, e1, h2, h3, h4, e26, h27]
     try rfl
 ·skip
  injection H with H; subst H
  try simp only [TN, simprocAttr, Qv.c0, e1, h2]
  try rfl
end Go.Proofs.Ytinlbiphjgpmmaa.P
end
section
namespace Go.Proofs.Ytinlbiphjgpmmaa.P
open Go Go.RowKit Go.Proofs.Ytinlbiphjgpmmaa.V
def Qal.f (l0 : List QQ) (a1 : Int) (a2 : Int) : Option (List QQ) := if 0 ≤ a1 then (if a1 ≤ a2 then (if a2 ≤ (l0.length : Int) then (if l0.length * 16 ≤ 140737488355328 then some (l0.take a1.toNat ++ l0.drop a2.toNat) else none) else none) else none) else none
theorem Qal.link {l0 : List QQ} {a1 a2 : Int} {r : List QQ} (H : Qal.f l0 a1 a2 = some r) : Qat env 124 [.deep false false 2 (l0.map QaA), .i .i64 a1, .i .i64 a2] = some ([.deep false false 2 (r.map QaA)], [none]) := by
 unfold Qal.f at H
 obtain ⟨h1, H⟩ := Qr H
 obtain ⟨h2, H⟩ := Qr H
 obtain ⟨h3, H⟩ := Qr H
 obtain ⟨h4, H⟩ := Qr H
 injection H with H; subst H
 rw [List.map_append, List.map_take, List.map_drop]
 exact Qn4 (zero := [.i .i64 0, .i .i64 0]) (by' := 16) rfl rfl rfl rfl Qhv h1 h2 (by rw [List.length_map]; exact h3) (by rw [List.length_map]; exact h4)
end Go.Proofs.Ytinlbiphjgpmmaa.P
end
section
namespace Go.Proofs.Ytinlbiphjgpmmaa.P
open Go Go.RowKit Go.Proofs.Ytinlbiphjgpmmaa.V
def Qak.f (l0 : List QQ) (a1 : Int) (l2 : List QQ) : Option (List QQ) := if 0 ≤ a1 then (if a1 ≤ (l0.length : Int) then (if 0 < l2.length then (if (l0.length + l2.length) * 16 ≤ 140737488355328 then some (l0.take a1.toNat ++ l2 ++ l0.drop a1.toNat) else none) else none) else none) else none
theorem Qak.link {l0 : List QQ} {a1 : Int} {l2 : List QQ} {r : List QQ} (H : Qak.f l0 a1 l2 = some r) : Qat env 125 [.deep false false 2 (l0.map QaA), .i .i64 a1, .deep false false 2 (l2.map QaA)] = some ([.deep false false 2 (r.map QaA)], [none, some (l2.map QaA)]) := by
 unfold Qak.f at H
 obtain ⟨h1, H⟩ := Qr H
 obtain ⟨h2, H⟩ := Qr H
 obtain ⟨h3, H⟩ := Qr H
 obtain ⟨h4, H⟩ := Qr H
 injection H with H; subst H
 rw [List.map_append, List.map_append, List.map_take, List.map_drop]
 exact Qnr (zero := [.i .i64 0, .i .i64 0]) (by' := 16) (rot := 133) rfl rfl rfl rfl (by decide) Qhv Qhv (by rw [List.length_map]; exact h3) h1 (by rw [List.length_map]; exact h2) (by rw [List.length_map, List.length_map]; exact h4)
end Go.Proofs.Ytinlbiphjgpmmaa.P
end
section
namespace Go.Proofs.Ytinlbiphjgpmmaa.P
open Go Go.RowKit Go.Proofs.Ytinlbiphjgpmmaa.V
mutual
def Qh.l0 : Nat → (List QQ) → (List QQ) → Int → Int → (List Int) → Option ((List QQ) × Int)
 | 0, _, _, _, _, _ => none
 | k + 1, l0, x6, x7, x11, l1_1 => (Q9.f k l0 x7).bind fun t5 => (if x11 < t5 then (if 0 ≤ x11 then (if x11 < (x6.length : Int) then (Qh.l0 k l0 (x6.set (x11 : Int).toNat (⟨(Qap x6 x11).f0, wrap64 (((Qap x6 x11).f1) - 1)⟩ : QQ)) x7 (wrap64 (x11 + 1)) l1_1) else none) else none) else ((Qal.f x6 x7 (wrap64 (x7 + 1))).bind fun t6 => (some (t6, 0))))
def Qh.l1 : Nat → (List QQ) → Int → (List Int) → Int → Int → Int → (List QQ) → Int → Int → Int → Int → Option ((List QQ) × Int)
 | 0, _, _, _, _, _, _, _, _, _, _, _ => none
 | k + 1, l0, a1_0, l1_1, a1_2, a1_3, a1_4, x6, x7, x9, x10, x12 => if x12 < x10 then (if 0 ≤ x12 then (if x12 < (x6.length : Int) then (Qh.l1 k l0 a1_0 l1_1 a1_2 a1_3 a1_4 (x6.set (x12 : Int).toNat (⟨(Qap x6 x12).f0, wrap64 (((Qap x6 x12).f1) + 1)⟩ : QQ)) x7 x9 x10 (wrap64 (x12 + 1))) else none) else none) else (if 0 ≤ x7 then (if x7 < (l0.length : Int) then ((Qak.f x6 x9 ([(⟨a1_2, wrap64 (((Qap l0 x7).f1) + 1)⟩ : QQ)])).bind fun t7 => (some (t7, 0))) else none) else none)
end
def Qh.f (k : Nat) (l0 : List QQ) (a1_0 : Int) (l1_1 : List Int) (a1_2 : Int) (a1_3 : Int) (a1_4 : Int) : Option ((List QQ) × Int) := (QB.f k l0).bind fun t1 => (if t1 = true then ((Qp.f l0).bind fun t2 => ((QW.f k l0 l1_1).bind fun t3 => ((Qv.f k l0 a1_0 l1_1 a1_2 a1_3 a1_4 t3).bind fun bt4 => (if bt4.1 = 0 then (if a1_0 = 1 then (if 0 ≤ t3 then (if t3 < (t2.length : Int) then (some ((t2.set (t3 : Int).toNat (⟨a1_2, (Qap t2 t3).f1⟩ : QQ)), 0)) else none) else none) else (if a1_0 = 2 then (Qh.l0 k l0 t2 t3 (wrap64 (t3 + 1)) l1_1) else (Qh.l1 k l0 a1_0 l1_1 a1_2 a1_3 a1_4 t2 t3 bt4.2.1 bt4.2.2 bt4.2.1))) else (some (t2, bt4.1)))))) else (some (([] : List QQ), 2)))
def Qh.P0 (k : Nat) : Prop := ∀ (l0 : List QQ) (x6 : List QQ) (x7 : Int) (x11 : Int) (l1_1 : List Int) (r : (List QQ) × Int), Qh.l0 k l0 x6 x7 x11 l1_1 = some r → ∀ st, canon 2 [0, 6, 7, 11] st = ⟨Qaw [(0, .slc 0 [] 0 2 0 l0.length), (6, .slc 2 [] 0 2 0 x6.length), (7, .i .i64 x7), (11, .i .i64 x11)], rsL [(0, some ⟨false, 2, 0, (l0.map QaA)⟩), (1, some ⟨false, 1, 0, (l1_1.map eI)⟩), (2, some ⟨true, 2, 0, (x6.map QaA)⟩)], 3⟩ → W env Qh.c2 st (Qb 3 (Qs env Qh.c1 (Qb 0 (Qs env Qh.c0 (Qf [.t 4, .t 5] [false, false] ([.deep false false 2 (r.1.map QaA), .i .i64 r.2], [none, none]))))))
def Qh.P1 (k : Nat) : Prop := ∀ (l0 : List QQ) (a1_0 : Int) (l1_1 : List Int) (a1_2 : Int) (a1_3 : Int) (a1_4 : Int) (x6 : List QQ) (x7 : Int) (x9 : Int) (x10 : Int) (x12 : Int) (r : (List QQ) × Int), Qh.l1 k l0 a1_0 l1_1 a1_2 a1_3 a1_4 x6 x7 x9 x10 x12 = some r → ∀ st, canon 2 [0, 3, 6, 7, 9, 10, 12] st = ⟨Qaw [(0, .slc 0 [] 0 2 0 l0.length), (3, .bx [.i .i64 a1_0, .slc 1 [] 0 1 0 l1_1.length, .i .i64 a1_2, .i .i64 a1_3, .i .i64 a1_4] 0), (6, .slc 2 [] 0 2 0 x6.length), (7, .i .i64 x7), (9, .i .i64 x9), (10, .i .i64 x10), (12, .i .i64 x12)], rsL [(0, some ⟨false, 2, 0, (l0.map QaA)⟩), (1, some ⟨false, 1, 0, (l1_1.map eI)⟩), (2, some ⟨true, 2, 0, (x6.map QaA)⟩)], 3⟩ → W env Qh.c4 st (Qb 1 (Qs env Qh.c3 (Qb 0 (Qs env Qh.c0 (Qf [.t 4, .t 5] [false, false] ([.deep false false 2 (r.1.map QaA), .i .i64 r.2], [none, none]))))))
theorem Qh.s0 (k : Nat) (ih : Qh.P0 k ∧ Qh.P1 k) : Qh.P0 (k + 1) := by
 intro l0 x6 x7 x11 l1_1 r H st hst
 rw [Qh.l0] at H
 rw [Qax (show Qh.c2 = C.loop 2 [0, 6, 7, 11] Qh.d2 from rfl), hst]
 unfold Qh.d2
 obtain ⟨t5, e1, H⟩ := Qm H
 have e1 := Q9.link e1
 try simp only [TN, simprocAttr, Qh.c0, Qh.c1, Qh.c3, e1]
 rcases QP H with ⟨h2, H⟩ | ⟨h2, H⟩
 ·skip
  obtain ⟨h3, H⟩ := Qr H
  obtain ⟨h4, H⟩ := Qr H
  try simp only [TN, simprocAttr, Qh.c0, Qh.c1, Qh.c3, e1, h2, h3, h4]
  refine ih.1 _ _ _ _ _ _ H _ ?_
  first | (rw [Qc]; done) | (rw [Qc]; rfl) | (rw [Qc]; simp only [List.length_set, List.length_append, List.length_replicate]; rfl)
 ·skip
  obtain ⟨t6, e5, H⟩ := Qm H
  have e5 := Qal.link e5
  injection H with H; subst H
  try simp only [TN, simprocAttr, Qh.c0, Qh.c1, Qh.c3, e1, h2, e5]
  try rfl
theorem Qh.s1 (k : Nat) (ih : Qh.P0 k ∧ Qh.P1 k) : Qh.P1 (k + 1) := by
 intro l0 a1_0 l1_1 a1_2 a1_3 a1_4 x6 x7 x9 x10 x12 r H st hst
 rw [Qh.l1] at H
 rw [Qax (show Qh.c4 = C.loop 2 [0, 3, 6, 7, 9, 10, 12] Qh.d4 from rfl), hst]
 unfold Qh.d4
 try simp only [TN, simprocAttr, Qh.c0, Qh.c1, Qh.c3]
 rcases QP H with ⟨h1, H⟩ | ⟨h1, H⟩
 ·skip
  obtain ⟨h2, H⟩ := Qr H
  obtain ⟨h3, H⟩ := Qr H
  try simp only [TN, simprocAttr, Qh.c0, Qh.c1, Qh.c3, h1, h2, h3]
  refine ih.2 _ _ _ _ _ _ _ _ _ _ _ _ H _ ?_
  first | (rw [Qc]; done) | (rw [Qc]; rfl) | (rw [Qc]; simp only [List.length_set, List.length_append, List.length_replicate]; rfl)
 ·skip
  obtain ⟨h4, H⟩ := Qr H
  obtain ⟨h5, H⟩ := Qr H
  obtain ⟨t7, e6, H⟩ := Qm H
  have e6 := Qak.link e6
  injection H with H; subst H
  try simp only [TN, simprocAttr, Qh.c0, Qh.c1, Qh.c3, h1, h4, h5, @Qem, e6]
  try rfl
theorem Qh.w : ∀ k, Qh.P0 k ∧ Qh.P1 k := by
 intro k
 induction k with
 | zero => exact ⟨(by intro l0 x6 x7 x11 l1_1 r H; cases (show (none : Option ((List QQ) × Int)) = some r from H)), (by intro l0 a1_0 l1_1 a1_2 a1_3 a1_4 x6 x7 x9 x10 x12 r H; cases (show (none : Option ((List QQ) × Int)) = some r from H))⟩
 | succ k ih => exact ⟨(Qh.s0 k ih), (Qh.s1 k ih)⟩
theorem Qh.link {k : Nat} {l0 : List QQ} {a1_0 : Int} {l1_1 : List Int} {a1_2 : Int} {a1_3 : Int} {a1_4 : Int} {r : (List QQ) × Int} (H : Qh.f k l0 a1_0 l1_1 a1_2 a1_3 a1_4 = some r) : Qat env 100 [.deep false true 2 (l0.map QaA), .agg [.i .i64 a1_0, .deep false true 1 (l1_1.map eI), .i .i64 a1_2, .i .i64 a1_3, .i .i64 a1_4]] = some ([.deep false false 2 (r.1.map QaA), .i .i64 r.2], [none, none]) := by
 unfold Qh.f at H
 refine Qy (F := Qh.F) (tm := Qaw [(0, .slc 0 [] 0 2 0 l0.length), (1, .agg [.i .i64 a1_0, .slc 1 [] 0 1 0 l1_1.length, .i .i64 a1_2, .i .i64 a1_3, .i .i64 a1_4])]) (rs := rsL [(0, some ⟨false, 2, 0, (l0.map QaA)⟩), (1, some ⟨false, 1, 0, (l1_1.map eI)⟩)]) (nx := 2) (ow := [false, false]) rfl (by rfl) (by simp only [SN]) (by simp only [SN]) (by decide) ?_
 show W env Qh.B _ (Qf [.t 4, .t 5] [false, false] _)
 unfold Qh.B
 obtain ⟨t1, e1, H⟩ := Qm H
 have e1 := QB.link e1
 try simp only [TN, simprocAttr, Qh.c0, Qh.c1, Qh.c3, e1]
 rcases Qa1 H with ⟨h2, H⟩ | ⟨h2, H⟩
 ·skip
  obtain ⟨t2, e3, H⟩ := Qm H
  have e3 := Qp.link e3
  obtain ⟨t3, e4, H⟩ := Qm H
  have e4 := QW.link e4
  obtain ⟨bt4, e5, H⟩ := Qm H
  have e5 := Qv.link e5
  try simp only [TN, simprocAttr, Qh.c0, Qh.c1, Qh.c3, e1, h2, e3, e4, e5]
  rcases QP H with ⟨h6, H⟩ | ⟨h6, H⟩
  ·skip
   try simp only [TN, simprocAttr, Qh.c0, Qh.c1, Qh.c3, e1, h2, e3, e4, e5, eq_true h6]
   rcases QP H with ⟨h7, H⟩ | ⟨h7, H⟩
   ·skip
    obtain ⟨h8, H⟩ := Qr H
    obtain ⟨h9, H⟩ := Qr H
    injection H with H; subst H
    try simp only [TN, simprocAttr, Qh.c0, Qh.c1, Qh.c3, e1, h2, e3, e4, e5, eq_true h6, eq_true h7, h8, h9]
    try rfl
   ·skip
    try simp only [TN, simprocAttr, Qh.c0, Qh.c1, Qh.c3, e1, h2, e3, e4, e5, eq_true h6, h7]
    rcases QP H with ⟨h10, H⟩ | ⟨h10, H⟩
    ·skip
     try simp only [TN, simprocAttr, Qh.c0, Qh.c1, Qh.c3, e1, h2, e3, e4, e5, eq_true h6, h7, eq_true h10]
     refine (Qh.w k).1 _ _ _ _ _ _ H _ ?_
     first | (rw [Qc]; done) | (rw [Qc]; rfl) | (rw [Qc]; simp only [List.length_set, List.length_append, List.length_replicate]; rfl)
    ·skip
     try simp only [TN, simprocAttr, Qh.c0, Qh.c1, Qh.c3, e1, h2, e3, e4, e5, eq_true h6, h7, h10]
     refine (Qh.w k).2 _ _ _ _ _ _ _ _ _ _ _ _ H _ ?_
     first | (rw [Qc]; done) | (rw [Qc]; rfl) | (rw [Qc]; simp only [List.length_set, List.length_append, List.length_replicate]; rfl)
  ·skip
   injection H with H; subst H
   try simp only [TN, simprocAttr, Qh.c0, Qh.c1, Qh.c3, e1, h2, e3, e4, e5, h6]
   try rfl
 ·skip
  injection H with H; subst H
  try simp only [TN, simprocAttr, Qh.c0, Qh.c1, Qh.c3, e1, h2]
  try rfl
end Go.Proofs.Ytinlbiphjgpmmaa.P
end
section
namespace Go.Proofs.Ytinlbiphjgpmmaa.P
open Go Go.RowKit Go.Proofs.Ytinlbiphjgpmmaa.V
def QE.l0 : Nat → (List S87) → (List QQ) → (List S87) → Int → Int → (List QQ) → Option ((List QQ) × Int × Int)
 | 0, _, _, _, _, _, _ => none
 | k + 1, l1, x7, x18, x19, x20, l0 => if x20 < x19 then (if 0 ≤ x20 then (if x20 < (l1.length : Int) then ((Qh.f k x7 ((QU l1 x20).f0) ((QU l1 x20).f1) ((QU l1 x20).f2) ((QU l1 x20).f3) ((QU l1 x20).f4)).bind fun bt3 => (if bt3.2 = 0 then (QE.l0 k l1 bt3.1 l1 x19 (wrap64 (x20 + 1)) l0) else (some (x7, x20, bt3.2)))) else none) else none) else (some (x7, (l1.length : Int), 0))
def QE.f (k : Nat) (l0 : List QQ) (l1 : List S87) : Option ((List QQ) × Int × Int) := (QB.f k l0).bind fun t1 => (if t1 = true then ((Qp.f l0).bind fun t2 => (QE.l0 k l1 t2 l1 (l1.length : Int) 0 l0)) else (some (([] : List QQ), 0, 2)))
def QE.P0 (k : Nat) : Prop := ∀ (l1 : List S87) (x7 : List QQ) (x18 : List S87) (x19 : Int) (x20 : Int) (l0 : List QQ) (r : (List QQ) × Int × Int), x18 = l1 → QE.l0 k l1 x7 x18 x19 x20 l0 = some r → ∀ st, canon 2 [1, 7, 18, 19, 20] st = ⟨Qaw [(1, .slc 1 [] 0 5 0 l1.length), (7, .slc 2 [] 0 2 0 x7.length), (18, .slc 1 [] 0 5 0 l1.length), (19, .i .i64 x19), (20, .i .i64 x20)], rsL [(0, some ⟨false, 2, 0, (l0.map QaA)⟩), (1, some ⟨false, 5, 0, (l1.map (e87 false))⟩), (2, some ⟨true, 2, 0, (x7.map QaA)⟩)], 3⟩ → W env QE.c1 st (Qb 0 (Qs env QE.c0 (Qf [.t 4, .t 5, .t 6] [false, false] ([.deep false false 2 (r.1.map QaA), .i .i64 r.2.1, .i .i64 r.2.2], [none, none]))))
theorem QE.s0 (k : Nat) (ih : QE.P0 k) : QE.P0 (k + 1) := by
 intro l1 x7 x18 x19 x20 l0 r a0 H st hst
 subst a0
 rw [QE.l0] at H
 rw [Qax (show QE.c1 = C.loop 2 [1, 7, 18, 19, 20] QE.d1 from rfl), hst]
 unfold QE.d1
 try simp only [TN, simprocAttr, QE.c0]
 rcases QP H with ⟨h1, H⟩ | ⟨h1, H⟩
 ·skip
  obtain ⟨h2, H⟩ := Qr H
  obtain ⟨h3, H⟩ := Qr H
  obtain ⟨bt3, e4, H⟩ := Qm H
  have e4 := Qh.link e4
  try simp only [TN, simprocAttr, QE.c0, h1, h2, h3, e4]
  rcases QP H with ⟨h5, H⟩ | ⟨h5, H⟩
  ·skip
   try simp only [TN, simprocAttr, QE.c0, h1, h2, h3, e4, eq_true h5]
   refine ih _ _ _ _ _ _ _ rfl H _ ?_
   first | (rw [Qc]; done) | (rw [Qc]; rfl) | (rw [Qc]; simp only [List.length_set, List.length_append, List.length_replicate]; rfl)
  ·skip
   injection H with H; subst H
   try simp only [TN, simprocAttr, QE.c0, h1, h2, h3, e4, h5]
   try rfl
 ·skip
  injection H with H; subst H
  try simp only [TN, simprocAttr, QE.c0, h1]
  try rfl
theorem QE.w : ∀ k, QE.P0 k := by
 intro k
 induction k with
 | zero => exact by intro l1 x7 x18 x19 x20 l0 r _ H; cases (show (none : Option ((List QQ) × Int × Int)) = some r from H)
 | succ k ih => exact QE.s0 k ih
theorem QE.link {k : Nat} {l0 : List QQ} {l1 : List S87} {r : (List QQ) × Int × Int} (H : QE.f k l0 l1 = some r) : Qat env 79 [.deep false true 2 (l0.map QaA), .deep false true 5 (l1.map (e87 false))] = some ([.deep false false 2 (r.1.map QaA), .i .i64 r.2.1, .i .i64 r.2.2], [none, none]) := by
 unfold QE.f at H
 refine Qy (F := QE.F) (tm := Qaw [(0, .slc 0 [] 0 2 0 l0.length), (1, .slc 1 [] 0 5 0 l1.length)]) (rs := rsL [(0, some ⟨false, 2, 0, (l0.map QaA)⟩), (1, some ⟨false, 5, 0, (l1.map (e87 false))⟩)]) (nx := 2) (ow := [false, false]) rfl (by rfl) (by simp only [SN]) (by simp only [SN]) (by decide) ?_
 show W env QE.B _ (Qf [.t 4, .t 5, .t 6] [false, false] _)
 unfold QE.B
 obtain ⟨t1, e1, H⟩ := Qm H
 have e1 := QB.link e1
 try simp only [TN, simprocAttr, QE.c0, e1]
 rcases Qa1 H with ⟨h2, H⟩ | ⟨h2, H⟩
 ·skip
  obtain ⟨t2, e3, H⟩ := Qm H
  have e3 := Qp.link e3
  try simp only [TN, simprocAttr, QE.c0, e1, h2, e3]
  refine (QE.w k) _ _ _ _ _ _ _ rfl H _ ?_
  first | (rw [Qc]; done) | (rw [Qc]; rfl) | (rw [Qc]; simp only [List.length_set, List.length_append, List.length_replicate]; rfl)
 ·skip
  injection H with H; subst H
  try simp only [TN, simprocAttr, QE.c0, e1, h2]
  try rfl
end Go.Proofs.Ytinlbiphjgpmmaa.P
end
section
namespace Go.Proofs.Ytinlbiphjgpmmaa.P
open Go Go.RowKit Go.Proofs.Ytinlbiphjgpmmaa.V
def QaH.f (a0 : Int) : Option Bool := (Qaf.f a0 0 24).bind fun t1 => (some (!t1))
theorem QaH.link {a0 : Int} {r : Bool} (H : QaH.f a0 = some r) : Qat env 137 [.i .i64 a0] = some ([.b r], []) := by
 unfold QaH.f at H
 refine Qy (F := QaH.F) (tm := Qaw [(0, .i .i64 a0)]) (rs := rsL []) (nx := 0) (ow := []) rfl (by rfl) (by simp only [SN]) (by simp only [SN]) (by decide) ?_
 show W env QaH.B _ (Qf [.t 2] [] _)
 unfold QaH.B
 obtain ⟨t1, e1, H⟩ := Qm H
 have e1 := Qaf.link e1
 injection H with H; subst H
 try simp only [TN, simprocAttr, e1]
 try rfl
end Go.Proofs.Ytinlbiphjgpmmaa.P
end
section
namespace Go.Proofs.Ytinlbiphjgpmmaa.P
open Go Go.RowKit Go.Proofs.Ytinlbiphjgpmmaa.V
def Qi.l0 : Nat → (List Int) → Int → Int → Option Int
 | 0, _, _, _ => none
 | k + 1, l0, x7, x8 => if x8 < x7 then (if 0 ≤ x8 then (if x8 < (l0.length : Int) then ((QaH.f (rd l0 x8)).bind fun t1 => (if t1 = true then (some x8) else (Qi.l0 k l0 x7 (wrap64 (x8 + 1))))) else none) else none) else (some (-1))
def Qi.f (k : Nat) (l0 : List Int) : Option Int := Qi.l0 k l0 (l0.length : Int) 0
def Qi.P0 (k : Nat) : Prop := ∀ (l0 : List Int) (x7 : Int) (x8 : Int) (r : Int), Qi.l0 k l0 x7 x8 = some r → ∀ st, canon 5 [0, 1, 7, 8] st = ⟨Qaw [(0, .slc 0 [] 0 1 0 l0.length), (1, .fn 137 []), (7, .i .i64 x7), (8, .i .i64 x8)], rsL [(0, some ⟨false, 1, 0, (l0.map eI)⟩), (1, none), (2, none), (3, none), (4, none)], 5⟩ → W env Qi.c1 st (Qb 0 (Qs env Qi.c0 (Qf [.t 4] [false] ([.i .i64 r], [none]))))
theorem Qi.s0 (k : Nat) (ih : Qi.P0 k) : Qi.P0 (k + 1) := by
 intro l0 x7 x8 r H st hst
 rw [Qi.l0] at H
 rw [Qax (show Qi.c1 = C.loop 5 [0, 1, 7, 8] Qi.d1 from rfl), hst]
 unfold Qi.d1
 try simp only [TN, simprocAttr, Qi.c0]
 rcases QP H with ⟨h1, H⟩ | ⟨h1, H⟩
 ·skip
  obtain ⟨h2, H⟩ := Qr H
  obtain ⟨h3, H⟩ := Qr H
  obtain ⟨t1, e4, H⟩ := Qm H
  have e4 := QaH.link e4
  try simp only [TN, simprocAttr, Qi.c0, h1, h2, h3, e4]
  rcases Qa1 H with ⟨h5, H⟩ | ⟨h5, H⟩
  ·skip
   injection H with H; subst H
   try simp only [TN, simprocAttr, Qi.c0, h1, h2, h3, e4, h5]
   try rfl
  ·skip
   try simp only [TN, simprocAttr, Qi.c0, h1, h2, h3, e4, h5]
   refine ih _ _ _ _ H _ ?_
   first | (rw [Qc]; done) | (rw [Qc]; rfl) | (rw [Qc]; simp only [List.length_set, List.length_append, List.length_replicate]; rfl)
 ·skip
  injection H with H; subst H
  try simp only [TN, simprocAttr, Qi.c0, h1]
  try rfl
theorem Qi.w : ∀ k, Qi.P0 k := by
 intro k
 induction k with
 | zero => exact by intro l0 x7 x8 r H; cases (show (none : Option Int) = some r from H)
 | succ k ih => exact Qi.s0 k ih
theorem Qi.link {k : Nat} {l0 : List Int} {r : Int} (H : Qi.f k l0 = some r) : Qat env 139 [.deep false true 1 (l0.map eI), .fn 137 []] = some ([.i .i64 r], [none]) := by
 unfold Qi.f at H
 refine Qy (F := Qi.F) (tm := Qaw [(0, .slc 0 [] 0 1 0 l0.length), (1, .fn 137 [])]) (rs := rsL [(0, some ⟨false, 1, 0, (l0.map eI)⟩)]) (nx := 1) (ow := [false]) rfl (by rfl) (by simp only [SN]) (by simp only [SN]) (by decide) ?_
 show W env Qi.B _ (Qf [.t 4] [false] _)
 unfold Qi.B
 try simp only [TN, simprocAttr, Qi.c0]
 refine (Qi.w k) _ _ _ _ H _ ?_
 first | (rw [Qc]; done) | (rw [Qc]; rfl) | (rw [Qc]; simp only [List.length_set, List.length_append, List.length_replicate]; rfl)
end Go.Proofs.Ytinlbiphjgpmmaa.P
end
section
namespace Go.Proofs.Ytinlbiphjgpmmaa.P
open Go Go.RowKit Go.Proofs.Ytinlbiphjgpmmaa.V
def Qac.f (k : Nat) (l0 : List Int) : Option Bool := (Qi.f k l0).bind fun t1 => (some (decide (t1 ≥ 0)))
theorem Qac.link {k : Nat} {l0 : List Int} {r : Bool} (H : Qac.f k l0 = some r) : Qat env 136 [.deep false true 1 (l0.map eI), .fn 137 []] = some ([.b r], [none]) := by
 unfold Qac.f at H
 refine Qy (F := Qac.F) (tm := Qaw [(0, .slc 0 [] 0 1 0 l0.length), (1, .fn 137 [])]) (rs := rsL [(0, some ⟨false, 1, 0, (l0.map eI)⟩)]) (nx := 1) (ow := [false]) rfl (by rfl) (by simp only [SN]) (by simp only [SN]) (by decide) ?_
 show W env Qac.B _ (Qf [.t 4] [false] _)
 unfold Qac.B
 obtain ⟨t1, e1, H⟩ := Qm H
 have e1 := Qi.link e1
 injection H with H; subst H
 try simp only [TN, simprocAttr, e1]
 try rfl
end Go.Proofs.Ytinlbiphjgpmmaa.P
end
section
namespace Go.Proofs.Ytinlbiphjgpmmaa.P
open Go Go.RowKit Go.Proofs.Ytinlbiphjgpmmaa.V
def QbB.f (k : Nat) (a0_0 : Int) (l0_1 : List Int) (a0_2 : Int) (a0_3 : Int) (a0_4 : Int) : Option Bool := if (l0_1.length : Int) > 12 then (some false) else ((Qac.f k l0_1).bind fun t1 => (if t1 = true then (some false) else (if a0_0 = 1 then ((QaE.f a0_2).bind fun t2 => (if t2 = true then (if a0_3 = 0 then (some (a0_4 == 0)) else (some false)) else (some false))) else (if a0_0 = 2 then (if a0_2 = 0 then (if a0_3 = 0 then (some (a0_4 == 0)) else (some false)) else (some false)) else (if a0_0 = 3 then ((QaE.f a0_2).bind fun t3 => (if t3 = true then ((Qaf.f a0_3 0 24).bind fun t4 => (if t4 = true then ((Qaf.f a0_4 0 24).bind fun t5 => (some t5)) else (some false))) else (some false))) else (some false))))))
theorem QbB.link {k : Nat} {a0_0 : Int} {l0_1 : List Int} {a0_2 : Int} {a0_3 : Int} {a0_4 : Int} {r : Bool} (H : QbB.f k a0_0 l0_1 a0_2 a0_3 a0_4 = some r) : Qat env 130 [.agg [.i .i64 a0_0, .deep false true 1 (l0_1.map eI), .i .i64 a0_2, .i .i64 a0_3, .i .i64 a0_4]] = some ([.b r], [none]) := by
 unfold QbB.f at H
 refine Qy (F := QbB.F) (tm := Qaw [(0, .agg [.i .i64 a0_0, .slc 0 [] 0 1 0 l0_1.length, .i .i64 a0_2, .i .i64 a0_3, .i .i64 a0_4])]) (rs := rsL [(0, some ⟨false, 1, 0, (l0_1.map eI)⟩)]) (nx := 1) (ow := [false]) rfl (by rfl) (by simp only [SN]) (by simp only [SN]) (by decide) ?_
 show W env QbB.B _ (Qf [.t 2] [false] _)
 unfold QbB.B
 try simp only [TN, simprocAttr]
 rcases QP H with ⟨h1, H⟩ | ⟨h1, H⟩
 ·skip
  injection H with H; subst H
  try simp only [TN, simprocAttr, h1]
  try rfl
 ·skip
  obtain ⟨t1, e2, H⟩ := Qm H
  have e2 := Qac.link e2
  try simp only [TN, simprocAttr, h1, e2]
  rcases Qa1 H with ⟨h3, H⟩ | ⟨h3, H⟩
  ·skip
   injection H with H; subst H
   try simp only [TN, simprocAttr, h1, e2, h3]
   try rfl
  ·skip
   try simp only [TN, simprocAttr, h1, e2, h3]
   rcases QP H with ⟨h4, H⟩ | ⟨h4, H⟩
   ·skip
    obtain ⟨t2, e5, H⟩ := Qm H
    have e5 := QaE.link e5
    try simp only [TN, simprocAttr, h1, e2, h3, eq_true h4, e5]
    rcases Qa1 H with ⟨h6, H⟩ | ⟨h6, H⟩
    ·skip
     try simp only [TN, simprocAttr, h1, e2, h3, eq_true h4, e5, h6]
     rcases QP H with ⟨h7, H⟩ | ⟨h7, H⟩
     ·skip
      injection H with H; subst H
      try simp only [TN, simprocAttr, h1, e2, h3, eq_true h4, e5, h6, eq_true h7]
      try rfl
     ·skip
      injection H with H; subst H
      try simp only [TN, simprocAttr, h1, e2, h3, eq_true h4, e5, h6, h7]
      try rfl
    ·skip
     injection H with H; subst H
     try simp only [TN, simprocAttr, h1, e2, h3, eq_true h4, e5, h6]
     try rfl
   ·skip
    try simp only [TN, simprocAttr, h1, e2, h3, h4]
    rcases QP H with ⟨h8, H⟩ | ⟨h8, H⟩
    ·skip
     try simp only [TN, simprocAttr, h1, e2, h3, h4, eq_true h8]
     rcases QP H with ⟨h9, H⟩ | ⟨h9, H⟩
     ·skip
      try simp only [TN, simprocAttr, h1, e2, h3, h4, eq_true h8, eq_true h9]
      rcases QP H with ⟨h10, H⟩ | ⟨h10, H⟩
      ·skip
       injection H with H; subst H
       try simp only [TN, simprocAttr, h1, e2, h3, h4, eq_true h8, eq_true h9, eq_true h10]
       try rfl
      ·skip
       injection H with H; subst H
       try simp only [TN, simprocAttr, h1, e2, h3, h4, eq_true h8, eq_true h9, h10]
       try rfl
     ·skip
      injection H with H; subst H
      try simp only [TN, simprocAttr, h1, e2, h3, h4, eq_true h8, h9]
      try rfl
    ·skip
     try simp only [TN, simprocAttr, h1, e2, h3, h4, h8]
     rcases QP H with ⟨h11, H⟩ | ⟨h11, H⟩
     ·skip
      obtain ⟨t3, e12, H⟩ := Qm H
      have e12 := QaE.link e12
      try simp only [TN, simprocAttr, h1, e2, h3, h4, h8, eq_true h11, e12]
      rcases Qa1 H with ⟨h13, H⟩ | ⟨h13, H⟩
      ·skip
       obtain ⟨t4, e14, H⟩ := Qm H
       have e14 := Qaf.link e14
       try simp only [TN, simprocAttr, h1, e2, h3, h4, h8, eq_true h11, e12, h13, e14]
       rcases Qa1 H with ⟨h15, H⟩ | ⟨h15, H⟩
       ·skip
        obtain ⟨t5, e16, H⟩ := Qm H
        have e16 := Qaf.link e16
        injection H with H; subst H
        try simp only [TN, simprocAttr, h1, e2, h3, h4, h8, eq_true h11, e12, h13, e14, h15, e16]
        try rfl
       ·skip
        injection H with H; subst H
        try simp only [TN, simprocAttr, h1, e2, h3, h4, h8, eq_true h11, e12, h13, e14, h15]
        try rfl
      ·skip
       injection H with H; subst H
       try simp only [TN, simprocAttr, h1, e2, h3, h4, h8, eq_true h11, e12, h13]
       try rfl
     ·skip
      injection H with H; subst H
      try simp only [TN, simprocAttr, h1, e2, h3, h4, h8, h11]
      try rfl
end Go.Proofs.Ytinlbiphjgpmmaa.P
end
section
namespace Go.Proofs.Ytinlbiphjgpmmaa.P
open Go Go.RowKit Go.Proofs.Ytinlbiphjgpmmaa.V
def Qau.f (k : Nat) (a0_0 : Int) (l0_1 : List Int) (a0_2 : Int) (a0_3 : Int) (a0_4 : Int) : Option Bool := (QbB.f k a0_0 l0_1 a0_2 a0_3 a0_4).bind fun t1 => (some (!t1))
theorem Qau.link {k : Nat} {a0_0 : Int} {l0_1 : List Int} {a0_2 : Int} {a0_3 : Int} {a0_4 : Int} {r : Bool} (H : Qau.f k a0_0 l0_1 a0_2 a0_3 a0_4 = some r) : Qat env 129 [.agg [.i .i64 a0_0, .deep false true 1 (l0_1.map eI), .i .i64 a0_2, .i .i64 a0_3, .i .i64 a0_4]] = some ([.b r], [none]) := by
 unfold Qau.f at H
 refine Qy (F := Qau.F) (tm := Qaw [(0, .agg [.i .i64 a0_0, .slc 0 [] 0 1 0 l0_1.length, .i .i64 a0_2, .i .i64 a0_3, .i .i64 a0_4])]) (rs := rsL [(0, some ⟨false, 1, 0, (l0_1.map eI)⟩)]) (nx := 1) (ow := [false]) rfl (by rfl) (by simp only [SN]) (by simp only [SN]) (by decide) ?_
 show W env Qau.B _ (Qf [.t 2] [false] _)
 unfold Qau.B
 obtain ⟨t1, e1, H⟩ := Qm H
 have e1 := QbB.link e1
 injection H with H; subst H
 try simp only [TN, simprocAttr, e1]
 try rfl
end Go.Proofs.Ytinlbiphjgpmmaa.P
end
section
namespace Go.Proofs.Ytinlbiphjgpmmaa.P
open Go Go.RowKit Go.Proofs.Ytinlbiphjgpmmaa.V
def Qd.l0 : Nat → (List S87) → Int → Int → Option Int
 | 0, _, _, _ => none
 | k + 1, l0, x7, x8 => if x8 < x7 then (if 0 ≤ x8 then (if x8 < (l0.length : Int) then ((Qau.f k ((QU l0 x8).f0) ((QU l0 x8).f1) ((QU l0 x8).f2) ((QU l0 x8).f3) ((QU l0 x8).f4)).bind fun t1 => (if t1 = true then (some x8) else (Qd.l0 k l0 x7 (wrap64 (x8 + 1))))) else none) else none) else (some (-1))
def Qd.f (k : Nat) (l0 : List S87) : Option Int := Qd.l0 k l0 (l0.length : Int) 0
def Qd.P0 (k : Nat) : Prop := ∀ (l0 : List S87) (x7 : Int) (x8 : Int) (r : Int), Qd.l0 k l0 x7 x8 = some r → ∀ st, canon 5 [0, 1, 7, 8] st = ⟨Qaw [(0, .slc 0 [] 0 5 0 l0.length), (1, .fn 129 []), (7, .i .i64 x7), (8, .i .i64 x8)], rsL [(0, some ⟨false, 5, 0, (l0.map (e87 false))⟩), (1, none), (2, none), (3, none), (4, none)], 5⟩ → W env Qd.c1 st (Qb 0 (Qs env Qd.c0 (Qf [.t 4] [false] ([.i .i64 r], [none]))))
theorem Qd.s0 (k : Nat) (ih : Qd.P0 k) : Qd.P0 (k + 1) := by
 intro l0 x7 x8 r H st hst
 rw [Qd.l0] at H
 rw [Qax (show Qd.c1 = C.loop 5 [0, 1, 7, 8] Qd.d1 from rfl), hst]
 unfold Qd.d1
 try simp only [TN, simprocAttr, Qd.c0]
 rcases QP H with ⟨h1, H⟩ | ⟨h1, H⟩
 ·skip
  obtain ⟨h2, H⟩ := Qr H
  obtain ⟨h3, H⟩ := Qr H
  obtain ⟨t1, e4, H⟩ := Qm H
  have e4 := Qau.link e4
  try simp only [TN, simprocAttr, Qd.c0, h1, h2, h3, e4]
  rcases Qa1 H with ⟨h5, H⟩ | ⟨h5, H⟩
  ·skip
   injection H with H; subst H
   try simp only [TN, simprocAttr, Qd.c0, h1, h2, h3, e4, h5]
   try rfl
  ·skip
   try simp only [TN, simprocAttr, Qd.c0, h1, h2, h3, e4, h5]
   refine ih _ _ _ _ H _ ?_
   first | (rw [Qc]; done) | (rw [Qc]; rfl) | (rw [Qc]; simp only [List.length_set, List.length_append, List.length_replicate]; rfl)
 ·skip
  injection H with H; subst H
  try simp only [TN, simprocAttr, Qd.c0, h1]
  try rfl
theorem Qd.w : ∀ k, Qd.P0 k := by
 intro k
 induction k with
 | zero => exact by intro l0 x7 x8 r H; cases (show (none : Option Int) = some r from H)
 | succ k ih => exact Qd.s0 k ih
theorem Qd.link {k : Nat} {l0 : List S87} {r : Int} (H : Qd.f k l0 = some r) : Qat env 135 [.deep false true 5 (l0.map (e87 false)), .fn 129 []] = some ([.i .i64 r], [none]) := by
 unfold Qd.f at H
 refine Qy (F := Qd.F) (tm := Qaw [(0, .slc 0 [] 0 5 0 l0.length), (1, .fn 129 [])]) (rs := rsL [(0, some ⟨false, 5, 0, (l0.map (e87 false))⟩)]) (nx := 1) (ow := [false]) rfl (by rfl) (by simp only [SN]) (by simp only [SN]) (by decide) ?_
 show W env Qd.B _ (Qf [.t 4] [false] _)
 unfold Qd.B
 try simp only [TN, simprocAttr, Qd.c0]
 refine (Qd.w k) _ _ _ _ H _ ?_
 first | (rw [Qc]; done) | (rw [Qc]; rfl) | (rw [Qc]; simp only [List.length_set, List.length_append, List.length_replicate]; rfl)
end Go.Proofs.Ytinlbiphjgpmmaa.P
end
section
namespace Go.Proofs.Ytinlbiphjgpmmaa.P
open Go Go.RowKit Go.Proofs.Ytinlbiphjgpmmaa.V
def QT.f (k : Nat) (l0 : List S87) : Option Bool := (Qd.f k l0).bind fun t1 => (some (decide (t1 ≥ 0)))
theorem QT.link {k : Nat} {l0 : List S87} {r : Bool} (H : QT.f k l0 = some r) : Qat env 128 [.deep false true 5 (l0.map (e87 false)), .fn 129 []] = some ([.b r], [none]) := by
 unfold QT.f at H
 refine Qy (F := QT.F) (tm := Qaw [(0, .slc 0 [] 0 5 0 l0.length), (1, .fn 129 [])]) (rs := rsL [(0, some ⟨false, 5, 0, (l0.map (e87 false))⟩)]) (nx := 1) (ow := [false]) rfl (by rfl) (by simp only [SN]) (by simp only [SN]) (by decide) ?_
 show W env QT.B _ (Qf [.t 4] [false] _)
 unfold QT.B
 obtain ⟨t1, e1, H⟩ := Qm H
 have e1 := Qd.link e1
 injection H with H; subst H
 try simp only [TN, simprocAttr, e1]
 try rfl
end Go.Proofs.Ytinlbiphjgpmmaa.P
end
section
namespace Go.Proofs.Ytinlbiphjgpmmaa.P
open Go Go.RowKit Go.Proofs.Ytinlbiphjgpmmaa.V
def QaO.f (k : Nat) (l0 : List S87) : Option Bool := if (l0.length : Int) ≤ 60 then ((QT.f k l0).bind fun t1 => (some (!t1))) else (some false)
theorem QaO.link {k : Nat} {l0 : List S87} {r : Bool} (H : QaO.f k l0 = some r) : Qat env 114 [.deep false true 5 (l0.map (e87 false))] = some ([.b r], [none]) := by
 unfold QaO.f at H
 refine Qy (F := QaO.F) (tm := Qaw [(0, .slc 0 [] 0 5 0 l0.length)]) (rs := rsL [(0, some ⟨false, 5, 0, (l0.map (e87 false))⟩)]) (nx := 1) (ow := [false]) rfl (by rfl) (by simp only [SN]) (by simp only [SN]) (by decide) ?_
 show W env QaO.B _ (Qf [.t 2] [false] _)
 unfold QaO.B
 try simp only [TN, simprocAttr]
 rcases QP H with ⟨h1, H⟩ | ⟨h1, H⟩
 ·skip
  obtain ⟨t1, e2, H⟩ := Qm H
  have e2 := QT.link e2
  injection H with H; subst H
  try simp only [TN, simprocAttr, h1, e2]
  try rfl
 ·skip
  injection H with H; subst H
  try simp only [TN, simprocAttr, h1]
  try rfl
end Go.Proofs.Ytinlbiphjgpmmaa.P
end
section
namespace Go.Proofs.Ytinlbiphjgpmmaa.P
open Go Go.RowKit Go.Proofs.Ytinlbiphjgpmmaa.V
def Qo.l0 : Nat → (List (List QQ)) → (List (List S87)) → Int → Int → (List QQ) → Option ((List (List QQ)) × Bool)
 | 0, _, _, _, _, _ => none
 | k + 1, x4, l0_1, x26, x27, l0_0 => if x27 < x26 then (if 0 ≤ x27 then (if x27 < (l0_1.length : Int) then (if x27 < (x4.length : Int) then ((QE.f k (rdL x4 x27) (rdL l0_1 x27)).bind fun bt3 => (if bt3.2.2 = 0 then ((QaO.f k (rdL l0_1 x27)).bind fun t4 => (if t4 = true then (if x4.length < 5864062014805 then (Qo.l0 k (x4 ++ ([bt3.1])) l0_1 x26 (wrap64 (x27 + 1)) l0_0) else none) else (some ([], false)))) else (some ([], false)))) else none) else none) else none) else (some (x4, true))
def Qo.f (k : Nat) (l0_0 : List QQ) (l0_1 : List (List S87)) : Option ((List (List QQ)) × Bool) := (QB.f k l0_0).bind fun t1 => (if t1 = true then (if (l0_1.length : Int) > 6 then (some ([], false)) else ((Qp.f l0_0).bind fun t2 => (Qo.l0 k ([t2]) l0_1 (l0_1.length : Int) 0 l0_0))) else (some ([], false)))
def Qo.P0 (k : Nat) : Prop := ∀ (x4 : List (List QQ)) (l0_1 : List (List S87)) (x26 : Int) (x27 : Int) (l0_0 : List QQ) (r : (List (List QQ)) × Bool), Qo.l0 k x4 l0_1 x26 x27 l0_0 = some r → ∀ st, canon 2 [4, 25, 26, 27] st = ⟨Qaw [(4, .slc 2 [] 0 1 0 x4.length), (25, .slc 1 [] 0 1 0 l0_1.length), (26, .i .i64 x26), (27, .i .i64 x27)], rsL [(0, some ⟨false, 2, 0, (l0_0.map QaA)⟩), (1, some ⟨false, 1, 0, (l0_1.map (eL 5 false (e87 false)))⟩), (2, some ⟨true, 1, 0, (x4.map (eL 2 false QaA))⟩)], 3⟩ → W env Qo.c1 st (Qb 0 (Qs env Qo.c0 (Qf [.t 2, .t 3] [false, false] ([.deep false false 1 (r.1.map (eL 2 false QaA)), .b r.2], [none, none]))))
theorem Qo.s0 (k : Nat) (ih : Qo.P0 k) : Qo.P0 (k + 1) := by
 intro x4 l0_1 x26 x27 l0_0 r H st hst
 rw [Qo.l0] at H
 rw [Qax (show Qo.c1 = C.loop 2 [4, 25, 26, 27] Qo.d1 from rfl), hst]
 unfold Qo.d1
 try simp only [TN, simprocAttr, Qo.c0]
 rcases QP H with ⟨h1, H⟩ | ⟨h1, H⟩
 ·skip
  obtain ⟨h2, H⟩ := Qr H
  obtain ⟨h3, H⟩ := Qr H
  obtain ⟨h4, H⟩ := Qr H
  obtain ⟨bt3, e5, H⟩ := Qm H
  have e5 := QE.link e5
  try simp only [TN, simprocAttr, Qo.c0, h1, h2, h3, h4, e5]
  rcases QP H with ⟨h6, H⟩ | ⟨h6, H⟩
  ·skip
   obtain ⟨t4, e7, H⟩ := Qm H
   have e7 := QaO.link e7
   try simp only [TN, simprocAttr, Qo.c0, h1, h2, h3, h4, e5, eq_true h6, e7]
   rcases Qa1 H with ⟨h8, H⟩ | ⟨h8, H⟩
   ·skip
    obtain ⟨h9, H⟩ := Qr H
    have h10 : (x4.length + 1) * 24 ≤ 140737488355328 := by omega
    try simp only [TN, simprocAttr, Qo.c0, h1, h2, h3, h4, e5, eq_true h6, e7, h8, h9, h10]
    refine ih _ _ _ _ _ _ H _ ?_
    first | (rw [Qc]; done) | (rw [Qc]; rfl) | (rw [Qc]; simp only [List.length_set, List.length_append, List.length_replicate]; rfl)
   ·skip
    injection H with H; subst H
    try simp only [TN, simprocAttr, Qo.c0, h1, h2, h3, h4, e5, eq_true h6, e7, h8]
    try rfl
  ·skip
   injection H with H; subst H
   try simp only [TN, simprocAttr, Qo.c0, h1, h2, h3, h4, e5, h6]
   try rfl
 ·skip
  injection H with H; subst H
  try simp only [TN, simprocAttr, Qo.c0, h1]
  try rfl
theorem Qo.w : ∀ k, Qo.P0 k := by
 intro k
 induction k with
 | zero => exact by intro x4 l0_1 x26 x27 l0_0 r H; cases (show (none : Option ((List (List QQ)) × Bool)) = some r from H)
 | succ k ih => exact Qo.s0 k ih
theorem Qo.link {k : Nat} {l0_0 : List QQ} {l0_1 : List (List S87)} {r : (List (List QQ)) × Bool} (H : Qo.f k l0_0 l0_1 = some r) : Qat env 93 [.agg [.deep false true 2 (l0_0.map QaA), .deep false true 1 (l0_1.map (eL 5 false (e87 false)))]] = some ([.deep false false 1 (r.1.map (eL 2 false QaA)), .b r.2], [none, none]) := by
 unfold Qo.f at H
 refine Qy (F := Qo.F) (tm := Qaw [(0, .agg [.slc 0 [] 0 2 0 l0_0.length, .slc 1 [] 0 1 0 l0_1.length])]) (rs := rsL [(0, some ⟨false, 2, 0, (l0_0.map QaA)⟩), (1, some ⟨false, 1, 0, (l0_1.map (eL 5 false (e87 false)))⟩)]) (nx := 2) (ow := [false, false]) rfl (by rfl) (by simp only [SN]) (by simp only [SN]) (by decide) ?_
 show W env Qo.B _ (Qf [.t 2, .t 3] [false, false] _)
 unfold Qo.B
 obtain ⟨t1, e1, H⟩ := Qm H
 have e1 := QB.link e1
 try simp only [TN, simprocAttr, Qo.c0, e1]
 rcases Qa1 H with ⟨h2, H⟩ | ⟨h2, H⟩
 ·skip
  try simp only [TN, simprocAttr, Qo.c0, e1, h2]
  rcases QP H with ⟨h3, H⟩ | ⟨h3, H⟩
  ·skip
   injection H with H; subst H
   try simp only [TN, simprocAttr, Qo.c0, e1, h2, h3]
   try rfl
  ·skip
   obtain ⟨t2, e4, H⟩ := Qm H
   have e4 := Qp.link e4
   try simp only [TN, simprocAttr, Qo.c0, e1, h2, h3, e4]
   refine (Qo.w k) _ _ _ _ _ _ H _ ?_
   first | (rw [Qc]; done) | (rw [Qc]; rfl) | (rw [Qc]; simp only [List.length_set, List.length_append, List.length_replicate]; rfl)
 ·skip
  injection H with H; subst H
  try simp only [TN, simprocAttr, Qo.c0, e1, h2]
  try rfl
end Go.Proofs.Ytinlbiphjgpmmaa.P
end
section
namespace Go.Proofs.Ytinlbiphjgpmmaa.P
open Go Go.RowKit Go.Proofs.Ytinlbiphjgpmmaa.V
def QaL.f (k : Nat) (l0_0 : List QQ) (l0_1 : List (List S87)) : Option Bool := (Qo.f k l0_0 l0_1).bind fun bt1 => (some bt1.2)
theorem QaL.link {k : Nat} {l0_0 : List QQ} {l0_1 : List (List S87)} {r : Bool} (H : QaL.f k l0_0 l0_1 = some r) : Qat env 56 [.agg [.deep false true 2 (l0_0.map QaA), .deep false true 1 (l0_1.map (eL 5 false (e87 false)))]] = some ([.b r], [none, none]) := by
 unfold QaL.f at H
 refine Qy (F := QaL.F) (tm := Qaw [(0, .agg [.slc 0 [] 0 2 0 l0_0.length, .slc 1 [] 0 1 0 l0_1.length])]) (rs := rsL [(0, some ⟨false, 2, 0, (l0_0.map QaA)⟩), (1, some ⟨false, 1, 0, (l0_1.map (eL 5 false (e87 false)))⟩)]) (nx := 2) (ow := [false, false]) rfl (by rfl) (by simp only [SN]) (by simp only [SN]) (by decide) ?_
 show W env QaL.B _ (Qf [.t 2] [false, false] _)
 unfold QaL.B
 obtain ⟨bt1, e1, H⟩ := Qm H
 have e1 := Qo.link e1
 injection H with H; subst H
 try simp only [TN, simprocAttr, e1]
 try rfl
end Go.Proofs.Ytinlbiphjgpmmaa.P
end
section
namespace Go.Proofs.Ytinlbiphjgpmmaa.P
open Go Go.RowKit Go.Proofs.Ytinlbiphjgpmmaa.V
def QaX.f (k : Nat) (l0_0 : List QQ) (l0_1 : List (List S87)) (l1 : List S87) : Option ((List QQ) × (List (List S87)) × Bool) := (QD.f k l0_0 l0_1).bind fun bt1 => ((Q8.f k l1 []).bind fun t2 => (if bt1.2.length < 5864062014805 then ((some (bt1.2 ++ ([t2]) : List (List S87))).bind fun y0 => ((QaL.f k bt1.1 y0).bind fun t3 => (if t3 = true then (some (bt1.1, y0, true)) else (some (bt1.1, bt1.2, false))))) else none))
theorem QaX.link {k : Nat} {l0_0 : List QQ} {l0_1 : List (List S87)} {l1 : List S87} {r : (List QQ) × (List (List S87)) × Bool} (H : QaX.f k l0_0 l0_1 l1 = some r) : Qat env 24 [.agg [.deep false true 2 (l0_0.map QaA), .deep false true 1 (l0_1.map (eL 5 false (e87 false)))], .deep false true 5 (l1.map (e87 false))] = some ([.agg [.deep false false 2 (r.1.map QaA), .deep false false 1 (r.2.1.map (eL 5 false (e87 false)))], .b r.2.2], [none, none, none]) := by
 unfold QaX.f at H
 refine Qy (F := QaX.F) (tm := Qaw [(0, .agg [.slc 0 [] 0 2 0 l0_0.length, .slc 1 [] 0 1 0 l0_1.length]), (1, .slc 2 [] 0 5 0 l1.length)]) (rs := rsL [(0, some ⟨false, 2, 0, (l0_0.map QaA)⟩), (1, some ⟨false, 1, 0, (l0_1.map (eL 5 false (e87 false)))⟩), (2, some ⟨false, 5, 0, (l1.map (e87 false))⟩)]) (nx := 3) (ow := [false, false, false]) rfl (by rfl) (by simp only [SN]) (by simp only [SN]) (by decide) ?_
 show W env QaX.B _ (Qf [.cell 4 (some 2), .t 5] [false, false, false] _)
 unfold QaX.B
 obtain ⟨bt1, e1, H⟩ := Qm H
 have e1 := QD.link e1
 obtain ⟨t2, e2, H⟩ := Qm H
 have e2 := Q8.link e2
 simp only [List.map_nil] at e2
 obtain ⟨h3, H⟩ := Qr H
 have h4 : (bt1.2.length + 1) * 24 ≤ 140737488355328 := by omega
 obtain ⟨_, hy5, H⟩ := Qbx H; subst hy5
 obtain ⟨t3, e6, H⟩ := Qm H
 have e6 := QaL.link e6
 try simp only [TN, simprocAttr, e1, e2, h3, h4, e6]
 rcases Qa1 H with ⟨h7, H⟩ | ⟨h7, H⟩
 ·skip
  injection H with H; subst H
  try simp only [TN, simprocAttr, e1, e2, h3, h4, e6, h7]
  try rfl
 ·skip
  injection H with H; subst H
  try simp only [TN, simprocAttr, e1, e2, h3, h4, e6, h7]
  try rfl
end Go.Proofs.Ytinlbiphjgpmmaa.P
end
section
namespace Go.Proofs.Ytinlbiphjgpmmaa.P
open Go Go.RowKit Go.Proofs.Ytinlbiphjgpmmaa.V
def QaS.f (k : Nat) (l0 : List QQ) (a1_0 : Int) (l1_1 : List Int) (a1_2 : Int) (a1_3 : Int) (a1_4 : Int) : Option (Int × (List Int) × Int × Int × Int) := (QW.f k l0 l1_1).bind fun t1 => (if a1_0 = 1 then (if 0 ≤ t1 then (if t1 < (l0.length : Int) then ((Qad.f l1_1).bind fun t2 => (some (1, t2, (Qap l0 t1).f0, 0, 0))) else none) else none) else (if a1_0 = 2 then (if wrap64 ((l1_1.length : Int) - 1) ≤ (l1_1.length : Int) then (if 0 ≤ wrap64 ((l1_1.length : Int) - 1) then ((some (l1_1.take (wrap64 ((l1_1.length : Int) - 1) : Int).toNat : List Int)).bind fun y0 => (if 0 ≤ t1 then (if t1 < (l0.length : Int) then ((Qad.f y0).bind fun t3 => (if wrap64 ((l1_1.length : Int) - 1) < (l1_1.length : Int) then ((QO.f k l0 t1).bind fun t4 => (some (3, t3, (Qap l0 t1).f0, rd l1_1 (wrap64 ((l1_1.length : Int) - 1)), (t4.length : Int)))) else none)) else none) else none)) else none) else none) else ((Qad.f l1_1).bind fun t5 => (if t5.length < 17592186044416 then (some (2, (t5 ++ ([a1_3])), 0, 0, 0)) else none))))
theorem QaS.link {k : Nat} {l0 : List QQ} {a1_0 : Int} {l1_1 : List Int} {a1_2 : Int} {a1_3 : Int} {a1_4 : Int} {r : Int × (List Int) × Int × Int × Int} (H : QaS.f k l0 a1_0 l1_1 a1_2 a1_3 a1_4 = some r) : Qat env 101 [.deep false true 2 (l0.map QaA), .agg [.i .i64 a1_0, .deep false true 1 (l1_1.map eI), .i .i64 a1_2, .i .i64 a1_3, .i .i64 a1_4]] = some ([.agg [.i .i64 r.1, .deep false false 1 (r.2.1.map eI), .i .i64 r.2.2.1, .i .i64 r.2.2.2.1, .i .i64 r.2.2.2.2]], [none, none]) := by
 unfold QaS.f at H
 refine Qy (F := QaS.F) (tm := Qaw [(0, .slc 0 [] 0 2 0 l0.length), (1, .agg [.i .i64 a1_0, .slc 1 [] 0 1 0 l1_1.length, .i .i64 a1_2, .i .i64 a1_3, .i .i64 a1_4])]) (rs := rsL [(0, some ⟨false, 2, 0, (l0.map QaA)⟩), (1, some ⟨false, 1, 0, (l1_1.map eI)⟩)]) (nx := 2) (ow := [false, false]) rfl (by rfl) (by simp only [SN]) (by simp only [SN]) (by decide) ?_
 show W env QaS.B _ (Qf [.cell 4 (some 5)] [false, false] _)
 unfold QaS.B
 obtain ⟨t1, e1, H⟩ := Qm H
 have e1 := QW.link e1
 try simp only [TN, simprocAttr, e1]
 rcases QP H with ⟨h2, H⟩ | ⟨h2, H⟩
 ·skip
  obtain ⟨h3, H⟩ := Qr H
  obtain ⟨h4, H⟩ := Qr H
  obtain ⟨t2, e5, H⟩ := Qm H
  have e5 := Qad.link e5
  injection H with H; subst H
  try simp only [TN, simprocAttr, e1, eq_true h2, h3, h4, e5]
  try rfl
 ·skip
  try simp only [TN, simprocAttr, e1, h2]
  rcases QP H with ⟨h6, H⟩ | ⟨h6, H⟩
  ·skip
   obtain ⟨h7, H⟩ := Qr H
   obtain ⟨h8, H⟩ := Qr H
   obtain ⟨y0, hy0, H⟩ := Qbx H
   have h9 : (wrap64 ((l1_1.length : Int) - 1) : Int).toNat = List.length y0 := by rw [← hy0]; simp only [List.length_drop, List.length_take] <;> omega
   have cw9 : (List.drop (0) l1_1).take (List.length y0) = y0 := by rw [← h9, List.drop_zero]; exact hy0
   have g9 : ∀ {j : Int}, 0 ≤ j → j < (List.length y0 : Int) → (l1_1.map eI)[0 + j.toNat]? = some (eI (rd y0 j)) := fun h1 h2 => Ql6 cw9 h1 h2
   have w9 := QeU (e := eI) cw9
   have z9 : 0 ≤ wrap64 ((l1_1.length : Int) - 1) → wrap64 ((l1_1.length : Int) - 1) < (List.length l1_1 : Int) → (l1_1.map eI)[0 + List.length y0]? = some (eI (rd l1_1 (wrap64 ((l1_1.length : Int) - 1)))) := fun h1 h2 => by rw [← h9]; exact QbJ h1 h2
   obtain ⟨h10, H⟩ := Qr H
   obtain ⟨h11, H⟩ := Qr H
   obtain ⟨t3, e12, H⟩ := Qm H
   have e12 := Qad.link e12
   obtain ⟨h13, H⟩ := Qr H
   obtain ⟨t4, e14, H⟩ := Qm H
   have e14 := QO.link e14
   injection H with H; subst H
   try simp only [TN, simprocAttr, e1, h2, eq_true h6, h7, h8, h9, g9, w9, z9, h10, h11, e12, h13, e14]
   try rfl
  ·skip
   obtain ⟨t5, e15, H⟩ := Qm H
   have e15 := Qad.link e15
   obtain ⟨h16, H⟩ := Qr H
   have h17 : (t5.length + 1) * 8 ≤ 140737488355328 := by omega
   injection H with H; subst H
   try simp only [TN, simprocAttr, e1, h2, h6, e15, h16, h17]
   try rfl
end Go.Proofs.Ytinlbiphjgpmmaa.P
end
section
namespace Go.Proofs.Ytinlbiphjgpmmaa.P
open Go Go.RowKit Go.Proofs.Ytinlbiphjgpmmaa.V
theorem Qg.hA_87_1 {l : List S87} {i j : Int} (h0 : 0 ≤ i) (h1 : i < j) : QG (Qaq (l.map (e87 false)) (0 + j.toNat) 1 [.undef]) (0 + i.toNat) 1 = QG (l.map (e87 false)) (0 + i.toNat) 1 := Qrq h0 h1
theorem Qg.hB_87_1 {l : List S87} {i j : Int} (h0 : 0 ≤ i) (h1 : i < j) (h2 : i < (l.length : Int)) : (Qaq (Qaq (l.map (e87 false)) (0 + j.toNat) 1 [.undef]) (0 + i.toNat) 1 [.undef])[0 + i.toNat]? = some [.i .i64 ((QU l i).f0), .undef, .i .i64 ((QU l i).f2), .i .i64 ((QU l i).f3), .i .i64 ((QU l i).f4)] := QwC h0 h1 (g87 h0 h2)
theorem Qg.hC_87_1 {l : List S87} {i j : Int} {v0 : Int} {v1 : List Int} {v2 : Int} {v3 : Int} {v4 : Int} (h0 : 0 ≤ i) (h1 : i < j) (h2 : i < (l.length : Int)) : Qaq (Qaq (Qaq (l.map (e87 false)) (0 + j.toNat) 1 [.undef]) (0 + i.toNat) 1 [.undef]) (0 + i.toNat) 0 [.i .i64 v0, .deep false false 1 (v1.map eI), .i .i64 v2, .i .i64 v3, .i .i64 v4] = Qaq ((l.set i.toNat (⟨v0, v1, v2, v3, v4⟩ : S87)).map (e87 false)) (0 + j.toNat) 1 [.undef] := by
 have q := Qub (c := 1) (vs := [.i .i64 v0, .deep false false 1 (v1.map eI), .i .i64 v2, .i .i64 v3, .i .i64 v4]) h0 h1 (g87 (b := false) h0 h2) (Nat.le_of_ble_eq_true rfl) rfl
 rw [q, s87 h0 h2]
theorem Qg.hD_87_1 {l : List S87} {j : Int} (h1 : 0 ≤ j) (h2 : j < (l.length : Int)) : (Qaq (l.map (e87 false)) (0 + j.toNat) 1 [.undef])[0 + j.toNat]? = some [.i .i64 ((QU l j).f0), .undef, .i .i64 ((QU l j).f2), .i .i64 ((QU l j).f3), .i .i64 ((QU l j).f4)] := QwD (g87 h1 h2)
theorem Qg.hE_87_1 {l : List S87} {j : Int} {v0 : Int} {v1 : List Int} {v2 : Int} {v3 : Int} {v4 : Int} (h1 : 0 ≤ j) (h2 : j < (l.length : Int)) : Qaq (Qaq (l.map (e87 false)) (0 + j.toNat) 1 [.undef]) (0 + j.toNat) 0 [.i .i64 v0, .deep false false 1 (v1.map eI), .i .i64 v2, .i .i64 v3, .i .i64 v4] = (l.set j.toNat (⟨v0, v1, v2, v3, v4⟩ : S87)).map (e87 false) := by
 have q := Quc (c := 1) (vs := [.i .i64 v0, .deep false false 1 (v1.map eI), .i .i64 v2, .i .i64 v3, .i .i64 v4]) (g87 (b := false) h1 h2) (Nat.le_of_ble_eq_true rfl) rfl
 rw [q, s87 h1 h2]
def Qg.l0 : Nat → (List S87) → Int → Int → Option (List S87)
 | 0, _, _, _ => none
 | k + 1, l0, x2, x3 => if x2 < x3 then (if 0 ≤ x3 then (if x3 < (l0.length : Int) then (if 0 ≤ x2 then (if x2 < (l0.length : Int) then (Qg.l0 k ((l0.set (x2 : Int).toNat (⟨(QU l0 x3).f0, (QU l0 x3).f1, (QU l0 x3).f2, (QU l0 x3).f3, (QU l0 x3).f4⟩ : S87)).set (x3 : Int).toNat (⟨(QU l0 x2).f0, (QU l0 x2).f1, (QU l0 x2).f2, (QU l0 x2).f3, (QU l0 x2).f4⟩ : S87)) (wrap64 (x2 + 1)) (wrap64 (x3 - 1))) else none) else none) else none) else none) else (some l0)
def Qg.f (k : Nat) (l0 : List S87) : Option (List S87) := Qg.l0 k l0 0 (wrap64 ((l0.length : Int) - 1))
def Qg.P0 (k : Nat) : Prop := ∀ (l0 : List S87) (x2 : Int) (x3 : Int) (r : (List S87)), Qg.l0 k l0 x2 x3 = some r → ∀ st, canon 1 [0, 2, 3] st = ⟨Qaw [(0, .slc 0 [] 0 5 0 l0.length), (2, .i .i64 x2), (3, .i .i64 x3)], rsL [(0, some ⟨true, 5, 0, (l0.map (e87 false))⟩)], 1⟩ → W env Qg.c0 st (Qb 0 (Qf [] [true] ([], [some (r.map (e87 false))])))
theorem Qg.s0 (k : Nat) (ih : Qg.P0 k) : Qg.P0 (k + 1) := by
 intro l0 x2 x3 r H st hst
 rw [Qg.l0] at H
 rw [Qax (show Qg.c0 = C.loop 1 [0, 2, 3] Qg.d0 from rfl), hst]
 unfold Qg.d0
 try simp only [TN, simprocAttr]
 rcases QP H with ⟨h1, H⟩ | ⟨h1, H⟩
 ·skip
  obtain ⟨h2, H⟩ := Qr H
  obtain ⟨h3, H⟩ := Qr H
  obtain ⟨h4, H⟩ := Qr H
  obtain ⟨h5, H⟩ := Qr H
  try simp only [TN, simprocAttr, h1, h2, h3, h4, h5, @Qg.hA_87_1, @Qg.hB_87_1, @Qg.hC_87_1, @Qg.hD_87_1, @Qg.hE_87_1]
  refine ih _ _ _ _ H _ ?_
  first | (rw [Qc]; done) | (rw [Qc]; rfl) | (rw [Qc]; simp only [List.length_set, List.length_append, List.length_replicate]; rfl)
 ·skip
  injection H with H; subst H
  try simp only [TN, simprocAttr, h1]
  try rfl
theorem Qg.w : ∀ k, Qg.P0 k := by
 intro k
 induction k with
 | zero => exact by intro l0 x2 x3 r H; cases (show (none : Option (List S87)) = some r from H)
 | succ k ih => exact Qg.s0 k ih
theorem Qg.link {k : Nat} {l0 : List S87} {r : (List S87)} (H : Qg.f k l0 = some r) : Qat env 102 [.deep false false 5 (l0.map (e87 false))] = some ([], [some (r.map (e87 false))]) := by
 unfold Qg.f at H
 refine Qy (F := Qg.F) (tm := Qaw [(0, .slc 0 [] 0 5 0 l0.length)]) (rs := rsL [(0, some ⟨true, 5, 0, (l0.map (e87 false))⟩)]) (nx := 1) (ow := [true]) rfl (by rfl) (by simp only [SN]) (by simp only [SN]) (by decide) ?_
 show W env Qg.B _ (Qf [] [true] _)
 unfold Qg.B
 try simp only [TN, simprocAttr]
 refine (Qg.w k) _ _ _ _ H _ ?_
 first | (rw [Qc]; done) | (rw [Qc]; rfl) | (rw [Qc]; simp only [List.length_set, List.length_append, List.length_replicate]; rfl)
end Go.Proofs.Ytinlbiphjgpmmaa.P
end
section
namespace Go.Proofs.Ytinlbiphjgpmmaa.P
open Go Go.RowKit Go.Proofs.Ytinlbiphjgpmmaa.V
mutual
def Qu.l0 : Nat → (List S87) → (List QQ) → (List S87) → Int → Int → Option ((List S87) × Bool)
 | 0, _, _, _, _, _ => none
 | k + 1, x6, l0, l1, x19, x20 => if x20 < x19 then (if 0 ≤ x20 then (if x20 < (l1.length : Int) then ((Qh.f k l0 ((QU l1 x20).f0) ((QU l1 x20).f1) ((QU l1 x20).f2) ((QU l1 x20).f3) ((QU l1 x20).f4)).bind fun bt2 => (if bt2.2 = 0 then ((QaS.f k l0 ((QU l1 x20).f0) ((QU l1 x20).f1) ((QU l1 x20).f2) ((QU l1 x20).f3) ((QU l1 x20).f4)).bind fun bt3 => (if x6.length < 2513169434916 then (Qu.l1 k (x6 ++ ([(⟨bt3.1, bt3.2.1, bt3.2.2.1, bt3.2.2.2.1, bt3.2.2.2.2⟩ : S87)])) bt2.1 l1 x19 (wrap64 (x20 + 1)) l0) else none)) else (some (([] : List S87), false)))) else none) else none) else ((Qg.f k x6).bind fun t7 => (if t7.length = x6.length then (some (t7, true)) else none))
def Qu.l1 : Nat → (List S87) → (List QQ) → (List S87) → Int → Int → (List QQ) → Option ((List S87) × Bool)
 | 0, _, _, _, _, _, _ => none
 | k + 1, x6, x7, l1, x19, x20, l0 => if x20 < x19 then (if 0 ≤ x20 then (if x20 < (l1.length : Int) then ((Qh.f k x7 ((QU l1 x20).f0) ((QU l1 x20).f1) ((QU l1 x20).f2) ((QU l1 x20).f3) ((QU l1 x20).f4)).bind fun bt4 => (if bt4.2 = 0 then ((QaS.f k x7 ((QU l1 x20).f0) ((QU l1 x20).f1) ((QU l1 x20).f2) ((QU l1 x20).f3) ((QU l1 x20).f4)).bind fun bt5 => (if x6.length < 2513169434916 then (Qu.l1 k (x6 ++ ([(⟨bt5.1, bt5.2.1, bt5.2.2.1, bt5.2.2.2.1, bt5.2.2.2.2⟩ : S87)])) bt4.1 l1 x19 (wrap64 (x20 + 1)) l0) else none)) else (some (([] : List S87), false)))) else none) else none) else ((Qg.f k x6).bind fun t6 => (if t6.length = x6.length then (some (t6, true)) else none))
end
def Qu.f (k : Nat) (l0 : List QQ) (l1 : List S87) : Option ((List S87) × Bool) := (QB.f k l0).bind fun t1 => (if t1 = true then (Qu.l0 k ([] : List S87) l0 l1 (l1.length : Int) 0) else (some (([] : List S87), false)))
def Qu.P0 (k : Nat) : Prop := ∀ (x6 : List S87) (l0 : List QQ) (l1 : List S87) (x19 : Int) (x20 : Int) (r : (List S87) × Bool), Qu.l0 k x6 l0 l1 x19 x20 = some r → ∀ st, canon 2 [6, 7, 18, 19, 20] st = ⟨Qaw [(6, .slc 2 [] 0 5 0 x6.length), (7, .slc 0 [] 0 2 0 l0.length), (18, .slc 1 [] 0 5 0 l1.length), (19, .i .i64 x19), (20, .i .i64 x20)], rsL [(0, some ⟨false, 2, 0, (l0.map QaA)⟩), (1, some ⟨false, 5, 0, (l1.map (e87 false))⟩), (2, some ⟨true, 5, 0, (x6.map (e87 false))⟩)], 3⟩ → W env Qu.c1 st (Qb 0 (Qs env Qu.c0 (Qf [.t 4, .t 5] [false, false] ([.deep false false 5 (r.1.map (e87 false)), .b r.2], [none, none]))))
def Qu.P1 (k : Nat) : Prop := ∀ (x6 : List S87) (x7 : List QQ) (l1 : List S87) (x19 : Int) (x20 : Int) (l0 : List QQ) (r : (List S87) × Bool), Qu.l1 k x6 x7 l1 x19 x20 l0 = some r → ∀ st, canon 2 [6, 7, 18, 19, 20] st = ⟨Qaw [(6, .slc 2 [] 0 5 0 x6.length), (7, .slc 3 [] 0 2 0 x7.length), (18, .slc 1 [] 0 5 0 l1.length), (19, .i .i64 x19), (20, .i .i64 x20)], rsL [(0, some ⟨false, 2, 0, (l0.map QaA)⟩), (1, some ⟨false, 5, 0, (l1.map (e87 false))⟩), (2, some ⟨true, 5, 0, (x6.map (e87 false))⟩), (3, some ⟨true, 2, 0, (x7.map QaA)⟩)], 4⟩ → W env Qu.c1 st (Qb 0 (Qs env Qu.c0 (Qf [.t 4, .t 5] [false, false] ([.deep false false 5 (r.1.map (e87 false)), .b r.2], [none, none]))))
theorem Qu.s0 (k : Nat) (ih : Qu.P0 k ∧ Qu.P1 k) : Qu.P0 (k + 1) := by
 intro x6 l0 l1 x19 x20 r H st hst
 rw [Qu.l0] at H
 rw [Qax (show Qu.c1 = C.loop 2 [6, 7, 18, 19, 20] Qu.d1 from rfl), hst]
 unfold Qu.d1
 try simp only [TN, simprocAttr, Qu.c0]
 rcases QP H with ⟨h1, H⟩ | ⟨h1, H⟩
 ·skip
  obtain ⟨h2, H⟩ := Qr H
  obtain ⟨h3, H⟩ := Qr H
  obtain ⟨bt2, e4, H⟩ := Qm H
  have e4 := Qh.link e4
  try simp only [TN, simprocAttr, Qu.c0, h1, h2, h3, e4]
  rcases QP H with ⟨h5, H⟩ | ⟨h5, H⟩
  ·skip
   obtain ⟨bt3, e6, H⟩ := Qm H
   have e6 := QaS.link e6
   obtain ⟨h7, H⟩ := Qr H
   have h8 : (x6.length + 1) * 56 ≤ 140737488355328 := by omega
   try simp only [TN, simprocAttr, Qu.c0, h1, h2, h3, e4, eq_true h5, e6, @Qdk, h7, h8]
   refine ih.2 _ _ _ _ _ _ _ H _ ?_
   first | (rw [Qc]; done) | (rw [Qc]; rfl) | (rw [Qc]; simp only [List.length_set, List.length_append, List.length_replicate]; rfl)
  ·skip
   injection H with H; subst H
   try simp only [TN, simprocAttr, Qu.c0, h1, h2, h3, e4, h5]
   try rfl
 ·skip
  obtain ⟨t7, e9, H⟩ := Qm H
  have e9 := Qg.link e9
  obtain ⟨q10, H⟩ := Qr H
  injection H with H; subst H
  try simp only [TN, simprocAttr, Qu.c0, h1, e9, q10]
  try rfl
theorem Qu.s1 (k : Nat) (ih : Qu.P0 k ∧ Qu.P1 k) : Qu.P1 (k + 1) := by
 intro x6 x7 l1 x19 x20 l0 r H st hst
 rw [Qu.l1] at H
 rw [Qax (show Qu.c1 = C.loop 2 [6, 7, 18, 19, 20] Qu.d1 from rfl), hst]
 unfold Qu.d1
 try simp only [TN, simprocAttr, Qu.c0]
 rcases QP H with ⟨h1, H⟩ | ⟨h1, H⟩
 ·skip
  obtain ⟨h2, H⟩ := Qr H
  obtain ⟨h3, H⟩ := Qr H
  obtain ⟨bt4, e4, H⟩ := Qm H
  have e4 := Qh.link e4
  try simp only [TN, simprocAttr, Qu.c0, h1, h2, h3, e4]
  rcases QP H with ⟨h5, H⟩ | ⟨h5, H⟩
  ·skip
   obtain ⟨bt5, e6, H⟩ := Qm H
   have e6 := QaS.link e6
   obtain ⟨h7, H⟩ := Qr H
   have h8 : (x6.length + 1) * 56 ≤ 140737488355328 := by omega
   try simp only [TN, simprocAttr, Qu.c0, h1, h2, h3, e4, eq_true h5, e6, @Qdk, h7, h8]
   refine ih.2 _ _ _ _ _ _ _ H _ ?_
   first | (rw [Qc]; done) | (rw [Qc]; rfl) | (rw [Qc]; simp only [List.length_set, List.length_append, List.length_replicate]; rfl)
  ·skip
   injection H with H; subst H
   try simp only [TN, simprocAttr, Qu.c0, h1, h2, h3, e4, h5]
   try rfl
 ·skip
  obtain ⟨t6, e9, H⟩ := Qm H
  have e9 := Qg.link e9
  obtain ⟨q10, H⟩ := Qr H
  injection H with H; subst H
  try simp only [TN, simprocAttr, Qu.c0, h1, e9, q10]
  try rfl
theorem Qu.w : ∀ k, Qu.P0 k ∧ Qu.P1 k := by
 intro k
 induction k with
 | zero => exact ⟨(by intro x6 l0 l1 x19 x20 r H; cases (show (none : Option ((List S87) × Bool)) = some r from H)), (by intro x6 x7 l1 x19 x20 l0 r H; cases (show (none : Option ((List S87) × Bool)) = some r from H))⟩
 | succ k ih => exact ⟨(Qu.s0 k ih), (Qu.s1 k ih)⟩
theorem Qu.link {k : Nat} {l0 : List QQ} {l1 : List S87} {r : (List S87) × Bool} (H : Qu.f k l0 l1 = some r) : Qat env 67 [.deep false true 2 (l0.map QaA), .deep false true 5 (l1.map (e87 false))] = some ([.deep false false 5 (r.1.map (e87 false)), .b r.2], [none, none]) := by
 unfold Qu.f at H
 refine Qy (F := Qu.F) (tm := Qaw [(0, .slc 0 [] 0 2 0 l0.length), (1, .slc 1 [] 0 5 0 l1.length)]) (rs := rsL [(0, some ⟨false, 2, 0, (l0.map QaA)⟩), (1, some ⟨false, 5, 0, (l1.map (e87 false))⟩)]) (nx := 2) (ow := [false, false]) rfl (by rfl) (by simp only [SN]) (by simp only [SN]) (by decide) ?_
 show W env Qu.B _ (Qf [.t 4, .t 5] [false, false] _)
 unfold Qu.B
 obtain ⟨t1, e1, H⟩ := Qm H
 have e1 := QB.link e1
 try simp only [TN, simprocAttr, Qu.c0, e1]
 rcases Qa1 H with ⟨h2, H⟩ | ⟨h2, H⟩
 ·skip
  try simp only [TN, simprocAttr, Qu.c0, e1, h2]
  refine (Qu.w k).1 _ _ _ _ _ _ H _ ?_
  first | (rw [Qc]; done) | (rw [Qc]; rfl) | (rw [Qc]; simp only [List.length_set, List.length_append, List.length_replicate]; rfl)
 ·skip
  injection H with H; subst H
  try simp only [TN, simprocAttr, Qu.c0, e1, h2]
  try rfl
end Go.Proofs.Ytinlbiphjgpmmaa.P
end
section
namespace Go.Proofs.Ytinlbiphjgpmmaa.P
open Go Go.RowKit Go.Proofs.Ytinlbiphjgpmmaa.V
def Qbb.f (k : Nat) (l0_0 : List QQ) (l0_1 : List (List S87)) (a1 : Int) : Option (List QQ) := (Qo.f k l0_0 l0_1).bind fun bt1 => ((Qaf.f a1 0 (wrap64 ((bt1.1.length : Int) - 1))).bind fun t2 => (if t2 = true then (if 0 ≤ a1 then (if a1 < (bt1.1.length : Int) then (some (rdL bt1.1 a1)) else none) else none) else (some ([] : List QQ))))
theorem Qbb.link {k : Nat} {l0_0 : List QQ} {l0_1 : List (List S87)} {a1 : Int} {r : (List QQ)} (H : Qbb.f k l0_0 l0_1 a1 = some r) : Qat env 68 [.agg [.deep false true 2 (l0_0.map QaA), .deep false true 1 (l0_1.map (eL 5 false (e87 false)))], .i .i64 a1] = some ([.deep false false 2 (r.map QaA)], [none, none]) := by
 unfold Qbb.f at H
 refine Qy (F := Qbb.F) (tm := Qaw [(0, .agg [.slc 0 [] 0 2 0 l0_0.length, .slc 1 [] 0 1 0 l0_1.length]), (1, .i .i64 a1)]) (rs := rsL [(0, some ⟨false, 2, 0, (l0_0.map QaA)⟩), (1, some ⟨false, 1, 0, (l0_1.map (eL 5 false (e87 false)))⟩)]) (nx := 2) (ow := [false, false]) rfl (by rfl) (by simp only [SN]) (by simp only [SN]) (by decide) ?_
 show W env Qbb.B _ (Qf [.t 4] [false, false] _)
 unfold Qbb.B
 obtain ⟨bt1, e1, H⟩ := Qm H
 have e1 := Qo.link e1
 obtain ⟨t2, e2, H⟩ := Qm H
 have e2 := Qaf.link e2
 try simp only [TN, simprocAttr, e1, e2]
 rcases Qa1 H with ⟨h3, H⟩ | ⟨h3, H⟩
 ·skip
  obtain ⟨h4, H⟩ := Qr H
  obtain ⟨h5, H⟩ := Qr H
  injection H with H; subst H
  try simp only [TN, simprocAttr, e1, e2, h3, h4, h5]
  try rfl
 ·skip
  injection H with H; subst H
  try simp only [TN, simprocAttr, e1, e2, h3]
  try rfl
end Go.Proofs.Ytinlbiphjgpmmaa.P
end
section
namespace Go.Proofs.Ytinlbiphjgpmmaa.P
open Go Go.RowKit Go.Proofs.Ytinlbiphjgpmmaa.V
def QaP.f (k : Nat) (l0_0 : List QQ) (l0_1 : List (List S87)) : Option ((List QQ) × (List (List S87)) × Bool) := if (l0_1.length : Int) = 0 then ((QD.f k l0_0 l0_1).bind fun bt1 => (some (bt1.1, bt1.2, false))) else ((QaL.f k l0_0 l0_1).bind fun t2 => (if t2 = true then ((Qbb.f k l0_0 l0_1 (wrap64 ((l0_1.length : Int) - 1))).bind fun t3 => (if 0 ≤ wrap64 ((l0_1.length : Int) - 1) then (if wrap64 ((l0_1.length : Int) - 1) < (l0_1.length : Int) then ((Qu.f k t3 (rdL l0_1 (wrap64 ((l0_1.length : Int) - 1)))).bind fun bt4 => ((QaX.f k l0_0 l0_1 bt4.1).bind fun bt5 => (some (bt5.1, bt5.2.1, bt5.2.2)))) else none) else none)) else ((QD.f k l0_0 l0_1).bind fun bt6 => (some (bt6.1, bt6.2, false)))))
theorem QaP.link {k : Nat} {l0_0 : List QQ} {l0_1 : List (List S87)} {r : (List QQ) × (List (List S87)) × Bool} (H : QaP.f k l0_0 l0_1 = some r) : Qat env 31 [.agg [.deep false true 2 (l0_0.map QaA), .deep false true 1 (l0_1.map (eL 5 false (e87 false)))]] = some ([.agg [.deep false false 2 (r.1.map QaA), .deep false false 1 (r.2.1.map (eL 5 false (e87 false)))], .b r.2.2], [none, none]) := by
 unfold QaP.f at H
 refine Qy (F := QaP.F) (tm := Qaw [(0, .agg [.slc 0 [] 0 2 0 l0_0.length, .slc 1 [] 0 1 0 l0_1.length])]) (rs := rsL [(0, some ⟨false, 2, 0, (l0_0.map QaA)⟩), (1, some ⟨false, 1, 0, (l0_1.map (eL 5 false (e87 false)))⟩)]) (nx := 2) (ow := [false, false]) rfl (by rfl) (by simp only [SN]) (by simp only [SN]) (by decide) ?_
 show W env QaP.B _ (Qf [.cell 2 (some 2), .t 3] [false, false] _)
 unfold QaP.B
 try simp only [TN, simprocAttr]
 rcases QP H with ⟨h1, H⟩ | ⟨h1, H⟩
 ·skip
  obtain ⟨bt1, e2, H⟩ := Qm H
  have e2 := QD.link e2
  injection H with H; subst H
  try simp only [TN, simprocAttr, eq_true h1, e2]
  try rfl
 ·skip
  obtain ⟨t2, e3, H⟩ := Qm H
  have e3 := QaL.link e3
  try simp only [TN, simprocAttr, h1, e3]
  rcases Qa1 H with ⟨h4, H⟩ | ⟨h4, H⟩
  ·skip
   obtain ⟨t3, e5, H⟩ := Qm H
   have e5 := Qbb.link e5
   obtain ⟨h6, H⟩ := Qr H
   obtain ⟨h7, H⟩ := Qr H
   obtain ⟨bt4, e8, H⟩ := Qm H
   have e8 := Qu.link e8
   obtain ⟨bt5, e9, H⟩ := Qm H
   have e9 := QaX.link e9
   injection H with H; subst H
   try simp only [TN, simprocAttr, h1, e3, h4, e5, h6, h7, e8, e9]
   try rfl
  ·skip
   obtain ⟨bt6, e10, H⟩ := Qm H
   have e10 := QD.link e10
   injection H with H; subst H
   try simp only [TN, simprocAttr, h1, e3, h4, e10]
   try rfl
end Go.Proofs.Ytinlbiphjgpmmaa.P
end
section
namespace Go.Proofs.Ytinlbiphjgpmmaa.P
open Go Go.RowKit Go.Proofs.Ytinlbiphjgpmmaa.V
def Qar.f (k : Nat) (l0_0 : List QcI) (l0_1 : List (List S81)) : Option Bool := (Qba.f k l0_0 l0_1 1048576).bind fun t1 => (if t1 < 0 then (some true) else ((Qbh.f k l0_0 l0_1).bind fun bt2 => ((QaM.f k bt2.1 bt2.2).bind fun bt3 => ((QaP.f k bt2.1 bt2.2).bind fun bt4 => ((QaR.f k bt4.1 bt4.2.1 bt3.1 bt3.2.1).bind fun t5 => (if t5 = true then (if bt4.2.2 = bt3.2.2 then ((QaR.f k bt2.1 bt2.2 bt2.1 bt2.2).bind fun t6 => (if t6 = true then ((QaG.f k bt2.1 bt2.2 1).bind fun bt7 => (if bt7.1 < 0 then (some false) else ((QaG.f k bt4.1 bt4.2.1 1).bind fun bt8 => ((QaN.f k bt8.2.1 bt8.2.2 1).bind fun t9 => (if t9 < 0 then (some false) else (if t9 = bt8.1 then (some true) else (some false))))))) else (some false))) else (some false)) else (some false)))))))
theorem Qar.link {k : Nat} {l0_0 : List QcI} {l0_1 : List (List S81)} {r : Bool} (H : Qar.f k l0_0 l0_1 = some r) : Qat env 7 [.agg [.deep false true 2 (l0_0.map QcH), .deep false true 1 (l0_1.map (eL 5 true (e81 true)))]] = some ([.b r], [none, none]) := by
 unfold Qar.f at H
 refine Qy (F := Qar.F) (tm := Qaw [(0, .agg [.slc 0 [] 0 2 0 l0_0.length, .slc 1 [] 0 1 0 l0_1.length])]) (rs := rsL [(0, some ⟨false, 2, 0, (l0_0.map QcH)⟩), (1, some ⟨false, 1, 0, (l0_1.map (eL 5 true (e81 true)))⟩)]) (nx := 2) (ow := [false, false]) rfl (by rfl) (by simp only [SN]) (by simp only [SN]) (by decide) ?_
 show W env Qar.B _ (Qf [.t 2] [false, false] _)
 unfold Qar.B
 obtain ⟨t1, e1, H⟩ := Qm H
 have e1 := Qba.link e1
 try simp only [TN, simprocAttr, e1]
 rcases QP H with ⟨h2, H⟩ | ⟨h2, H⟩
 ·skip
  injection H with H; subst H
  try simp only [TN, simprocAttr, e1, h2]
  try rfl
 ·skip
  obtain ⟨bt2, e3, H⟩ := Qm H
  have e3 := Qbh.link e3
  obtain ⟨bt3, e4, H⟩ := Qm H
  have e4 := QaM.link e4
  obtain ⟨bt4, e5, H⟩ := Qm H
  have e5 := QaP.link e5
  obtain ⟨t5, e6, H⟩ := Qm H
  have e6 := QaR.link e6
  try simp only [TN, simprocAttr, e1, h2, e3, e4, e5, e6]
  rcases Qa1 H with ⟨h7, H⟩ | ⟨h7, H⟩
  ·skip
   try simp only [TN, simprocAttr, e1, h2, e3, e4, e5, e6, h7]
   rcases QP H with ⟨h8, H⟩ | ⟨h8, H⟩
   ·skip
    obtain ⟨t6, e9, H⟩ := Qm H
    have e9 := QaR.link e9
    try simp only [TN, simprocAttr, e1, h2, e3, e4, e5, e6, h7, eq_true h8, e9]
    rcases Qa1 H with ⟨h10, H⟩ | ⟨h10, H⟩
    ·skip
     obtain ⟨bt7, e11, H⟩ := Qm H
     have e11 := QaG.link e11
     try simp only [TN, simprocAttr, e1, h2, e3, e4, e5, e6, h7, eq_true h8, e9, h10, e11]
     rcases QP H with ⟨h12, H⟩ | ⟨h12, H⟩
     ·skip
      injection H with H; subst H
      try simp only [TN, simprocAttr, e1, h2, e3, e4, e5, e6, h7, eq_true h8, e9, h10, e11, h12]
      try rfl
     ·skip
      obtain ⟨bt8, e13, H⟩ := Qm H
      have e13 := QaG.link e13
      obtain ⟨t9, e14, H⟩ := Qm H
      have e14 := QaN.link e14
      try simp only [TN, simprocAttr, e1, h2, e3, e4, e5, e6, h7, eq_true h8, e9, h10, e11, h12, e13, e14]
      rcases QP H with ⟨h15, H⟩ | ⟨h15, H⟩
      ·skip
       injection H with H; subst H
       try simp only [TN, simprocAttr, e1, h2, e3, e4, e5, e6, h7, eq_true h8, e9, h10, e11, h12, e13, e14, h15]
       try rfl
      ·skip
       try simp only [TN, simprocAttr, e1, h2, e3, e4, e5, e6, h7, eq_true h8, e9, h10, e11, h12, e13, e14, h15]
       rcases QP H with ⟨h16, H⟩ | ⟨h16, H⟩
       ·skip
        injection H with H; subst H
        try simp only [TN, simprocAttr, e1, h2, e3, e4, e5, e6, h7, eq_true h8, e9, h10, e11, h12, e13, e14, h15, eq_true h16]
        try rfl
       ·skip
        injection H with H; subst H
        try simp only [TN, simprocAttr, e1, h2, e3, e4, e5, e6, h7, eq_true h8, e9, h10, e11, h12, e13, e14, h15, h16]
        try rfl
    ·skip
     injection H with H; subst H
     try simp only [TN, simprocAttr, e1, h2, e3, e4, e5, e6, h7, eq_true h8, e9, h10]
     try rfl
   ·skip
    injection H with H; subst H
    try simp only [TN, simprocAttr, e1, h2, e3, e4, e5, e6, h7, h8]
    try rfl
  ·skip
   injection H with H; subst H
   try simp only [TN, simprocAttr, e1, h2, e3, e4, e5, e6, h7]
   try rfl
end Go.Proofs.Ytinlbiphjgpmmaa.P
end
section
namespace Go.Proofs.Ytinlbiphjgpmmaa.B
open Go Go.RowKit Go.Proofs.Ytinlbiphjgpmmaa.V Go.Proofs.Ytinlbiphjgpmmaa.P
theorem wid {n : Int} (h0 : -9223372036854775808 ≤ n) (h1 : n ≤ 9223372036854775807) : wrap64 n = n := by unfold wrap64; omega
theorem wsucc {i : Nat} (h : i < 9223372036854775807) : wrap64 ((i : Int) + 1) = ((i + 1 : Nat) : Int) := by unfold wrap64; omega
theorem wsub {a : Int} {n : Nat} (h0 : 0 ≤ a) (h1 : a ≤ 9223372036854775807) (hn : n ≤ 9223372036854775807) : wrap64 (a - (n : Int)) = a - (n : Int) := by unfold wrap64; omega
theorem loop {ρ : Type} (g : Nat → Nat → ρ) (n : Nat) (R : Nat → ρ) (last : ∀ k, g (k + 1) n = R n)
 (step : ∀ k i, i < n → (g k (i + 1) = R (i + 1)) → g (k + 1) i = R i) : ∀ k i, i ≤ n → n - i < k → g k i = R i := by
 intro k
 induction k with
 | zero => intro i _ h; omega
 | succ k ih =>
  intro i hi hk
  rcases Nat.lt_or_ge i n with hlt | hge
  ·exact step k i hlt (ih (i + 1) hlt (by omega))
  ·obtain rfl : i = n := by omega
   exact last k
theorem loopk {ρ : Type} (g : Nat → Nat → ρ) (n b : Nat) (R : Nat → ρ) (last : ∀ k, b ≤ k → g (k + 1) n = R n)
 (step : ∀ k i, b ≤ k → i < n → (g k (i + 1) = R (i + 1)) → g (k + 1) i = R i) : ∀ k i, i ≤ n → b + (n - i) < k → g k i = R i := by
 intro k
 induction k with
 | zero => intro i _ h; omega
 | succ k ih =>
  intro i hi hk
  rcases Nat.lt_or_ge i n with hlt | hge
  ·exact step k i (by omega) hlt (ih (i + 1) hlt (by omega))
  ·obtain rfl : i = n := by omega
   exact last k (by omega)
theorem loopI {ρ : Type} (g : Nat → Nat → ρ) (n b : Nat) (I : Nat → Prop) (R : Nat → ρ) (last : ∀ k, b ≤ k → I n → g (k + 1) n = R n)
 (step : ∀ k i, b ≤ k → i < n → I i → (I (i + 1) → g k (i + 1) = R (i + 1)) → g (k + 1) i = R i) : ∀ k i, i ≤ n → I i → b + (n - i) < k → g k i = R i := by
 intro k
 induction k with
 | zero => intro i _ _ h; omega
 | succ k ih =>
  intro i hi hI hk
  rcases Nat.lt_or_ge i n with hlt | hge
  ·exact step k i (by omega) hlt hI (fun hI' => ih (i + 1) hlt hI' (by omega))
  ·obtain rfl : i = n := by omega
   exact last k (by omega) hI
theorem getD_lt {α : Type} {xs : List α} {i : Nat} {z : α} (h : i < xs.length) : xs.getD i z = xs[i] := by
 rw [List.getD_eq_getElem?_getD, List.getElem?_eq_getElem h]; rfl
def filled {α β : Type} (l : List α) (f : α → β) (z : β) (i : Nat) : List β := (l.take i).map f ++ List.replicate (l.length - i) z
theorem filled_length {α β : Type} (l : List α) (f : α → β) (z : β) {i : Nat} (h : i ≤ l.length) : (filled l f z i).length = l.length := by
 unfold filled; simp; omega
theorem filled_zero {α β : Type} (l : List α) (f : α → β) (z : β) : filled l f z 0 = List.replicate l.length z := by simp [filled]
theorem filled_all {α β : Type} (l : List α) (f : α → β) (z : β) : filled l f z l.length = l.map f := by simp [filled]
theorem filled_set {α β : Type} (l : List α) (f : α → β) (z : β) {i : Nat} (h : i < l.length) : (filled l f z i).set i (f l[i]) = filled l f z (i + 1) := by
 unfold filled
 rw [List.set_append_right _ _ (by simp; omega)]
 have h1 : i - ((l.take i).map f).length = 0 := by simp; omega
 rw [h1]
 obtain ⟨m, hm⟩ : ∃ m, l.length - i = m + 1 := ⟨l.length - i - 1, by omega⟩
 rw [hm, show l.length - (i + 1) = m by omega, List.replicate_succ, List.set_cons_zero, List.take_succ_eq_append_getElem h, List.map_append, List.append_assoc]
 rfl
def run (a : Int) (n : Nat) : List Int := (List.range n).map fun (i : Nat) => a + (i : Int)
theorem run_length (a : Int) (n : Nat) : (run a n).length = n := by simp [run]
theorem run_get (a : Int) (n : Nat) {i : Nat} (h : i < n) : (run a n).getD i 0 = a + (i : Int) := by
 rw [getD_lt (by simpa [run] using h)]
 simp [run]
theorem take_snoc {α β : Type} (l : List α) (f : α → β) {i : Nat} (h : i < l.length) : (l.take i).map f ++ [f l[i]] = (l.take (i + 1)).map f := by
 rw [List.take_succ_eq_append_getElem h, List.map_append]; rfl
theorem Qh7 {α : Type} {a b : List α} {i : Nat} (ha : i < a.length) (hb : i < b.length) : a.drop i = b.drop i ↔ a[i] = b[i] ∧ a.drop (i + 1) = b.drop (i + 1) := by
 rw [List.drop_eq_getElem_cons ha, List.drop_eq_getElem_cons hb, List.cons.injEq]
theorem drop_eq_dec {α : Type} [DecidableEq α] {a b : List α} {i : Nat} (ha : i < a.length) (hb : i < b.length) : decide (a.drop i = b.drop i) = (decide (a[i] = b[i]) && decide (a.drop (i + 1) = b.drop (i + 1))) := by
 rw [Bool.eq_iff_iff]; simp only [Bool.and_eq_true, decide_eq_true_eq]; exact Qh7 ha hb
theorem foldl_take {α β : Type} (f : β → α → β) (z : β) (l : List α) {i : Nat} (h : i < l.length) : (l.take (i + 1)).foldl f z = f ((l.take i).foldl f z) l[i] := by
 rw [List.take_succ_eq_append_getElem h, List.foldl_append]; rfl
def Qe8 {α : Type} (p : α → Bool) : List α → Nat → Int
 | [], _ => -1
 | x :: xs, i => if p x = true then (i : Int) else Qe8 p xs (i + 1)
theorem idxFrom_drop {α : Type} (p : α → Bool) (l : List α) {i : Nat} (h : i < l.length) : Qe8 p (l.drop i) i = if p l[i] = true then (i : Int) else Qe8 p (l.drop (i + 1)) (i + 1) := by
 rw [List.drop_eq_getElem_cons h]; rfl
theorem idxFrom_any {α : Type} (p : α → Bool) (l : List α) (i : Nat) : decide (Qe8 p l i ≥ 0) = l.any p := by
 induction l generalizing i with
 | nil => rfl
 | cons x xs ih =>
  unfold Qe8
  rw [List.any_cons]
  cases hp : p x with
  | true => simp
  | false => rw [if_neg (by simp), ih]; simp
end Go.Proofs.Ytinlbiphjgpmmaa.B
end
section
namespace Go.Proofs.Ytinlbiphjgpmmaa.X
open Go Go.RowKit Go.Proofs.Ytinlbiphjgpmmaa.V Go.Proofs.Ytinlbiphjgpmmaa.P
theorem Qq4 {xs : List Int} {i : Nat} : rd xs (i : Int) = xs.getD i 0 := by unfold rd; rw [Int.toNat_natCast]
end Go.Proofs.Ytinlbiphjgpmmaa.X
end
section
namespace Go.Proofs.Ytinlbiphjgpmmaa.X
open Go Go.RowKit Go.Proofs.Ytinlbiphjgpmmaa.V Go.Proofs.Ytinlbiphjgpmmaa.P
theorem Quu (l : List Int) (hl : l.length ≤ 4194304) (k : Nat) (hk : l.length < k) : Q6.f k l l = some true := by
 unfold Q6.f
 rw [if_pos rfl]
 exact B.loop (fun k i => Q6.l0 k l l (i : Int)) l.length (fun _ => some true)
  (fun k => by simp only [Q6.l0]; rw [if_neg (by omega)])
  (fun k i hi ih => by
   have a1 : (i : Int) < (l.length : Int) := by omega
   have a3 : 0 ≤ (i : Int) := by omega
   simp only [Q6.l0, a1, a3, ↓reduceIte, B.wsucc (show i < 9223372036854775807 by omega)]
   exact ih) k 0 (by omega) (by omega)
end Go.Proofs.Ytinlbiphjgpmmaa.X
end
section
namespace Go.Proofs.Ytinlbiphjgpmmaa.X
open Go Go.RowKit Go.Proofs.Ytinlbiphjgpmmaa.V Go.Proofs.Ytinlbiphjgpmmaa.P
def Qdy (l : List Int) (a : Int) (i : Nat) : List Int := B.run a i ++ l.drop i
theorem Qd0 (l : List Int) (a : Int) {i : Nat} (h : i ≤ l.length) : (Qdy l a i).length = l.length := by unfold Qdy; rw [List.length_append, B.run_length, List.length_drop]; omega
theorem Qna (a : Int) (i : Nat) : B.run a (i + 1) = B.run a i ++ [a + (i : Int)] := by unfold B.run; rw [List.range_succ, List.map_append]; rfl
theorem QjO (l : List Int) (a : Int) {i : Nat} (h : i < l.length) : (Qdy l a i).set i (a + (i : Int)) = Qdy l a (i + 1) := by
 unfold Qdy
 rw [List.set_append_right _ _ (by rw [B.run_length]; omega), B.run_length, Nat.sub_self, Qna, List.append_assoc]
 congr 1
 rw [List.drop_eq_getElem_cons h, List.set_cons_zero]; rfl
theorem Qnm (l : List Int) (a : Int) (hl : l.length ≤ 4194304) (h0 : 0 ≤ a) (h1 : a ≤ 1000000000) (k : Nat) (hk : l.length < k) : QM.f k l a = some (a + (l.length : Int), B.run a l.length) := by
 unfold QM.f
 have h := B.loop (fun k i => QM.l0 k (Qdy l a i) (a + (i : Int)) (i : Int)) l.length (fun _ => some (a + (l.length : Int), B.run a l.length))
  (fun k => by
   simp only [QM.l0]
   rw [if_neg (by rw [Qd0 _ _ (Nat.le_refl _)]; omega)]
   unfold Qdy; rw [List.drop_length, List.append_nil])
  (fun k i hi ih => by
   have a1 : (i : Int) < ((Qdy l a i).length : Int) := by rw [Qd0 _ _ (by omega)]; omega
   have a3 : 0 ≤ (i : Int) := by omega
   have e : wrap64 (a + (i : Int) + 1) = a + ((i + 1 : Nat) : Int) := by unfold wrap64; omega
   simp only [QM.l0, a1, a3, ↓reduceIte, B.wsucc (show i < 9223372036854775807 by omega), Int.toNat_natCast, e]
   rw [QjO _ _ hi]
   exact ih) k 0 (by omega) (by omega)
 have e : Qdy l a 0 = l := by simp [Qdy, B.run]
 rw [e] at h
 simpa using h
theorem Qnz (a : Int) (n : Nat) (hn : n ≤ 4194304) (h0 : 0 ≤ a) (h1 : a ≤ 1000000000) (k : Nat) (hk : n < k) : QH.f k (B.run a n) a = some (a + (n : Int)) := by
 unfold QH.f
 have h := B.loop (fun k i => QH.l0 k (B.run a n) (a + (i : Int)) (i : Int)) n (fun _ => some (a + (n : Int)))
  (fun k => by
   simp only [QH.l0]
   rw [if_neg (by rw [B.run_length]; omega)])
  (fun k i hi ih => by
   have a1 : (i : Int) < ((B.run a n).length : Int) := by rw [B.run_length]; omega
   have a3 : 0 ≤ (i : Int) := by omega
   have e : wrap64 (a + (i : Int) + 1) = a + ((i + 1 : Nat) : Int) := by unfold wrap64; omega
   simp only [QH.l0, a1, a3, ↓reduceIte, B.wsucc (show i < 9223372036854775807 by omega), e, Qq4]
   rw [B.run_get a n hi, if_pos rfl]
   exact ih) k 0 (by omega) (by omega)
 simpa using h
end Go.Proofs.Ytinlbiphjgpmmaa.X
end
section
namespace Go.Proofs.Ytinlbiphjgpmmaa.B
open Go Go.RowKit Go.Proofs.Ytinlbiphjgpmmaa.V Go.Proofs.Ytinlbiphjgpmmaa.P
def Ev {α : Type} (g : Nat → Option α) (v : α) : Prop := ∃ K, ∀ k, K ≤ k → g k = some v
theorem Ev.of {α : Type} {g : Nat → Option α} {v : α} (K : Nat) (h : ∀ k, K < k → g k = some v) : Ev g v := ⟨K + 1, fun k hk => h k hk⟩
theorem Ev.succ {α : Type} {g : Nat → Option α} {v : α} (h : Ev (fun k => g (k + 1)) v) : Ev g v := by
 obtain ⟨K, h⟩ := h
 refine ⟨K + 1, fun k hk => ?_⟩
 obtain ⟨m, rfl⟩ : ∃ m, k = m + 1 := ⟨k - 1, by omega⟩
 exact h m (by omega)
theorem Ev.pure {α : Type} (v : α) : Ev (fun _ => some v) v := ⟨0, fun _ _ => rfl⟩
theorem Ev.bind {α β : Type} {f : Nat → Option α} {g : Nat → α → Option β} {a : α} {v : β} (hf : Ev f a) (hg : Ev (fun k => g k a) v) : Ev (fun k => (f k).bind (g k)) v := by
 obtain ⟨K, hf⟩ := hf
 obtain ⟨L, hg⟩ := hg
 refine ⟨K + L, fun k hk => ?_⟩
 show (f k).bind (g k) = some v
 rw [hf k (by omega), Option.bind_some]
 exact hg k (by omega)
theorem Ev.ite {α : Type} {p : Prop} [Decidable p] {f g : Nat → Option α} {v : α} (hf : p → Ev f v) (hg : ¬p → Ev g v) : Ev (fun k => if p then f k else g k) v := by
 by_cases h : p
 ·obtain ⟨K, hf⟩ := hf h; exact ⟨K, fun k hk => by show (if p then f k else g k) = some v; rw [if_pos h]; exact hf k hk⟩
 ·obtain ⟨K, hg⟩ := hg h; exact ⟨K, fun k hk => by show (if p then f k else g k) = some v; rw [if_neg h]; exact hg k hk⟩
theorem Ev.eq {α : Type} {g : Nat → Option α} {v w : α} (h : Ev g v) (e : v = w) : Ev g w := e ▸ h
theorem Ev.ex {α : Type} {g : Nat → Option α} {v : α} (h : Ev g v) : ∃ k, g k = some v := by obtain ⟨K, h⟩ := h; exact ⟨K, h K (Nat.le_refl _)⟩
theorem Ev.loop {ρ : Type} {g : Nat → Nat → Option ρ} (n : Nat) (I : Nat → Prop) {v : ρ} (last : I n → Ev (fun k => g k n) v)
 (step : ∀ i, i < n → I i → (I (i + 1) → Ev (fun k => g k (i + 1)) v) → Ev (fun k => g k i) v) : ∀ i, i ≤ n → I i → Ev (fun k => g k i) v := by
 intro i hi
 obtain ⟨d, hd⟩ : ∃ d, n - i = d := ⟨_, rfl⟩
 induction d generalizing i with
 | zero => obtain rfl : i = n := by omega
           exact last
 | succ d ih => exact fun hI => step i (by omega) hI (ih (i + 1) (by omega) (by omega))
end Go.Proofs.Ytinlbiphjgpmmaa.B
end
section
namespace Go.Proofs.Ytinlbiphjgpmmaa.X
open Go Go.RowKit Go.Proofs.Ytinlbiphjgpmmaa.V Go.Proofs.Ytinlbiphjgpmmaa.P
theorem Qcf (pre : List S87) (x : S87) (rest : List S87) : QU (pre ++ x :: rest) (pre.length : Int) = x := by
 unfold QU; rw [Int.toNat_natCast, B.getD_lt (by simp)]
 simp
theorem Qg4 (pre : List QQ) (x : QQ) (rest : List QQ) : Qap (pre ++ x :: rest) (pre.length : Int) = x := by
 unfold Qap; rw [Int.toNat_natCast, B.getD_lt (by simp)]
 simp
theorem QcC {α : Type} (pre : List (List α)) (x : List α) (rest : List (List α)) : rdL (pre ++ x :: rest) (pre.length : Int) = x := by
 unfold rdL; rw [Int.toNat_natCast, B.getD_lt (by simp)]
 simp
theorem Qir {α : Type} (pre : List α) (x z : α) (rest : List α) : (pre ++ x :: rest).set pre.length z = pre ++ z :: rest := by
 rw [List.set_append_right _ _ (Nat.le_refl _), Nat.sub_self, List.set_cons_zero]
theorem QeL {α : Type} (pre : List α) (x : α) (rest : List α) : (pre ++ [x]) ++ rest = pre ++ x :: rest := by simp
def QcW : List S87 → Int → List S87 × Int
 | [], a => ([], a)
 | x :: xs, a => let r := QcW xs (a + 4 + (x.f1.length : Int)); (⟨a, B.run (a + 1) x.f1.length, a + 1 + (x.f1.length : Int), a + 2 + (x.f1.length : Int), a + 3 + (x.f1.length : Int)⟩ :: r.1, r.2)
def QdE : List S87 → Nat
 | [] => 0
 | x :: xs => 4 + x.f1.length + QdE xs
theorem Qe1 : ∀ (xs : List S87) (a : Int), (QcW xs a).2 = a + (QdE xs : Int)
 | [], a => by simp [QcW, QdE]
 | x :: xs, a => by simp only [QcW, QdE, Qe1 xs]; omega
theorem Qk8 : ∀ (xs : List S87) (a : Int), (QcW xs a).1.length = xs.length
 | [], a => rfl
 | x :: xs, a => by simp only [QcW, List.length_cons, Qk8 xs]
theorem Qng : ∀ xs : List S87, xs.length ≤ QdE xs
 | [] => Nat.le_refl _
 | x :: xs => by have := Qng xs; simp only [List.length_cons, QdE]; omega
theorem Qrd : ∀ (rest pre : List S87) (a : Int), 0 ≤ a → a + (QdE rest : Int) ≤ 1000000000 → pre.length + rest.length ≤ 4194304 → (∀ x ∈ rest, x.f1.length ≤ 4194304) → B.Ev (fun k => Q1.l0 k (pre ++ rest) a (pre.length : Int)) ((QcW rest a).2, pre ++ (QcW rest a).1) := by
 intro rest
 induction rest with
 | nil =>
  intro pre a _ _ _ _
  refine B.Ev.succ ?_
  simp only [Q1.l0, List.append_nil, Int.lt_irrefl, ↓reduceIte, QcW]
  exact B.Ev.pure _
 | cons x rest ih =>
  intro pre a ha hb hl hx
  have h1 := hx x (List.mem_cons_self ..)
  simp only [QdE] at hb
  refine B.Ev.succ ?_
  have hlt : (pre.length : Int) < ((pre ++ x :: rest).length : Int) := by rw [List.length_append, List.length_cons]; omega
  rw [List.length_cons] at hl
  simp only [Q1.l0, hlt, show 0 ≤ (pre.length : Int) by omega, ↓reduceIte, Option.bind_some, Int.toNat_natCast, Qcf, Qir, B.wid (show -9223372036854775808 ≤ a + 1 by omega) (show a + 1 ≤ 9223372036854775807 by omega)]
  refine B.Ev.bind (B.Ev.of _ (fun k hk => Qnm x.f1 (a + 1) (by omega) (by omega) (by omega) k hk)) ?_
  have e1 : wrap64 (a + 1 + (x.f1.length : Int) + 1) = a + 2 + (x.f1.length : Int) := by rw [B.wid (by omega) (by omega)]; omega
  have e2 : wrap64 (a + 2 + (x.f1.length : Int) + 1) = a + 3 + (x.f1.length : Int) := by rw [B.wid (by omega) (by omega)]; omega
  have e3 : wrap64 (a + 3 + (x.f1.length : Int) + 1) = a + 4 + (x.f1.length : Int) := by rw [B.wid (by omega) (by omega)]; omega
  simp only [Qir, Qcf, e1, e2, e3, B.wsucc (show pre.length < 9223372036854775807 by omega)]
  have ih := ih (pre ++ [⟨a, B.run (a + 1) x.f1.length, a + 1 + (x.f1.length : Int), a + 2 + (x.f1.length : Int), a + 3 + (x.f1.length : Int)⟩]) (a + 4 + (x.f1.length : Int)) (by omega) (by omega) (by rw [List.length_append, List.length_singleton]; omega) (fun y hy => hx y (List.mem_cons_of_mem _ hy))
  rw [List.length_append, List.length_singleton, QeL, QeL] at ih
  exact ih
theorem Qmk (xs : List S87) (a : Int) (h0 : 0 ≤ a) (h1 : a + (QdE xs : Int) ≤ 1000000000) (hl : xs.length ≤ 4194304) (hx : ∀ x ∈ xs, x.f1.length ≤ 4194304) : B.Ev (fun k => Q1.f k xs a) (a + (QdE xs : Int), (QcW xs a).1) := by
 have := Qrd xs [] a h0 h1 (by simpa using hl) hx
 rw [Qe1] at this
 simpa [Q1.f] using this
theorem Qro : ∀ (rest pre : List S87) (a : Int), 0 ≤ a → a + (QdE rest : Int) ≤ 1000000000 → pre.length + rest.length ≤ 4194304 → (∀ x ∈ rest, x.f1.length ≤ 4194304) → B.Ev (fun k => QC.l0 k (pre ++ (QcW rest a).1) a (pre.length : Int)) (QcW rest a).2 := by
 intro rest
 induction rest with
 | nil =>
  intro pre a _ _ _ _
  refine B.Ev.succ ?_
  simp only [QC.l0, List.append_nil, Int.lt_irrefl, ↓reduceIte, QcW]
  exact B.Ev.pure _
 | cons x rest ih =>
  intro pre a ha hb hl hx
  have h1 := hx x (List.mem_cons_self ..)
  simp only [QdE] at hb
  refine B.Ev.succ ?_
  rw [List.length_cons] at hl
  simp only [QcW]
  have ih := ih (pre ++ [⟨a, B.run (a + 1) x.f1.length, a + 1 + (x.f1.length : Int), a + 2 + (x.f1.length : Int), a + 3 + (x.f1.length : Int)⟩]) (a + 4 + (x.f1.length : Int)) (by omega) (by omega) (by rw [List.length_append, List.length_singleton]; omega) (fun y hy => hx y (List.mem_cons_of_mem _ hy))
  rw [List.length_append, List.length_singleton, QeL] at ih
  have hlt : (pre.length : Int) < ((pre ++ (⟨a, B.run (a + 1) x.f1.length, a + 1 + (x.f1.length : Int), a + 2 + (x.f1.length : Int), a + 3 + (x.f1.length : Int)⟩ : S87) :: (QcW rest (a + 4 + (x.f1.length : Int))).1).length : Int) := by rw [List.length_append, List.length_cons]; omega
  have e1 : wrap64 (a + 1 + (x.f1.length : Int) + 1) = a + 2 + (x.f1.length : Int) := by rw [B.wid (by omega) (by omega)]; omega
  have e2 : wrap64 (a + 2 + (x.f1.length : Int) + 1) = a + 3 + (x.f1.length : Int) := by rw [B.wid (by omega) (by omega)]; omega
  have e3 : wrap64 (a + 3 + (x.f1.length : Int) + 1) = a + 4 + (x.f1.length : Int) := by rw [B.wid (by omega) (by omega)]; omega
  simp only [QC.l0, hlt, show 0 ≤ (pre.length : Int) by omega, ↓reduceIte, Qcf, B.wid (show -9223372036854775808 ≤ a + 1 by omega) (show a + 1 ≤ 9223372036854775807 by omega)]
  refine B.Ev.bind (B.Ev.of _ (fun k hk => Qnz (a + 1) x.f1.length (by omega) (by omega) (by omega) k hk)) ?_
  simp only [show ¬ (a + 1 + (x.f1.length : Int) < 0) by omega, e1, e2, e3, ↓reduceIte, B.wsucc (show pre.length < 9223372036854775807 by omega)]
  exact ih
theorem Qmm (xs : List S87) (a : Int) (h0 : 0 ≤ a) (h1 : a + (QdE xs : Int) ≤ 1000000000) (hl : xs.length ≤ 4194304) (hx : ∀ x ∈ xs, x.f1.length ≤ 4194304) : B.Ev (fun k => QC.f k (QcW xs a).1 a) (a + (QdE xs : Int)) := by
 have := Qro xs [] a h0 h1 (by simpa using hl) hx
 rw [Qe1] at this
 simpa [QC.f] using this
def QeX : List (List S87) → Int → List (List S87)
 | [], _ => []
 | x :: xs, a => (QcW x a).1 :: QeX xs (a + (QdE x : Int))
def QdU : List (List S87) → Nat
 | [] => 0
 | x :: xs => QdE x + QdU xs
theorem QgT : ∀ (xs : List (List S87)) (a : Int), (QeX xs a).length = xs.length
 | [], a => rfl
 | x :: xs, a => by simp only [QeX, List.length_cons, QgT xs]
def SIn (xs : List (List S87)) : Prop := ∀ x ∈ xs, x.length ≤ 4194304 ∧ ∀ o ∈ x, o.f1.length ≤ 4194304
theorem Qli : ∀ (rest pre : List (List S87)) (a : Int), 0 ≤ a → a + (QdU rest : Int) ≤ 1000000000 → pre.length + rest.length ≤ 4194304 → SIn rest → B.Ev (fun k => QR.l0 k (pre ++ rest) a (pre.length : Int)) (a + (QdU rest : Int), pre ++ QeX rest a) := by
 intro rest
 induction rest with
 | nil =>
  intro pre a _ _ _ _
  refine B.Ev.succ ?_
  simp only [QR.l0, List.append_nil, Int.lt_irrefl, ↓reduceIte, QeX, QdU, Int.natCast_zero, Int.add_zero]
  exact B.Ev.pure _
 | cons x rest ih =>
  intro pre a ha hb hl hx
  have h1 := hx x (List.mem_cons_self ..)
  simp only [QdU] at hb
  refine B.Ev.succ ?_
  have hlt : (pre.length : Int) < ((pre ++ x :: rest).length : Int) := by rw [List.length_append, List.length_cons]; omega
  rw [List.length_cons] at hl
  simp only [QR.l0, hlt, show 0 ≤ (pre.length : Int) by omega, ↓reduceIte, Int.toNat_natCast, QcC]
  refine B.Ev.bind (Qmk x a ha (by omega) h1.1 h1.2) ?_
  simp only [Qir, B.wsucc (show pre.length < 9223372036854775807 by omega)]
  have ih := ih (pre ++ [(QcW x a).1]) (a + (QdE x : Int)) (by omega) (by omega) (by rw [List.length_append, List.length_singleton]; omega) (fun y hy => hx y (List.mem_cons_of_mem _ hy))
  rw [List.length_append, List.length_singleton, QeL, QeL, show a + (QdE x : Int) + (QdU rest : Int) = a + ((QdE x + QdU rest : Nat) : Int) by omega] at ih
  exact ih
theorem Ql3 : ∀ (rest pre : List (List S87)) (a : Int), 0 ≤ a → a + (QdU rest : Int) ≤ 1000000000 → pre.length + rest.length ≤ 4194304 → SIn rest → B.Ev (fun k => QJ.l0 k (pre ++ QeX rest a) a (pre.length : Int)) (a + (QdU rest : Int)) := by
 intro rest
 induction rest with
 | nil =>
  intro pre a _ _ _ _
  refine B.Ev.succ ?_
  simp only [QJ.l0, List.append_nil, Int.lt_irrefl, ↓reduceIte, QeX, QdU, Int.natCast_zero, Int.add_zero]
  exact B.Ev.pure _
 | cons x rest ih =>
  intro pre a ha hb hl hx
  have h1 := hx x (List.mem_cons_self ..)
  simp only [QdU] at hb
  refine B.Ev.succ ?_
  rw [List.length_cons] at hl
  simp only [QeX]
  have hlt : (pre.length : Int) < ((pre ++ (QcW x a).1 :: QeX rest (a + (QdE x : Int))).length : Int) := by rw [List.length_append, List.length_cons]; omega
  simp only [QJ.l0, hlt, show 0 ≤ (pre.length : Int) by omega, ↓reduceIte, QcC]
  refine B.Ev.bind (Qmm x a ha (by omega) h1.1 h1.2) ?_
  simp only [show ¬ (a + (QdE x : Int) < 0) by omega, ↓reduceIte, B.wsucc (show pre.length < 9223372036854775807 by omega)]
  have ih := ih (pre ++ [(QcW x a).1]) (a + (QdE x : Int)) (by omega) (by omega) (by rw [List.length_append, List.length_singleton]; omega) (fun y hy => hx y (List.mem_cons_of_mem _ hy))
  rw [List.length_append, List.length_singleton, QeL, show a + (QdE x : Int) + (QdU rest : Int) = a + ((QdE x + QdU rest : Nat) : Int) by omega] at ih
  exact ih
def QeK : List QQ → Int → List QQ
 | [], _ => []
 | _ :: xs, a => ⟨a, a + 1⟩ :: QeK xs (a + 2)
theorem Qhb : ∀ (xs : List QQ) (a : Int), (QeK xs a).length = xs.length
 | [], a => rfl
 | x :: xs, a => by simp only [QeK, List.length_cons, Qhb xs]
theorem Qlj : ∀ (rest pre : List QQ) (a : Int), 0 ≤ a → a + 2 * (rest.length : Int) ≤ 1000000000 → pre.length + rest.length ≤ 4194304 → B.Ev (fun k => QF.l0 k (pre ++ rest) a (pre.length : Int)) (a + 2 * (rest.length : Int), pre ++ QeK rest a) := by
 intro rest
 induction rest with
 | nil =>
  intro pre a _ _ _
  refine B.Ev.succ ?_
  simp only [QF.l0, List.append_nil, Int.lt_irrefl, ↓reduceIte, QeK, List.length_nil, Int.natCast_zero, Int.mul_zero, Int.add_zero]
  exact B.Ev.pure _
 | cons x rest ih =>
  intro pre a ha hb hl
  refine B.Ev.succ ?_
  have hlt : (pre.length : Int) < ((pre ++ x :: rest).length : Int) := by rw [List.length_append, List.length_cons]; omega
  rw [List.length_cons] at hl hb
  have e1 : wrap64 (a + 1) = a + 1 := B.wid (by omega) (by omega)
  have e2 : wrap64 (a + 1 + 1) = a + 2 := by rw [B.wid (by omega) (by omega)]; omega
  simp only [QF.l0, hlt, show 0 ≤ (pre.length : Int) by omega, ↓reduceIte, Option.bind_some, Int.toNat_natCast, Qg4, Qir, e1, e2, B.wsucc (show pre.length < 9223372036854775807 by omega), QeK]
  have ih := ih (pre ++ [⟨a, a + 1⟩]) (a + 2) (by omega) (by omega) (by rw [List.length_append, List.length_singleton]; omega)
  rw [List.length_append, List.length_singleton, QeL, QeL, show a + 2 + 2 * (rest.length : Int) = a + 2 * ((rest.length + 1 : Nat) : Int) by omega] at ih
  exact ih
theorem Ql4 : ∀ (rest pre : List QQ) (a : Int), 0 ≤ a → a + 2 * (rest.length : Int) ≤ 1000000000 → pre.length + rest.length ≤ 4194304 → B.Ev (fun k => Qz.l0 k (pre ++ QeK rest a) a (pre.length : Int)) (a + 2 * (rest.length : Int)) := by
 intro rest
 induction rest with
 | nil =>
  intro pre a _ _ _
  refine B.Ev.succ ?_
  simp only [Qz.l0, List.append_nil, Int.lt_irrefl, ↓reduceIte, QeK, List.length_nil, Int.natCast_zero, Int.mul_zero, Int.add_zero]
  exact B.Ev.pure _
 | cons x rest ih =>
  intro pre a ha hb hl
  refine B.Ev.succ ?_
  simp only [QeK]
  have hlt : (pre.length : Int) < ((pre ++ (⟨a, a + 1⟩ : QQ) :: QeK rest (a + 2)).length : Int) := by rw [List.length_append, List.length_cons]; omega
  rw [List.length_cons] at hl hb
  have e1 : wrap64 (a + 1) = a + 1 := B.wid (by omega) (by omega)
  have e2 : wrap64 (a + 1 + 1) = a + 2 := by rw [B.wid (by omega) (by omega)]; omega
  simp only [Qz.l0, hlt, show 0 ≤ (pre.length : Int) by omega, ↓reduceIte, Qg4, e1, e2, B.wsucc (show pre.length < 9223372036854775807 by omega)]
  have ih := ih (pre ++ [⟨a, a + 1⟩]) (a + 2) (by omega) (by omega) (by rw [List.length_append, List.length_singleton]; omega)
  rw [List.length_append, List.length_singleton, QeL, show a + 2 + 2 * (rest.length : Int) = a + 2 * ((rest.length + 1 : Nat) : Int) by omega] at ih
  exact ih
end Go.Proofs.Ytinlbiphjgpmmaa.X
end
section
namespace Go.Proofs.Ytinlbiphjgpmmaa.B
open Go Go.RowKit Go.Proofs.Ytinlbiphjgpmmaa.V Go.Proofs.Ytinlbiphjgpmmaa.P
def EvP {α : Type} (g : Nat → Option α) (P : α → Prop) : Prop := ∃ v, P v ∧ Ev g v
theorem EvP.of {α : Type} {g : Nat → Option α} {v : α} {P : α → Prop} (h : Ev g v) (p : P v) : EvP g P := ⟨v, p, h⟩
theorem EvP.pure {α : Type} {v : α} {P : α → Prop} (p : P v) : EvP (fun _ => some v) P := ⟨v, p, Ev.pure v⟩
theorem EvP.mono {α : Type} {g : Nat → Option α} {P Q : α → Prop} (h : EvP g P) (q : ∀ v, P v → Q v) : EvP g Q := by
 obtain ⟨v, p, h⟩ := h; exact ⟨v, q v p, h⟩
theorem EvP.succ {α : Type} {g : Nat → Option α} {P : α → Prop} (h : EvP (fun k => g (k + 1)) P) : EvP g P := by
 obtain ⟨v, p, h⟩ := h; exact ⟨v, p, Ev.succ h⟩
theorem EvP.bind {α β : Type} {f : Nat → Option α} {g : Nat → α → Option β} {P : α → Prop} {Q : β → Prop} (hf : EvP f P) (hg : ∀ v, P v → EvP (fun k => g k v) Q) : EvP (fun k => (f k).bind (g k)) Q := by
 obtain ⟨v, p, h⟩ := hf
 obtain ⟨u, q, h'⟩ := hg v p
 exact ⟨u, q, Ev.bind h h'⟩
theorem EvP.ite {α : Type} {p : Prop} [Decidable p] {f g : Nat → Option α} {P : α → Prop} (hf : p → EvP f P) (hg : ¬p → EvP g P) : EvP (fun k => if p then f k else g k) P := by
 by_cases h : p
 ·obtain ⟨v, q, e⟩ := hf h; exact ⟨v, q, Ev.ite (fun _ => e) (fun c => absurd h c)⟩
 ·obtain ⟨v, q, e⟩ := hg h; exact ⟨v, q, Ev.ite (fun c => absurd c h) (fun _ => e)⟩
theorem EvP.ev {α : Type} {g : Nat → Option α} {P : α → Prop} (h : EvP g P) : ∃ v, P v ∧ Ev g v := h
theorem Ev.of_mono {α : Type} {g : Nat → Option α} {v : α} (m : ∀ k r, g k = some r → g (k + 1) = some r) {k : Nat} (h : g k = some v) : Ev g v := by
 refine ⟨k, fun j hj => ?_⟩
 obtain ⟨d, rfl⟩ : ∃ d, j = k + d := ⟨j - k, by omega⟩
 clear hj
 induction d with
 | zero => exact h
 | succ d ih => exact m _ _ ih
def Cu (b : List Int) {α : Type} (Q : α → Prop) (t : α × Int × Int) : Prop := Q t.1 ∧ 0 ≤ t.2.1 ∧ t.2.1 ≤ (b.length : Int)
theorem Cu.mk_ {b : List Int} {α : Type} {Q : α → Prop} {v : α} {i h : Int} (q : Q v) (h0 : 0 ≤ i) (h1 : i ≤ (b.length : Int)) : Cu b Q (v, i, h) := ⟨q, h0, h1⟩
end Go.Proofs.Ytinlbiphjgpmmaa.B
end
section
namespace Go.Proofs.Ytinlbiphjgpmmaa.X
open Go Go.RowKit Go.Proofs.Ytinlbiphjgpmmaa.V Go.Proofs.Ytinlbiphjgpmmaa.P
def PIn (l : List S87) : Prop := l.length ≤ 4194304 ∧ ∀ o ∈ l, o.f1.length ≤ 4194304
theorem QwW : ∀ (rest pre : List S87), pre.length + rest.length ≤ 4194304 → (∀ o ∈ rest, o.f1.length ≤ 4194304) → B.Ev (fun k => QX.l0 k (pre ++ rest) pre (pre.length : Int)) (pre ++ rest) := by
 intro rest
 induction rest with
 | nil =>
  intro pre _ _
  refine B.Ev.succ ?_
  simp only [QX.l0, List.append_nil, Int.lt_irrefl, ↓reduceIte]
  exact B.Ev.pure _
 | cons x rest ih =>
  intro pre hl hx
  have h1 := hx x (List.mem_cons_self ..)
  have hlt : (pre.length : Int) < ((pre ++ x :: rest).length : Int) := by rw [List.length_append, List.length_cons]; omega
  rw [List.length_cons] at hl
  have ih := ih (pre ++ [x]) (by rw [List.length_append, List.length_singleton]; omega) (fun y hy => hx y (List.mem_cons_of_mem _ hy))
  rw [List.length_append, List.length_singleton, QeL] at ih
  refine B.Ev.succ ?_
  simp only [QX.l0, hlt, show 0 ≤ (pre.length : Int) by omega, ↓reduceIte, Qcf, show x.f1.length * 8 ≤ 140737488355328 by omega, show pre.length < 2513169434916 by omega, B.wsucc (show pre.length < 9223372036854775807 by omega)]
  exact ih
theorem QpU {l : List S87} (h : PIn l) : B.Ev (fun k => QX.f k l) l := QwW l [] (by simpa using h.1) h.2
theorem Qur (n : Nat) (hn : n ≤ 4194304) : B.Ev (fun k => Qn.f k (n : Int)) () := by
 have e0 : wrap64 0 = 0 := rfl
 have e1 : wrap64 ((n : Int) - 0) = (n : Int) := by rw [Int.sub_zero]; exact B.wid (by omega) (by omega)
 simp only [Qn.f, show ¬ ((n : Int) < 0) by omega, ↓reduceIte]
 refine B.Ev.succ ?_
 simp only [Qn.j0, e0, e1]
 by_cases c : (n : Int) > 0
 ·simp only [c, show (0 : Int) < (n : Int) by omega, Int.toNat_natCast, show n * 56 ≤ 140737488355328 by omega, Int.natCast_nonneg, ↓reduceIte]
  exact B.Ev.pure _
 ·simp only [c, ↓reduceIte]
  exact B.Ev.pure _
theorem QnY {l : List S87} (hl : l.length ≤ 4194304) : B.Ev (fun k => Qa.f k [l, []]) l := by
 have r0 : rdL [l, []] 0 = l := rfl
 have r1 : rdL [l, []] 1 = ([] : List S87) := rfl
 have w0 : wrap64 (0 + (l.length : Int)) = (l.length : Int) := by rw [Int.zero_add]; exact B.wid (by omega) (by omega)
 have w1 : wrap64 ((l.length : Int) + 0) = (l.length : Int) := by rw [Int.add_zero]; exact B.wid (by omega) (by omega)
 have i0 : wrap64 (0 + 1) = 1 := rfl
 have i1 : wrap64 (1 + 1) = 2 := rfl
 have n0 : ¬ ((l.length : Int) < 0) := by omega
 simp only [Qa.f, List.length_cons, List.length_nil]
 refine B.Ev.succ (B.Ev.succ (B.Ev.succ ?_))
 simp only [Qa.l0, List.length_cons, List.length_nil, r0, r1, w0, w1, i0, i1, n0, Int.natCast_zero, show (0 : Int) < ((0 + 1 + 1 : Nat) : Int) by decide, show (1 : Int) < ((0 + 1 + 1 : Nat) : Int) by decide, show ¬ ((2 : Int) < ((0 + 1 + 1 : Nat) : Int)) by decide, show (0 : Int) ≤ 0 by decide, show (0 : Int) ≤ 1 by decide, ↓reduceIte]
 refine B.Ev.bind (Qur l.length hl) ?_
 refine B.Ev.succ (B.Ev.succ (B.Ev.succ ?_))
 simp only [Qa.l1, Qa.l2, List.length_cons, List.length_nil, r0, r1, i0, i1, Nat.add_zero, List.append_nil, show l.length * 56 ≤ 140737488355328 by omega, show (0 : Int) < ((0 + 1 + 1 : Nat) : Int) by decide, show (1 : Int) < ((0 + 1 + 1 : Nat) : Int) by decide, show ¬ ((2 : Int) < ((0 + 1 + 1 : Nat) : Int)) by decide, show (0 : Int) ≤ 0 by decide, show (0 : Int) ≤ 1 by decide, ↓reduceIte]
 exact B.Ev.pure _
theorem Qww (l0 l1 : List S87) : ∀ (rest pre : List S87), pre.length + rest.length ≤ 4194304 → (∀ o ∈ rest, o.f1.length ≤ 4194304) → B.Ev (fun k => Q8.l0 k pre (pre ++ rest) ((pre ++ rest).length : Int) (pre.length : Int) l0 l1) (pre ++ rest) := by
 intro rest
 induction rest with
 | nil =>
  intro pre _ _
  refine B.Ev.succ ?_
  simp only [Q8.l0, List.append_nil, Int.lt_irrefl, ↓reduceIte]
  exact B.Ev.pure _
 | cons x rest ih =>
  intro pre hl hx
  have h1 := hx x (List.mem_cons_self ..)
  have hlt : (pre.length : Int) < ((pre ++ x :: rest).length : Int) := by rw [List.length_append, List.length_cons]; omega
  rw [List.length_cons] at hl
  have ih := ih (pre ++ [x]) (by rw [List.length_append, List.length_singleton]; omega) (fun y hy => hx y (List.mem_cons_of_mem _ hy))
  rw [QeL, show (pre ++ [x]).length = pre.length + 1 by simp] at ih
  refine B.Ev.succ ?_
  simp only [Q8.l0, hlt, show 0 ≤ (pre.length : Int) by omega, ↓reduceIte, Qcf, Qbj.f, Qad.f, show x.f1.length * 8 ≤ 140737488355328 by omega, Option.bind_some, show pre.length < 2513169434916 by omega, B.wsucc (show pre.length < 9223372036854775807 by omega)]
  exact ih
theorem Qjj {l : List S87} (h : PIn l) : B.Ev (fun k => Q8.f k l []) l := by
 simp only [Q8.f]
 refine B.Ev.bind (QnY h.1) ?_
 exact Qww l [] l [] (by simpa using h.1) h.2
def HIn (s : List (List S87)) : Prop := s.length ≤ 4194304 ∧ ∀ l ∈ s, PIn l
theorem QjG (l0 : List QQ) (c0 : List QQ) (c1 : List (List S87)) (t : List QQ) : ∀ (rest pre : List (List S87)), pre.length + rest.length ≤ 4194304 → (∀ l ∈ rest, PIn l) → B.Ev (fun k => QK.l0 k l0 (pre ++ rest) (pre.length : Int) c0 c1 t pre) (t, pre ++ rest) := by
 intro rest
 induction rest with
 | nil =>
  intro pre _ _
  refine B.Ev.succ ?_
  simp only [QK.l0, List.append_nil, Int.lt_irrefl, ↓reduceIte]
  exact B.Ev.pure _
 | cons x rest ih =>
  intro pre hl hx
  have hlt : (pre.length : Int) < ((pre ++ x :: rest).length : Int) := by rw [List.length_append, List.length_cons]; omega
  rw [List.length_cons] at hl
  have ih := ih (pre ++ [x]) (by rw [List.length_append, List.length_singleton]; omega) (fun y hy => hx y (List.mem_cons_of_mem _ hy))
  rw [List.length_append, List.length_singleton, QeL] at ih
  refine B.Ev.succ ?_
  simp only [QK.l0, hlt, show 0 ≤ (pre.length : Int) by omega, ↓reduceIte, QcC]
  refine B.Ev.bind (QpU (hx x (List.mem_cons_self ..))) ?_
  simp only [show pre.length < 5864062014805 by omega, ↓reduceIte, B.wsucc (show pre.length < 9223372036854775807 by omega)]
  exact ih
theorem QrC {t : List QQ} {s : List (List S87)} (ht : t.length ≤ 4194304) (hs : HIn s) : B.Ev (fun k => QK.f k t s) (t, s) := by
 simp only [QK.f, Qam.f, show t.length * 16 ≤ 140737488355328 by omega, ↓reduceIte, Option.bind_some]
 exact QjG t [] [] t s [] (by simpa using hs.1) hs.2
theorem QjQ (l0 : List QQ) (c0 : List QQ) (c1 : List (List S87)) (t : List QQ) : ∀ (rest pre : List (List S87)), pre.length + rest.length ≤ 4194304 → (∀ l ∈ rest, PIn l) → B.Ev (fun k => QD.l0 k (pre ++ rest) ((pre ++ rest).length : Int) (pre.length : Int) l0 c0 c1 t pre) (t, pre ++ rest) := by
 intro rest
 induction rest with
 | nil =>
  intro pre _ _
  refine B.Ev.succ ?_
  simp only [QD.l0, List.append_nil, Int.lt_irrefl, ↓reduceIte]
  exact B.Ev.pure _
 | cons x rest ih =>
  intro pre hl hx
  have hlt : (pre.length : Int) < ((pre ++ x :: rest).length : Int) := by rw [List.length_append, List.length_cons]; omega
  rw [List.length_cons] at hl
  have ih := ih (pre ++ [x]) (by rw [List.length_append, List.length_singleton]; omega) (fun y hy => hx y (List.mem_cons_of_mem _ hy))
  rw [QeL, show (pre ++ [x]).length = pre.length + 1 by simp] at ih
  refine B.Ev.succ ?_
  simp only [QD.l0, hlt, show 0 ≤ (pre.length : Int) by omega, ↓reduceIte, QcC]
  refine B.Ev.bind (Qjj (hx x (List.mem_cons_self ..))) ?_
  simp only [show pre.length < 5864062014805 by omega, ↓reduceIte, B.wsucc (show pre.length < 9223372036854775807 by omega)]
  exact ih
theorem Qdt {t : List QQ} {s : List (List S87)} (ht : t.length ≤ 4194304) (hs : HIn s) : B.Ev (fun k => QD.f k t s) (t, s) := by
 simp only [QD.f, Qp.f, show t.length * 16 ≤ 140737488355328 by omega, ↓reduceIte, Option.bind_some]
 exact QjQ t [] [] t s [] (by simpa using hs.1) hs.2
end Go.Proofs.Ytinlbiphjgpmmaa.X
end
section
namespace Go.Proofs.Ytinlbiphjgpmmaa.X
open Go Go.RowKit Go.Proofs.Ytinlbiphjgpmmaa.V Go.Proofs.Ytinlbiphjgpmmaa.P
theorem Qnq (a b c : Int) : Qao.f a b c = some (decide (b ≤ a ∧ a ≤ c)) := by
 unfold Qao.f
 by_cases h : b ≤ a <;> simp [h]
theorem Qdh (a b c : Int) : Qaf.f a b c = some (decide (b ≤ a ∧ a ≤ c)) := by
 unfold Qaf.f
 by_cases h : b ≤ a <;> simp [h]
theorem QdD (a : Int) : QaD.f a = some (decide (0 ≤ a ∧ a ≤ 5)) := by unfold QaD.f; rw [Qnq]; rfl
theorem QdG (a : Int) : QaE.f a = some (decide (0 ≤ a ∧ a ≤ 5)) := by unfold QaE.f; rw [Qdh]; rfl
end Go.Proofs.Ytinlbiphjgpmmaa.X
end
section
namespace Go.Proofs.Ytinlbiphjgpmmaa.X
open Go Go.RowKit Go.Proofs.Ytinlbiphjgpmmaa.V Go.Proofs.Ytinlbiphjgpmmaa.P
def QeH (l : List Int) : Bool := l.all fun x => decide (0 ≤ x ∧ x ≤ 24)
theorem Qq3 (pre : List Int) (x : Int) (rest : List Int) : rd (pre ++ x :: rest) (pre.length : Int) = x := by
 unfold rd; rw [Int.toNat_natCast, B.getD_lt (by simp)]
 simp
theorem Qkq : ∀ (rest pre : List Int), pre.length + rest.length ≤ 4194304 → B.Ev (fun k => QY.l0 k (pre ++ rest) (pre.length : Int)) (QeH rest && decide ((pre ++ rest).length ≤ 12)) := by
 intro rest
 induction rest with
 | nil =>
  intro pre hl
  refine B.Ev.succ ?_
  simp only [QY.l0, List.append_nil, Int.lt_irrefl, ↓reduceIte, QeH, List.all_nil, Bool.true_and, show ((pre.length : Int) ≤ 12) = (pre.length ≤ 12) from propext (by omega)]
  exact B.Ev.pure _
 | cons x rest ih =>
  intro pre hl
  have hlt : (pre.length : Int) < ((pre ++ x :: rest).length : Int) := by rw [List.length_append, List.length_cons]; omega
  rw [List.length_cons] at hl
  have ih := ih (pre ++ [x]) (by rw [List.length_append, List.length_singleton]; omega)
  rw [QeL, show (pre ++ [x]).length = pre.length + 1 by simp] at ih
  refine B.Ev.succ ?_
  simp only [QY.l0, hlt, show 0 ≤ (pre.length : Int) by omega, ↓reduceIte, Qq3, Qnq, Option.bind_some, decide_eq_true_eq, B.wsucc (show pre.length < 9223372036854775807 by omega), QeH, List.all_cons]
  by_cases c : 0 ≤ x ∧ x ≤ 24
  ·simp only [c, and_self, ↓reduceIte, decide_true, Bool.true_and]
   exact ih
  ·simp only [c, ↓reduceIte, decide_false, Bool.false_and]
   exact B.Ev.pure _
theorem QmZ (l : List Int) (hl : l.length ≤ 4194304) : B.Ev (fun k => QY.f k l) (QeH l && decide (l.length ≤ 12)) := Qkq l [] (by simpa using hl)
theorem Qnv : ∀ (rest pre : List Int), pre.length + rest.length ≤ 4194304 → ∃ r : Int, B.Ev (fun k => Qi.l0 k (pre ++ rest) ((pre ++ rest).length : Int) (pre.length : Int)) r ∧ decide (r ≥ 0) = !QeH rest := by
 intro rest
 induction rest with
 | nil =>
  intro pre hl
  refine ⟨-1, B.Ev.succ ?_, rfl⟩
  simp only [Qi.l0, List.append_nil, Int.lt_irrefl, ↓reduceIte]
  exact B.Ev.pure _
 | cons x rest ih =>
  intro pre hl
  have hlt : (pre.length : Int) < ((pre ++ x :: rest).length : Int) := by rw [List.length_append, List.length_cons]; omega
  rw [List.length_cons] at hl
  obtain ⟨r, ih, hr⟩ := ih (pre ++ [x]) (by rw [List.length_append, List.length_singleton]; omega)
  rw [QeL, show (pre ++ [x]).length = pre.length + 1 by simp] at ih
  by_cases c : 0 ≤ x ∧ x ≤ 24
  ·refine ⟨r, B.Ev.succ ?_, ?_⟩
   ·simp only [Qi.l0, hlt, show 0 ≤ (pre.length : Int) by omega, ↓reduceIte, Qq3, QaH.f, Qdh, Option.bind_some, B.wsucc (show pre.length < 9223372036854775807 by omega), c, and_self, decide_true, Bool.not_true, Bool.false_eq_true]
    exact ih
   ·rw [hr]; simp only [QeH, List.all_cons, c, and_self, decide_true, Bool.true_and]
  ·refine ⟨(pre.length : Int), B.Ev.succ ?_, ?_⟩
   ·simp only [Qi.l0, hlt, show 0 ≤ (pre.length : Int) by omega, ↓reduceIte, Qq3, QaH.f, Qdh, Option.bind_some, c, decide_false, Bool.not_false]
    exact B.Ev.pure _
   ·simp only [QeH, List.all_cons, c, decide_false, Bool.false_and, Bool.not_false, ge_iff_le, Int.natCast_nonneg, decide_true]
theorem Qrm (l : List Int) (hl : l.length ≤ 4194304) : B.Ev (fun k => Qac.f k l) (!QeH l) := by
 obtain ⟨r, h, hr⟩ := Qnv l [] (by simpa using hl)
 simp only [Qac.f, Qi.f]
 refine B.Ev.bind h ?_
 rw [hr]; exact B.Ev.pure _
def okO (o : S87) : Bool := (QeH o.f1 && decide (o.f1.length ≤ 12)) && (if o.f0 = 1 then (decide (0 ≤ o.f2 ∧ o.f2 ≤ 5) && (decide (o.f3 = 0) && (o.f4 == 0))) else if o.f0 = 2 then (decide (o.f2 = 0) && (decide (o.f3 = 0) && (o.f4 == 0))) else if o.f0 = 3 then (decide (0 ≤ o.f2 ∧ o.f2 ≤ 5) && (decide (0 ≤ o.f3 ∧ o.f3 ≤ 24) && decide (0 ≤ o.f4 ∧ o.f4 ≤ 24))) else false)
theorem Qm0 (o : S87) (hl : o.f1.length ≤ 4194304) : B.Ev (fun k => Qbz.f k o.f0 o.f1 o.f2 o.f3 o.f4) (okO o) := by
 simp only [Qbz.f, QdD, Qnq, Option.bind_some, decide_eq_true_eq]
 refine B.Ev.bind (QmZ o.f1 hl) ?_
 refine B.Ev.of 0 (fun k _ => ?_)
 simp only [okO]
 generalize (QeH o.f1 && decide (o.f1.length ≤ 12)) = p
 cases p
 ·simp
 ·by_cases c1 : o.f0 = 1
  ·by_cases c2 : 0 ≤ o.f2 ∧ o.f2 ≤ 5 <;> by_cases c3 : o.f3 = 0 <;> simp [c1, c2, c3]
  ·by_cases c4 : o.f0 = 2
   ·by_cases c2 : o.f2 = 0 <;> by_cases c3 : o.f3 = 0 <;> simp [c4, c2, c3]
   ·by_cases c5 : o.f0 = 3
    ·by_cases c2 : 0 ≤ o.f2 ∧ o.f2 ≤ 5 <;> by_cases c3 : 0 ≤ o.f3 ∧ o.f3 ≤ 24 <;> simp [c5, c2, c3]
    ·simp [c1, c4, c5]
theorem Qnu (o : S87) (hl : o.f1.length ≤ 4194304) : B.Ev (fun k => QbB.f k o.f0 o.f1 o.f2 o.f3 o.f4) (okO o) := by
 simp only [QbB.f, QdG, Qdh, Option.bind_some, decide_eq_true_eq]
 by_cases c : (o.f1.length : Int) > 12
 ·rw [show okO o = false by simp only [okO, show ¬ (o.f1.length ≤ 12) by omega, decide_false, Bool.and_false, Bool.false_and]]
  simp only [c, ↓reduceIte]; exact B.Ev.pure _
 ·simp only [c, ↓reduceIte]
  refine B.Ev.bind (Qrm o.f1 hl) ?_
  refine B.Ev.of 0 (fun k _ => ?_)
  simp only [okO, show o.f1.length ≤ 12 by omega, decide_true, Bool.and_true]
  generalize QeH o.f1 = p
  cases p
  ·simp
  ·by_cases c1 : o.f0 = 1
   ·by_cases c2 : 0 ≤ o.f2 ∧ o.f2 ≤ 5 <;> by_cases c3 : o.f3 = 0 <;> simp [c1, c2, c3]
   ·by_cases c4 : o.f0 = 2
    ·by_cases c2 : o.f2 = 0 <;> by_cases c3 : o.f3 = 0 <;> simp [c4, c2, c3]
    ·by_cases c5 : o.f0 = 3
     ·by_cases c2 : 0 ≤ o.f2 ∧ o.f2 ≤ 5 <;> by_cases c3 : 0 ≤ o.f3 ∧ o.f3 ≤ 24 <;> simp [c5, c2, c3]
     ·simp [c1, c4, c5]
theorem QmY : ∀ (rest pre : List S87), pre.length + rest.length ≤ 4194304 → (∀ o ∈ rest, o.f1.length ≤ 4194304) → B.Ev (fun k => QI.l0 k (pre ++ rest) (pre.length : Int)) (rest.all okO && decide ((pre ++ rest).length ≤ 60)) := by
 intro rest
 induction rest with
 | nil =>
  intro pre hl _
  refine B.Ev.succ ?_
  simp only [QI.l0, List.append_nil, Int.lt_irrefl, ↓reduceIte, List.all_nil, Bool.true_and, show ((pre.length : Int) ≤ 60) = (pre.length ≤ 60) from propext (by omega)]
  exact B.Ev.pure _
 | cons x rest ih =>
  intro pre hl hx
  have hlt : (pre.length : Int) < ((pre ++ x :: rest).length : Int) := by rw [List.length_append, List.length_cons]; omega
  rw [List.length_cons] at hl
  have ih := ih (pre ++ [x]) (by rw [List.length_append, List.length_singleton]; omega) (fun y hy => hx y (List.mem_cons_of_mem _ hy))
  rw [QeL, show (pre ++ [x]).length = pre.length + 1 by simp] at ih
  refine B.Ev.succ ?_
  simp only [QI.l0, hlt, show 0 ≤ (pre.length : Int) by omega, ↓reduceIte, Qcf, B.wsucc (show pre.length < 9223372036854775807 by omega), List.all_cons]
  refine B.Ev.bind (Qm0 x (hx x (List.mem_cons_self ..))) ?_
  cases okO x
  ·simp only [Bool.false_eq_true, ↓reduceIte, Bool.false_and]; exact B.Ev.pure _
  ·simp only [↓reduceIte, Bool.true_and]; exact ih
theorem Qmh {l : List S87} (h : PIn l) : B.Ev (fun k => QI.f k l) (l.all okO && decide (l.length ≤ 60)) := QmY l [] (by simpa using h.1) h.2
theorem Qrl : ∀ (rest pre : List S87), pre.length + rest.length ≤ 4194304 → (∀ o ∈ rest, o.f1.length ≤ 4194304) → ∃ r : Int, B.Ev (fun k => Qd.l0 k (pre ++ rest) ((pre ++ rest).length : Int) (pre.length : Int)) r ∧ decide (r ≥ 0) = !rest.all okO := by
 intro rest
 induction rest with
 | nil =>
  intro pre hl _
  refine ⟨-1, B.Ev.succ ?_, rfl⟩
  simp only [Qd.l0, List.append_nil, Int.lt_irrefl, ↓reduceIte]
  exact B.Ev.pure _
 | cons x rest ih =>
  intro pre hl hx
  have hlt : (pre.length : Int) < ((pre ++ x :: rest).length : Int) := by rw [List.length_append, List.length_cons]; omega
  rw [List.length_cons] at hl
  obtain ⟨r, ih, hr⟩ := ih (pre ++ [x]) (by rw [List.length_append, List.length_singleton]; omega) (fun y hy => hx y (List.mem_cons_of_mem _ hy))
  rw [QeL, show (pre ++ [x]).length = pre.length + 1 by simp] at ih
  have hok := Qnu x (hx x (List.mem_cons_self ..))
  cases c : okO x
  ·rw [c] at hok
   refine ⟨(pre.length : Int), B.Ev.succ ?_, ?_⟩
   ·simp only [Qd.l0, hlt, show 0 ≤ (pre.length : Int) by omega, ↓reduceIte, Qcf, Qau.f]
    refine B.Ev.bind (B.Ev.bind hok (B.Ev.pure _)) ?_
    simp only [Bool.not_false, ↓reduceIte]
    exact B.Ev.pure _
   ·simp only [List.all_cons, c, Bool.false_and, Bool.not_false, ge_iff_le, Int.natCast_nonneg, decide_true]
  ·rw [c] at hok
   refine ⟨r, B.Ev.succ ?_, ?_⟩
   ·simp only [Qd.l0, hlt, show 0 ≤ (pre.length : Int) by omega, ↓reduceIte, Qcf, Qau.f, B.wsucc (show pre.length < 9223372036854775807 by omega)]
    refine B.Ev.bind (B.Ev.bind hok (B.Ev.pure _)) ?_
    simp only [Bool.not_true, Bool.false_eq_true, ↓reduceIte]
    exact ih
   ·rw [hr]; simp only [List.all_cons, c, Bool.true_and]
theorem Qjf {l : List S87} (h : PIn l) : B.Ev (fun k => QaO.f k l) (l.all okO && decide (l.length ≤ 60)) := by
 simp only [QaO.f, QT.f, Qd.f]
 by_cases c : (l.length : Int) ≤ 60
 ·simp only [c, ↓reduceIte, show l.length ≤ 60 by omega, decide_true, Bool.and_true]
  obtain ⟨r, h1, hr⟩ := Qrl l [] (by simpa using h.1) h.2
  refine B.Ev.bind (B.Ev.bind h1 (B.Ev.pure _)) ?_
  rw [hr, Bool.not_not]; exact B.Ev.pure _
 ·simp only [c, ↓reduceIte, show ¬ (l.length ≤ 60) by omega, decide_false, Bool.and_false]
  exact B.Ev.pure _
end Go.Proofs.Ytinlbiphjgpmmaa.X
end
section
namespace Go.Proofs.Ytinlbiphjgpmmaa.X
open Go Go.RowKit Go.Proofs.Ytinlbiphjgpmmaa.V Go.Proofs.Ytinlbiphjgpmmaa.P
theorem Qb2 {xs : List QQ} {i : Nat} : Qap xs (i : Int) = xs.getD i Qca := by unfold Qap; rw [Int.toNat_natCast]
def lab (l : List QQ) (i : Nat) : Int := (l.getD i Qca).f0
def dep (l : List QQ) (i : Nat) : Int := (l.getD i Qca).f1
def Qo5 (l : List QQ) (i : Nat) : Bool :=
 decide (0 ≤ lab l i ∧ lab l i ≤ 5) && decide (0 ≤ dep l i ∧ dep l i ≤ 12) && decide (dep l i = 0 ↔ i = 0) && (decide (i = 0) || decide (dep l i ≤ dep l (i - 1) + 1))
def QcD (l : List QQ) (n : Nat) : Bool := (List.range n).all (Qo5 l)
def okT (l : List QQ) : Bool := decide (1 ≤ l.length ∧ l.length ≤ 24) && QcD l l.length
theorem Qe2 (l : List QQ) (n : Nat) : QcD l (n + 1) = (QcD l n && Qo5 l n) := by unfold QcD; rw [List.range_succ, List.all_append]; simp
theorem QdZ {l : List QQ} {n i : Nat} (h : QcD l n = true) (hi : i < n) : Qo5 l i = true := by
 unfold QcD at h; exact List.all_eq_true.1 h i (List.mem_range.2 hi)
theorem QbU {l : List QQ} {i : Nat} : Qo5 l i = true ↔ (0 ≤ lab l i ∧ lab l i ≤ 5) ∧ (0 ≤ dep l i ∧ dep l i ≤ 12) ∧ (dep l i = 0 ↔ i = 0) ∧ (i = 0 ∨ dep l i ≤ dep l (i - 1) + 1) := by
 unfold Qo5; simp [and_assoc]
theorem okUpto_mono {l : List QQ} {n m : Nat} (h : QcD l n = true) (hm : m ≤ n) : QcD l m = true := by
 unfold QcD at *; exact List.all_eq_true.2 fun i hi => List.all_eq_true.1 h i (List.mem_range.2 (by have := List.mem_range.1 hi; omega))
theorem QeB {l : List QQ} {n i : Nat} (h : Qo5 l i = false) (hi : i < n) : QcD l n = false := by
 rw [Bool.eq_false_iff]; intro hc; rw [QdZ hc hi] at h; cases h
theorem Qb0 {l : List QQ} (h : okT l = true) : 1 ≤ l.length ∧ l.length ≤ 24 := by unfold okT at h; simp at h; exact h.1
theorem Qni {l : List QQ} (h : okT l = true) : QcD l l.length = true := by unfold okT at h; simp at h; exact h.2
theorem Qdx {l : List QQ} (h : okT l = true) {i : Nat} (hi : i < l.length) : (0 ≤ lab l i ∧ lab l i ≤ 5) ∧ (0 ≤ dep l i ∧ dep l i ≤ 12) ∧ (dep l i = 0 ↔ i = 0) ∧ (i = 0 ∨ dep l i ≤ dep l (i - 1) + 1) :=
 QbU.1 (QdZ (Qni h) hi)
theorem Qcb (l : List QQ) (hl : l.length ≤ 4194304) (k : Nat) (hk : l.length < k) : Qw.f k l = some (okT l) := by
 unfold Qw.f
 refine B.loopI (fun k i => Qw.l0 k l (i : Int)) l.length 0 (fun i => QcD l i = true) (fun _ => some (okT l)) ?_ ?_ k 0 (by omega) (by simp [QcD]) (by omega)
 ·intro k _ hI
  simp only [Qw.l0]
  rw [if_neg (by omega), Qnq]
  unfold okT
  rw [hI]
  simp only [Option.bind_some, Bool.and_true, Option.some.injEq]
  congr 1
  apply propext
  omega
 ·intro k i _ hi hI ih
  have a1 : (i : Int) < (l.length : Int) := by omega
  have a3 : 0 ≤ (i : Int) := by omega
  simp only [Qw.l0, a1, a3, ↓reduceIte, B.wsucc (show i < 9223372036854775807 by omega), QdD, Qnq, Option.bind_some, Qb2]
  rw [Qe2, hI, Bool.true_and] at ih
  have hno : Qo5 l i = false → some false = some (okT l) := fun h => by
   unfold okT; rw [QeB h hi, Bool.and_false]
  have e0 : lab l i = (l.getD i Qca).f0 := rfl
  have e1 : dep l i = (l.getD i Qca).f1 := rfl
  rw [← e0, ← e1]
  by_cases h1 : 0 ≤ lab l i ∧ lab l i ≤ 5
  ·rw [if_pos (by simpa using h1)]
   by_cases h2 : 0 ≤ dep l i ∧ dep l i ≤ 12
   ·rw [if_pos (by simpa using h2)]
    by_cases h3 : (dep l i = 0 ↔ i = 0)
    ·rw [if_pos (by rw [Bool.eq_iff_iff]; simp only [decide_eq_true_eq]; omega)]
     rcases Nat.eq_zero_or_pos i with h0 | h0
     ·subst h0
      rw [if_neg (by simp)]
      exact ih (QbU.2 ⟨h1, h2, h3, Or.inl rfl⟩)
     ·have ew : wrap64 ((i : Int) - 1) = ((i - 1 : Nat) : Int) := by unfold wrap64; omega
      have hp := (QbU.1 (QdZ hI (i := i - 1) (by omega))).2.1
      rw [if_pos (by omega), ew, if_pos (by omega), if_pos (by omega), Qb2]
      have e2 : dep l (i - 1) = (l.getD (i - 1) Qca).f1 := rfl
      rw [← e2, B.wid (by omega) (by omega)]
      by_cases h4 : dep l i ≤ dep l (i - 1) + 1
      ·rw [if_neg (by omega)]
       exact ih (QbU.2 ⟨h1, h2, h3, Or.inr h4⟩)
      ·rw [if_pos (by omega)]
       refine hno ?_
       rw [Bool.eq_false_iff]; intro hc
       rcases (QbU.1 hc).2.2.2 with h | h <;> omega
    ·rw [if_neg (by rw [Bool.eq_iff_iff]; simp only [decide_eq_true_eq]; omega)]
     refine hno ?_
     rw [Bool.eq_false_iff]; intro hc; exact h3 (QbU.1 hc).2.2.1
   ·rw [if_neg (by simpa using h2)]
    refine hno ?_
    rw [Bool.eq_false_iff]; intro hc; exact h2 (QbU.1 hc).2.1
  ·rw [if_neg (by simpa using h1)]
   refine hno ?_
   rw [Bool.eq_false_iff]; intro hc; exact h1 (QbU.1 hc).1
theorem Qcd (l : List QQ) (hl : l.length ≤ 4194304) (k : Nat) (hk : l.length < k) : QB.f k l = some (okT l) := by
 unfold QB.f
 rw [Qdh]
 simp only [Option.bind_some]
 by_cases hn : 1 ≤ l.length ∧ l.length ≤ 24
 ·rw [if_pos (by simp; omega)]
  refine B.loopI (fun k i => QB.l0 k l l (l.length : Int) (i : Int)) l.length 0 (fun i => QcD l i = true) (fun _ => some (okT l)) ?_ ?_ k 0 (by omega) (by simp [QcD]) (by omega)
  ·intro k _ hI
   simp only [QB.l0]
   rw [if_neg (by omega)]
   unfold okT
   rw [hI, decide_eq_true hn]; rfl
  ·intro k i _ hi hI ih
   have a1 : (i : Int) < (l.length : Int) := by omega
   have a3 : 0 ≤ (i : Int) := by omega
   simp only [QB.l0, a1, a3, ↓reduceIte, B.wsucc (show i < 9223372036854775807 by omega), QdG, Qdh, Option.bind_some, Qb2]
   rw [Qe2, hI, Bool.true_and] at ih
   have hno : Qo5 l i = false → some false = some (okT l) := fun h => by
    unfold okT; rw [QeB h hi, Bool.and_false]
   have e0 : lab l i = (l.getD i Qca).f0 := rfl
   have e1 : dep l i = (l.getD i Qca).f1 := rfl
   rw [← e0, ← e1]
   by_cases h1 : 0 ≤ lab l i ∧ lab l i ≤ 5
   ·rw [if_pos (by simpa using h1)]
    by_cases h2 : 0 ≤ dep l i ∧ dep l i ≤ 12
    ·rw [if_pos (by simpa using h2)]
     have hd : QaW.f l (i : Int) = some (decide ((dep l i = 0 ↔ i = 0) ∧ (i = 0 ∨ dep l i ≤ dep l (i - 1) + 1))) := by
      unfold QaW.f
      rcases Nat.eq_zero_or_pos i with h0 | h0
      ·subst h0
       rw [if_pos (by simp), if_pos (by omega)]
       have := Qb2 (xs := l) (i := 0)
       rw [show ((0 : Nat) : Int) = 0 from rfl] at this
       rw [this]
       show some (dep l 0 == 0) = _
       rw [Option.some.injEq, Bool.eq_iff_iff]; simp
      ·have ew : wrap64 ((i : Int) - 1) = ((i - 1 : Nat) : Int) := by unfold wrap64; omega
       have hp := (QbU.1 (QdZ hI (i := i - 1) (by omega))).2.1
       rw [if_neg (by omega), if_pos (by omega), if_pos a1, ew, if_pos (by omega), if_pos (by omega), Qb2, Qb2]
       have e2 : dep l (i - 1) = (l.getD (i - 1) Qca).f1 := rfl
       rw [← e1, ← e2, Qdh, B.wid (by omega) (by omega)]
       simp only [Option.bind_some, Option.some.injEq]
       congr 1
       apply propext
       omega
     rw [hd]
     simp only [Option.bind_some]
     by_cases h3 : (dep l i = 0 ↔ i = 0) ∧ (i = 0 ∨ dep l i ≤ dep l (i - 1) + 1)
     ·rw [if_pos (by simpa using h3)]
      exact ih (QbU.2 ⟨h1, h2, h3⟩)
     ·rw [if_neg (by simpa using h3)]
      refine hno ?_
      rw [Bool.eq_false_iff]; intro hc; exact h3 (QbU.1 hc).2.2
    ·rw [if_neg (by simpa using h2)]
     refine hno ?_
     rw [Bool.eq_false_iff]; intro hc; exact h2 (QbU.1 hc).2.1
   ·rw [if_neg (by simpa using h1)]
    refine hno ?_
    rw [Bool.eq_false_iff]; intro hc; exact h1 (QbU.1 hc).1
 ·rw [if_neg (by simp; omega)]
  unfold okT
  rw [decide_eq_false hn]; rfl
end Go.Proofs.Ytinlbiphjgpmmaa.X
end
section
namespace Go.Proofs.Ytinlbiphjgpmmaa.X
open Go Go.RowKit Go.Proofs.Ytinlbiphjgpmmaa.V Go.Proofs.Ytinlbiphjgpmmaa.P
def Qj7 (l : List QQ) (i : Int) : Bool := okT l && decide (0 ≤ i ∧ i ≤ (l.length : Int) - 1)
theorem isAt_okT {l : List QQ} {i : Int} (h : Qj7 l i = true) : okT l = true := by unfold Qj7 at h; simp at h; exact h.1
theorem isAt_nat {l : List QQ} {i : Int} (h : Qj7 l i = true) : ∃ n : Nat, i = (n : Int) ∧ n < l.length := by
 unfold Qj7 at h; simp at h
 exact ⟨i.toNat, by omega, by omega⟩
theorem Qgy {l : List QQ} {n : Nat} (h : okT l = true) (hn : n < l.length) : Qj7 l (n : Int) = true := by
 unfold Qj7; simp [h]; omega
theorem QwP (l : List QQ) (hl : l.length ≤ 4194304) (i : Int) : B.Ev (fun k => Qbo.f k l i) (Qj7 l i) := by
 simp only [Qbo.f]
 refine B.Ev.bind (B.Ev.of _ (fun k hk => Qcb l hl k hk)) ?_
 have e : wrap64 ((l.length : Int) - 1) = (l.length : Int) - 1 := B.wid (by omega) (by omega)
 simp only [Qnq, e, Option.bind_some]
 refine B.Ev.ite (fun h => ?_) (fun h => ?_)
 ·exact (B.Ev.pure _).eq (by simp [Qj7, h])
 ·exact (B.Ev.pure _).eq (by simp [Qj7, h])
def QdJ (l : List QQ) (i : Nat) : Nat → Nat → Nat
 | 0, j => j
 | n + 1, j => if dep l j > dep l i then QdJ l i n (j + 1) else j
def Qcu (l : List QQ) (i : Nat) : Nat := QdJ l i (l.length - (i + 1)) (i + 1)
theorem Qmn (l : List QQ) (hl : l.length ≤ 4194304) (i : Nat) (hi : i < l.length) : ∀ n j : Nat, j + n = l.length → B.Ev (fun k => Q7.l0 k l (i : Int) (j : Int)) (QdJ l i n j : Int) := by
 intro n
 have a3 : 0 ≤ (i : Int) := by omega
 have a4 : (i : Int) < (l.length : Int) := by omega
 induction n with
 | zero =>
  intro j hj
  refine B.Ev.succ ?_
  simp only [Q7.l0, QdJ, show ¬ ((j : Int) < (l.length : Int)) by omega, ↓reduceIte]
  exact B.Ev.pure _
 | succ n ih =>
  intro j hj
  refine B.Ev.succ ?_
  have a1 : (j : Int) < (l.length : Int) := by omega
  have a2 : 0 ≤ (j : Int) := by omega
  simp only [Q7.l0, QdJ, a1, a2, a3, a4, ↓reduceIte, Qb2, B.wsucc (show j < 9223372036854775807 by omega)]
  by_cases c : dep l j > dep l i
  ·have c' : (l.getD j Qca).f1 > (l.getD i Qca).f1 := c
   simp only [c, c', ↓reduceIte]
   exact ih (j + 1) (by omega)
  ·have c' : ¬ (l.getD j Qca).f1 > (l.getD i Qca).f1 := c
   simp only [c, c', ↓reduceIte]
   exact B.Ev.pure _
theorem QjY (l : List QQ) (hl : l.length ≤ 4194304) (i : Nat) (hi : i < l.length) : ∀ n j : Nat, j + n = l.length → B.Ev (fun k => Q9.l0 k l (i : Int) (j : Int)) (QdJ l i n j : Int) := by
 intro n
 have a3 : 0 ≤ (i : Int) := by omega
 have a4 : (i : Int) < (l.length : Int) := by omega
 induction n with
 | zero =>
  intro j hj
  refine B.Ev.succ ?_
  simp only [Q9.l0, QdJ, show ¬ ((j : Int) < (l.length : Int)) by omega, ↓reduceIte]
  exact B.Ev.pure _
 | succ n ih =>
  intro j hj
  refine B.Ev.succ ?_
  have a1 : (j : Int) < (l.length : Int) := by omega
  have a2 : 0 ≤ (j : Int) := by omega
  simp only [Q9.l0, QdJ, a1, a2, a3, a4, ↓reduceIte, Qb2, B.wsucc (show j < 9223372036854775807 by omega)]
  by_cases c : dep l j > dep l i
  ·have c' : (l.getD j Qca).f1 > (l.getD i Qca).f1 := c
   simp only [c, c', ↓reduceIte]
   exact ih (j + 1) (by omega)
  ·have c' : ¬ (l.getD j Qca).f1 > (l.getD i Qca).f1 := c
   simp only [c, c', ↓reduceIte]
   exact B.Ev.pure _
theorem QnX {l : List QQ} (h : okT l = true) {i : Nat} (hi : i < l.length) : B.Ev (fun k => Q7.f k l (i : Int)) (Qcu l i : Int) := by
 have hl := (Qb0 h).2
 simp only [Q7.f]
 refine B.Ev.bind (QwP l (by omega) _) ?_
 rw [Qgy h hi]
 simp only [↓reduceIte, B.wsucc (show i < 9223372036854775807 by omega)]
 exact Qmn l (by omega) i hi _ (i + 1) (by omega)
theorem Qhn {l : List QQ} (h : okT l = true) {i : Nat} (hi : i < l.length) : B.Ev (fun k => Q9.f k l (i : Int)) (Qcu l i : Int) := by
 have hl := (Qb0 h).2
 simp only [Q9.f, B.wsucc (show i < 9223372036854775807 by omega)]
 exact QjY l (by omega) i hi _ (i + 1) (by omega)
theorem Qj0 (l : List QQ) (i : Nat) : ∀ n j, j + n = l.length → j ≤ QdJ l i n j ∧ QdJ l i n j ≤ l.length ∧ (∀ g, j ≤ g → g < QdJ l i n j → dep l g > dep l i) ∧ (QdJ l i n j < l.length → dep l (QdJ l i n j) ≤ dep l i) := by
 intro n
 induction n with
 | zero => intro j hj; simp only [QdJ]; exact ⟨Nat.le_refl _, by omega, fun g h1 h2 => by omega, fun h => by omega⟩
 | succ n ih =>
  intro j hj
  simp only [QdJ]
  split
  ·next c =>
   obtain ⟨h1, h2, h3, h4⟩ := ih (j + 1) (by omega)
   refine ⟨by omega, h2, fun g g1 g2 => ?_, h4⟩
   rcases Nat.lt_or_ge j g with d | d
   ·exact h3 g (by omega) g2
   ·obtain rfl : g = j := by omega
    exact c
  ·next c => exact ⟨Nat.le_refl _, by omega, fun g h1 h2 => by omega, fun _ => by omega⟩
theorem QbR (l : List QQ) {i : Nat} (hi : i < l.length) : i < Qcu l i ∧ Qcu l i ≤ l.length ∧ (∀ g, i < g → g < Qcu l i → dep l g > dep l i) ∧ (Qcu l i < l.length → dep l (Qcu l i) ≤ dep l i) := by
 have := Qj0 l i (l.length - (i + 1)) (i + 1) (by omega)
 unfold Qcu
 exact ⟨by omega, this.2.1, fun g h1 h2 => this.2.2.1 g (by omega) h2, this.2.2.2⟩
end Go.Proofs.Ytinlbiphjgpmmaa.X
end
section
namespace Go.Proofs.Ytinlbiphjgpmmaa.X
open Go Go.RowKit Go.Proofs.Ytinlbiphjgpmmaa.V Go.Proofs.Ytinlbiphjgpmmaa.P
theorem QrE (l : List QQ) {x y : Nat} (hy : y < l.length) (h : x < y) (h2 : y < Qcu l x) : Qcu l y ≤ Qcu l x := by
 have a := QbR l (show x < l.length by omega)
 have b := QbR l hy
 rcases Nat.lt_or_ge (Qcu l x) (Qcu l y) with c | c
 ·have d1 := a.2.2.2 (by omega)
  have d2 := b.2.2.1 (Qcu l x) h2 c
  have d3 := a.2.2.1 y h h2
  omega
 ·exact c
def Qgw (l : List QQ) (i a b : Nat) : List Nat := (List.range' a (b - a)).filter fun j => decide (dep l j = dep l i + 1)
def QcZ (l : List QQ) (i : Nat) : List Nat := Qgw l i (i + 1) (Qcu l i)
theorem Qhf (l : List QQ) (i a b : Nat) (h : a ≤ b) : Qgw l i a (b + 1) = Qgw l i a b ++ if dep l b = dep l i + 1 then [b] else [] := by
 unfold Qgw
 rw [show b + 1 - a = (b - a) + 1 by omega, List.range'_concat, List.filter_append, show a + 1 * (b - a) = b by omega]
 split <;> rename_i c
 ·rw [List.filter_cons_of_pos (by simp [c])]; rfl
 ·rw [List.filter_cons_of_neg (by simp [c])]; rfl
theorem Qgv (l : List QQ) (i a b : Nat) : (Qgw l i a b).length ≤ b - a := by
 unfold Qgw
 exact Nat.le_trans (List.length_filter_le _ _) (by simp)
theorem Qi1 (l : List QQ) (i b : Nat) : Qgw l i b b = [] := by unfold Qgw; simp
theorem kidF_cons (l : List QQ) {i c : Nat} (hi : i < c) (hc : c < Qcu l i) (hil : i < l.length) (hd : dep l c = dep l i + 1) :
 Qgw l i c (Qcu l i) = c :: Qgw l i (Qcu l c) (Qcu l i) := by
 have a := QbR l hil
 have b := QbR l (show c < l.length by omega)
 have e := QrE l (show c < l.length by omega) hi hc
 unfold Qgw
 rw [show Qcu l i - c = 1 + ((Qcu l c - (c + 1)) + (Qcu l i - Qcu l c)) by omega, ← List.range'_append_1, ← List.range'_append_1, List.filter_append, List.filter_append]
 rw [show c + 1 + (Qcu l c - (c + 1)) = Qcu l c by omega]
 have n1 : (List.range' (c + 1) (Qcu l c - (c + 1))).filter (fun j => decide (dep l j = dep l i + 1)) = [] := by
  rw [List.filter_eq_nil_iff]
  intro j hj
  rw [List.mem_range'_1] at hj
  have := b.2.2.1 j (by omega) (by omega)
  simp; omega
 rw [n1]
 simp [List.range'_succ, hd]
theorem Qji {l : List QQ} (h : okT l = true) {i : Nat} (hi : i < l.length) : B.Ev (fun k => QN.f k l (i : Int)) ((QcZ l i).map fun (j : Nat) => (j : Int)) := by
 have hl := (Qb0 h).2
 have a := QbR l hi
 simp only [QN.f, B.wsucc (show i < 9223372036854775807 by omega)]
 have e0 : ([] : List Int) = (Qgw l i (i + 1) (i + 1)).map fun (j : Nat) => (j : Int) := by rw [Qi1]; rfl
 rw [e0]
 have a3 : 0 ≤ (i : Int) := by omega
 have a4 : (i : Int) < (l.length : Int) := by omega
 refine B.Ev.loop (g := fun k j => QN.l0 k l (i : Int) ((Qgw l i (i + 1) j).map fun (j : Nat) => (j : Int)) (j : Int)) (Qcu l i) (fun j => i + 1 ≤ j) ?_ ?_ (i + 1) (by omega) (Nat.le_refl _)
 ·intro _
  refine B.Ev.succ ?_
  simp only [QN.l0]
  refine B.Ev.bind (QwP l (by omega) _) ?_
  rw [Qgy h hi]
  simp only [↓reduceIte]
  refine B.Ev.bind (QnX h hi) ?_
  simp only [Int.lt_irrefl, ↓reduceIte]
  exact B.Ev.pure _
 ·intro j hj hI ih
  refine B.Ev.succ ?_
  simp only [QN.l0]
  refine B.Ev.bind (QwP l (by omega) _) ?_
  rw [Qgy h hi]
  simp only [↓reduceIte]
  refine B.Ev.bind (QnX h hi) ?_
  have a1 : (j : Int) < (l.length : Int) := by omega
  have a2 : 0 ≤ (j : Int) := by omega
  have a5 : (j : Int) < (Qcu l i : Int) := by omega
  have d := Qdx h hi
  have ew : wrap64 (dep l i + 1) = dep l i + 1 := B.wid (by omega) (by omega)
  have ew' : wrap64 ((l.getD i Qca).f1 + 1) = (l.getD i Qca).f1 + 1 := ew
  have hk := Qgv l i (i + 1) j
  have lm : ((Qgw l i (i + 1) j).map fun (j : Nat) => (j : Int)).length < 17592186044416 := by rw [List.length_map]; omega
  simp only [a1, a2, a3, a4, a5, lm, ↓reduceIte, Qb2, ew', B.wsucc (show j < 9223372036854775807 by omega)]
  have ih := ih (by omega)
  rw [Qhf l i (i + 1) j hI] at ih
  by_cases c : dep l j = dep l i + 1
  ·have c' : (l.getD j Qca).f1 = (l.getD i Qca).f1 + 1 := c
   simp only [c', ↓reduceIte]
   simp only [c, ↓reduceIte, List.map_append, List.map_cons, List.map_nil] at ih
   exact ih
  ·have c' : ¬ (l.getD j Qca).f1 = (l.getD i Qca).f1 + 1 := c
   simp only [c', ↓reduceIte]
   simp only [c, ↓reduceIte, List.append_nil] at ih
   exact ih
end Go.Proofs.Ytinlbiphjgpmmaa.X
end
section
namespace Go.Proofs.Ytinlbiphjgpmmaa.X
open Go Go.RowKit Go.Proofs.Ytinlbiphjgpmmaa.V Go.Proofs.Ytinlbiphjgpmmaa.P
theorem QwN (l : List QQ) (hl : l.length ≤ 4194304) (i : Int) : B.Ev (fun k => QaV.f k l i) (Qj7 l i) := by
 simp only [QaV.f]
 refine B.Ev.bind (B.Ev.of _ (fun k hk => Qcd l hl k hk)) ?_
 have e : wrap64 ((l.length : Int) - 1) = (l.length : Int) - 1 := B.wid (by omega) (by omega)
 simp only [Qdh, e, Option.bind_some]
 refine B.Ev.ite (fun h => ?_) (fun h => ?_)
 ·exact (B.Ev.pure _).eq (by simp [Qj7, h])
 ·exact (B.Ev.pure _).eq (by simp [Qj7, h])
end Go.Proofs.Ytinlbiphjgpmmaa.X
end
section
namespace Go.Proofs.Ytinlbiphjgpmmaa.X
open Go Go.RowKit Go.Proofs.Ytinlbiphjgpmmaa.V Go.Proofs.Ytinlbiphjgpmmaa.P
theorem QgD {l : List QQ} (h : okT l = true) {i : Nat} (hi : i < l.length) : B.Ev (fun k => QO.f k l (i : Int)) ((QcZ l i).map fun (j : Nat) => (j : Int)) := by
 have hl := (Qb0 h).2
 have a := QbR l hi
 simp only [QO.f, Option.bind_some, B.wsucc (show i < 9223372036854775807 by omega)]
 refine B.Ev.bind (QwN l (by omega) _) ?_
 rw [Qgy h hi]
 simp only [↓reduceIte]
 have e0 : ([] : List Int) = (Qgw l i (i + 1) (i + 1)).map fun (j : Nat) => (j : Int) := by rw [Qi1]; rfl
 rw [e0]
 have a3 : 0 ≤ (i : Int) := by omega
 have a4 : (i : Int) < (l.length : Int) := by omega
 refine B.Ev.loop (g := fun k j => QO.l0 k l (i : Int) ((Qgw l i (i + 1) j).map fun (j : Nat) => (j : Int)) (j : Int)) (Qcu l i) (fun j => i + 1 ≤ j) ?_ ?_ (i + 1) (by omega) (Nat.le_refl _)
 ·intro _
  refine B.Ev.succ ?_
  simp only [QO.l0]
  refine B.Ev.bind (Qhn h hi) ?_
  simp only [Int.lt_irrefl, ↓reduceIte]
  exact B.Ev.pure _
 ·intro j hj hI ih
  refine B.Ev.succ ?_
  simp only [QO.l0]
  refine B.Ev.bind (Qhn h hi) ?_
  have a1 : (j : Int) < (l.length : Int) := by omega
  have a2 : 0 ≤ (j : Int) := by omega
  have a5 : (j : Int) < (Qcu l i : Int) := by omega
  have d := Qdx h hi
  have ew : wrap64 (dep l i + 1) = dep l i + 1 := B.wid (by omega) (by omega)
  have ew' : wrap64 ((l.getD i Qca).f1 + 1) = (l.getD i Qca).f1 + 1 := ew
  have hk := Qgv l i (i + 1) j
  have lm : ((Qgw l i (i + 1) j).map fun (j : Nat) => (j : Int)).length < 17592186044416 := by rw [List.length_map]; omega
  simp only [a1, a2, a3, a4, a5, lm, ↓reduceIte, Qb2, ew', B.wsucc (show j < 9223372036854775807 by omega)]
  have ih := ih (by omega)
  rw [Qhf l i (i + 1) j hI] at ih
  by_cases c : dep l j = dep l i + 1
  ·have c' : (l.getD j Qca).f1 = (l.getD i Qca).f1 + 1 := c
   simp only [c', ↓reduceIte]
   simp only [c, ↓reduceIte, List.map_append, List.map_cons, List.map_nil] at ih
   exact ih
  ·have c' : ¬ (l.getD j Qca).f1 = (l.getD i Qca).f1 + 1 := c
   simp only [c', ↓reduceIte]
   simp only [c, ↓reduceIte, List.append_nil] at ih
   exact ih
end Go.Proofs.Ytinlbiphjgpmmaa.X
end
section
namespace Go.Proofs.Ytinlbiphjgpmmaa.B
open Go Go.RowKit Go.Proofs.Ytinlbiphjgpmmaa.V Go.Proofs.Ytinlbiphjgpmmaa.P
def EvR {α β : Type} (g : Nat → Option α) (h : Nat → Option β) (R : α → β → Prop) : Prop := ∃ u v, R u v ∧ Ev g u ∧ Ev h v
theorem EvR.of {α β : Type} {g : Nat → Option α} {h : Nat → Option β} {R : α → β → Prop} {u : α} {v : β} (r : R u v) (hg : Ev g u) (hh : Ev h v) : EvR g h R := ⟨u, v, r, hg, hh⟩
theorem EvR.pure {α β : Type} {R : α → β → Prop} {u : α} {v : β} (r : R u v) : EvR (fun _ => some u) (fun _ => some v) R := ⟨u, v, r, Ev.pure u, Ev.pure v⟩
theorem EvR.mono {α β : Type} {g : Nat → Option α} {h : Nat → Option β} {R S : α → β → Prop} (e : EvR g h R) (q : ∀ u v, R u v → S u v) : EvR g h S := by
 obtain ⟨u, v, r, e⟩ := e; exact ⟨u, v, q u v r, e⟩
theorem EvR.bind {α β γ δ : Type} {f : Nat → Option α} {f' : Nat → Option β} {g : Nat → α → Option γ} {g' : Nat → β → Option δ} {R : α → β → Prop} {S : γ → δ → Prop} (hf : EvR f f' R)
 (hg : ∀ u v, R u v → EvR (fun k => g k u) (fun k => g' k v) S) : EvR (fun k => (f k).bind (g k)) (fun k => (f' k).bind (g' k)) S := by
 obtain ⟨u, v, r, h1, h2⟩ := hf
 obtain ⟨x, y, s, h3, h4⟩ := hg u v r
 exact ⟨x, y, s, h1.bind h3, h2.bind h4⟩
theorem EvR.bindL {α γ δ : Type} {f : Nat → Option α} {g : Nat → α → Option γ} {h : Nat → Option δ} {a : α} {S : γ → δ → Prop} (hf : Ev f a) (hg : EvR (fun k => g k a) h S) : EvR (fun k => (f k).bind (g k)) h S := by
 obtain ⟨x, y, s, h3, h4⟩ := hg
 exact ⟨x, y, s, hf.bind h3, h4⟩
theorem EvR.bindR {α γ δ : Type} {f : Nat → Option α} {g : Nat → α → Option δ} {h : Nat → Option γ} {a : α} {S : γ → δ → Prop} (hf : Ev f a) (hg : EvR h (fun k => g k a) S) : EvR h (fun k => (f k).bind (g k)) S := by
 obtain ⟨x, y, s, h3, h4⟩ := hg
 exact ⟨x, y, s, h3, hf.bind h4⟩
theorem EvR.succL {α β : Type} {g : Nat → Option α} {h : Nat → Option β} {R : α → β → Prop} (e : EvR (fun k => g (k + 1)) h R) : EvR g h R := by
 obtain ⟨u, v, r, h1, h2⟩ := e; exact ⟨u, v, r, h1.succ, h2⟩
theorem EvR.succR {α β : Type} {g : Nat → Option α} {h : Nat → Option β} {R : α → β → Prop} (e : EvR g (fun k => h (k + 1)) R) : EvR g h R := by
 obtain ⟨u, v, r, h1, h2⟩ := e; exact ⟨u, v, r, h1, h2.succ⟩
theorem EvR.iteL {α β : Type} {p : Prop} [Decidable p] {f g : Nat → Option α} {h : Nat → Option β} {R : α → β → Prop} (hf : p → EvR f h R) (hg : ¬p → EvR g h R) : EvR (fun k => if p then f k else g k) h R := by
 by_cases c : p
 ·obtain ⟨u, v, r, h1, h2⟩ := hf c; exact ⟨u, v, r, Ev.ite (fun _ => h1) (fun d => absurd c d), h2⟩
 ·obtain ⟨u, v, r, h1, h2⟩ := hg c; exact ⟨u, v, r, Ev.ite (fun d => absurd d c) (fun _ => h1), h2⟩
theorem EvR.iteR {α β : Type} {p : Prop} [Decidable p] {f g : Nat → Option β} {h : Nat → Option α} {R : α → β → Prop} (hf : p → EvR h f R) (hg : ¬p → EvR h g R) : EvR h (fun k => if p then f k else g k) R := by
 by_cases c : p
 ·obtain ⟨u, v, r, h1, h2⟩ := hf c; exact ⟨u, v, r, h1, Ev.ite (fun _ => h2) (fun d => absurd c d)⟩
 ·obtain ⟨u, v, r, h1, h2⟩ := hg c; exact ⟨u, v, r, h1, Ev.ite (fun d => absurd d c) (fun _ => h2)⟩
theorem EvR.same {α : Type} {g h : Nat → Option α} (e : EvR g h (fun u v => u = v)) : ∃ v, Ev g v ∧ Ev h v := by
 obtain ⟨u, v, rfl, h1, h2⟩ := e; exact ⟨u, h1, h2⟩
end Go.Proofs.Ytinlbiphjgpmmaa.B
end
section
namespace Go.Proofs.Ytinlbiphjgpmmaa.X
open Go Go.RowKit Go.Proofs.Ytinlbiphjgpmmaa.V Go.Proofs.Ytinlbiphjgpmmaa.P
theorem Qgu (l : List QQ) {i : Nat} (hi : i < l.length) {j : Nat} (h : j ∈ QcZ l i) : i < j ∧ j < Qcu l i ∧ j < l.length := by
 have a := QbR l hi
 unfold QcZ Qgw at h
 rw [List.mem_filter, List.mem_range'_1] at h
 omega
theorem QeP (l : List QQ) {i : Nat} (hi : i < l.length) : (QcZ l i).length ≤ l.length := by
 have := Qgv l i (i + 1) (Qcu l i)
 have := QbR l hi
 unfold QcZ; omega
theorem QhQ {K : List Nat} {p : Int} (h0 : 0 ≤ p) (h1 : p < (K.length : Int)) : rd (K.map fun (j : Nat) => (j : Int)) p = ((K.getD p.toNat 0 : Nat) : Int) := by
 unfold rd
 have : p.toNat < K.length := by omega
 rw [List.getD_eq_getElem?_getD, List.getElem?_map, List.getElem?_eq_getElem this, List.getD_eq_getElem?_getD, List.getElem?_eq_getElem this]
 rfl
theorem QgB {K : List Nat} {p : Nat} (h : p < K.length) : K.getD p 0 ∈ K := by
 rw [List.getD_eq_getElem?_getD, List.getElem?_eq_getElem h]; exact List.getElem_mem h
def QeJ (l : List QQ) : Nat → List Int → Int
 | i, [] => (i : Int)
 | i, p :: ps => if 0 ≤ p ∧ p < ((QcZ l i).length : Int) then QeJ l ((QcZ l i).getD p.toNat 0) ps else -1
theorem QiI (l : List QQ) : ∀ (ps : List Int) (i : Nat), i < l.length → QeJ l i ps = -1 ∨ ∃ j : Nat, QeJ l i ps = (j : Int) ∧ j < l.length
 | [], i, h => .inr ⟨i, rfl, h⟩
 | p :: ps, i, h => by
  simp only [QeJ]
  split
  ·rename_i c
   exact QiI l ps _ (Qgu l h (QgB (by omega))).2.2
  ·exact .inl rfl
def QbG (l : List QQ) (ps : List Int) : Int := if okT l = true then QeJ l 0 ps else -1
theorem Qnj {l : List QQ} (h : okT l = true) (ps : List Int) (hp : ps.length ≤ 4611686018427387904) : ∀ (d t i : Nat), t + d = ps.length → i < l.length →
 B.Ev (fun k => QV.l0 k l ps (i : Int) (t : Int)) (QeJ l i (ps.drop t)) ∧ B.Ev (fun k => QW.l0 k l (i : Int) ps (ps.length : Int) (t : Int)) (QeJ l i (ps.drop t)) := by
 intro d
 have hl := Qb0 h
 induction d with
 | zero =>
  intro t i ht hi
  rw [List.drop_eq_nil_of_le (by omega)]
  refine ⟨B.Ev.succ ?_, B.Ev.succ ?_⟩
  ·simp only [QV.l0, show ¬ ((t : Int) < (ps.length : Int)) by omega, ↓reduceIte]
   exact B.Ev.pure _
  ·simp only [QW.l0, show ¬ ((t : Int) < (ps.length : Int)) by omega, ↓reduceIte]
   exact B.Ev.pure _
 | succ d ih =>
  intro t i ht hi
  have hlt : t < ps.length := by omega
  have hk := QeP l hi
  have a1 : (t : Int) < (ps.length : Int) := by omega
  have a2 : 0 ≤ (t : Int) := by omega
  have hw := B.wsucc (show t < 9223372036854775807 by omega)
  have hkl : ((QcZ l i).map fun (j : Nat) => (j : Int)).length = (QcZ l i).length := List.length_map _
  have e1 : wrap64 (((QcZ l i).length : Int) - 1) = ((QcZ l i).length : Int) - 1 := B.wid (by omega) (by omega)
  have er : rd ps (t : Int) = ps[t] := by unfold rd; rw [Int.toNat_natCast]; exact B.getD_lt hlt
  have hd : ps.drop t = ps[t] :: ps.drop (t + 1) := List.drop_eq_getElem_cons hlt
  rw [hd]
  generalize ps[t] = p at *
  by_cases c : 0 ≤ p ∧ p < ((QcZ l i).length : Int)
  ·have hkid := Qgu l hi (QgB (K := QcZ l i) (p := p.toNat) (by omega))
   have ih := ih (t + 1) ((QcZ l i).getD p.toNat 0) (by omega) hkid.2.2
   have er2 := QhQ (K := QcZ l i) c.1 c.2
   have c' : (0 ≤ p ∧ p ≤ ((QcZ l i).length : Int) - 1) := by omega
   refine ⟨B.Ev.succ ?_, B.Ev.succ ?_⟩
   ·simp only [QV.l0, a1, ↓reduceIte]
    refine B.Ev.bind (Qji h hi) ?_
    simp only [a2, ↓reduceIte, hkl, e1, er, Qnq, Option.bind_some, decide_eq_true_eq, c', c, and_self, er2, hw, QeJ]
    exact ih.1
   ·simp only [QW.l0, a1, a2, ↓reduceIte]
    refine B.Ev.bind (QgD h hi) ?_
    simp only [a2, ↓reduceIte, hkl, e1, er, Qdh, Option.bind_some, decide_eq_true_eq, c', c, and_self, er2, hw, QeJ]
    exact ih.2
  ·have c' : ¬ (0 ≤ p ∧ p ≤ ((QcZ l i).length : Int) - 1) := by omega
   refine ⟨B.Ev.succ ?_, B.Ev.succ ?_⟩
   ·simp only [QV.l0, a1, ↓reduceIte]
    refine B.Ev.bind (Qji h hi) ?_
    simp only [a2, ↓reduceIte, hkl, e1, er, Qnq, Option.bind_some, decide_eq_true_eq, c', c, QeJ]
    exact B.Ev.pure _
   ·simp only [QW.l0, a1, a2, ↓reduceIte]
    refine B.Ev.bind (QgD h hi) ?_
    simp only [a2, ↓reduceIte, hkl, e1, er, Qdh, Option.bind_some, decide_eq_true_eq, c', c, QeJ]
    exact B.Ev.pure _
theorem Qjh (l : List QQ) (hl : l.length ≤ 4194304) (ps : List Int) (hp : ps.length ≤ 4611686018427387904) : B.Ev (fun k => QV.f k l ps) (QbG l ps) ∧ B.Ev (fun k => QW.f k l ps) (QbG l ps) := by
 unfold QbG
 by_cases h : okT l = true
 ·have := Qnj h ps hp ps.length 0 0 (by omega) (by have := Qb0 h; omega)
  rw [List.drop_zero] at this
  constructor
  ·simp only [QV.f, h, ↓reduceIte]
   refine B.Ev.bind (B.Ev.of _ (fun k hk => Qcb l hl k hk)) ?_
   simp only [h, ↓reduceIte]
   exact this.1
  ·simp only [QW.f, h, ↓reduceIte]
   refine B.Ev.bind (B.Ev.of _ (fun k hk => Qcd l hl k hk)) ?_
   simp only [h, ↓reduceIte]
   exact this.2
 ·constructor
  ·simp only [QV.f, h, ↓reduceIte]
   refine B.Ev.bind (B.Ev.of _ (fun k hk => Qcb l hl k hk)) ?_
   simp only [h, ↓reduceIte]
   exact B.Ev.pure _
  ·simp only [QW.f, h, ↓reduceIte]
   refine B.Ev.bind (B.Ev.of _ (fun k hk => Qcd l hl k hk)) ?_
   simp only [h, ↓reduceIte]
   exact B.Ev.pure _
end Go.Proofs.Ytinlbiphjgpmmaa.X
end
section
namespace Go.Proofs.Ytinlbiphjgpmmaa.X
open Go Go.RowKit Go.Proofs.Ytinlbiphjgpmmaa.V Go.Proofs.Ytinlbiphjgpmmaa.P
theorem QhY (l : List QQ) (i : Nat) : (QcZ l i).Pairwise (· < ·) := by
 unfold QcZ Qgw
 exact List.Pairwise.filter _ (List.pairwise_lt_range' 1 (by decide))
def Qb8 (l : List QQ) (i : Nat) : List Nat := QcZ l i ++ [Qcu l i]
theorem QgU (l : List QQ) {i : Nat} (hi : i < l.length) : (Qb8 l i).Pairwise (· < ·) := by
 unfold Qb8
 rw [List.pairwise_append]
 refine ⟨QhY l i, by simp, fun a ha b hb => ?_⟩
 rw [List.mem_singleton] at hb
 have := Qgu l hi ha
 omega
theorem Qim (l : List QQ) {i : Nat} (hi : i < l.length) {p : Nat} (h : p < (Qb8 l i).length) : i < (Qb8 l i).getD p 0 ∧ (Qb8 l i).getD p 0 ≤ l.length := by
 have hm : (Qb8 l i).getD p 0 ∈ Qb8 l i := QgB h
 have a := QbR l hi
 unfold Qb8 at hm ⊢
 rw [List.mem_append, List.mem_singleton] at hm
 rcases hm with h | h
 ·have := Qgu l hi h; omega
 ·omega
theorem Qm1 (l : List QQ) {i : Nat} (hi : i < l.length) {p q : Nat} (h : p ≤ q) (hq : q < (Qb8 l i).length) : (Qb8 l i).getD p 0 ≤ (Qb8 l i).getD q 0 := by
 rcases Nat.lt_or_ge p q with c | c
 ·have := List.pairwise_iff_getElem.1 (QgU l hi) p q (by omega) hq c
  rw [B.getD_lt (by omega), B.getD_lt hq]; omega
 ·obtain rfl : p = q := by omega
  exact Nat.le_refl _
def Qfx (l : List QQ) : Nat → Nat → Int → Int
 | 0, _, d => d
 | n + 1, j, d => Qfx l n (j + 1) (mx d (dep l j + 1))
def Qnt (l : List QQ) (a b : Nat) (d : Int) : Int × Int × Int := if l.length = 24 then (6, 0, 0) else if d > 12 then (7, 0, 0) else (0, (a : Int), (b : Int))
theorem QwU {l : List QQ} (h : okT l = true) {a b : Nat} (hb : b ≤ l.length) (path : List Int) (h24 : l.length ≠ 24) : ∀ (n j : Nat) (d : Int), j + n = b → B.Ev (fun k => Qq.l0 k l (a : Int) (b : Int) d (j : Int) path) (Qnt l a b (Qfx l n j d)) := by
 intro n
 induction n with
 | zero =>
  intro j d hj
  refine B.Ev.succ ?_
  simp only [Qq.l0, show ¬ ((j : Int) < (b : Int)) by omega, ↓reduceIte, Qfx, Qnt, h24]
  refine B.Ev.ite (fun c => ?_) (fun c => ?_)
  ·simp only [c, ↓reduceIte]; exact B.Ev.pure _
  ·simp only [c, ↓reduceIte]; exact B.Ev.pure _
 | succ n ih =>
  intro j d hj
  have hp := Qdx h (show j < l.length by omega)
  have hw := B.wsucc (show j < 9223372036854775807 by have := Qb0 h; omega)
  have e1 : wrap64 ((l.getD j Qca).f1 + 1) = dep l j + 1 := B.wid (show -9223372036854775808 ≤ dep l j + 1 by omega) (show dep l j + 1 ≤ 9223372036854775807 by omega)
  refine B.Ev.succ ?_
  simp only [Qq.l0, show ((j : Int) < (b : Int)) by omega, show (0 : Int) ≤ (j : Int) by omega, show (j : Int) < (l.length : Int) by omega, ↓reduceIte, Qb2, e1, hw, Qfx]
  exact ih (j + 1) _ (by omega)
theorem QwV {l : List QQ} (h : okT l = true) {a b : Nat} (hab : a ≤ b) (hb : b ≤ l.length) (path : List Int) : ∀ (n t : Nat) (d : Int), t + n = b - a → B.Ev (fun k => Qv.l0 k l (a : Int) (b : Int) d ((l.take b).drop a) ((((l.take b).drop a).length : Nat) : Int) (t : Int) path) (Qnt l a b (Qfx l n (a + t) d)) := by
 have hlen : ((l.take b).drop a).length = b - a := by rw [List.length_drop, List.length_take]; omega
 rw [hlen]
 intro n
 induction n with
 | zero =>
  intro t d ht
  refine B.Ev.succ ?_
  simp only [Qv.l0, show ¬ ((t : Int) < ((b - a : Nat) : Int)) by omega, ↓reduceIte, Qfx, Qnt]
  by_cases c24 : l.length = 24
  ·simp only [c24, ↓reduceIte, show (((24 : Nat) : Int) = 24) from rfl]; exact B.Ev.pure _
  ·simp only [c24, ↓reduceIte, show ¬ ((l.length : Int) = 24) by omega]
   refine B.Ev.ite (fun c => ?_) (fun c => ?_)
   ·simp only [c, ↓reduceIte]; exact B.Ev.pure _
   ·simp only [c, ↓reduceIte]; exact B.Ev.pure _
 | succ n ih =>
  intro t d ht
  have hp := Qdx h (show a + t < l.length by omega)
  have hw := B.wsucc (show t < 9223372036854775807 by have := Qb0 h; omega)
  have e0 : ((l.take b).drop a).getD t Qca = l.getD (a + t) Qca := by
   rw [List.getD_eq_getElem?_getD, List.getD_eq_getElem?_getD, List.getElem?_drop, List.getElem?_take_of_lt (by omega)]
  have e1 : wrap64 ((l.getD (a + t) Qca).f1 + 1) = dep l (a + t) + 1 := B.wid (show -9223372036854775808 ≤ dep l (a + t) + 1 by omega) (show dep l (a + t) + 1 ≤ 9223372036854775807 by omega)
  refine B.Ev.succ ?_
  simp only [Qv.l0, show ((t : Int) < ((b - a : Nat) : Int)) by omega, show (0 : Int) ≤ (t : Int) by omega, hlen, ↓reduceIte, Qb2, e0, e1, hw, Qfx]
  exact ih (t + 1) _ (by omega)
def Qdf (l : List QQ) (kind label from_ count i : Int) : Int × Int × Int :=
 if 1 ≤ kind ∧ kind ≤ 3 then
  (if i < 0 then (2, 0, 0) else if kind = 2 then (if i = 0 then (4, 0, 0) else (0, 0, 0))
   else if 0 ≤ label ∧ label ≤ 5 then
    (if kind = 3 then
     (if 0 ≤ from_ ∧ from_ ≤ ((QcZ l i.toNat).length : Int) then
      (if 0 ≤ count ∧ count ≤ ((QcZ l i.toNat).length : Int) - from_ then
       Qnt l ((Qb8 l i.toNat).getD from_.toNat 0) ((Qb8 l i.toNat).getD (from_ + count).toNat 0) (Qfx l ((Qb8 l i.toNat).getD (from_ + count).toNat 0 - (Qb8 l i.toNat).getD from_.toNat 0) ((Qb8 l i.toNat).getD from_.toNat 0) (dep l i.toNat + 1))
      else (5, 0, 0)) else (5, 0, 0)) else (0, 0, 0))
   else (3, 0, 0))
 else (1, 0, 0)
def QmK (l : List QQ) (kind i : Int) (u : Int × Int × Int) : Prop := u.1 = 0 → 0 ≤ i ∧ (kind = 1 ∨ (kind = 2 ∧ i ≠ 0) ∨ (kind = 3 ∧ l.length < 24 ∧ ∃ a b : Nat, u.2 = ((a : Int), (b : Int)) ∧ i < (a : Int) ∧ a ≤ b ∧ b ≤ l.length))
theorem QwM {l : List QQ} (h : okT l = true) {i : Nat} (hi : i < l.length) (path : List Int) {from_ count : Int} (h1 : 0 ≤ from_) (h2 : from_ ≤ ((QcZ l i).length : Int)) (h3 : 0 ≤ count) (h4 : count ≤ ((QcZ l i).length : Int) - from_) :
 let y := (QcZ l i).map (fun (j : Nat) => (j : Int)) ++ [(Qcu l i : Int)]
 B.EvR (fun k => if 0 ≤ from_ then (if from_ < (y.length : Int) then (if 0 ≤ wrap64 (from_ + count) then (if wrap64 (from_ + count) < (y.length : Int) then (if (l.length : Int) = 24 then (some ((6 : Int), (0 : Int), (0 : Int))) else (if 0 ≤ (i : Int) then (if (i : Int) < (l.length : Int) then (Qq.l0 k l (rd y from_) (rd y (wrap64 (from_ + count))) (wrap64 (((Qap l (i : Int)).f1) + 1)) (rd y from_) path) else none) else none)) else none) else none) else none) else none)
  (fun k => if 0 ≤ from_ then (if from_ < (y.length : Int) then (if 0 ≤ wrap64 (from_ + count) then (if wrap64 (from_ + count) < (y.length : Int) then (if 0 ≤ (i : Int) then (if (i : Int) < (l.length : Int) then (if rd y (wrap64 (from_ + count)) ≤ (l.length : Int) then (if 0 ≤ rd y from_ then (if rd y from_ ≤ rd y (wrap64 (from_ + count)) then ((some ((l.take (rd y (wrap64 (from_ + count)) : Int).toNat).drop (rd y from_ : Int).toNat : List QQ)).bind fun y1 => (Qv.l0 k l (rd y from_) (rd y (wrap64 (from_ + count))) (wrap64 (((Qap l (i : Int)).f1) + 1)) y1 (y1.length : Int) 0 path)) else none) else none) else none) else none) else none) else none) else none) else none) else none)
  (fun u v => u = v ∧ QmK l 3 (i : Int) u ∧ u = Qnt l ((Qb8 l i).getD from_.toNat 0) ((Qb8 l i).getD (from_ + count).toNat 0) (Qfx l ((Qb8 l i).getD (from_ + count).toNat 0 - (Qb8 l i).getD from_.toNat 0) ((Qb8 l i).getD from_.toNat 0) (dep l i + 1))) := by
 intro y
 have hl := Qb0 h
 have hk := QeP l hi
 have ey : y = (Qb8 l i).map (fun (j : Nat) => (j : Int)) := by simp only [y, Qb8, List.map_append, List.map_cons, List.map_nil]
 have hsl : (Qb8 l i).length = (QcZ l i).length + 1 := by unfold Qb8; simp
 have hyl : (y.length : Int) = ((QcZ l i).length : Int) + 1 := by rw [ey, List.length_map, hsl]; omega
 obtain ⟨f, rfl⟩ : ∃ f : Nat, from_ = f := ⟨from_.toNat, by omega⟩
 obtain ⟨c, rfl⟩ : ∃ c : Nat, count = c := ⟨count.toNat, by omega⟩
 have ew : wrap64 ((f : Int) + (c : Int)) = ((f + c : Nat) : Int) := by rw [B.wid (by omega) (by omega)]; omega
 have r1 : rd y (f : Int) = (((Qb8 l i).getD f 0 : Nat) : Int) := by
  have := QhQ (K := Qb8 l i) (p := (f : Int)) (by omega) (by omega)
  rw [← ey] at this; rw [this, Int.toNat_natCast]
 have r2 : rd y ((f + c : Nat) : Int) = (((Qb8 l i).getD (f + c) 0 : Nat) : Int) := by
  have := QhQ (K := Qb8 l i) (p := ((f + c : Nat) : Int)) (by omega) (by omega)
  rw [← ey] at this; rw [this, Int.toNat_natCast]
 have s1 := Qim l hi (p := f) (by omega)
 have s2 := Qim l hi (p := f + c) (by omega)
 have s3 := Qm1 l hi (p := f) (q := f + c) (by omega) (by omega)
 have hp := Qdx h hi
 have ed : wrap64 ((l.getD i Qca).f1 + 1) = dep l i + 1 := B.wid (show -9223372036854775808 ≤ dep l i + 1 by omega) (show dep l i + 1 ≤ 9223372036854775807 by omega)
 have b1 : (f : Int) < ((QcZ l i).length : Int) + 1 := by omega
 have b2 : ((f + c : Nat) : Int) < ((QcZ l i).length : Int) + 1 := by omega
 have ec : ((f : Int) + (c : Int)).toNat = f + c := by omega
 clear_value y
 simp only [hyl, ew, ec, r1, r2, Qb2, ed, Int.toNat_natCast, Option.bind_some, b1, b2, show (0 : Int) ≤ (f : Int) by omega, show (0 : Int) ≤ ((f + c : Nat) : Int) by omega, show (0 : Int) ≤ (i : Int) by omega, show (i : Int) < (l.length : Int) by omega, ↓reduceIte]
 generalize ha : (Qb8 l i).getD f 0 = a at *
 generalize hb : (Qb8 l i).getD (f + c) 0 = b at *
 simp only [show (b : Int) ≤ (l.length : Int) by omega, show (0 : Int) ≤ (a : Int) by omega, show (a : Int) ≤ (b : Int) by omega, ↓reduceIte]
 have gi := QwV h s3 s2.2 path (b - a) 0 (dep l i + 1) (by omega)
 rw [Nat.add_zero, show ((0 : Nat) : Int) = 0 from rfl] at gi
 have hP : QmK l 3 (i : Int) (Qnt l a b (Qfx l (b - a) a (dep l i + 1))) := by
  unfold QmK Qnt
  split
  ·intro h; cases h
  ·split
   ·intro h; cases h
   ·intro _; exact ⟨by omega, .inr (.inr ⟨rfl, by omega, a, b, rfl, by omega, s3, s2.2⟩)⟩
 refine B.EvR.of ⟨rfl, hP, rfl⟩ ?_ gi
 by_cases c24 : l.length = 24
 ·simp only [show ((l.length : Int) = 24) by omega, ↓reduceIte, Qnt, c24]
  exact B.Ev.pure _
 ·simp only [show ¬ ((l.length : Int) = 24) by omega, ↓reduceIte]
  exact QwU h s2.2 path c24 (b - a) a _ (by omega)
theorem Qus {l : List QQ} (h : okT l = true) (kind label from_ count : Int) (path : List Int) {i : Int} (hi : i = -1 ∨ ∃ n : Nat, i = (n : Int) ∧ n < l.length) (hf : -9223372036854775808 ≤ from_ ∧ from_ ≤ 9223372036854775807) :
 B.EvR (fun k => Qq.f k l kind path label from_ count i) (fun k => Qv.f k l kind path label from_ count i) (fun u v => u = v ∧ QmK l kind i u ∧ u = Qdf l kind label from_ count i) := by
 have no : ∀ {c : Int}, c ≠ 0 → Qdf l kind label from_ count i = (c, 0, 0) → B.EvR (fun _ => some (c, (0 : Int), (0 : Int))) (fun _ => some (c, (0 : Int), (0 : Int))) (fun u v => u = v ∧ QmK l kind i u ∧ u = Qdf l kind label from_ count i) := fun {c} hc he => B.EvR.pure ⟨rfl, fun h => absurd h hc, he.symm⟩
 simp only [Qq.f, Qv.f, Qnq, Qdh, Option.bind_some, decide_eq_true_eq, QdD, QdG]
 by_cases c1 : 1 ≤ kind ∧ kind ≤ 3
 ·simp only [c1, and_self, ↓reduceIte]
  by_cases c2 : i < 0
  ·simp only [c2, ↓reduceIte]; exact no (by decide) (by simp only [Qdf, c1, c2, and_self, ↓reduceIte])
  ·obtain ⟨n, rfl, hn⟩ : ∃ n : Nat, i = (n : Int) ∧ n < l.length := by
    rcases hi with h | h
    ·omega
    ·exact h
   simp only [c2, ↓reduceIte]
   by_cases k2 : kind = 2
   ·simp only [k2, ↓reduceIte, show ¬ ((2 : Int) = 3) by decide]
    by_cases c3 : (n : Int) = 0
    ·simp only [c3, ↓reduceIte]; subst k2; rw [c3] at no; exact no (by decide) (by simp [Qdf])
    ·simp only [c3, ↓reduceIte]
     exact B.EvR.pure ⟨rfl, fun _ => ⟨by omega, .inr (.inl ⟨rfl, c3⟩)⟩, by simp only [Qdf, c2, c3, ↓reduceIte, show ((1 : Int) ≤ 2 ∧ (2 : Int) ≤ 3) by decide, and_self]⟩
   ·simp only [k2, ↓reduceIte]
    by_cases c4 : 0 ≤ label ∧ label ≤ 5
    ·simp only [c4, and_self, ↓reduceIte]
     by_cases k3 : kind = 3
     ·have hk := QeP l hn
      have hl := Qb0 h
      have hkl : ((QcZ l n).map fun (j : Nat) => (j : Int)).length = (QcZ l n).length := List.length_map _
      subst k3
      simp only [↓reduceIte]
      refine B.EvR.bindL (Qji h hn) ?_
      refine B.EvR.bindR (QgD h hn) ?_
      simp only [hkl]
      by_cases c5 : 0 ≤ from_ ∧ from_ ≤ ((QcZ l n).length : Int)
      ·have ew : wrap64 (((QcZ l n).length : Int) - from_) = ((QcZ l n).length : Int) - from_ := B.wid (by omega) (by omega)
       simp only [c5, and_self, ↓reduceIte, ew]
       by_cases c6 : 0 ≤ count ∧ count ≤ ((QcZ l n).length : Int) - from_
       ·simp only [c6, and_self, ↓reduceIte]
        refine B.EvR.bindL (QnX h hn) ?_
        refine B.EvR.bindR (Qhn h hn) ?_
        simp only [show (QcZ l n).length < 17592186044416 by omega, ↓reduceIte, Option.bind_some]
        have := QwM h hn path c5.1 c5.2 c6.1 c6.2
        simp only [c5.1, ↓reduceIte] at this
        refine this.mono fun u v hh => ⟨hh.1, hh.2.1, hh.2.2.trans ?_⟩
        simp only [Qdf, c1, c2, c4, c5, c6, k2, and_self, ↓reduceIte, Int.toNat_natCast]
       ·simp only [c6, ↓reduceIte]; exact no (by decide) (by simp only [Qdf, c1, c2, c4, c5, c6, k2, and_self, ↓reduceIte, Int.toNat_natCast])
      ·simp only [c5, ↓reduceIte]; exact no (by decide) (by simp only [Qdf, c1, c2, c4, c5, k2, and_self, ↓reduceIte, Int.toNat_natCast])
     ·simp only [k3, ↓reduceIte]
      exact B.EvR.pure ⟨rfl, fun _ => ⟨by omega, .inl (by omega)⟩, by simp only [Qdf, c1, c2, c4, k2, k3, and_self, ↓reduceIte]⟩
    ·simp only [c4, ↓reduceIte]; exact no (by decide) (by simp only [Qdf, c1, c2, c4, k2, and_self, ↓reduceIte])
 ·simp only [c1, ↓reduceIte]; exact no (by decide) (by simp only [Qdf, c1, ↓reduceIte])
end Go.Proofs.Ytinlbiphjgpmmaa.X
end
section
namespace Go.Proofs.Ytinlbiphjgpmmaa.X
open Go Go.RowKit Go.Proofs.Ytinlbiphjgpmmaa.V Go.Proofs.Ytinlbiphjgpmmaa.P
def Qfj (d : Int) (x : QQ) : QQ := ⟨x.f0, x.f1 + d⟩
def Qbp (l : List QQ) (a b : Nat) (d : Int) : List QQ := ((l.drop a).take (b - a)).map (Qfj d)
theorem QeY (l : List QQ) {a b : Nat} (d : Int) (h : a ≤ b) (hb : b < l.length) : Qbp l a (b + 1) d = Qbp l a b d ++ [Qfj d (l.getD b Qca)] := by
 unfold Qbp
 have h1 : (l.drop a)[b - a]? = some (l.getD b Qca) := by
  rw [List.getElem?_drop, show a + (b - a) = b by omega, List.getElem?_eq_getElem hb, B.getD_lt hb]
 rw [show b + 1 - a = (b - a) + 1 by omega, List.take_add_one, h1, Option.toList_some, List.map_append]
 rfl
theorem QfK (l : List QQ) (a : Nat) (d : Int) : Qbp l a a d = [] := by unfold Qbp; simp
theorem QbK (l : List QQ) {a b : Nat} (d : Int) (h : a ≤ b) (hb : b ≤ l.length) : (Qbp l a b d).length = b - a := by unfold Qbp; simp; omega
theorem Qfi : Qfj 0 = id := by funext x; unfold Qfj; rw [Int.add_zero]; rfl
theorem Qc7 (l : List QQ) (b : Nat) : Qbp l 0 b 0 = l.take b := by unfold Qbp; rw [Qfi, List.map_id, List.drop_zero, Nat.sub_zero]
theorem Qc8 (l : List QQ) (a : Nat) : Qbp l a l.length 0 = l.drop a := by unfold Qbp; rw [Qfi, List.map_id]; exact List.take_of_length_le (by rw [List.length_drop]; omega)
theorem QkA {l : List QQ} (h : okT l = true) {a b : Nat} (hb : b ≤ l.length) {d : Int} (hd : -1 ≤ d ∧ d ≤ 1) : ∀ (n j : Nat), j + n = b → a ≤ j → B.Ev (fun k => Qx.l0 k l (b : Int) d (Qbp l a j d) (j : Int)) (Qbp l a b d) := by
 intro n
 have hl := Qb0 h
 induction n with
 | zero =>
  intro j hj ha
  refine B.Ev.succ ?_
  have : j = b := by omega
  subst this
  simp only [Qx.l0, Int.lt_irrefl, ↓reduceIte]
  exact B.Ev.pure _
 | succ n ih =>
  intro j hj ha
  refine B.Ev.succ ?_
  have hp := Qdx h (show j < l.length by omega)
  have hw := B.wsucc (show j < 9223372036854775807 by omega)
  have hs := QbK l (a := a) (b := j) d ha (by omega)
  have e1 : wrap64 ((l.getD j Qca).f1 + d) = (l.getD j Qca).f1 + d := B.wid (show -9223372036854775808 ≤ dep l j + d by omega) (show dep l j + d ≤ 9223372036854775807 by omega)
  simp only [Qx.l0, show ((j : Int) < (b : Int)) by omega, show (0 : Int) ≤ (j : Int) by omega, show (j : Int) < (l.length : Int) by omega, ↓reduceIte, Qb2, e1, hw, show (Qbp l a j d).length < 8796093022208 by omega]
  have := ih (j + 1) (by omega) (by omega)
  rw [QeY l d ha (by omega)] at this
  exact this
theorem Qep {l : List QQ} (h : okT l = true) {a b : Nat} (hab : a ≤ b) (hb : b ≤ l.length) {d : Int} (hd : -1 ≤ d ∧ d ≤ 1) : B.Ev (fun k => Qx.f k l (a : Int) (b : Int) d) (Qbp l a b d) := by
 have := QkA h (a := a) hb hd (b - a) a (by omega) (Nat.le_refl _)
 rw [QfK] at this
 exact this
def mid (l : List QQ) (a b : Nat) (d : Int) : List QQ := l.take a ++ (Qbp l a b d ++ l.drop b)
theorem Qlh (l : List QQ) (a : Nat) (d : Int) : mid l a a d = l := by unfold mid; rw [QfK, List.nil_append, List.take_append_drop]
theorem Qgp (l : List QQ) {a b : Nat} (d : Int) (h : a ≤ b) (hb : b ≤ l.length) : (mid l a b d).length = l.length := by
 unfold mid
 rw [List.length_append, List.length_append, QbK l d h hb, List.length_take, List.length_drop]; omega
theorem Qlg (l : List QQ) {a b : Nat} (d : Int) (h : a ≤ b) (hb : b < l.length) : (mid l a b d).getD b Qca = l.getD b Qca := by
 unfold mid
 have h1 : (l.take a).length = a := by rw [List.length_take]; omega
 have h2 := QbK l (a := a) (b := b) d h (by omega)
 rw [List.getD_eq_getElem?_getD, List.getD_eq_getElem?_getD, List.getElem?_append_right (by omega), List.getElem?_append_right (by omega), List.getElem?_drop, h1, h2]
 congr 2; omega
theorem Qlf (l : List QQ) {a b : Nat} (d : Int) (h : a ≤ b) (hb : b < l.length) : (mid l a b d).set b (Qfj d (l.getD b Qca)) = mid l a (b + 1) d := by
 unfold mid
 have h1 : (l.take a).length = a := by rw [List.length_take]; omega
 have h2 := QbK l (a := a) (b := b) d h (by omega)
 rw [List.set_append_right _ _ (by omega), List.set_append_right _ _ (by omega), h1, h2, show b - a - (b - a) = 0 by omega, List.drop_eq_getElem_cons hb, List.set_cons_zero, QeY l d h hb, List.append_assoc]
 rfl
theorem Qrc (l : List QQ) {i e : Nat} (hi : i + 1 ≤ e) (he : e ≤ l.length) (d : Int) : (mid l (i + 1) e d).take i ++ (mid l (i + 1) e d).drop (i + 1) = l.take i ++ (Qbp l (i + 1) e d ++ l.drop e) := by
 unfold mid
 have h1 : (l.take (i + 1)).length = i + 1 := by rw [List.length_take]; omega
 rw [List.take_append_of_le_length (by omega), List.take_take, Nat.min_eq_left (by omega), List.drop_append, List.drop_of_length_le (by omega), h1, Nat.sub_self, List.drop_zero, List.nil_append]
theorem Qrb (l : List QQ) {a b : Nat} (ha : a ≤ l.length) (d : Int) (xs : List QQ) : (mid l a b d).take a ++ xs ++ (mid l a b d).drop a = l.take a ++ xs ++ (Qbp l a b d ++ l.drop b) := by
 unfold mid
 have h1 : (l.take a).length = a := by rw [List.length_take]; omega
 rw [List.take_append_of_le_length (by omega), List.take_take, Nat.min_self, List.drop_append, List.drop_of_length_le (by omega), h1, Nat.sub_self, List.drop_zero, List.nil_append]
theorem QrI {l : List QQ} (h : okT l = true) {i : Nat} (hi : i < l.length) (path : List Int) : ∀ (n j : Nat), j + n = Qcu l i → i + 1 ≤ j → B.Ev (fun k => Qh.l0 k l (mid l (i + 1) j (-1)) (i : Int) (j : Int) path) (l.take i ++ (Qbp l (i + 1) (Qcu l i) (-1) ++ l.drop (Qcu l i)), 0) := by
 intro n
 have hl := Qb0 h
 have he := QbR l hi
 have hwi := B.wsucc (show i < 9223372036854775807 by omega)
 induction n with
 | zero =>
  intro j hj hij
  have : j = Qcu l i := by omega
  subst this
  have hm := Qgp l (a := i + 1) (b := Qcu l i) (-1) hij he.2.1
  refine B.Ev.succ ?_
  simp only [Qh.l0]
  refine B.Ev.bind (Qhn h hi) ?_
  simp only [Int.lt_irrefl, ↓reduceIte, hwi, Qal.f, show (0 : Int) ≤ (i : Int) by omega, show (i : Int) ≤ ((i + 1 : Nat) : Int) by omega, hm, show ((i + 1 : Nat) : Int) ≤ (l.length : Int) by omega, show l.length * 16 ≤ 140737488355328 by omega, Option.bind_some, Int.toNat_natCast, Qrc l hij he.2.1]
  exact B.Ev.pure _
 | succ n ih =>
  intro j hj hij
  have hjl : j < l.length := by omega
  have hm := Qgp l (a := i + 1) (b := j) (-1) hij (by omega)
  have hp := Qdx h hjl
  have hw := B.wsucc (show j < 9223372036854775807 by omega)
  have e1 : wrap64 ((l.getD j Qca).f1 - 1) = (l.getD j Qca).f1 + -1 := B.wid (show -9223372036854775808 ≤ dep l j - 1 by omega) (show dep l j - 1 ≤ 9223372036854775807 by omega)
  have ms := Qlf l (a := i + 1) (b := j) (-1) hij hjl
  unfold Qfj at ms
  refine B.Ev.succ ?_
  simp only [Qh.l0]
  refine B.Ev.bind (Qhn h hi) ?_
  simp only [show ((j : Int) < (Qcu l i : Int)) by omega, show (0 : Int) ≤ (j : Int) by omega, hm, show (j : Int) < (l.length : Int) by omega, ↓reduceIte, Qb2, Qlg l (-1) hij hjl, e1, hw, Int.toNat_natCast, ms]
  exact ih (j + 1) (by omega) (by omega)
theorem Qrk {l : List QQ} (h : okT l = true) {i : Nat} (hi : i < l.length) {a b : Nat} (hab : a ≤ b) (hb : b ≤ l.length) (path : List Int) (kind label from_ count : Int) : ∀ (n j : Nat), j + n = b → a ≤ j →
 B.Ev (fun k => Qh.l1 k l kind path label from_ count (mid l a j 1) (i : Int) (a : Int) (b : Int) (j : Int)) (l.take a ++ [(⟨label, dep l i + 1⟩ : QQ)] ++ (Qbp l a b 1 ++ l.drop b), 0) := by
 intro n
 have hl := Qb0 h
 induction n with
 | zero =>
  intro j hj hij
  have : j = b := by omega
  subst this
  have hm := Qgp l (a := a) (b := j) 1 hij hb
  have hp := Qdx h hi
  have e1 : wrap64 ((l.getD i Qca).f1 + 1) = dep l i + 1 := B.wid (show -9223372036854775808 ≤ dep l i + 1 by omega) (show dep l i + 1 ≤ 9223372036854775807 by omega)
  refine B.Ev.succ ?_
  simp only [Qh.l1, Int.lt_irrefl, ↓reduceIte, Qb2, e1, Qak.f, show (0 : Int) ≤ (i : Int) by omega, show (i : Int) < (l.length : Int) by omega, show (0 : Int) ≤ (a : Int) by omega, hm, show (a : Int) ≤ (l.length : Int) by omega, List.length_singleton, show 0 < 1 by decide, show (l.length + 1) * 16 ≤ 140737488355328 by omega, Option.bind_some, Int.toNat_natCast, Qrb l (show a ≤ l.length by omega)]
  exact B.Ev.pure _
 | succ n ih =>
  intro j hj hij
  have hjl : j < l.length := by omega
  have hm := Qgp l (a := a) (b := j) 1 hij (by omega)
  have hp := Qdx h hjl
  have hw := B.wsucc (show j < 9223372036854775807 by omega)
  have e1 : wrap64 ((l.getD j Qca).f1 + 1) = (l.getD j Qca).f1 + 1 := B.wid (show -9223372036854775808 ≤ dep l j + 1 by omega) (show dep l j + 1 ≤ 9223372036854775807 by omega)
  have ms := Qlf l (a := a) (b := j) 1 hij hjl
  unfold Qfj at ms
  refine B.Ev.succ ?_
  simp only [Qh.l1, show ((j : Int) < (b : Int)) by omega, show (0 : Int) ≤ (j : Int) by omega, hm, show (j : Int) < (l.length : Int) by omega, ↓reduceIte, Qb2, Qlg l 1 hij hjl, e1, hw, Int.toNat_natCast, ms]
  exact ih (j + 1) (by omega) (by omega)
def apN (l : List QQ) (kind label from_ count : Int) (path : List Int) : List QQ × Int :=
 if okT l = true then
  (if (Qdf l kind label from_ count (QbG l path)).1 = 0 then
   (if kind = 1 then (l.set (QbG l path).toNat ⟨label, dep l (QbG l path).toNat⟩, 0)
   else if kind = 2 then (l.take (QbG l path).toNat ++ (Qbp l ((QbG l path).toNat + 1) (Qcu l (QbG l path).toNat) (-1) ++ l.drop (Qcu l (QbG l path).toNat)), 0)
   else (l.take (Qdf l kind label from_ count (QbG l path)).2.1.toNat ++ [(⟨label, dep l (QbG l path).toNat + 1⟩ : QQ)] ++ (Qbp l (Qdf l kind label from_ count (QbG l path)).2.1.toNat (Qdf l kind label from_ count (QbG l path)).2.2.toNat 1 ++ l.drop (Qdf l kind label from_ count (QbG l path)).2.2.toNat), 0))
  else (l, (Qdf l kind label from_ count (QbG l path)).1))
 else ([], 2)
def Qw7 (l : List QQ) (kind : Int) (path : List Int) : Prop := okT l = true ∧ ∃ n : Nat, QbG l path = (n : Int) ∧ n < l.length ∧ (kind = 1 ∨ (kind = 2 ∧ n ≠ 0) ∨ kind = 3)
theorem Qhp {l : List QQ} (hl : l.length ≤ 4194304) (kind label from_ count : Int) (path : List Int) (hp : path.length ≤ 4611686018427387904) (hf : -9223372036854775808 ≤ from_ ∧ from_ ≤ 9223372036854775807) :
 B.EvR (fun k => QaK.f k l kind path label from_ count) (fun k => Qh.f k l kind path label from_ count) (fun u v => u = v ∧ u.1.length ≤ 24 ∧ u = apN l kind label from_ count path ∧ (u.2 = 0 → Qw7 l kind path)) := by
 simp only [QaK.f, Qh.f]
 refine B.EvR.bindL (B.Ev.of _ (fun k hk => Qcb l hl k hk)) ?_
 refine B.EvR.bindR (B.Ev.of _ (fun k hk => Qcd l hl k hk)) ?_
 by_cases h : okT l = true
 ·have h24 := Qb0 h
  simp only [h, ↓reduceIte, Qam.f, Qp.f, show l.length * 16 ≤ 140737488355328 by omega, Option.bind_some]
  obtain ⟨n1, n2⟩ := Qjh l hl path hp
  refine B.EvR.bindL n1 ?_
  refine B.EvR.bindR n2 ?_
  have hi : QbG l path = -1 ∨ ∃ n : Nat, QbG l path = (n : Int) ∧ n < l.length := by
   unfold QbG
   rw [if_pos h]
   exact QiI l path 0 (by omega)
  simp only [apN, h, ↓reduceIte, Qw7]
  generalize QbG l path = i at *
  obtain ⟨u, v, ⟨rfl, hc, hcN⟩, g1, g2⟩ := Qus h kind label from_ count path hi hf
  rw [← hcN]
  refine B.EvR.bindL g1 ?_
  refine B.EvR.bindR g2 ?_
  by_cases c0 : u.1 = 0
  ·obtain ⟨hi0, hk⟩ := hc c0
   obtain ⟨n, rfl, hn⟩ : ∃ n : Nat, i = (n : Int) ∧ n < l.length := by
    rcases hi with h | h
    ·omega
    ·exact h
   have a1 : (0 : Int) ≤ (n : Int) := by omega
   have a2 : (n : Int) < (l.length : Int) := by omega
   simp only [c0, ↓reduceIte, a1, a2, Int.toNat_natCast]
   by_cases k1 : kind = 1
   ·simp only [k1, ↓reduceIte]
    exact B.EvR.pure ⟨rfl, by simp only [List.length_set]; omega, rfl, fun _ => ⟨trivial, n, rfl, hn, .inl trivial⟩⟩
   ·by_cases k2 : kind = 2
    ·simp only [k2, ↓reduceIte, show ¬ ((2 : Int) = 1) by decide]
     have he := QbR l hn
     have hw := B.wsucc (show n < 9223372036854775807 by omega)
     have s1 := Qep h (a := 0) (b := n) (Nat.zero_le _) (by omega) (d := 0) (by decide)
     have s2 := Qep h (a := n + 1) (b := Qcu l n) (by omega) he.2.1 (d := -1) (by decide)
     have s3 := Qep h (a := Qcu l n) (b := l.length) he.2.1 (Nat.le_refl _) (d := 0) (by decide)
     have t1 := QbK l (a := 0) (b := n) 0 (Nat.zero_le _) (by omega)
     have t2 := QbK l (a := n + 1) (b := Qcu l n) (-1) (by omega) he.2.1
     have t3 := QbK l (a := Qcu l n) (b := l.length) 0 he.2.1 (Nat.le_refl _)
     refine B.EvR.bindL (QnX h hn) ?_
     refine B.EvR.bindL s1 ?_
     simp only [hw]
     refine B.EvR.bindL s2 ?_
     simp only [show ((Qbp l 0 n 0).length + (Qbp l (n + 1) (Qcu l n) (-1)).length) * 16 ≤ 140737488355328 by omega, ↓reduceIte, Option.bind_some]
     refine B.EvR.bindL s3 ?_
     simp only [List.length_append, show ((Qbp l 0 n 0).length + (Qbp l (n + 1) (Qcu l n) (-1)).length + (Qbp l (Qcu l n) l.length 0).length) * 16 ≤ 140737488355328 by omega, ↓reduceIte]
     have hd := QrI h hn path (Qcu l n - (n + 1)) (n + 1) (by omega) (Nat.le_refl _)
     rw [Qlh] at hd
     refine B.EvR.of ⟨?_, ?_, ?_, fun _ => ⟨trivial, n, rfl, hn, .inr (.inl ⟨trivial, ?_⟩)⟩⟩ (B.Ev.pure _) hd
     ·rw [Qc7, Qc8, List.append_assoc]
     ·simp only [List.length_append, t1, t2, t3]; omega
     ·rw [Qc7, Qc8, List.append_assoc]
     ·rcases hk with q | q | q <;> omega
    ·simp only [k1, k2, ↓reduceIte]
     obtain ⟨k3, hlt, a, b, hab, h1, h2, h3⟩ := (hk.resolve_left k1).resolve_left (fun hh => k2 hh.1)
     have s1 := Qep h (a := 0) (b := a) (Nat.zero_le _) (by omega) (d := 0) (by decide)
     have s2 := Qep h (a := a) (b := b) h2 h3 (d := 1) (by decide)
     have s3 := Qep h (a := b) (b := l.length) h3 (Nat.le_refl _) (d := 0) (by decide)
     have t1 := QbK l (a := 0) (b := a) 0 (Nat.zero_le _) (by omega)
     have t2 := QbK l (a := a) (b := b) 1 h2 h3
     have t3 := QbK l (a := b) (b := l.length) 0 h3 (Nat.le_refl _)
     have hpn := Qdx h hn
     have e1 : wrap64 ((l.getD n Qca).f1 + 1) = dep l n + 1 := B.wid (show -9223372036854775808 ≤ dep l n + 1 by omega) (show dep l n + 1 ≤ 9223372036854775807 by omega)
     have ha : u.2.1 = (a : Int) := by rw [hab]
     have hb : u.2.2 = (b : Int) := by rw [hab]
     simp only [ha, hb, Qb2, e1, Int.toNat_natCast]
     refine B.EvR.bindL s1 ?_
     simp only [show (Qbp l 0 a 0).length < 8796093022208 by omega, ↓reduceIte, Option.bind_some]
     refine B.EvR.bindL s2 ?_
     simp only [List.length_append, List.length_singleton, show ((Qbp l 0 a 0).length + 1 + (Qbp l a b 1).length) * 16 ≤ 140737488355328 by omega, ↓reduceIte, Option.bind_some]
     refine B.EvR.bindL s3 ?_
     simp only [show ((Qbp l 0 a 0).length + 1 + (Qbp l a b 1).length + (Qbp l b l.length 0).length) * 16 ≤ 140737488355328 by omega, ↓reduceIte]
     have hd := Qrk h hn h2 h3 path kind label from_ count (b - a) a (by omega) (Nat.le_refl _)
     rw [Qlh] at hd
     refine B.EvR.of ⟨?_, ?_, ?_, fun _ => ⟨trivial, n, rfl, hn, .inr (.inr k3)⟩⟩ (B.Ev.pure _) hd
     ·rw [Qc7, Qc8, List.append_assoc]
     ·simp only [List.length_append, List.length_singleton, t1, t2, t3]; omega
     ·rw [Qc7, Qc8, List.append_assoc]
  ·simp only [c0, ↓reduceIte]
   exact B.EvR.pure ⟨rfl, h24.2, rfl, fun e => absurd e c0⟩
 ·simp only [h, ↓reduceIte]
  exact B.EvR.pure ⟨rfl, Nat.zero_le _, by simp only [apN, h, ↓reduceIte]; rfl, fun e => by cases e⟩
end Go.Proofs.Ytinlbiphjgpmmaa.X
end
section
namespace Go.Proofs.Ytinlbiphjgpmmaa.X
open Go Go.RowKit Go.Proofs.Ytinlbiphjgpmmaa.V Go.Proofs.Ytinlbiphjgpmmaa.P
theorem QzI {xs : List S87} {i : Nat} (h : i < xs.length) : QU xs (i : Int) = xs[i] := by unfold QU; rw [Int.toNat_natCast]; exact B.getD_lt h
def opW (o : S87) : Prop := o.f1.length ≤ 4611686018427387904 ∧ -9223372036854775808 ≤ o.f3 ∧ o.f3 ≤ 9223372036854775807
theorem QrN {ops : List S87} (ho : ∀ o ∈ ops, opW o) (hn : ops.length ≤ 4611686018427387904) (l : List QQ) : ∀ (d t : Nat) (x : List QQ), t + d = ops.length → x.length ≤ 4194304 →
 B.EvR (fun k => Qt.l0 k ops x (t : Int) l) (fun k => QE.l0 k ops x ops (ops.length : Int) (t : Int) l) (fun u v => u = v ∧ u.1.length ≤ 4194304) := by
 intro d
 induction d with
 | zero =>
  intro t x ht hx
  refine B.EvR.succL (B.EvR.succR ?_)
  simp only [Qt.l0, QE.l0, show ¬ ((t : Int) < (ops.length : Int)) by omega, ↓reduceIte]
  exact B.EvR.pure ⟨rfl, hx⟩
 | succ d ih =>
  intro t x ht hx
  have hlt : t < ops.length := by omega
  have hw := B.wsucc (show t < 9223372036854775807 by omega)
  obtain ⟨w1, w2, w3⟩ := ho _ (List.getElem_mem hlt)
  refine B.EvR.succL (B.EvR.succR ?_)
  simp only [Qt.l0, QE.l0, show ((t : Int) < (ops.length : Int)) by omega, show (0 : Int) ≤ (t : Int) by omega, ↓reduceIte, QzI hlt, hw]
  refine B.EvR.bind (Qhp hx _ _ _ _ _ w1 ⟨w2, w3⟩) ?_
  rintro u v ⟨rfl, hu, _, _⟩
  refine B.EvR.iteL (fun c => ?_) (fun c => ?_)
  ·simp only [c, ↓reduceIte]
   exact ih (t + 1) _ (by omega) (by omega)
  ·simp only [c, ↓reduceIte]
   exact B.EvR.pure ⟨rfl, hx⟩
theorem QfV {l : List QQ} (hl : l.length ≤ 4194304) {ops : List S87} (ho : ∀ o ∈ ops, opW o) (hn : ops.length ≤ 4611686018427387904) :
 B.EvR (fun k => Qt.f k l ops) (fun k => QE.f k l ops) (fun u v => u = v ∧ u.1.length ≤ 4194304) := by
 simp only [Qt.f, QE.f]
 refine B.EvR.bindL (B.Ev.of _ (fun k hk => Qcb l hl k hk)) ?_
 refine B.EvR.bindR (B.Ev.of _ (fun k hk => Qcd l hl k hk)) ?_
 by_cases h : okT l = true
 ·simp only [h, ↓reduceIte, Qam.f, Qp.f, show l.length * 16 ≤ 140737488355328 by omega, Option.bind_some]
  exact QrN ho hn l ops.length 0 l (by omega) hl
 ·simp only [h, ↓reduceIte]
  exact B.EvR.pure ⟨rfl, Nat.zero_le _⟩
end Go.Proofs.Ytinlbiphjgpmmaa.X
end
section
namespace Go.Proofs.Ytinlbiphjgpmmaa.X
open Go Go.RowKit Go.Proofs.Ytinlbiphjgpmmaa.V Go.Proofs.Ytinlbiphjgpmmaa.P
theorem QiB (pre : List (List QQ)) (x : List QQ) : rdL (pre ++ [x]) (pre.length : Int) = x := QcC pre x []
def SOk (s : List (List S87)) : Prop := HIn s ∧ ∀ l ∈ s, ∀ o ∈ l, opW o
theorem QwA (t0 : List QQ) : ∀ (rest pre : List (List S87)) (ts : List (List QQ)) (x : List QQ), ts.length = pre.length → pre.length + rest.length ≤ 4194304 → x.length ≤ 4194304 → (∀ l ∈ rest, PIn l ∧ ∀ o ∈ l, opW o) →
 B.EvR (fun k => QA.l0 k t0 (pre ++ rest) x (pre.length : Int)) (fun k => Qo.l0 k (ts ++ [x]) (pre ++ rest) ((pre ++ rest).length : Int) (pre.length : Int) t0) (fun u v => u = v.2) := by
 intro rest
 induction rest with
 | nil =>
  intro pre ts x _ _ _ _
  refine B.EvR.succL (B.EvR.succR ?_)
  simp only [QA.l0, Qo.l0, List.append_nil, Int.lt_irrefl, ↓reduceIte]
  exact B.EvR.pure rfl
 | cons y rest ih =>
  intro pre ts x ht hl hx hs
  have hlt : (pre.length : Int) < ((pre ++ y :: rest).length : Int) := by rw [List.length_append, List.length_cons]; omega
  have hlt2 : (pre.length : Int) < ((ts ++ [x]).length : Int) := by rw [List.length_append, List.length_singleton]; omega
  rw [List.length_cons] at hl
  obtain ⟨p1, p2⟩ := hs y (List.mem_cons_self ..)
  have p1' := p1.1
  have e1 : rdL (ts ++ [x]) (pre.length : Int) = x := by rw [← ht]; exact QiB ts x
  refine B.EvR.succL (B.EvR.succR ?_)
  simp only [QA.l0, Qo.l0, hlt, hlt2, show 0 ≤ (pre.length : Int) by omega, ↓reduceIte, QcC, e1, B.wsucc (show pre.length < 9223372036854775807 by omega)]
  refine B.EvR.bind (QfV hx p2 (by omega)) ?_
  rintro u v ⟨rfl, hu⟩
  refine B.EvR.iteL (fun c => ?_) (fun c => ?_)
  ·simp only [c, ↓reduceIte]
   refine B.EvR.bindL (Qmh p1) ?_
   refine B.EvR.bindR (Qjf p1) ?_
   refine B.EvR.iteL (fun c2 => ?_) (fun c2 => ?_)
   ·simp only [c2, ↓reduceIte, show (ts ++ [x]).length < 5864062014805 by rw [List.length_append, List.length_singleton]; omega]
    have := ih (pre ++ [y]) (ts ++ [x]) u.1 (by simp [ht]) (by rw [List.length_append, List.length_singleton]; omega) hu (fun z hz => hs z (List.mem_cons_of_mem _ hz))
    rw [QeL, show (pre ++ [y]).length = pre.length + 1 by simp] at this
    exact this
   ·simp only [c2, ↓reduceIte]; exact B.EvR.pure rfl
  ·simp only [c, ↓reduceIte]; exact B.EvR.pure rfl
theorem QnW {t : List QQ} {s : List (List S87)} (ht : t.length ≤ 4194304) (hs : SOk s) : B.EvR (fun k => QA.f k t s) (fun k => QaL.f k t s) (fun u v => u = v) := by
 simp only [QA.f, QaL.f, Qo.f]
 refine B.EvR.bindL (B.Ev.of _ (fun k hk => Qcb t ht k hk)) ?_
 have key : B.EvR (fun k => if okT t = true then (if (s.length : Int) > 6 then some false else (Qam.f t).bind fun t2 => QA.l0 k t s t2 0) else some false)
  (fun k => if okT t = true then (if (s.length : Int) > 6 then some (([] : List (List QQ)), false) else (Qp.f t).bind fun t2 => Qo.l0 k [t2] s (s.length : Int) 0 t) else some ([], false)) (fun u v => u = v.2) := by
  refine B.EvR.iteL (fun c => ?_) (fun c => ?_)
  ·simp only [c, ↓reduceIte]
   refine B.EvR.iteL (fun c2 => ?_) (fun c2 => ?_)
   ·simp only [c2, ↓reduceIte]; exact B.EvR.pure rfl
   ·simp only [c2, ↓reduceIte, Qam.f, Qp.f, show t.length * 16 ≤ 140737488355328 by omega, Option.bind_some]
    exact QwA t s [] [] t rfl (by simpa using hs.1.1) ht (fun l hl => ⟨hs.1.2 l hl, hs.2 l hl⟩)
  ·simp only [c, ↓reduceIte]; exact B.EvR.pure rfl
 obtain ⟨u, v, r, h1, h2⟩ := key
 refine ⟨u, v.2, r, h1, ?_⟩
 refine B.Ev.bind (B.Ev.bind (B.Ev.of _ (fun k hk => Qcd t ht k hk)) h2) (B.Ev.pure _)
theorem Qml {t : List QQ} {s : List (List S87)} {o : List S87} (ht : t.length ≤ 4194304) (hs : SOk s) (hn : s.length < 4194304) (ho : PIn o) (ho' : ∀ x ∈ o, opW x) :
 B.EvR (fun k => QaU.f k t s o) (fun k => QaX.f k t s o) (fun u v => u = v ∧ u.1 = t ∧ (u.2.1 = s ∨ u.2.1 = s ++ [o])) := by
 simp only [QaU.f, QaX.f]
 refine B.EvR.bindL (QrC ht hs.1) ?_
 refine B.EvR.bindR (Qdt ht hs.1) ?_
 refine B.EvR.bindL (QpU ho) ?_
 refine B.EvR.bindR (Qjj ho) ?_
 have hl := hs.1.1
 simp only [show s.length < 5864062014805 by omega, ↓reduceIte, Option.bind_some]
 have hs' : SOk (s ++ [o]) := ⟨⟨by rw [List.length_append, List.length_singleton]; omega, fun l hl => by
  rcases List.mem_append.1 hl with h | h
  ·exact hs.1.2 l h
  ·rw [List.mem_singleton] at h; rw [h]; exact ho⟩, fun l hl => by
  rcases List.mem_append.1 hl with h | h
  ·exact hs.2 l h
  ·rw [List.mem_singleton] at h; rw [h]; exact ho'⟩
 refine B.EvR.bind (QnW ht hs') ?_
 rintro u v rfl
 refine B.EvR.iteL (fun c => ?_) (fun c => ?_)
 ·simp only [c, ↓reduceIte]; exact B.EvR.pure ⟨rfl, rfl, .inr rfl⟩
 ·simp only [c, ↓reduceIte]; exact B.EvR.pure ⟨rfl, rfl, .inl rfl⟩
end Go.Proofs.Ytinlbiphjgpmmaa.X
end
section
namespace Go.Proofs.Ytinlbiphjgpmmaa.X
open Go Go.RowKit Go.Proofs.Ytinlbiphjgpmmaa.V Go.Proofs.Ytinlbiphjgpmmaa.P
section
variable {α : Type} (z : α)
def QjI (xs : List α) (t : Nat) : List α := (List.range xs.length).map fun p => if p < t ∨ xs.length ≤ p + t then xs.getD (xs.length - 1 - p) z else xs.getD p z
theorem QbO (xs : List α) (t : Nat) : (QjI z xs t).length = xs.length := by simp [QjI]
theorem Qdq (xs : List α) (t : Nat) {p : Nat} (h : p < xs.length) : (QjI z xs t).getD p z = if p < t ∨ xs.length ≤ p + t then xs.getD (xs.length - 1 - p) z else xs.getD p z := by
 rw [B.getD_lt (by rw [QbO]; exact h)]
 simp [QjI]
theorem QkN (xs : List α) : QjI z xs 0 = xs := by
 apply List.ext_getElem
 ·exact QbO z _ _
 ·intro p h1 h2
  rw [← B.getD_lt (z := z) h1, Qdq z xs 0 h2, if_neg (by omega), B.getD_lt h2]
theorem Qg1 (xs : List α) {t : Nat} (h : xs.length ≤ 2 * t + 1) : QjI z xs t = xs.reverse := by
 apply List.ext_getElem
 ·simp [QbO]
 ·intro p h1 h2
  have hp : p < xs.length := by simpa [QbO] using h1
  rw [← B.getD_lt (z := z) h1, Qdq z xs t hp, List.getElem_reverse]
  split
  ·rw [B.getD_lt (by omega)]
  ·rw [B.getD_lt hp]
   congr 1
   omega
theorem QkO (xs : List α) {t : Nat} (h : 2 * t + 1 < xs.length) : ((QjI z xs t).set t ((QjI z xs t).getD (xs.length - 1 - t) z)).set (xs.length - 1 - t) ((QjI z xs t).getD t z) = QjI z xs (t + 1) := by
 rw [Qdq z xs t (show xs.length - 1 - t < xs.length by omega), Qdq z xs t (show t < xs.length by omega), if_neg (by omega), if_neg (by omega)]
 apply List.ext_getElem
 ·simp [QbO]
 ·intro p h1 h2
  have hp : p < xs.length := by simpa [QbO] using h2
  rw [List.getElem_set, List.getElem_set, ← B.getD_lt (z := z) h2, Qdq z xs (t + 1) hp, ← B.getD_lt (z := z) (show p < (QjI z xs t).length by rw [QbO]; exact hp), Qdq z xs t hp]
  by_cases c1 : xs.length - 1 - t = p
  ·rw [if_pos c1, if_pos (by omega)]
   congr 1
   omega
  ·rw [if_neg c1]
   by_cases c2 : t = p
   ·rw [if_pos c2, if_pos (by omega)]
    congr 1
    omega
   ·rw [if_neg c2]
    by_cases c3 : p < t ∨ xs.length ≤ p + t
    ·rw [if_pos c3, if_pos (by omega)]
    ·rw [if_neg c3, if_neg (by omega)]
theorem Qtd (xs : List α) (hl : xs.length ≤ 4194304) (g : Nat → List α → Int → Int → Option (List α)) (h1 : ∀ k l i j, ¬ i < j → g (k + 1) l i j = some l)
 (h2 : ∀ (k : Nat) (l : List α) (i j : Nat), i < j → j < l.length → g (k + 1) l (i : Int) (j : Int) = g k ((l.set i (l.getD j z)).set j (l.getD i z)) (wrap64 ((i : Int) + 1)) (wrap64 ((j : Int) - 1))) :
 B.Ev (fun k => g k xs 0 (wrap64 ((xs.length : Int) - 1))) xs.reverse := by
 have key : ∀ n t : Nat, xs.length ≤ 2 * (t + n) + 1 → B.Ev (fun k => g k (QjI z xs t) (t : Int) ((xs.length : Int) - 1 - (t : Int))) xs.reverse := by
  intro n
  induction n with
  | zero =>
   intro t h
   refine B.Ev.succ ?_
   simp only [h1 _ _ _ _ (show ¬ ((t : Int) < (xs.length : Int) - 1 - (t : Int)) by omega)]
   exact (B.Ev.pure _).eq (Qg1 z xs (by omega))
  | succ n ih =>
   intro t h
   by_cases c : 2 * t + 1 < xs.length
   ·refine B.Ev.succ ?_
    have e : (xs.length : Int) - 1 - (t : Int) = ((xs.length - 1 - t : Nat) : Int) := by omega
    have e2 : wrap64 (((xs.length - 1 - t : Nat) : Int) - 1) = (xs.length : Int) - 1 - ((t + 1 : Nat) : Int) := by rw [B.wid (by omega) (by omega)]; omega
    have ih := ih (t + 1) (by omega)
    rw [← QkO z xs c] at ih
    simp only [e, h2 _ (QjI z xs t) t (xs.length - 1 - t) (by omega) (by rw [QbO]; omega), B.wsucc (show t < 9223372036854775807 by omega), e2]
    exact ih
   ·refine B.Ev.succ ?_
    simp only [h1 _ _ _ _ (show ¬ ((t : Int) < (xs.length : Int) - 1 - (t : Int)) by omega)]
    exact (B.Ev.pure _).eq (Qg1 z xs (by omega))
 have h0 := key xs.length 0 (by omega)
 rw [QkN] at h0
 rw [B.wid (by omega) (by omega)]
 simpa using h0
end
theorem Qh6 (xs : List S87) (hl : xs.length ≤ 4194304) : B.Ev (fun k => Qg.f k xs) xs.reverse := by
 refine Qtd z87 xs hl (fun k l i j => Qg.l0 k l i j) (fun k l i j h => ?_) (fun k l i j h h' => ?_)
 ·simp only [Qg.l0, h, ↓reduceIte]
 ·simp only [Qg.l0, show (i : Int) < (j : Int) by omega, show 0 ≤ (j : Int) by omega, show (j : Int) < (l.length : Int) by omega, show 0 ≤ (i : Int) by omega, show (i : Int) < (l.length : Int) by omega, ↓reduceIte, QU, Int.toNat_natCast]
end Go.Proofs.Ytinlbiphjgpmmaa.X
end
section
namespace Go.Proofs.Ytinlbiphjgpmmaa.X
open Go Go.RowKit Go.Proofs.Ytinlbiphjgpmmaa.V Go.Proofs.Ytinlbiphjgpmmaa.P
theorem Evu {α : Type} {g : Nat → Option α} {u v : α} (h : B.Ev g u) (h' : B.Ev g v) : u = v := by
 obtain ⟨K, h⟩ := h
 obtain ⟨L, h'⟩ := h'
 have h1 := h (K + L) (by omega)
 have h2 := h' (K + L) (by omega)
 rw [h1] at h2; exact Option.some.inj h2
def back (l : List QQ) (o : S87) : S87 :=
 if o.f0 = 1 then ⟨1, o.f1, lab l (QbG l o.f1).toNat, 0, 0⟩
 else if o.f0 = 2 then ⟨3, o.f1.take (o.f1.length - 1), lab l (QbG l o.f1).toNat, o.f1.getD (o.f1.length - 1) 0, ((QcZ l (QbG l o.f1).toNat).length : Int)⟩
 else ⟨2, o.f1 ++ [o.f3], 0, 0, 0⟩
def tup (o : S87) : Int × List Int × Int × Int × Int := (o.f0, o.f1, o.f2, o.f3, o.f4)
theorem Qut {l : List QQ} {o : S87} (hl : l.length ≤ 4194304) (hp : o.f1.length ≤ 4194304) (h : Qw7 l o.f0 o.f1) :
 B.Ev (fun k => QaT.f k l o.f0 o.f1 o.f2 o.f3 o.f4) (tup (back l o)) ∧ B.Ev (fun k => QaS.f k l o.f0 o.f1 o.f2 o.f3 o.f4) (tup (back l o)) := by
 obtain ⟨ok, n, e, hn, hk⟩ := h
 obtain ⟨n1, n2⟩ := Qjh l hl o.f1 (by omega)
 have hkl : ((QcZ l n).map fun (j : Nat) => (j : Int)).length = (QcZ l n).length := List.length_map _
 have a1 : (0 : Int) ≤ (n : Int) := by omega
 have a2 : (n : Int) < (l.length : Int) := by omega
 have hl24 := Qb0 ok
 unfold back tup
 rw [e] at n1 n2 ⊢
 obtain ⟨k0, p, x2, x3, x4⟩ := o
 simp only [Int.toNat_natCast] at *
 simp only [QaT.f, QaS.f, Qad.f, show p.length * 8 ≤ 140737488355328 by omega, ↓reduceIte, Option.bind_some]
 by_cases c1 : k0 = 1
 ·simp only [c1, ↓reduceIte]
  constructor
  ·refine B.Ev.bind n1 ?_
   simp only [a1, a2, ↓reduceIte, Qb2]; exact B.Ev.pure _
  ·refine B.Ev.bind n2 ?_
   simp only [a1, a2, ↓reduceIte, Qb2]; exact B.Ev.pure _
 ·by_cases c2 : k0 = 2
  ·have hn0 : n ≠ 0 := by rcases hk with q | q | q <;> omega
   have hp0 : 0 < p.length := by
    rcases Nat.eq_zero_or_pos p.length with q | q
    ·obtain rfl := List.eq_nil_of_length_eq_zero q
     unfold QbG at e; rw [if_pos ok] at e; simp only [QeJ] at e; omega
    ·exact q
   have ew : wrap64 ((p.length : Int) - 1) = ((p.length - 1 : Nat) : Int) := by rw [B.wid (by omega) (by omega)]; omega
   have er : rd p ((p.length - 1 : Nat) : Int) = p.getD (p.length - 1) 0 := Qq4
   have ht : (p.take (p.length - 1)).length * 8 ≤ 140737488355328 := by rw [List.length_take]; omega
   have b1 : ((p.length - 1 : Nat) : Int) ≤ (p.length : Int) := by omega
   have b2 : (0 : Int) ≤ ((p.length - 1 : Nat) : Int) := by omega
   have b3 : ((p.length - 1 : Nat) : Int) < (p.length : Int) := by omega
   simp only [c1, c2, show ¬ ((2 : Int) = 1) by decide, ↓reduceIte, ew, er, b1, b2, b3, a1, a2, Int.toNat_natCast, ht, Option.bind_some, Qb2]
   constructor
   ·refine B.Ev.bind n1 ?_
    simp only [a1, a2, ↓reduceIte]
    refine B.Ev.bind (Qji ok hn) ?_
    rw [hkl]; exact B.Ev.pure _
   ·refine B.Ev.bind n2 ?_
    simp only [a1, a2, ↓reduceIte]
    refine B.Ev.bind (QgD ok hn) ?_
    rw [hkl]; exact B.Ev.pure _
  ·simp only [c1, c2, ↓reduceIte, show p.length < 17592186044416 by omega]
   exact ⟨B.Ev.bind n1 (B.Ev.pure _), B.Ev.bind n2 (B.Ev.pure _)⟩
theorem Qju (l : List QQ) {o : S87} {M : Nat} (hp : o.f1.length ≤ M) : (back l o).f1.length ≤ M + 1 := by
 unfold back
 split
 ·show o.f1.length ≤ _; omega
 ·split
  ·show (o.f1.take _).length ≤ _; rw [List.length_take]; omega
  ·show (o.f1 ++ [o.f3]).length ≤ _; rw [List.length_append, List.length_singleton]; omega
theorem Qoe (l : List QQ) {o : S87} (hp : o.f1.length ≤ 2097152) (hx : ∀ u ∈ o.f1, -9223372036854775808 ≤ u ∧ u ≤ 9223372036854775807) (hk : (QcZ l (QbG l o.f1).toNat).length ≤ 24) : opW (back l o) := by
 refine ⟨by have := Qju l hp; omega, ?_⟩
 unfold back
 split
 ·show (-9223372036854775808 : Int) ≤ 0 ∧ (0 : Int) ≤ 9223372036854775807; omega
 ·split
  ·show -9223372036854775808 ≤ o.f1.getD _ 0 ∧ o.f1.getD _ 0 ≤ 9223372036854775807
   rcases Nat.lt_or_ge (o.f1.length - 1) o.f1.length with c | c
   ·rw [B.getD_lt c]; exact hx _ (List.getElem_mem c)
   ·rw [List.getD_eq_getElem?_getD, List.getElem?_eq_none c]; simp
  ·show (-9223372036854775808 : Int) ≤ 0 ∧ (0 : Int) ≤ 9223372036854775807; omega
def opI (o : S87) : Prop := opW o ∧ o.f1.length ≤ 2097152 ∧ ∀ u ∈ o.f1, -9223372036854775808 ≤ u ∧ u ≤ 9223372036854775807
theorem QzM (l0 : List QQ) {M : Nat} : ∀ (rest pre : List S87) (x : List QQ), x.length ≤ 4194304 → pre.length + rest.length ≤ 2097152 → (∀ o ∈ rest, opI o) → (∀ o ∈ rest, o.f1.length ≤ M) →
 ∃ (c : Int) (L : List S87), (∃ y n, B.Ev (fun k => Qt.l0 k (pre ++ rest) x (pre.length : Int) l0) (y, n, c)) ∧
  (∀ acc : List S87, acc.length ≤ pre.length → B.Ev (fun k => Q2.l0 k (pre ++ rest) acc x (pre.length : Int) l0) (if c = 0 then (L.reverse ++ acc, true) else ([], false))) ∧
  (∀ acc : List S87, acc.length ≤ pre.length → B.Ev (fun k => Qu.l1 k acc x (pre ++ rest) ((pre ++ rest).length : Int) (pre.length : Int) l0) (if c = 0 then ((acc ++ L).reverse, true) else ([], false))) ∧
  L.length ≤ rest.length ∧ ∀ o ∈ L, opW o ∧ o.f1.length ≤ M + 1 := by
 intro rest
 induction rest with
 | nil =>
  intro pre x hx hl _ _
  refine ⟨0, [], ⟨x, (pre.length : Int), B.Ev.succ ?_⟩, fun acc ha => B.Ev.succ ?_, fun acc ha => B.Ev.succ ?_, Nat.le_refl _, fun o ho => by cases ho⟩
  ·simp only [Qt.l0, List.append_nil, Int.lt_irrefl, ↓reduceIte]; exact B.Ev.pure _
  ·simp only [Q2.l0, List.append_nil, Int.lt_irrefl, ↓reduceIte, List.reverse_nil, List.nil_append]; exact B.Ev.pure _
  ·simp only [Qu.l1, List.append_nil, Int.lt_irrefl, ↓reduceIte]
   refine B.Ev.bind (Qh6 acc (by simp at hl; omega)) ?_
   simp only [List.length_reverse, ↓reduceIte]; exact B.Ev.pure _
 | cons o rest ih =>
  intro pre x hx hl ho hM
  have hlt : (pre.length : Int) < ((pre ++ o :: rest).length : Int) := by rw [List.length_append, List.length_cons]; omega
  have h0 : (0 : Int) ≤ (pre.length : Int) := by omega
  rw [List.length_cons] at hl
  have hw := B.wsucc (show pre.length < 9223372036854775807 by omega)
  obtain ⟨i1, i2, i3⟩ := ho o (List.mem_cons_self ..)
  obtain ⟨u, v, ⟨rfl, hu, _, hA⟩, g1, g2⟩ := Qhp hx o.f0 o.f2 o.f3 o.f4 o.f1 i1.1 i1.2
  by_cases c : u.2 = 0
  ·have hP := hA c
   obtain ⟨b1, b2⟩ := Qut (o := o) hx (by omega) hP
   obtain ⟨c', L, ⟨y, n, e1⟩, e2, e3, e4, e5⟩ := ih (pre ++ [o]) u.1 (by omega) (by rw [List.length_append, List.length_singleton]; omega) (fun z hz => ho z (List.mem_cons_of_mem _ hz)) (fun z hz => hM z (List.mem_cons_of_mem _ hz))
   simp only [QeL, show (pre ++ [o]).length = pre.length + 1 by simp] at e1 e2 e3
   refine ⟨c', back x o :: L, ⟨y, n, B.Ev.succ ?_⟩, fun acc ha => B.Ev.succ ?_, fun acc ha => B.Ev.succ ?_, by simp; omega, fun z hz => ?_⟩
   ·simp only [Qt.l0, hlt, h0, ↓reduceIte, Qcf, hw]
    refine B.Ev.bind g1 ?_
    simp only [c, ↓reduceIte]; exact e1
   ·simp only [Q2.l0, hlt, h0, ↓reduceIte, Qcf, hw]
    refine B.Ev.bind g1 ?_
    simp only [c, ↓reduceIte]
    refine B.Ev.bind b1 ?_
    simp only [show (1 + acc.length) * 56 ≤ 140737488355328 by omega, ↓reduceIte, List.reverse_cons, List.append_assoc]
    exact e2 ([back x o] ++ acc) (by simp; omega)
   ·simp only [Qu.l1, hlt, h0, ↓reduceIte, Qcf, hw]
    refine B.Ev.bind g2 ?_
    simp only [c, ↓reduceIte]
    refine B.Ev.bind b2 ?_
    simp only [show acc.length < 2513169434916 by omega, ↓reduceIte]
    have := e3 (acc ++ [back x o]) (by simp; omega)
    rw [QeL] at this
    exact this
   ·rcases List.mem_cons.1 hz with rfl | hz
    ·obtain ⟨ok, n, e, hn, _⟩ := hP
     have h24 := Qb0 ok
     have hk := QeP x hn
     exact ⟨Qoe x i2 i3 (by rw [e, Int.toNat_natCast]; omega), Qju x (hM o (List.mem_cons_self ..))⟩
    ·exact e5 z hz
  ·refine ⟨u.2, [], ⟨x, (pre.length : Int), B.Ev.succ ?_⟩, fun acc ha => B.Ev.succ ?_, fun acc ha => B.Ev.succ ?_, by simp, fun o ho => by cases ho⟩
   ·simp only [Qt.l0, hlt, h0, ↓reduceIte, Qcf, hw]
    refine B.Ev.bind g1 ?_
    simp only [c, ↓reduceIte]; exact B.Ev.pure _
   ·simp only [Q2.l0, hlt, h0, ↓reduceIte, Qcf, hw]
    refine B.Ev.bind g1 ?_
    simp only [c, ↓reduceIte]; exact B.Ev.pure _
   ·simp only [Qu.l1, hlt, h0, ↓reduceIte, Qcf, hw]
    refine B.Ev.bind g2 ?_
    simp only [c, ↓reduceIte]; exact B.Ev.pure _
theorem QnT {l : List QQ} {ops : List S87} {M : Nat} (hl : l.length ≤ 4194304) (hn : ops.length ≤ 2097152) (ho : ∀ o ∈ ops, opI o) (hM : ∀ o ∈ ops, o.f1.length ≤ M) {y : List QQ} {n : Int} (h : B.Ev (fun k => Qt.f k l ops) (y, n, 0)) :
 ∃ L : List S87, B.Ev (fun k => Q2.f k l ops) (L, true) ∧ B.Ev (fun k => Qu.f k l ops) (L, true) ∧ L.length ≤ ops.length ∧ ∀ o ∈ L, opW o ∧ o.f1.length ≤ M + 1 := by
 simp only [Qt.f] at h
 have t1 : B.Ev (fun k => Qw.f k l) (okT l) := B.Ev.of _ (fun k hk => Qcb l hl k hk)
 have t2 : B.Ev (fun k => QB.f k l) (okT l) := B.Ev.of _ (fun k hk => Qcd l hl k hk)
 by_cases ok : okT l = true
 ·obtain ⟨c, L, ⟨y', n', e1⟩, e2, e3, e4, e5⟩ := QzM l ops [] l hl (by simpa using hn) ho hM
  simp only [List.nil_append, List.length_nil, show ((0 : Nat) : Int) = 0 from rfl] at e1 e2 e3
  have e := B.Ev.bind (g := fun k t1 => if t1 = true then ((Qam.f l).bind fun t2 => (Qt.l0 k ops t2 0 l)) else (some (([] : List QQ), 0, 2))) t1 (v := (y', n', c)) (by
   simp only [ok, ↓reduceIte, Qam.f, show l.length * 16 ≤ 140737488355328 by omega, Option.bind_some]; exact e1)
  have hh := Evu h e
  have hc : c = 0 := by injection hh with _ hh; injection hh with _ hh; exact hh.symm
  subst hc
  have e2 := e2 [] (Nat.zero_le _)
  have e3 := e3 [] (Nat.zero_le _)
  simp only [↓reduceIte, List.append_nil, List.nil_append] at e2 e3
  refine ⟨L.reverse, ?_, ?_, by rw [List.length_reverse]; exact e4, fun o ho => e5 o (List.mem_reverse.1 ho)⟩
  ·simp only [Q2.f]
   refine B.Ev.bind t1 ?_
   simp only [ok, ↓reduceIte, Qam.f, show l.length * 16 ≤ 140737488355328 by omega, Option.bind_some]; exact e2
  ·simp only [Qu.f]
   refine B.Ev.bind t2 ?_
   simp only [ok, ↓reduceIte]
   have hs : ∀ k, Qu.l0 k ([] : List S87) l ops (ops.length : Int) 0 = Qu.l1 k ([] : List S87) l ops (ops.length : Int) 0 l := fun k => by
    cases k with
    | zero => rfl
    | succ k => simp only [Qu.l0, Qu.l1]
   simp only [hs]; exact e3
 ·exfalso
  have e := B.Ev.bind (g := fun k t1 => if t1 = true then ((Qam.f l).bind fun t2 => (Qt.l0 k ops t2 0 l)) else (some (([] : List QQ), 0, 2))) t1 (v := ([], 0, 2)) (by
   simp only [ok, ↓reduceIte]; exact B.Ev.pure _)
  have hh := Evu h e
  injection hh with _ hh; injection hh with _ hh; exact absurd hh (by decide)
end Go.Proofs.Ytinlbiphjgpmmaa.X
end
section
namespace Go.Proofs.Ytinlbiphjgpmmaa.X
open Go Go.RowKit Go.Proofs.Ytinlbiphjgpmmaa.V Go.Proofs.Ytinlbiphjgpmmaa.P
def Qea : List QQ → List (List S87) → List (List QQ) → Prop
 | _, [], [] => True
 | x, o :: rest, y :: X => (∃ n, B.Ev (fun k => Qt.f k x o) (y, n, 0)) ∧ (y.length ≤ 4194304 ∧ (o.all okO && decide (o.length ≤ 60)) = true) ∧ Qea y rest X
 | _, _, _ => False
theorem Qea.len : ∀ {x rest X}, Qea x rest X → X.length = rest.length
 | _, [], [], _ => rfl
 | _, _ :: _, _ :: _, h => by simp [Qea.len h.2.2]
 | _, [], _ :: _, h => absurd h (by simp [Qea])
 | _, _ :: _, [], h => absurd h (by simp [Qea])
theorem QwB (t0 : List QQ) : ∀ (rest pre : List (List S87)) (ts : List (List QQ)) (x : List QQ), ts.length = pre.length → pre.length + rest.length ≤ 4194304 → x.length ≤ 4194304 → (∀ l ∈ rest, PIn l ∧ ∀ o ∈ l, opW o) →
 ∃ (ok : Bool) (X : List (List QQ)), B.Ev (fun k => QA.l0 k t0 (pre ++ rest) x (pre.length : Int)) ok ∧ B.Ev (fun k => Qo.l0 k (ts ++ [x]) (pre ++ rest) ((pre ++ rest).length : Int) (pre.length : Int) t0) (if ok = true then (ts ++ x :: X, true) else ([], false)) ∧ (ok = true → Qea x rest X) := by
 intro rest
 induction rest with
 | nil =>
  intro pre ts x _ _ _ _
  refine ⟨true, [], B.Ev.succ ?_, B.Ev.succ ?_, fun _ => trivial⟩
  ·simp only [QA.l0, List.append_nil, Int.lt_irrefl, ↓reduceIte]; exact B.Ev.pure _
  ·simp only [Qo.l0, List.append_nil, Int.lt_irrefl, ↓reduceIte]; exact B.Ev.pure _
 | cons y rest ih =>
  intro pre ts x ht hl hx hs
  have hlt : (pre.length : Int) < ((pre ++ y :: rest).length : Int) := by rw [List.length_append, List.length_cons]; omega
  have hlt2 : (pre.length : Int) < ((ts ++ [x]).length : Int) := by rw [List.length_append, List.length_singleton]; omega
  have hl' := hl
  rw [List.length_cons] at hl
  obtain ⟨p1, p2⟩ := hs y (List.mem_cons_self ..)
  have p1' := p1.1
  have e1 : rdL (ts ++ [x]) (pre.length : Int) = x := by rw [← ht]; exact QiB ts x
  have a0 : 0 ≤ (pre.length : Int) := by omega
  have hw := B.wsucc (show pre.length < 9223372036854775807 by omega)
  obtain ⟨u, v, ⟨rfl, hu⟩, g1, g2⟩ := QfV hx p2 (by omega)
  have sp1 := Qmh p1
  have sp2 := Qjf p1
  by_cases c : u.2.2 = 0
  ·generalize hb : (y.all okO && decide (y.length ≤ 60)) = b at sp1 sp2
   cases b
   ·refine ⟨false, [], B.Ev.succ ?_, B.Ev.succ ?_, fun h => by cases h⟩
    ·simp only [QA.l0, hlt, a0, ↓reduceIte, QcC, hw]
     refine B.Ev.bind g1 ?_
     simp only [c, ↓reduceIte]
     refine B.Ev.bind sp1 ?_
     simp only [Bool.false_eq_true, ↓reduceIte]; exact B.Ev.pure _
    ·simp only [Qo.l0, hlt, hlt2, a0, ↓reduceIte, QcC, e1, hw]
     refine B.Ev.bind g2 ?_
     simp only [c, ↓reduceIte]
     refine B.Ev.bind sp2 ?_
     simp only [Bool.false_eq_true, ↓reduceIte]; exact B.Ev.pure _
   ·obtain ⟨ok, X, h1, h2, h3⟩ := ih (pre ++ [y]) (ts ++ [x]) u.1 (by simp [ht]) (by rw [List.length_append, List.length_singleton]; omega) hu (fun z hz => hs z (List.mem_cons_of_mem _ hz))
    rw [QeL pre y rest, show (pre ++ [y]).length = pre.length + 1 by simp] at h1 h2
    refine ⟨ok, u.1 :: X, B.Ev.succ ?_, B.Ev.succ ?_, fun h => ⟨⟨u.2.1, by rw [show (u.1, u.2.1, (0 : Int)) = u by rw [← c]]; exact g1⟩, ⟨hu, hb⟩, h3 h⟩⟩
    ·simp only [QA.l0, hlt, a0, ↓reduceIte, QcC, hw]
     refine B.Ev.bind g1 ?_
     simp only [c, ↓reduceIte]
     refine B.Ev.bind sp1 ?_
     simp only [↓reduceIte]; exact h1
    ·simp only [Qo.l0, hlt, hlt2, a0, ↓reduceIte, QcC, e1, hw]
     refine B.Ev.bind g2 ?_
     simp only [c, ↓reduceIte]
     refine B.Ev.bind sp2 ?_
     simp only [↓reduceIte, show (ts ++ [x]).length < 5864062014805 by rw [List.length_append, List.length_singleton]; omega]
     have e2 := QeL ts x (u.1 :: X)
     rw [e2] at h2
     exact h2
  ·refine ⟨false, [], B.Ev.succ ?_, B.Ev.succ ?_, fun h => by cases h⟩
   ·simp only [QA.l0, hlt, a0, ↓reduceIte, QcC, hw]
    refine B.Ev.bind g1 ?_
    simp only [c, ↓reduceIte]; exact B.Ev.pure _
   ·simp only [Qo.l0, hlt, hlt2, a0, ↓reduceIte, QcC, e1, hw]
    refine B.Ev.bind g2 ?_
    simp only [c, ↓reduceIte]; exact B.Ev.pure _
theorem QrB {t : List QQ} {s : List (List S87)} (ht : t.length ≤ 4194304) (hs : SOk s) : ∃ (ok : Bool) (X : List (List QQ)), B.Ev (fun k => QA.f k t s) ok ∧ B.Ev (fun k => Qo.f k t s) (if ok = true then (t :: X, true) else ([], false)) ∧ (ok = true → s.length ≤ 6 ∧ Qea t s X) := by
 simp only [QA.f, Qo.f]
 have t1 : B.Ev (fun k => Qw.f k t) (okT t) := B.Ev.of _ (fun k hk => Qcb t ht k hk)
 have t2 : B.Ev (fun k => QB.f k t) (okT t) := B.Ev.of _ (fun k hk => Qcd t ht k hk)
 have no : (okT t = true → (s.length : Int) > 6) → B.Ev (fun k => (Qw.f k t).bind fun t1 => (if t1 = true then (if (s.length : Int) > 6 then (some false) else ((Qam.f t).bind fun t2 => (QA.l0 k t s t2 0))) else (some false))) false ∧ B.Ev (fun k => (QB.f k t).bind fun t1 => (if t1 = true then (if (s.length : Int) > 6 then (some ([], false)) else ((Qp.f t).bind fun t2 => (Qo.l0 k ([t2]) s (s.length : Int) 0 t))) else (some ([], false)))) ([], false) := fun hc => by
  refine ⟨B.Ev.bind t1 ?_, B.Ev.bind t2 ?_⟩
  ·by_cases c : okT t = true
   ·simp only [c, hc c, ↓reduceIte]; exact B.Ev.pure _
   ·simp only [c, ↓reduceIte]; exact B.Ev.pure _
  ·by_cases c : okT t = true
   ·simp only [c, hc c, ↓reduceIte]; exact B.Ev.pure _
   ·simp only [c, ↓reduceIte]; exact B.Ev.pure _
 by_cases c : okT t = true
 ·by_cases c2 : (s.length : Int) > 6
  ·obtain ⟨n1, n2⟩ := no fun _ => c2
   exact ⟨false, [], n1, n2, fun h => by cases h⟩
  ·obtain ⟨ok, X, h1, h2, h3⟩ := QwB t s [] [] t rfl (by simpa using hs.1.1) ht (fun l hl => ⟨hs.1.2 l hl, hs.2 l hl⟩)
   refine ⟨ok, X, B.Ev.bind t1 ?_, B.Ev.bind t2 ?_, fun h => ⟨by omega, h3 h⟩⟩
   ·simp only [c, c2, ↓reduceIte, Qam.f, show t.length * 16 ≤ 140737488355328 by omega, Option.bind_some]; exact h1
   ·simp only [c, c2, ↓reduceIte, Qp.f, show t.length * 16 ≤ 140737488355328 by omega, Option.bind_some]; exact h2
 ·obtain ⟨n1, n2⟩ := no fun h => absurd h c
  exact ⟨false, [], n1, n2, fun h => by cases h⟩
theorem QwO (t0 : List QQ) (m : Nat) : ∀ (rest pre : List (List S87)) (X : List (List QQ)) (x : List QQ), pre.length + rest.length ≤ 4194304 → Qea x rest X → ∀ d, d ≤ rest.length → m = pre.length + d → B.Ev (fun k => Q3.l0 k (m : Int) t0 (pre ++ rest) x (pre.length : Int)) ((x :: X).getD d []) := by
 intro rest
 induction rest with
 | nil =>
  intro pre X x _ _ d hd hm
  obtain rfl : d = 0 := by simpa using hd
  refine B.Ev.succ ?_
  simp only [Q3.l0, show ¬ ((pre.length : Int) < (m : Int)) by omega, ↓reduceIte]
  exact B.Ev.pure _
 | cons o rest ih =>
  intro pre X x hl hc d hd hm
  cases X with
  | nil => exact absurd hc (by simp [Qea])
  | cons y X =>
   obtain ⟨⟨n, h1⟩, h2, h3⟩ := hc
   rw [List.length_cons] at hl hd
   cases d with
   | zero =>
    refine B.Ev.succ ?_
    simp only [Q3.l0, show ¬ ((pre.length : Int) < (m : Int)) by omega, ↓reduceIte]
    exact B.Ev.pure _
   | succ d =>
    have hlt : (pre.length : Int) < ((pre ++ o :: rest).length : Int) := by rw [List.length_append, List.length_cons]; omega
    have := ih (pre ++ [o]) X y (by rw [List.length_append, List.length_singleton]; omega) h3 d (by omega) (by rw [List.length_append, List.length_singleton]; omega)
    rw [QeL, show (pre ++ [o]).length = pre.length + 1 by simp] at this
    refine B.Ev.succ ?_
    simp only [Q3.l0, hlt, show 0 ≤ (pre.length : Int) by omega, show (pre.length : Int) < (m : Int) by omega, ↓reduceIte, QcC, B.wsucc (show pre.length < 9223372036854775807 by omega)]
    refine B.Ev.bind h1 ?_
    exact this
theorem Qea.step : ∀ {x : List QQ} {rest : List (List S87)} {X : List (List QQ)}, Qea x rest X → x.length ≤ 4194304 → ∀ j, j < rest.length → ((x :: X).getD j []).length ≤ 4194304 ∧ ((rest.getD j []).all okO && decide ((rest.getD j []).length ≤ 60)) = true ∧ ∃ y n, B.Ev (fun k => Qt.f k ((x :: X).getD j []) (rest.getD j [])) (y, n, 0)
 | x, o :: rest, y :: X, h, hx, 0, _ => ⟨hx, h.2.1.2, y, h.1⟩
 | x, o :: rest, y :: X, h, hx, j + 1, hj => by
  have := Qea.step h.2.2 h.2.1.1 j (by simpa using hj)
  simpa using this
 | _, [], _, _, _, j, hj => by simp at hj
 | _, _ :: _, [], h, _, j, hj => absurd h (by simp [Qea])
theorem QzH {l : List S87} (h : (l.all okO && decide (l.length ≤ 60)) = true) : l.length ≤ 60 ∧ ∀ o ∈ l, opI o ∧ o.f1.length ≤ 12 := by
 rw [Bool.and_eq_true, decide_eq_true_eq, List.all_eq_true] at h
 refine ⟨h.2, fun o ho => ?_⟩
 have hq := h.1 o ho
 unfold okO at hq
 simp only [Bool.and_eq_true, decide_eq_true_eq] at hq
 obtain ⟨⟨hp, hl⟩, hk⟩ := hq
 have h3 : 0 ≤ o.f3 ∧ o.f3 ≤ 24 := by
  split at hk
  ·simp only [Bool.and_eq_true, decide_eq_true_eq] at hk; omega
  ·split at hk
   ·simp only [Bool.and_eq_true, decide_eq_true_eq] at hk; omega
   ·split at hk
    ·simp only [Bool.and_eq_true, decide_eq_true_eq] at hk; omega
    ·cases hk
 refine ⟨⟨⟨by omega, by omega, by omega⟩, by omega, fun u hu => ?_⟩, hl⟩
 unfold QeH at hp
 rw [List.all_eq_true] at hp
 have := hp u hu
 simp only [decide_eq_true_eq] at this
 omega
theorem QjW {t : List QQ} {s : List (List S87)} (ht : t.length ≤ 4194304) (hs : SOk s) (hn : s.length < 4194304) :
 B.EvR (fun k => QaM.f k t s) (fun k => QaP.f k t s) (fun u v => u = v ∧ u.1 = t ∧ ∃ L, (u.2.1 = s ∨ u.2.1 = s ++ [L]) ∧ L.length ≤ 60 ∧ ∀ o ∈ L, o.f1.length ≤ 13) := by
 obtain ⟨ok, X, h1, h2, h3⟩ := QrB ht hs
 have h2' : B.Ev (fun k => QaL.f k t s) ok := by
  simp only [QaL.f]
  refine B.Ev.bind h2 ?_
  cases ok <;> exact B.Ev.pure _
 have hl := hs.1.1
 simp only [QaM.f, QaP.f]
 refine B.EvR.bindL h1 ?_
 cases ok
 ·simp only [Bool.false_eq_true, ↓reduceIte]
  refine B.EvR.bindL (QrC ht hs.1) ?_
  refine B.EvR.iteR (fun c => ?_) (fun c => ?_)
  ·refine B.EvR.bindR (Qdt ht hs.1) ?_
   exact B.EvR.pure ⟨rfl, rfl, [], .inl rfl, Nat.zero_le _, fun o ho => by cases ho⟩
  ·refine B.EvR.bindR h2' ?_
   simp only [Bool.false_eq_true, ↓reduceIte]
   refine B.EvR.bindR (Qdt ht hs.1) ?_
   exact B.EvR.pure ⟨rfl, rfl, [], .inl rfl, Nat.zero_le _, fun o ho => by cases ho⟩
 ·obtain ⟨hs6, hC⟩ := h3 rfl
  simp only [↓reduceIte] at h2 ⊢
  refine B.EvR.iteL (fun c => ?_) (fun c => ?_)
  ·simp only [c, ↓reduceIte]
   refine B.EvR.bindL (QrC ht hs.1) ?_
   refine B.EvR.bindR (Qdt ht hs.1) ?_
   exact B.EvR.pure ⟨rfl, rfl, [], .inl rfl, Nat.zero_le _, fun o ho => by cases ho⟩
  ·simp only [c, ↓reduceIte]
   refine B.EvR.bindR h2' ?_
   simp only [↓reduceIte]
   have hpos : 0 < s.length := by omega
   have ew : wrap64 ((s.length : Int) - 1) = ((s.length - 1 : Nat) : Int) := by rw [B.wid (by omega) (by omega)]; omega
   have b0 : (0 : Int) ≤ ((s.length - 1 : Nat) : Int) := by omega
   have b1 : ((s.length - 1 : Nat) : Int) < (s.length : Int) := by omega
   have hx := QwO t (s.length - 1) s [] X t (by simpa using hl) hC (s.length - 1) (by omega) (by simp)
   simp only [List.nil_append, List.length_nil, show ((0 : Nat) : Int) = 0 from rfl] at hx
   obtain ⟨q1, qs, y, n, q2⟩ := hC.step ht (s.length - 1) (by omega)
   have hXl := hC.len
   have er : rdL s ((s.length - 1 : Nat) : Int) = s.getD (s.length - 1) [] := by unfold rdL; rw [Int.toNat_natCast]
   have ex : rdL (t :: X) ((s.length - 1 : Nat) : Int) = (t :: X).getD (s.length - 1) [] := by unfold rdL; rw [Int.toNat_natCast]
   have hm : s.getD (s.length - 1) [] ∈ s := by rw [B.getD_lt (show s.length - 1 < s.length by omega)]; exact List.getElem_mem _
   simp only [ew, b0, b1, ↓reduceIte, er]
   have hA : B.Ev (fun k => Q3.f k t s ((s.length - 1 : Nat) : Int)) ((t :: X).getD (s.length - 1) []) := by
    simp only [Q3.f]
    refine B.Ev.bind h1 ?_
    simp only [↓reduceIte, Qao.f, Option.bind_some, decide_eq_true_eq, show ((0 : Int) ≤ ((s.length - 1 : Nat) : Int) ∧ ((s.length - 1 : Nat) : Int) ≤ (s.length : Int)) from ⟨b0, by omega⟩, and_self, Qam.f, show t.length * 16 ≤ 140737488355328 by omega]
    exact hx
   have hB : B.Ev (fun k => Qbb.f k t s ((s.length - 1 : Nat) : Int)) ((t :: X).getD (s.length - 1) []) := by
    simp only [Qbb.f]
    refine B.Ev.bind h2 ?_
    have el : wrap64 (((t :: X).length : Int) - 1) = (s.length : Int) := by rw [List.length_cons, hXl, B.wid (by omega) (by omega)]; omega
    have b2 : ((s.length - 1 : Nat) : Int) < ((t :: X).length : Int) := by rw [List.length_cons, hXl]; omega
    simp only [el, Qaf.f, Option.bind_some, decide_eq_true_eq, show ((0 : Int) ≤ ((s.length - 1 : Nat) : Int) ∧ ((s.length - 1 : Nat) : Int) ≤ (s.length : Int)) from ⟨b0, by omega⟩, and_self, ↓reduceIte, b0, b2, ex]
    exact B.Ev.pure _
   refine B.EvR.bindL hA ?_
   refine B.EvR.bindR hB ?_
   generalize (t :: X).getD (s.length - 1) [] = T at *
   obtain ⟨i1, i2⟩ := QzH qs
   obtain ⟨L, g1, g2, g3, g4⟩ := QnT q1 (by omega) (fun o ho => (i2 o ho).1) (fun o ho => (i2 o ho).2) q2
   refine B.EvR.bindL g1 ?_
   refine B.EvR.bindR g2 ?_
   simp only [↓reduceIte]
   have hLP : PIn L := ⟨by omega, fun o ho => by have := (g4 o ho).2; omega⟩
   refine B.EvR.bind (Qml ht hs hn hLP (fun o ho => (g4 o ho).1)) ?_
   rintro u v ⟨rfl, e1, e2⟩
   exact B.EvR.pure ⟨rfl, e1, L, e2, by omega, fun o ho => (g4 o ho).2⟩
end Go.Proofs.Ytinlbiphjgpmmaa.X
end
section
namespace Go.Proofs.Ytinlbiphjgpmmaa.X
open Go Go.RowKit Go.Proofs.Ytinlbiphjgpmmaa.V Go.Proofs.Ytinlbiphjgpmmaa.P
theorem Qr6 (l : List Int) (hl : l.length ≤ 4194304) (k : Nat) (hk : l.length < k) : Qab.f k l = some l := by
 unfold Qab.f
 rw [if_pos (by omega), if_pos (by omega), Int.toNat_natCast]
 have h := B.loop (fun k i => Qab.l0 k l (B.filled l id 0 i) (i : Int)) l.length (fun _ => some l)
  (fun k => by simp only [Qab.l0]; rw [if_neg (by omega), B.filled_all, List.map_id])
  (fun k i hi ih => by
   have a1 : (i : Int) < (l.length : Int) := by omega
   have a2 : (i : Int) < ((B.filled l id 0 i).length : Int) := by rw [B.filled_length _ _ _ (by omega)]; omega
   have a3 : 0 ≤ (i : Int) := by omega
   simp only [Qab.l0, a1, a2, a3, ↓reduceIte, B.wsucc (show i < 9223372036854775807 by omega), Int.toNat_natCast, Qq4]
   rw [← B.filled_set l id 0 hi] at ih
   rw [B.getD_lt hi]
   exact ih) k 0 (by omega) (by omega)
 rw [B.filled_zero] at h
 exact h
end Go.Proofs.Ytinlbiphjgpmmaa.X
end
section
namespace Go.Proofs.Ytinlbiphjgpmmaa.X
open Go Go.RowKit Go.Proofs.Ytinlbiphjgpmmaa.V Go.Proofs.Ytinlbiphjgpmmaa.P
theorem QiA (pre : List S81) (x : S81) (rest : List S81) : Qa7 (pre ++ x :: rest) (pre.length : Int) = x := by
 unfold Qa7; rw [Int.toNat_natCast, B.getD_lt (by simp)]
 simp
theorem Qwp {xs : List S81} {i : Nat} (h : i < xs.length) : Qa7 xs (i : Int) = xs[i] := by unfold Qa7; rw [Int.toNat_natCast]; exact B.getD_lt h
theorem Qq2 {xs : List QcI} {i : Nat} (h : i < xs.length) : QcM xs (i : Int) = xs[i] := by unfold QcM; rw [Int.toNat_natCast]; exact B.getD_lt h
theorem QxF {α : Type} {xs : List (List α)} {i : Nat} (h : i < xs.length) : rdL xs (i : Int) = xs[i] := by unfold rdL; rw [Int.toNat_natCast]; exact B.getD_lt h
def QkT : List S81 → Nat
 | [] => 0
 | x :: xs => x.f1.length + QkT xs
def Qpe (l : List S81) : Nat := l.length + QkT l
theorem Qr9 (l : List Int) (a : Int) (h0 : 0 ≤ a) (h1 : a ≤ 1048576) (hl : l.length ≤ 9223372036854775807) : Qa9.f l a = some (if a < (l.length : Int) then -1 else a - (l.length : Int)) := by
 have e : wrap64 (a - (l.length : Int)) = a - (l.length : Int) := B.wid (by omega) (by omega)
 simp only [Qa9.f, e]
 clear e
 by_cases c : a < (l.length : Int)
 ·simp only [c, ↓reduceIte, show a - (l.length : Int) < 0 by omega]
 ·simp only [c, ↓reduceIte, show ¬ (a - (l.length : Int) < 0) by omega]
theorem Qr8 : ∀ (rest pre : List S81) (a : Int), 0 ≤ a → a ≤ 1048576 → pre.length + rest.length ≤ 1048576 → (∀ o ∈ rest, o.f1.length ≤ 9223372036854775807) → ∃ r : Int, B.Ev (fun k => Qae.l0 k (pre ++ rest) a (pre.length : Int)) r ∧ (r < 0 ∨ (r = a - (QkT rest : Int) ∧ 0 ≤ r)) := by
 intro rest
 induction rest with
 | nil =>
  intro pre a h0 _ _ _
  refine ⟨a, B.Ev.succ ?_, .inr ⟨by simp [QkT], h0⟩⟩
  simp only [Qae.l0, List.append_nil, Int.lt_irrefl, ↓reduceIte]
  exact B.Ev.pure _
 | cons x rest ih =>
  intro pre a h0 ha hl hx
  have hlt : (pre.length : Int) < ((pre ++ x :: rest).length : Int) := by rw [List.length_append, List.length_cons]; omega
  rw [List.length_cons] at hl
  have hs := Qr9 x.f1 a h0 ha (hx x (List.mem_cons_self ..))
  by_cases c : a < (x.f1.length : Int)
  ·refine ⟨-1, B.Ev.succ ?_, .inl (by decide)⟩
   simp only [Qae.l0, hlt, show 0 ≤ (pre.length : Int) by omega, ↓reduceIte, QiA, QbA.f, hs, c, Option.bind_some, show ((-1 : Int) < 0) by decide]
   exact B.Ev.pure _
  ·obtain ⟨r, ih, hr⟩ := ih (pre ++ [x]) (a - (x.f1.length : Int)) (by omega) (by omega) (by rw [List.length_append, List.length_singleton]; omega) (fun y hy => hx y (List.mem_cons_of_mem _ hy))
   rw [QeL, show (pre ++ [x]).length = pre.length + 1 by simp] at ih
   refine ⟨r, B.Ev.succ ?_, by simp only [QkT]; omega⟩
   simp only [Qae.l0, hlt, show 0 ≤ (pre.length : Int) by omega, ↓reduceIte, QiA, QbA.f, hs, c, Option.bind_some, show ¬ (a - (x.f1.length : Int) < 0) by omega, B.wsucc (show pre.length < 9223372036854775807 by omega)]
   exact ih
theorem Qwj (l : List S81) (a : Int) (h0 : 0 ≤ a) (h1 : a ≤ 1048576) (hl : l.length ≤ 9223372036854775807) (hx : ∀ o ∈ l, o.f1.length ≤ 9223372036854775807) : ∃ r : Int, B.Ev (fun k => Qae.f k l a) r ∧ (r < 0 ∨ (r = a - (Qpe l : Int) ∧ 0 ≤ r)) := by
 have e : wrap64 (a - (l.length : Int)) = a - (l.length : Int) := B.wid (by omega) (by omega)
 simp only [Qae.f, e]
 clear e
 by_cases c : a - (l.length : Int) < 0
 ·refine ⟨-1, ?_, .inl (by decide)⟩
  simp only [c, ↓reduceIte]; exact B.Ev.pure _
 ·obtain ⟨r, h, hr⟩ := Qr8 l [] (a - (l.length : Int)) (by omega) (by omega) (by simp; omega) hx
  refine ⟨r, ?_, by unfold Qpe; omega⟩
  simp only [c, ↓reduceIte]; exact h
def Qj5 : List (List S81) → Nat
 | [] => 0
 | x :: xs => Qpe x + Qj5 xs
theorem QmV : ∀ (rest pre : List (List S81)) (a : Int), 0 ≤ a → a ≤ 1048576 → pre.length + rest.length ≤ 1048576 → (∀ l ∈ rest, l.length ≤ 9223372036854775807 ∧ ∀ o ∈ l, o.f1.length ≤ 9223372036854775807) → ∃ r : Int, B.Ev (fun k => Q4.l0 k (pre ++ rest) a (pre.length : Int)) r ∧ (r < 0 ∨ (r = a - (Qj5 rest : Int) ∧ 0 ≤ r)) := by
 intro rest
 induction rest with
 | nil =>
  intro pre a h0 _ _ _
  refine ⟨a, B.Ev.succ ?_, .inr ⟨by simp [Qj5], h0⟩⟩
  simp only [Q4.l0, List.append_nil, Int.lt_irrefl, ↓reduceIte]
  exact B.Ev.pure _
 | cons x rest ih =>
  intro pre a h0 ha hl hx
  have hlt : (pre.length : Int) < ((pre ++ x :: rest).length : Int) := by rw [List.length_append, List.length_cons]; omega
  rw [List.length_cons] at hl
  have hx0 := hx x (List.mem_cons_self ..)
  obtain ⟨s, hs, hs2⟩ := Qwj x a h0 ha hx0.1 hx0.2
  by_cases c : s < 0
  ·refine ⟨-1, B.Ev.succ ?_, .inl (by decide)⟩
   simp only [Q4.l0, hlt, show 0 ≤ (pre.length : Int) by omega, ↓reduceIte, QcC]
   refine B.Ev.bind hs ?_
   simp only [c, ↓reduceIte]; exact B.Ev.pure _
  ·obtain ⟨r, ih, hr⟩ := ih (pre ++ [x]) s (by omega) (by omega) (by rw [List.length_append, List.length_singleton]; omega) (fun y hy => hx y (List.mem_cons_of_mem _ hy))
   rw [QeL, show (pre ++ [x]).length = pre.length + 1 by simp] at ih
   refine ⟨r, B.Ev.succ ?_, by simp only [Qj5]; omega⟩
   simp only [Q4.l0, hlt, show 0 ≤ (pre.length : Int) by omega, ↓reduceIte, QcC, B.wsucc (show pre.length < 9223372036854775807 by omega)]
   refine B.Ev.bind hs ?_
   simp only [c, ↓reduceIte]; exact ih
theorem Qsa (t : List QcI) (s : List (List S81)) (ht : t.length ≤ 9223372036854775807) (hl : s.length ≤ 9223372036854775807) (hx : ∀ l ∈ s, l.length ≤ 9223372036854775807 ∧ ∀ o ∈ l, o.f1.length ≤ 9223372036854775807) : ∃ r : Int, B.Ev (fun k => Qba.f k t s 1048576) r ∧ (r < 0 ∨ (r = 1048576 - (t.length : Int) - (s.length : Int) - (Qj5 s : Int) ∧ 0 ≤ r)) := by
 have e : wrap64 (1048576 - (t.length : Int)) = 1048576 - (t.length : Int) := B.wid (by omega) (by omega)
 simp only [Qba.f, Qa5.f, e]
 clear e
 by_cases c : (1048576 : Int) - (t.length : Int) < 0
 ·refine ⟨-1, ?_, .inl (by decide)⟩
  simp only [c, ↓reduceIte, Option.bind_some, show ((-1 : Int) < 0) by decide]; exact B.Ev.pure _
 ·simp only [c, ↓reduceIte, Option.bind_some, Q4.f]
  have e : wrap64 (1048576 - (t.length : Int) - (s.length : Int)) = 1048576 - (t.length : Int) - (s.length : Int) := B.wid (by omega) (by omega)
  simp only [e]
  clear e
  by_cases c2 : (1048576 : Int) - (t.length : Int) - (s.length : Int) < 0
  ·refine ⟨-1, ?_, .inl (by decide)⟩
   simp only [c2, ↓reduceIte, Option.bind_some, show ((-1 : Int) < 0) by decide]; exact B.Ev.pure _
  ·simp only [c2, ↓reduceIte]
   obtain ⟨r, h, hr⟩ := QmV s [] (1048576 - (t.length : Int) - (s.length : Int)) (by omega) (by omega) (by simp; omega) hx
   by_cases c3 : r < 0
   ·refine ⟨-1, B.Ev.bind h ?_, .inl (by decide)⟩
    simp only [c3, ↓reduceIte]; exact B.Ev.pure _
   ·refine ⟨r, B.Ev.bind h ?_, .inr (by omega)⟩
    simp only [c3, ↓reduceIte]; exact B.Ev.pure _
def opL (x : S81) : S87 := ⟨x.f0, x.f1, x.f2, x.f3, x.f4⟩
def ndL (x : QcI) : QQ := ⟨x.f0, x.f1⟩
theorem Qwf (l : List S81) (hl : l.length ≤ 4194304) (hx : ∀ o ∈ l, o.f1.length ≤ 4194304) : B.Ev (fun k => Qai.f k l) (l.map opL) := by
 simp only [Qai.f, show (0 : Int) ≤ (l.length : Int) by omega, show (l.length : Int) * 56 ≤ 140737488355328 by omega, ↓reduceIte, Int.toNat_natCast]
 rw [← B.filled_zero l opL]
 refine B.Ev.loop (g := fun k i => Qai.l0 k l (B.filled l opL z87 i) (i : Int)) l.length (fun _ => True) ?_ ?_ 0 (Nat.zero_le _) trivial
 ·intro _
  refine B.Ev.succ ?_
  simp only [Qai.l0, Int.lt_irrefl, ↓reduceIte, B.filled_all]
  exact B.Ev.pure _
 ·intro i hi _ ih
  refine B.Ev.succ ?_
  have a2 : (i : Int) < ((B.filled l opL z87 i).length : Int) := by rw [B.filled_length _ _ _ (by omega)]; omega
  have hp := hx _ (List.getElem_mem hi)
  simp only [Qai.l0, QbD.f, show (i : Int) < (l.length : Int) by omega, show (0 : Int) ≤ (i : Int) by omega, a2, ↓reduceIte, Qwp hi, B.wsucc (show i < 9223372036854775807 by omega), Int.toNat_natCast]
  refine B.Ev.bind (B.Ev.bind (B.Ev.of _ (fun k hk => Qr6 l[i].f1 hp k hk)) (B.Ev.pure _)) ?_
  have := ih trivial
  rw [← B.filled_set l opL z87 hi] at this
  exact this
theorem Qqz (s : List (List S81)) (hl : s.length ≤ 4194304) (hx : ∀ l ∈ s, l.length ≤ 4194304 ∧ ∀ o ∈ l, o.f1.length ≤ 4194304) : B.Ev (fun k => Qaa.f k s) (s.map fun l => l.map opL) := by
 simp only [Qaa.f, show (0 : Int) ≤ (s.length : Int) by omega, show (s.length : Int) * 24 ≤ 140737488355328 by omega, ↓reduceIte, Int.toNat_natCast]
 rw [← B.filled_zero s (fun l : List S81 => l.map opL)]
 refine B.Ev.loop (g := fun k i => Qaa.l0 k s (B.filled s (fun l => l.map opL) ([] : List S87) i) (i : Int)) s.length (fun _ => True) ?_ ?_ 0 (Nat.zero_le _) trivial
 ·intro _
  refine B.Ev.succ ?_
  simp only [Qaa.l0, Int.lt_irrefl, ↓reduceIte, B.filled_all]
  exact B.Ev.pure _
 ·intro i hi _ ih
  refine B.Ev.succ ?_
  have a2 : (i : Int) < ((B.filled s (fun l => l.map opL) ([] : List S87) i).length : Int) := by rw [B.filled_length _ _ _ (by omega)]; omega
  have hp := hx _ (List.getElem_mem hi)
  simp only [Qaa.l0, show (i : Int) < (s.length : Int) by omega, show (0 : Int) ≤ (i : Int) by omega, a2, ↓reduceIte, QxF hi, B.wsucc (show i < 9223372036854775807 by omega), Int.toNat_natCast]
  refine B.Ev.bind (Qwf s[i] hp.1 hp.2) ?_
  have := ih trivial
  rw [← B.filled_set s (fun l => l.map opL) ([] : List S87) hi] at this
  exact this
theorem QqA (l : List QcI) (hl : l.length ≤ 4194304) : B.Ev (fun k => QZ.f k l) (l.map ndL) := by
 simp only [QZ.f, show (0 : Int) ≤ (l.length : Int) by omega, show (l.length : Int) * 16 ≤ 140737488355328 by omega, ↓reduceIte, Int.toNat_natCast]
 rw [← B.filled_zero l ndL]
 refine B.Ev.loop (g := fun k i => QZ.l0 k l (B.filled l ndL Qca i) (i : Int)) l.length (fun _ => True) ?_ ?_ 0 (Nat.zero_le _) trivial
 ·intro _
  refine B.Ev.succ ?_
  simp only [QZ.l0, Int.lt_irrefl, ↓reduceIte, B.filled_all]
  exact B.Ev.pure _
 ·intro i hi _ ih
  refine B.Ev.succ ?_
  have a2 : (i : Int) < ((B.filled l ndL Qca i).length : Int) := by rw [B.filled_length _ _ _ (by omega)]; omega
  simp only [QZ.l0, Qbg.f, show (i : Int) < (l.length : Int) by omega, show (0 : Int) ≤ (i : Int) by omega, a2, ↓reduceIte, Qq2 hi, Option.bind_some, B.wsucc (show i < 9223372036854775807 by omega), Int.toNat_natCast]
  have := ih trivial
  rw [← B.filled_set l ndL Qca hi] at this
  exact this
theorem QwQ {l : List S87} (h : PIn l) : B.Ev (fun k => Qag.f k l l) true := by
 have hl := h.1
 simp only [Qag.f, ↓reduceIte]
 refine B.Ev.loop (g := fun k i => Qag.l0 k l l (i : Int)) l.length (fun _ => True) ?_ ?_ 0 (Nat.zero_le _) trivial
 ·intro _
  refine B.Ev.succ ?_
  simp only [Qag.l0, Int.lt_irrefl, ↓reduceIte]
  exact B.Ev.pure _
 ·intro i hi _ ih
  refine B.Ev.succ ?_
  have hp := h.2 _ (List.getElem_mem hi)
  have e : QU l (i : Int) = l[i] := by unfold QU; rw [Int.toNat_natCast]; exact B.getD_lt hi
  simp only [Qag.l0, QbE.f, show (i : Int) < (l.length : Int) by omega, show (0 : Int) ≤ (i : Int) by omega, ↓reduceIte, e, B.wsucc (show i < 9223372036854775807 by omega)]
  refine B.Ev.bind (B.Ev.bind (B.Ev.of _ (fun k hk => Quu l[i].f1 hp k hk)) (B.Ev.pure _)) ?_
  simp only [↓reduceIte]
  exact ih trivial
theorem QrD {s : List (List S87)} (h : HIn s) : B.Ev (fun k => Q5.f k s s) true := by
 have hl := h.1
 simp only [Q5.f, ↓reduceIte]
 refine B.Ev.loop (g := fun k i => Q5.l0 k s s (i : Int)) s.length (fun _ => True) ?_ ?_ 0 (Nat.zero_le _) trivial
 ·intro _
  refine B.Ev.succ ?_
  simp only [Q5.l0, Int.lt_irrefl, ↓reduceIte]
  exact B.Ev.pure _
 ·intro i hi _ ih
  refine B.Ev.succ ?_
  simp only [Q5.l0, show (i : Int) < (s.length : Int) by omega, show (0 : Int) ≤ (i : Int) by omega, ↓reduceIte, QxF hi, B.wsucc (show i < 9223372036854775807 by omega)]
  refine B.Ev.bind (QwQ (h.2 _ (List.getElem_mem hi))) ?_
  simp only [↓reduceIte]
  exact ih trivial
theorem QpV {t : List QQ} {s : List (List S87)} (ht : t.length ≤ 4194304) (h : HIn s) : B.Ev (fun k => QaR.f k t s t s) true := by
 simp only [QaR.f, QS.f, ↓reduceIte]
 have e : B.Ev (fun k => QS.l0 k t t 0) true := by
  refine B.Ev.loop (g := fun k i => QS.l0 k t t (i : Int)) t.length (fun _ => True) ?_ ?_ 0 (Nat.zero_le _) trivial
  ·intro _
   refine B.Ev.succ ?_
   simp only [QS.l0, Int.lt_irrefl, ↓reduceIte]
   exact B.Ev.pure _
  ·intro i hi _ ih
   refine B.Ev.succ ?_
   simp only [QS.l0, Qbi.f, show (i : Int) < (t.length : Int) by omega, show (0 : Int) ≤ (i : Int) by omega, ↓reduceIte, Option.bind_some, B.wsucc (show i < 9223372036854775807 by omega)]
   exact ih trivial
 refine B.Ev.bind e ?_
 simp only [↓reduceIte]
 refine B.Ev.bind (QrD h) ?_
 simp only [↓reduceIte]
 exact B.Ev.pure _
end Go.Proofs.Ytinlbiphjgpmmaa.X
end
section
namespace Go.Proofs.Ytinlbiphjgpmmaa.X
open Go Go.RowKit Go.Proofs.Ytinlbiphjgpmmaa.V Go.Proofs.Ytinlbiphjgpmmaa.P
theorem HIn.sin {s : List (List S87)} (h : HIn s) : SIn s := fun x hx => h.2 x hx
theorem QfU {t : List QQ} {s : List (List S87)} (ht : t.length ≤ 4194304) (hs : HIn s) (hb : (QdU s : Int) ≤ 990000000) : B.Ev (fun k => QaG.f k t s 1) (1 + 2 * (t.length : Int) + (QdU s : Int), QeK t 1, QeX s (1 + 2 * (t.length : Int))) := by
 have h1 := Qlj t [] 1 (by omega) (by omega) (by simpa using ht)
 have h2 := Qli s [] (1 + 2 * (t.length : Int)) (by omega) (by omega) (by simpa using hs.1) hs.sin
 simp only [QaG.f, QF.f, QR.f]
 refine B.Ev.bind h1 ?_
 simp only [List.nil_append, Qhb, ↓reduceIte]
 refine B.Ev.bind h2 ?_
 simp only [List.nil_append, QgT, ↓reduceIte]
 exact B.Ev.pure _
theorem QjX {t : List QQ} {s : List (List S87)} (ht : t.length ≤ 4194304) (hs : HIn s) (hb : (QdU s : Int) ≤ 990000000) : B.Ev (fun k => QaN.f k (QeK t 1) (QeX s (1 + 2 * (t.length : Int))) 1) (1 + 2 * (t.length : Int) + (QdU s : Int)) := by
 have h1 := Ql4 t [] 1 (by omega) (by omega) (by simpa using ht)
 have h2 := Ql3 s [] (1 + 2 * (t.length : Int)) (by omega) (by omega) (by simpa using hs.1) hs.sin
 simp only [QaN.f, Qz.f, QJ.f]
 refine B.Ev.bind h1 ?_
 simp only [show ¬ (1 + 2 * (t.length : Int) < 0) by omega, ↓reduceIte]
 refine B.Ev.bind h2 ?_
 simp only [show ¬ (1 + 2 * (t.length : Int) + (QdU s : Int) < 0) by omega, ↓reduceIte]
 exact B.Ev.pure _
theorem Qgk : ∀ {l : List S81} {o : S81}, o ∈ l → o.f1.length ≤ QkT l
 | x :: xs, o, h => by
  rcases List.mem_cons.1 h with rfl | h
  ·simp only [QkT]; omega
  ·have := Qgk h; simp only [QkT]; omega
theorem Qf9 : ∀ {s : List (List S81)} {l : List S81}, l ∈ s → Qpe l ≤ Qj5 s
 | x :: xs, l, h => by
  rcases List.mem_cons.1 h with rfl | h
  ·simp only [Qj5]; omega
  ·have := Qf9 h; simp only [Qj5]; omega
theorem QiG : ∀ l : List S81, QdE (l.map opL) ≤ 4 * l.length + QkT l
 | [] => by simp [QdE, QkT]
 | x :: xs => by have := QiG xs; simp only [List.map_cons, QdE, QkT, List.length_cons, opL]; omega
theorem Qik : ∀ s : List (List S81), QdU (s.map fun l => l.map opL) ≤ 4 * Qj5 s
 | [] => by simp [QdU, Qj5]
 | x :: xs => by have := Qik xs; have := QiG x; simp only [List.map_cons, QdU, Qj5, Qpe]; omega
theorem Qil : ∀ (s : List (List S87)) (o : List S87), QdU (s ++ [o]) = QdU s + QdE o
 | [], o => by simp [QdU]
 | x :: xs, o => by simp only [List.cons_append, QdU, Qil xs]; omega
theorem QrP {l : List S81} (h : Qpe l ≤ 1048576) : PIn (l.map opL) := by
 unfold Qpe at h
 refine ⟨by rw [List.length_map]; omega, fun o ho => ?_⟩
 obtain ⟨y, hy, rfl⟩ := List.mem_map.1 ho
 have := Qgk hy
 show y.f1.length ≤ 4194304
 omega
end Go.Proofs.Ytinlbiphjgpmmaa.X
end
section
namespace Go.Proofs.Ytinlbiphjgpmmaa.Pure
open Go Go.RowKit Go.Proofs.Ytinlbiphjgpmmaa.V Go.Proofs.Ytinlbiphjgpmmaa.P Go.Proofs.Ytinlbiphjgpmmaa.X
theorem Qk4 : ∀ (l : List S87), (∀ o ∈ l, o.f1.length ≤ 13) → QdE l ≤ 17 * l.length
 | [], _ => by simp [QdE]
 | x :: xs, h => by
  have h1 := h x (List.mem_cons_self ..)
  have h2 := Qk4 xs fun o ho => h o (List.mem_cons_of_mem _ ho)
  simp only [QdE, List.length_cons]; omega
theorem FnExactHistUndo (l0 : List QcI) (l1 : List (List S81))
 (h0 : (l0.length ≤ maxLen ∧ ∀ y ∈ l0, ((-9223372036854775808 ≤ y.f0 ∧ y.f0 ≤ 9223372036854775807) ∧ (-9223372036854775808 ≤ y.f1 ∧ y.f1 ≤ 9223372036854775807))) ∧ (l1.length ≤ maxLen ∧ ∀ y ∈ l1, (y.length ≤ maxLen ∧ ∀ z ∈ y, ((-9223372036854775808 ≤ z.f0 ∧ z.f0 ≤ 9223372036854775807) ∧ (z.f1.length ≤ maxLen ∧ ∀ u ∈ z.f1, (-9223372036854775808 ≤ u ∧ u ≤ 9223372036854775807)) ∧ (-9223372036854775808 ≤ z.f2 ∧ z.f2 ≤ 9223372036854775807) ∧ (-9223372036854775808 ≤ z.f3 ∧ z.f3 ≤ 9223372036854775807) ∧ (-9223372036854775808 ≤ z.f4 ∧ z.f4 ≤ 9223372036854775807))))) : ∃ k, Qar.f k l0 l1 = some true := by
 refine B.Ev.ex ?_
 simp only [Qar.f]
 obtain ⟨r, hr, hc⟩ := Qsa l0 l1 h0.1.1 h0.2.1 (fun l hl => ⟨(h0.2.2 l hl).1, fun o ho => ((h0.2.2 l hl).2 o ho).2.1.1⟩)
 refine B.Ev.bind hr ?_
 by_cases hs : r < 0
 ·simp only [hs, ↓reduceIte]; exact B.Ev.pure _
 ·simp only [hs, ↓reduceIte]
  have b0 : l0.length + l1.length + Qj5 l1 ≤ 1048576 := by omega
  clear hr hc hs
  have hsteps : ∀ l ∈ l1, l.length ≤ 4194304 ∧ ∀ o ∈ l, o.f1.length ≤ 4194304 := fun l hl => by
   have e1 := Qf9 hl
   unfold Qpe at e1
   exact ⟨by omega, fun o ho => by have := Qgk ho; omega⟩
  have ht : (l0.map ndL).length ≤ 4194304 := by rw [List.length_map]; omega
  have hS : SOk (l1.map fun l => l.map opL) := by
   refine ⟨⟨by rw [List.length_map]; omega, fun l hl => ?_⟩, fun l hl o ho => ?_⟩
   ·obtain ⟨y, hy, rfl⟩ := List.mem_map.1 hl
    exact QrP (by have := Qf9 hy; omega)
   ·obtain ⟨y, hy, rfl⟩ := List.mem_map.1 hl
    obtain ⟨z, hz, rfl⟩ := List.mem_map.1 ho
    have e1 := (hsteps y hy).2 z hz
    have e2 := ((h0.2.2 y hy).2 z hz).2.2.2.1
    exact ⟨show z.f1.length ≤ _ by omega, e2.1, e2.2⟩
  have s1 := Qik l1
  have hn : (l1.map fun l => l.map opL).length < 4194304 := by rw [List.length_map]; omega
  simp only [Qbh.f]
  refine B.Ev.bind (B.Ev.bind (QqA l0 (by omega)) (B.Ev.bind (Qqz l1 (by omega) hsteps) (B.Ev.pure _))) ?_
  have hb : (QdU (l1.map fun l => l.map opL) : Int) ≤ 900000000 := by omega
  clear s1 b0 h0 hsteps
  generalize (l0.map ndL) = t at *
  generalize (l1.map fun l => l.map opL) = s at *
  obtain ⟨u, v, ⟨rfl, e1, L, e2, e3, e4⟩, g1, g2⟩ := QjW ht hS hn
  refine B.Ev.bind g1 ?_
  refine B.Ev.bind g2 ?_
  obtain ⟨u1, u2, u3⟩ := u
  simp only at e1 e2
  subst e1
  have hs' : HIn u2 ∧ (QdU u2 : Int) ≤ 990000000 := by
   rcases e2 with rfl | rfl
   ·exact ⟨hS.1, by omega⟩
   ·refine ⟨⟨by rw [List.length_append, List.length_singleton]; omega, fun l hl => ?_⟩, by rw [Qil]; have := Qk4 L e4; omega⟩
    rcases List.mem_append.1 hl with h | h
    ·exact hS.1.2 l h
    ·rw [List.mem_singleton] at h; rw [h]; exact ⟨by omega, fun o ho => by have := e4 o ho; omega⟩
  refine B.Ev.bind (QpV ht hs'.1) ?_
  simp only [↓reduceIte]
  refine B.Ev.bind (QpV ht hS.1) ?_
  simp only [↓reduceIte]
  refine B.Ev.bind (QfU ht hS.1 (by omega)) ?_
  simp only [show ¬ (1 + 2 * (u1.length : Int) + (QdU s : Int) < 0) by omega, ↓reduceIte]
  refine B.Ev.bind (QfU ht hs'.1 (by omega)) ?_
  refine B.Ev.bind (QjX ht hs'.1 (by omega)) ?_
  simp only [show ¬ (1 + 2 * (u1.length : Int) + (QdU u2 : Int) < 0) by omega, ↓reduceIte]
  exact B.Ev.pure _
end Go.Proofs.Ytinlbiphjgpmmaa.Pure
end
