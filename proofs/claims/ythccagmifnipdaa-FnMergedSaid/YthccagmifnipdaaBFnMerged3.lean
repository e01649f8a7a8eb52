/- FnMerged: L87 L88 L39 L40 L9 L42 L43 L10 L11 L12 L13 L3 XBase XEv XEvP XDraw XDrawOnce XMark XTree XDrawTree XDrawNear XDrawNamed XRd XShape XMerge XMergeAt PureFnMerged. -/
import Derived.Test.YthccagmifnipdaaBFnMerged2
section YthccagmifnipdaaL87
namespace Go.Proofs.Ythccagmifnipdaa.P
open Go Go.RowKit Go.Proofs.Ythccagmifnipdaa.V
set_option linter.unusedVariables false
set_option linter.unusedSimpArgs false
set_option linter.all false
set_option maxRecDepth 100000
/-! ### slices_Equal_int_int: function 87 -/
def slices_Equal_int_int.l0 : Nat → (List Int) → (List Int) → Int → Int → Option Bool
 | 0, _, _, _, _ => none
 | k + 1, l0, l1, x12, x13 => if x13 < x12 then (if 0 ≤ x13 then (if x13 < (l0.length : Int) then (if x13 < (l1.length : Int) then (if (rd l0 x13) = (rd l1 x13) then (slices_Equal_int_int.l0 k l0 l1 x12 (wrap64 (x13 + 1))) else (some false)) else none) else none) else none) else (some true)
def slices_Equal_int_int.f (k : Nat) (l0 : List Int) (l1 : List Int) : Option Bool := if (l0.length : Int) = (l1.length : Int) then (slices_Equal_int_int.l0 k l0 l1 (l0.length : Int) 0) else (some false)
def slices_Equal_int_int.P0 (k : Nat) : Prop := ∀ (l0 : List Int) (l1 : List Int) (x12 : Int) (x13 : Int) (r : Bool), slices_Equal_int_int.l0 k l0 l1 x12 x13 = some r → ∀ st, canon 2 [0, 1, 12, 13] st = ⟨tmOf [(0, .slc 0 [] 0 1 0 l0.length), (1, .slc 1 [] 0 1 0 l1.length), (12, .i .i64 x12), (13, .i .i64 x13)], rsL [(0, some ⟨false, 1, 0, (l0.map eI)⟩), (1, some ⟨false, 1, 0, (l1.map eI)⟩)], 2⟩ → W env slices_Equal_int_int.c1 st (Qb 0 (Qs env slices_Equal_int_int.c0 (Qf [.t 4] [false, false] ([.b r], [none, none]))))
set_option maxHeartbeats 4000000 in
theorem slices_Equal_int_int.s0 (k : Nat) (ih : slices_Equal_int_int.P0 k) : slices_Equal_int_int.P0 (k + 1) := by
  intro l0 l1 x12 x13 r H st hst
  rw [slices_Equal_int_int.l0] at H
  rw [W_loopc (show slices_Equal_int_int.c1 = C.loop 2 [0, 1, 12, 13] slices_Equal_int_int.d1 from rfl), hst]
  unfold slices_Equal_int_int.d1
  try simp only [TN, ↓reduceIte, Nat.reduceEqDiff, Nat.reduceAdd, Nat.reduceMul, Nat.reduceSub, Nat.reduceLeDiff, Nat.reduceLT, Nat.reduceBEq, Nat.reduceBNe, Int.reduceLE, Int.reduceLT, Int.reduceEq, Int.reduceToNat, ne_eq, not_false_eq_true, not_true_eq_false, reduceCtorEq, and_self, eq_self, slices_Equal_int_int.c0]
  rcases ite_or H with ⟨h1, H⟩ | ⟨h1, H⟩
  · skip
    obtain ⟨h2, H⟩ := ite_no H
    obtain ⟨h3, H⟩ := ite_no H
    obtain ⟨h4, H⟩ := ite_no H
    try simp only [TN, ↓reduceIte, Nat.reduceEqDiff, Nat.reduceAdd, Nat.reduceMul, Nat.reduceSub, Nat.reduceLeDiff, Nat.reduceLT, Nat.reduceBEq, Nat.reduceBNe, Int.reduceLE, Int.reduceLT, Int.reduceEq, Int.reduceToNat, ne_eq, not_false_eq_true, not_true_eq_false, reduceCtorEq, and_self, eq_self, slices_Equal_int_int.c0, h1, h2, h3, h4]
    rcases ite_or H with ⟨h5, H⟩ | ⟨h5, H⟩
    · skip
      try simp only [TN, ↓reduceIte, Nat.reduceEqDiff, Nat.reduceAdd, Nat.reduceMul, Nat.reduceSub, Nat.reduceLeDiff, Nat.reduceLT, Nat.reduceBEq, Nat.reduceBNe, Int.reduceLE, Int.reduceLT, Int.reduceEq, Int.reduceToNat, ne_eq, not_false_eq_true, not_true_eq_false, reduceCtorEq, and_self, eq_self, slices_Equal_int_int.c0, h1, h2, h3, h4, eq_true h5]
      refine ih _ _ _ _ _ H _ ?_
      first | (rw [canon_eq]; done) | (rw [canon_eq]; rfl) | (rw [canon_eq]; simp only [List.length_set, List.length_append, List.length_replicate]; rfl)
    · skip
      injection H with H; subst H
      try simp only [TN, ↓reduceIte, Nat.reduceEqDiff, Nat.reduceAdd, Nat.reduceMul, Nat.reduceSub, Nat.reduceLeDiff, Nat.reduceLT, Nat.reduceBEq, Nat.reduceBNe, Int.reduceLE, Int.reduceLT, Int.reduceEq, Int.reduceToNat, ne_eq, not_false_eq_true, not_true_eq_false, reduceCtorEq, and_self, eq_self, slices_Equal_int_int.c0, h1, h2, h3, h4, h5]
      try rfl
  · skip
    injection H with H; subst H
    try simp only [TN, ↓reduceIte, Nat.reduceEqDiff, Nat.reduceAdd, Nat.reduceMul, Nat.reduceSub, Nat.reduceLeDiff, Nat.reduceLT, Nat.reduceBEq, Nat.reduceBNe, Int.reduceLE, Int.reduceLT, Int.reduceEq, Int.reduceToNat, ne_eq, not_false_eq_true, not_true_eq_false, reduceCtorEq, and_self, eq_self, slices_Equal_int_int.c0, h1]
    try rfl
theorem slices_Equal_int_int.w : ∀ k, slices_Equal_int_int.P0 k := by
  intro k
  induction k with
  | zero => exact by intro l0 l1 x12 x13 r H; cases (show (none : Option Bool) = some r from H)
  | succ k ih => exact slices_Equal_int_int.s0 k ih
set_option maxHeartbeats 4000000 in
theorem slices_Equal_int_int.link {k : Nat} {l0 : List Int} {l1 : List Int} {r : Bool} (H : slices_Equal_int_int.f k l0 l1 = some r) : callW env 87 [.deep false true 1 (l0.map eI), .deep false true 1 (l1.map eI)] = some ([.b r], [none, none]) := by
  unfold slices_Equal_int_int.f at H
  refine callW_fn' (F := slices_Equal_int_int.F) (tm := tmOf [(0, .slc 0 [] 0 1 0 l0.length), (1, .slc 1 [] 0 1 0 l1.length)]) (rs := rsL [(0, some ⟨false, 1, 0, (l0.map eI)⟩), (1, some ⟨false, 1, 0, (l1.map eI)⟩)]) (nx := 2) (ow := [false, false]) rfl (by rfl) (by simp only [SN]) (by simp only [SN]) (by decide) ?_
  show W env slices_Equal_int_int.B _ (Qf [.t 4] [false, false] _)
  unfold slices_Equal_int_int.B
  try simp only [TN, ↓reduceIte, Nat.reduceEqDiff, Nat.reduceAdd, Nat.reduceMul, Nat.reduceSub, Nat.reduceLeDiff, Nat.reduceLT, Nat.reduceBEq, Nat.reduceBNe, Int.reduceLE, Int.reduceLT, Int.reduceEq, Int.reduceToNat, ne_eq, not_false_eq_true, not_true_eq_false, reduceCtorEq, and_self, eq_self, slices_Equal_int_int.c0]
  rcases ite_or H with ⟨h1, H⟩ | ⟨h1, H⟩
  · skip
    try simp only [TN, ↓reduceIte, Nat.reduceEqDiff, Nat.reduceAdd, Nat.reduceMul, Nat.reduceSub, Nat.reduceLeDiff, Nat.reduceLT, Nat.reduceBEq, Nat.reduceBNe, Int.reduceLE, Int.reduceLT, Int.reduceEq, Int.reduceToNat, ne_eq, not_false_eq_true, not_true_eq_false, reduceCtorEq, and_self, eq_self, slices_Equal_int_int.c0, eq_true h1]
    refine (slices_Equal_int_int.w k) _ _ _ _ _ H _ ?_
    first | (rw [canon_eq]; done) | (rw [canon_eq]; rfl) | (rw [canon_eq]; simp only [List.length_set, List.length_append, List.length_replicate]; rfl)
  · skip
    injection H with H; subst H
    try simp only [TN, ↓reduceIte, Nat.reduceEqDiff, Nat.reduceAdd, Nat.reduceMul, Nat.reduceSub, Nat.reduceLeDiff, Nat.reduceLT, Nat.reduceBEq, Nat.reduceBNe, Int.reduceLE, Int.reduceLT, Int.reduceEq, Int.reduceToNat, ne_eq, not_false_eq_true, not_true_eq_false, reduceCtorEq, and_self, eq_self, slices_Equal_int_int.c0, h1]
    try rfl
end Go.Proofs.Ythccagmifnipdaa.P
end YthccagmifnipdaaL87
section YthccagmifnipdaaL88
namespace Go.Proofs.Ythccagmifnipdaa.P
open Go Go.RowKit Go.Proofs.Ythccagmifnipdaa.V
set_option linter.unusedVariables false
set_option linter.unusedSimpArgs false
set_option linter.all false
set_option maxRecDepth 100000
/-! ### impl_Depths: function 88 -/
def impl_Depths.l0 : Nat → (List Int) → (List S33) → Int → Int → Option (List Int)
 | 0, _, _, _, _ => none
 | k + 1, x3, l0, x8, x9 => if x9 < x8 then (if 0 ≤ x9 then (if x9 < (l0.length : Int) then (if x3.length < 17592186044416 then (impl_Depths.l0 k (x3 ++ ([(rd_T33 l0 x9).f1])) l0 x8 (wrap64 (x9 + 1))) else none) else none) else none) else (some x3)
def impl_Depths.f (k : Nat) (l0 : List S33) : Option (List Int) := impl_Depths.l0 k ([] : List Int) l0 (l0.length : Int) 0
def impl_Depths.P0 (k : Nat) : Prop := ∀ (x3 : List Int) (l0 : List S33) (x8 : Int) (x9 : Int) (r : (List Int)), impl_Depths.l0 k x3 l0 x8 x9 = some r → ∀ st, canon 1 [3, 7, 8, 9] st = ⟨tmOf [(3, .slc 1 [] 0 1 0 x3.length), (7, .slc 0 [] 0 2 0 l0.length), (8, .i .i64 x8), (9, .i .i64 x9)], rsL [(0, some ⟨false, 2, 0, (l0.map e33)⟩), (1, some ⟨true, 1, 0, (x3.map eI)⟩)], 2⟩ → W env impl_Depths.c1 st (Qb 0 (Qs env impl_Depths.c0 (Qf [.t 2] [false] ([.deep false false 1 (r.map eI)], [none]))))
set_option maxHeartbeats 4000000 in
theorem impl_Depths.s0 (k : Nat) (ih : impl_Depths.P0 k) : impl_Depths.P0 (k + 1) := by
  intro x3 l0 x8 x9 r H st hst
  rw [impl_Depths.l0] at H
  rw [W_loopc (show impl_Depths.c1 = C.loop 1 [3, 7, 8, 9] impl_Depths.d1 from rfl), hst]
  unfold impl_Depths.d1
  try simp only [TN, ↓reduceIte, Nat.reduceEqDiff, Nat.reduceAdd, Nat.reduceMul, Nat.reduceSub, Nat.reduceLeDiff, Nat.reduceLT, Nat.reduceBEq, Nat.reduceBNe, Int.reduceLE, Int.reduceLT, Int.reduceEq, Int.reduceToNat, ne_eq, not_false_eq_true, not_true_eq_false, reduceCtorEq, and_self, eq_self, impl_Depths.c0]
  rcases ite_or H with ⟨h1, H⟩ | ⟨h1, H⟩
  · skip
    obtain ⟨h2, H⟩ := ite_no H
    obtain ⟨h3, H⟩ := ite_no H
    obtain ⟨h4, H⟩ := ite_no H
    have h5 : (x3.length + 1) * 8 ≤ 140737488355328 := by omega
    try simp only [TN, ↓reduceIte, Nat.reduceEqDiff, Nat.reduceAdd, Nat.reduceMul, Nat.reduceSub, Nat.reduceLeDiff, Nat.reduceLT, Nat.reduceBEq, Nat.reduceBNe, Int.reduceLE, Int.reduceLT, Int.reduceEq, Int.reduceToNat, ne_eq, not_false_eq_true, not_true_eq_false, reduceCtorEq, and_self, eq_self, impl_Depths.c0, h1, h2, h3, h4, h5]
    refine ih _ _ _ _ _ H _ ?_
    first | (rw [canon_eq]; done) | (rw [canon_eq]; rfl) | (rw [canon_eq]; simp only [List.length_set, List.length_append, List.length_replicate]; rfl)
  · skip
    injection H with H; subst H
    try simp only [TN, ↓reduceIte, Nat.reduceEqDiff, Nat.reduceAdd, Nat.reduceMul, Nat.reduceSub, Nat.reduceLeDiff, Nat.reduceLT, Nat.reduceBEq, Nat.reduceBNe, Int.reduceLE, Int.reduceLT, Int.reduceEq, Int.reduceToNat, ne_eq, not_false_eq_true, not_true_eq_false, reduceCtorEq, and_self, eq_self, impl_Depths.c0, h1]
    try rfl
theorem impl_Depths.w : ∀ k, impl_Depths.P0 k := by
  intro k
  induction k with
  | zero => exact by intro x3 l0 x8 x9 r H; cases (show (none : Option (List Int)) = some r from H)
  | succ k ih => exact impl_Depths.s0 k ih
set_option maxHeartbeats 4000000 in
theorem impl_Depths.link {k : Nat} {l0 : List S33} {r : (List Int)} (H : impl_Depths.f k l0 = some r) : callW env 88 [.deep false true 2 (l0.map e33)] = some ([.deep false false 1 (r.map eI)], [none]) := by
  unfold impl_Depths.f at H
  refine callW_fn' (F := impl_Depths.F) (tm := tmOf [(0, .slc 0 [] 0 2 0 l0.length)]) (rs := rsL [(0, some ⟨false, 2, 0, (l0.map e33)⟩)]) (nx := 1) (ow := [false]) rfl (by rfl) (by simp only [SN]) (by simp only [SN]) (by decide) ?_
  show W env impl_Depths.B _ (Qf [.t 2] [false] _)
  unfold impl_Depths.B
  try simp only [TN, ↓reduceIte, Nat.reduceEqDiff, Nat.reduceAdd, Nat.reduceMul, Nat.reduceSub, Nat.reduceLeDiff, Nat.reduceLT, Nat.reduceBEq, Nat.reduceBNe, Int.reduceLE, Int.reduceLT, Int.reduceEq, Int.reduceToNat, ne_eq, not_false_eq_true, not_true_eq_false, reduceCtorEq, and_self, eq_self, impl_Depths.c0]
  refine (impl_Depths.w k) _ _ _ _ _ H _ ?_
  first | (rw [canon_eq]; done) | (rw [canon_eq]; rfl) | (rw [canon_eq]; simp only [List.length_set, List.length_append, List.length_replicate]; rfl)
end Go.Proofs.Ythccagmifnipdaa.P
end YthccagmifnipdaaL88
section YthccagmifnipdaaL39
namespace Go.Proofs.Ythccagmifnipdaa.P
open Go Go.RowKit Go.Proofs.Ythccagmifnipdaa.V
set_option linter.unusedVariables false
set_option linter.unusedSimpArgs false
set_option linter.all false
set_option maxRecDepth 100000
/-! ### impl_SameShape: function 39 -/
def impl_SameShape.f (k : Nat) (l0 : List S33) (l1 : List S33) : Option Bool := (impl_TreeOk.f k l0).bind fun t1 => (if t1 = true then ((impl_TreeOk.f k l1).bind fun t2 => (if t2 = true then ((impl_Depths.f k l0).bind fun t3 => ((impl_Depths.f k l1).bind fun t4 => ((slices_Equal_int_int.f k t3 t4).bind fun t5 => (some t5)))) else (some false))) else (some false))
set_option maxHeartbeats 4000000 in
theorem impl_SameShape.link {k : Nat} {l0 : List S33} {l1 : List S33} {r : Bool} (H : impl_SameShape.f k l0 l1 = some r) : callW env 39 [.deep false true 2 (l0.map e33), .deep false true 2 (l1.map e33)] = some ([.b r], [none, none]) := by
  unfold impl_SameShape.f at H
  refine callW_fn' (F := impl_SameShape.F) (tm := tmOf [(0, .slc 0 [] 0 2 0 l0.length), (1, .slc 1 [] 0 2 0 l1.length)]) (rs := rsL [(0, some ⟨false, 2, 0, (l0.map e33)⟩), (1, some ⟨false, 2, 0, (l1.map e33)⟩)]) (nx := 2) (ow := [false, false]) rfl (by rfl) (by simp only [SN]) (by simp only [SN]) (by decide) ?_
  show W env impl_SameShape.B _ (Qf [.t 4] [false, false] _)
  unfold impl_SameShape.B
  obtain ⟨t1, e1, H⟩ := bnd_some H
  have e1 := impl_TreeOk.link e1
  try simp only [TN, ↓reduceIte, Nat.reduceEqDiff, Nat.reduceAdd, Nat.reduceMul, Nat.reduceSub, Nat.reduceLeDiff, Nat.reduceLT, Nat.reduceBEq, Nat.reduceBNe, Int.reduceLE, Int.reduceLT, Int.reduceEq, Int.reduceToNat, ne_eq, not_false_eq_true, not_true_eq_false, reduceCtorEq, and_self, eq_self, e1]
  rcases ite_b H with ⟨h2, H⟩ | ⟨h2, H⟩
  · skip
    obtain ⟨t2, e3, H⟩ := bnd_some H
    have e3 := impl_TreeOk.link e3
    try simp only [TN, ↓reduceIte, Nat.reduceEqDiff, Nat.reduceAdd, Nat.reduceMul, Nat.reduceSub, Nat.reduceLeDiff, Nat.reduceLT, Nat.reduceBEq, Nat.reduceBNe, Int.reduceLE, Int.reduceLT, Int.reduceEq, Int.reduceToNat, ne_eq, not_false_eq_true, not_true_eq_false, reduceCtorEq, and_self, eq_self, e1, h2, e3]
    rcases ite_b H with ⟨h4, H⟩ | ⟨h4, H⟩
    · skip
      obtain ⟨t3, e5, H⟩ := bnd_some H
      have e5 := impl_Depths.link e5
      obtain ⟨t4, e6, H⟩ := bnd_some H
      have e6 := impl_Depths.link e6
      obtain ⟨t5, e7, H⟩ := bnd_some H
      have e7 := slices_Equal_int_int.link e7
      injection H with H; subst H
      try simp only [TN, ↓reduceIte, Nat.reduceEqDiff, Nat.reduceAdd, Nat.reduceMul, Nat.reduceSub, Nat.reduceLeDiff, Nat.reduceLT, Nat.reduceBEq, Nat.reduceBNe, Int.reduceLE, Int.reduceLT, Int.reduceEq, Int.reduceToNat, ne_eq, not_false_eq_true, not_true_eq_false, reduceCtorEq, and_self, eq_self, e1, h2, e3, h4, e5, e6, e7]
      try rfl
    · skip
      injection H with H; subst H
      try simp only [TN, ↓reduceIte, Nat.reduceEqDiff, Nat.reduceAdd, Nat.reduceMul, Nat.reduceSub, Nat.reduceLeDiff, Nat.reduceLT, Nat.reduceBEq, Nat.reduceBNe, Int.reduceLE, Int.reduceLT, Int.reduceEq, Int.reduceToNat, ne_eq, not_false_eq_true, not_true_eq_false, reduceCtorEq, and_self, eq_self, e1, h2, e3, h4]
      try rfl
  · skip
    injection H with H; subst H
    try simp only [TN, ↓reduceIte, Nat.reduceEqDiff, Nat.reduceAdd, Nat.reduceMul, Nat.reduceSub, Nat.reduceLeDiff, Nat.reduceLT, Nat.reduceBEq, Nat.reduceBNe, Int.reduceLE, Int.reduceLT, Int.reduceEq, Int.reduceToNat, ne_eq, not_false_eq_true, not_true_eq_false, reduceCtorEq, and_self, eq_self, e1, h2]
    try rfl
end Go.Proofs.Ythccagmifnipdaa.P
end YthccagmifnipdaaL39
section YthccagmifnipdaaL40
namespace Go.Proofs.Ythccagmifnipdaa.P
open Go Go.RowKit Go.Proofs.Ythccagmifnipdaa.V
set_option linter.unusedVariables false
set_option linter.unusedSimpArgs false
set_option linter.all false
set_option maxRecDepth 100000
/-! ### slices_Clone_impl_Node_impl_Node: function 40 -/
def slices_Clone_impl_Node_impl_Node.f (l0 : List S33) : Option (List S33) := if l0.length * 16 ≤ 140737488355328 then some l0 else none
set_option maxHeartbeats 4000000 in
theorem slices_Clone_impl_Node_impl_Node.link {l0 : List S33} {r : List S33} (H : slices_Clone_impl_Node_impl_Node.f l0 = some r) : callW env 40 [.deep false true 2 (l0.map e33)] = some ([.deep false false 2 (r.map e33)], [none]) := by
  unfold slices_Clone_impl_Node_impl_Node.f at H
  obtain ⟨h, H⟩ := ite_no H
  injection H with H; subst H
  refine callW_fn' (F := slices_Clone_impl_Node_impl_Node.F) (tm := tmOf [(0, .slc 0 [] 0 2 0 l0.length)]) (rs := rsL [(0, some ⟨false, 2, 0, (l0.map e33)⟩)]) (nx := 1) (ow := [false]) rfl (by rfl) (by simp only [SN]) (by simp only [SN]) (by decide) ?_
  show W env slices_Clone_impl_Node_impl_Node.B _ (Qf [.t 2] [false] _)
  unfold slices_Clone_impl_Node_impl_Node.B
  by_cases hz : l0 = []
  · subst hz
    have hn : isNil 0 = .mb := rfl
    try simp only [TN, ↓reduceIte, Nat.reduceEqDiff, Nat.reduceAdd, Nat.reduceMul, Nat.reduceSub, Nat.reduceLeDiff, Nat.reduceLT, Nat.reduceBEq, Nat.reduceBNe, Int.reduceLE, Int.reduceLT, Int.reduceEq, Int.reduceToNat, ne_eq, not_false_eq_true, not_true_eq_false, reduceCtorEq, and_self, eq_self, List.length_nil, List.map_nil, hn]
    try exact ⟨rfl, rfl⟩
  · have hn : isNil l0.length = .b false := by
      cases l0 with
      | nil => exact absurd rfl hz
      | cons x l => rfl
    try simp only [TN, ↓reduceIte, Nat.reduceEqDiff, Nat.reduceAdd, Nat.reduceMul, Nat.reduceSub, Nat.reduceLeDiff, Nat.reduceLT, Nat.reduceBEq, Nat.reduceBNe, Int.reduceLE, Int.reduceLT, Int.reduceEq, Int.reduceToNat, ne_eq, not_false_eq_true, not_true_eq_false, reduceCtorEq, and_self, eq_self, h, hn]
    try rfl
end Go.Proofs.Ythccagmifnipdaa.P
end YthccagmifnipdaaL40
section YthccagmifnipdaaL9
namespace Go.Proofs.Ythccagmifnipdaa.P
open Go Go.RowKit Go.Proofs.Ythccagmifnipdaa.V
set_option linter.unusedVariables false
set_option linter.unusedSimpArgs false
set_option linter.all false
set_option maxRecDepth 100000
/-! ### impl_MergeLabels: function 9 -/
def impl_MergeLabels.l0 : Nat → (List S33) → (List S33) → (List S33) → (List S33) → (List Int) → Int → Int → Option ((List S33) × (List Int) × Bool)
 | 0, _, _, _, _, _, _, _ => none
 | k + 1, l0, l1, l2, x9, x10, x31, x32 => if x32 < x31 then (if 0 ≤ x32 then (if x32 < (l1.length : Int) then (if x32 < (l2.length : Int) then (if x32 < (l0.length : Int) then (if ((rd_T33 l1 x32).f0) = ((rd_T33 l0 x32).f0) then (if x32 < (x9.length : Int) then (impl_MergeLabels.l0 k l0 l1 l2 (x9.set (x32 : Int).toNat (⟨(rd_T33 l2 x32).f0, (rd_T33 x9 x32).f1⟩ : S33)) x10 x31 (wrap64 (x32 + 1))) else none) else (if ((rd_T33 l1 x32).f0) = ((rd_T33 l2 x32).f0) then (impl_MergeLabels.l0 k l0 l1 l2 x9 x10 x31 (wrap64 (x32 + 1))) else (if ((rd_T33 l2 x32).f0) = ((rd_T33 l0 x32).f0) then (impl_MergeLabels.l0 k l0 l1 l2 x9 x10 x31 (wrap64 (x32 + 1))) else (if x10.length < 17592186044416 then (impl_MergeLabels.l0 k l0 l1 l2 x9 (x10 ++ ([x32])) x31 (wrap64 (x32 + 1))) else none)))) else none) else none) else none) else none) else (some (x9, x10, true))
def impl_MergeLabels.f (k : Nat) (l0 : List S33) (l1 : List S33) (l2 : List S33) : Option ((List S33) × (List Int) × Bool) := (impl_SameShape.f k l0 l1).bind fun t1 => (if t1 = true then ((impl_SameShape.f k l0 l2).bind fun t2 => (if t2 = true then ((slices_Clone_impl_Node_impl_Node.f l1).bind fun t3 => (impl_MergeLabels.l0 k l0 l1 l2 t3 ([] : List Int) (l0.length : Int) 0)) else (some (([] : List S33), ([] : List Int), false)))) else (some (([] : List S33), ([] : List Int), false)))
def impl_MergeLabels.P0 (k : Nat) : Prop := ∀ (l0 : List S33) (l1 : List S33) (l2 : List S33) (x9 : List S33) (x10 : List Int) (x31 : Int) (x32 : Int) (r : (List S33) × (List Int) × Bool), impl_MergeLabels.l0 k l0 l1 l2 x9 x10 x31 x32 = some r → ∀ st, canon 3 [0, 1, 2, 9, 10, 31, 32] st = ⟨tmOf [(0, .slc 0 [] 0 2 0 l0.length), (1, .slc 1 [] 0 2 0 l1.length), (2, .slc 2 [] 0 2 0 l2.length), (9, .slc 3 [] 0 2 0 x9.length), (10, .slc 4 [] 0 1 0 x10.length), (31, .i .i64 x31), (32, .i .i64 x32)], rsL [(0, some ⟨false, 2, 0, (l0.map e33)⟩), (1, some ⟨false, 2, 0, (l1.map e33)⟩), (2, some ⟨false, 2, 0, (l2.map e33)⟩), (3, some ⟨true, 2, 0, (x9.map e33)⟩), (4, some ⟨true, 1, 0, (x10.map eI)⟩)], 5⟩ → W env impl_MergeLabels.c1 st (Qb 0 (Qs env impl_MergeLabels.c0 (Qf [.t 6, .t 7, .t 8] [false, false, false] ([.deep false false 2 (r.1.map e33), .deep false false 1 (r.2.1.map eI), .b r.2.2], [none, none, none]))))
set_option maxHeartbeats 4000000 in
theorem impl_MergeLabels.s0 (k : Nat) (ih : impl_MergeLabels.P0 k) : impl_MergeLabels.P0 (k + 1) := by
  intro l0 l1 l2 x9 x10 x31 x32 r H st hst
  rw [impl_MergeLabels.l0] at H
  rw [W_loopc (show impl_MergeLabels.c1 = C.loop 3 [0, 1, 2, 9, 10, 31, 32] impl_MergeLabels.d1 from rfl), hst]
  unfold impl_MergeLabels.d1
  try simp only [TN, ↓reduceIte, Nat.reduceEqDiff, Nat.reduceAdd, Nat.reduceMul, Nat.reduceSub, Nat.reduceLeDiff, Nat.reduceLT, Nat.reduceBEq, Nat.reduceBNe, Int.reduceLE, Int.reduceLT, Int.reduceEq, Int.reduceToNat, ne_eq, not_false_eq_true, not_true_eq_false, reduceCtorEq, and_self, eq_self, impl_MergeLabels.c0]
  rcases ite_or H with ⟨h1, H⟩ | ⟨h1, H⟩
  · skip
    obtain ⟨h2, H⟩ := ite_no H
    obtain ⟨h3, H⟩ := ite_no H
    obtain ⟨h4, H⟩ := ite_no H
    obtain ⟨h5, H⟩ := ite_no H
    try simp only [TN, ↓reduceIte, Nat.reduceEqDiff, Nat.reduceAdd, Nat.reduceMul, Nat.reduceSub, Nat.reduceLeDiff, Nat.reduceLT, Nat.reduceBEq, Nat.reduceBNe, Int.reduceLE, Int.reduceLT, Int.reduceEq, Int.reduceToNat, ne_eq, not_false_eq_true, not_true_eq_false, reduceCtorEq, and_self, eq_self, impl_MergeLabels.c0, h1, h2, h3, h4, h5]
    rcases ite_or H with ⟨h6, H⟩ | ⟨h6, H⟩
    · skip
      obtain ⟨h7, H⟩ := ite_no H
      try simp only [TN, ↓reduceIte, Nat.reduceEqDiff, Nat.reduceAdd, Nat.reduceMul, Nat.reduceSub, Nat.reduceLeDiff, Nat.reduceLT, Nat.reduceBEq, Nat.reduceBNe, Int.reduceLE, Int.reduceLT, Int.reduceEq, Int.reduceToNat, ne_eq, not_false_eq_true, not_true_eq_false, reduceCtorEq, and_self, eq_self, impl_MergeLabels.c0, h1, h2, h3, h4, h5, eq_true h6, h7]
      refine ih _ _ _ _ _ _ _ _ H _ ?_
      first | (rw [canon_eq]; done) | (rw [canon_eq]; rfl) | (rw [canon_eq]; simp only [List.length_set, List.length_append, List.length_replicate]; rfl)
    · skip
      try simp only [TN, ↓reduceIte, Nat.reduceEqDiff, Nat.reduceAdd, Nat.reduceMul, Nat.reduceSub, Nat.reduceLeDiff, Nat.reduceLT, Nat.reduceBEq, Nat.reduceBNe, Int.reduceLE, Int.reduceLT, Int.reduceEq, Int.reduceToNat, ne_eq, not_false_eq_true, not_true_eq_false, reduceCtorEq, and_self, eq_self, impl_MergeLabels.c0, h1, h2, h3, h4, h5, h6]
      rcases ite_or H with ⟨h8, H⟩ | ⟨h8, H⟩
      · skip
        try simp only [TN, ↓reduceIte, Nat.reduceEqDiff, Nat.reduceAdd, Nat.reduceMul, Nat.reduceSub, Nat.reduceLeDiff, Nat.reduceLT, Nat.reduceBEq, Nat.reduceBNe, Int.reduceLE, Int.reduceLT, Int.reduceEq, Int.reduceToNat, ne_eq, not_false_eq_true, not_true_eq_false, reduceCtorEq, and_self, eq_self, impl_MergeLabels.c0, h1, h2, h3, h4, h5, h6, eq_true h8]
        refine ih _ _ _ _ _ _ _ _ H _ ?_
        first | (rw [canon_eq]; done) | (rw [canon_eq]; rfl) | (rw [canon_eq]; simp only [List.length_set, List.length_append, List.length_replicate]; rfl)
      · skip
        try simp only [TN, ↓reduceIte, Nat.reduceEqDiff, Nat.reduceAdd, Nat.reduceMul, Nat.reduceSub, Nat.reduceLeDiff, Nat.reduceLT, Nat.reduceBEq, Nat.reduceBNe, Int.reduceLE, Int.reduceLT, Int.reduceEq, Int.reduceToNat, ne_eq, not_false_eq_true, not_true_eq_false, reduceCtorEq, and_self, eq_self, impl_MergeLabels.c0, h1, h2, h3, h4, h5, h6, h8]
        rcases ite_or H with ⟨h9, H⟩ | ⟨h9, H⟩
        · skip
          try simp only [TN, ↓reduceIte, Nat.reduceEqDiff, Nat.reduceAdd, Nat.reduceMul, Nat.reduceSub, Nat.reduceLeDiff, Nat.reduceLT, Nat.reduceBEq, Nat.reduceBNe, Int.reduceLE, Int.reduceLT, Int.reduceEq, Int.reduceToNat, ne_eq, not_false_eq_true, not_true_eq_false, reduceCtorEq, and_self, eq_self, impl_MergeLabels.c0, h1, h2, h3, h4, h5, h6, h8, eq_true h9]
          refine ih _ _ _ _ _ _ _ _ H _ ?_
          first | (rw [canon_eq]; done) | (rw [canon_eq]; rfl) | (rw [canon_eq]; simp only [List.length_set, List.length_append, List.length_replicate]; rfl)
        · skip
          obtain ⟨h10, H⟩ := ite_no H
          have h11 : (x10.length + 1) * 8 ≤ 140737488355328 := by omega
          try simp only [TN, ↓reduceIte, Nat.reduceEqDiff, Nat.reduceAdd, Nat.reduceMul, Nat.reduceSub, Nat.reduceLeDiff, Nat.reduceLT, Nat.reduceBEq, Nat.reduceBNe, Int.reduceLE, Int.reduceLT, Int.reduceEq, Int.reduceToNat, ne_eq, not_false_eq_true, not_true_eq_false, reduceCtorEq, and_self, eq_self, impl_MergeLabels.c0, h1, h2, h3, h4, h5, h6, h8, h9, h10, h11]
          refine ih _ _ _ _ _ _ _ _ H _ ?_
          first | (rw [canon_eq]; done) | (rw [canon_eq]; rfl) | (rw [canon_eq]; simp only [List.length_set, List.length_append, List.length_replicate]; rfl)
  · skip
    injection H with H; subst H
    try simp only [TN, ↓reduceIte, Nat.reduceEqDiff, Nat.reduceAdd, Nat.reduceMul, Nat.reduceSub, Nat.reduceLeDiff, Nat.reduceLT, Nat.reduceBEq, Nat.reduceBNe, Int.reduceLE, Int.reduceLT, Int.reduceEq, Int.reduceToNat, ne_eq, not_false_eq_true, not_true_eq_false, reduceCtorEq, and_self, eq_self, impl_MergeLabels.c0, h1]
    try rfl
theorem impl_MergeLabels.w : ∀ k, impl_MergeLabels.P0 k := by
  intro k
  induction k with
  | zero => exact by intro l0 l1 l2 x9 x10 x31 x32 r H; cases (show (none : Option ((List S33) × (List Int) × Bool)) = some r from H)
  | succ k ih => exact impl_MergeLabels.s0 k ih
set_option maxHeartbeats 4000000 in
theorem impl_MergeLabels.link {k : Nat} {l0 : List S33} {l1 : List S33} {l2 : List S33} {r : (List S33) × (List Int) × Bool} (H : impl_MergeLabels.f k l0 l1 l2 = some r) : callW env 9 [.deep false true 2 (l0.map e33), .deep false true 2 (l1.map e33), .deep false true 2 (l2.map e33)] = some ([.deep false false 2 (r.1.map e33), .deep false false 1 (r.2.1.map eI), .b r.2.2], [none, none, none]) := by
  unfold impl_MergeLabels.f at H
  refine callW_fn' (F := impl_MergeLabels.F) (tm := tmOf [(0, .slc 0 [] 0 2 0 l0.length), (1, .slc 1 [] 0 2 0 l1.length), (2, .slc 2 [] 0 2 0 l2.length)]) (rs := rsL [(0, some ⟨false, 2, 0, (l0.map e33)⟩), (1, some ⟨false, 2, 0, (l1.map e33)⟩), (2, some ⟨false, 2, 0, (l2.map e33)⟩)]) (nx := 3) (ow := [false, false, false]) rfl (by rfl) (by simp only [SN]) (by simp only [SN]) (by decide) ?_
  show W env impl_MergeLabels.B _ (Qf [.t 6, .t 7, .t 8] [false, false, false] _)
  unfold impl_MergeLabels.B
  obtain ⟨t1, e1, H⟩ := bnd_some H
  have e1 := impl_SameShape.link e1
  try simp only [TN, ↓reduceIte, Nat.reduceEqDiff, Nat.reduceAdd, Nat.reduceMul, Nat.reduceSub, Nat.reduceLeDiff, Nat.reduceLT, Nat.reduceBEq, Nat.reduceBNe, Int.reduceLE, Int.reduceLT, Int.reduceEq, Int.reduceToNat, ne_eq, not_false_eq_true, not_true_eq_false, reduceCtorEq, and_self, eq_self, impl_MergeLabels.c0, e1]
  rcases ite_b H with ⟨h2, H⟩ | ⟨h2, H⟩
  · skip
    obtain ⟨t2, e3, H⟩ := bnd_some H
    have e3 := impl_SameShape.link e3
    try simp only [TN, ↓reduceIte, Nat.reduceEqDiff, Nat.reduceAdd, Nat.reduceMul, Nat.reduceSub, Nat.reduceLeDiff, Nat.reduceLT, Nat.reduceBEq, Nat.reduceBNe, Int.reduceLE, Int.reduceLT, Int.reduceEq, Int.reduceToNat, ne_eq, not_false_eq_true, not_true_eq_false, reduceCtorEq, and_self, eq_self, impl_MergeLabels.c0, e1, h2, e3]
    rcases ite_b H with ⟨h4, H⟩ | ⟨h4, H⟩
    · skip
      obtain ⟨t3, e5, H⟩ := bnd_some H
      have e5 := slices_Clone_impl_Node_impl_Node.link e5
      try simp only [TN, ↓reduceIte, Nat.reduceEqDiff, Nat.reduceAdd, Nat.reduceMul, Nat.reduceSub, Nat.reduceLeDiff, Nat.reduceLT, Nat.reduceBEq, Nat.reduceBNe, Int.reduceLE, Int.reduceLT, Int.reduceEq, Int.reduceToNat, ne_eq, not_false_eq_true, not_true_eq_false, reduceCtorEq, and_self, eq_self, impl_MergeLabels.c0, e1, h2, e3, h4, e5]
      refine (impl_MergeLabels.w k) _ _ _ _ _ _ _ _ H _ ?_
      first | (rw [canon_eq]; done) | (rw [canon_eq]; rfl) | (rw [canon_eq]; simp only [List.length_set, List.length_append, List.length_replicate]; rfl)
    · skip
      injection H with H; subst H
      try simp only [TN, ↓reduceIte, Nat.reduceEqDiff, Nat.reduceAdd, Nat.reduceMul, Nat.reduceSub, Nat.reduceLeDiff, Nat.reduceLT, Nat.reduceBEq, Nat.reduceBNe, Int.reduceLE, Int.reduceLT, Int.reduceEq, Int.reduceToNat, ne_eq, not_false_eq_true, not_true_eq_false, reduceCtorEq, and_self, eq_self, impl_MergeLabels.c0, e1, h2, e3, h4]
      try rfl
  · skip
    injection H with H; subst H
    try simp only [TN, ↓reduceIte, Nat.reduceEqDiff, Nat.reduceAdd, Nat.reduceMul, Nat.reduceSub, Nat.reduceLeDiff, Nat.reduceLT, Nat.reduceBEq, Nat.reduceBNe, Int.reduceLE, Int.reduceLT, Int.reduceEq, Int.reduceToNat, ne_eq, not_false_eq_true, not_true_eq_false, reduceCtorEq, and_self, eq_self, impl_MergeLabels.c0, e1, h2]
    try rfl
end Go.Proofs.Ythccagmifnipdaa.P
end YthccagmifnipdaaL9
section YthccagmifnipdaaL42
namespace Go.Proofs.Ythccagmifnipdaa.P
open Go Go.RowKit Go.Proofs.Ythccagmifnipdaa.V
set_option linter.unusedVariables false
set_option linter.unusedSimpArgs false
set_option linter.all false
set_option maxRecDepth 100000
/-! ### spec_l7Same: function 42 -/
def spec_l7Same.l0 : Nat → (List Int) → (List Int) → Int → Option Bool
 | 0, _, _, _ => none
 | k + 1, l0, l1, x5 => if x5 < (l0.length : Int) then (if 0 ≤ x5 then (if x5 < (l1.length : Int) then (if (rd l0 x5) = (rd l1 x5) then (spec_l7Same.l0 k l0 l1 (wrap64 (x5 + 1))) else (some false)) else none) else none) else (some true)
def spec_l7Same.f (k : Nat) (l0 : List Int) (l1 : List Int) : Option Bool := if (l0.length : Int) = (l1.length : Int) then (spec_l7Same.l0 k l0 l1 0) else (some false)
def spec_l7Same.P0 (k : Nat) : Prop := ∀ (l0 : List Int) (l1 : List Int) (x5 : Int) (r : Bool), spec_l7Same.l0 k l0 l1 x5 = some r → ∀ st, canon 2 [0, 1, 5] st = ⟨tmOf [(0, .slc 0 [] 0 1 0 l0.length), (1, .slc 1 [] 0 1 0 l1.length), (5, .i .i64 x5)], rsL [(0, some ⟨false, 1, 0, (l0.map eI)⟩), (1, some ⟨false, 1, 0, (l1.map eI)⟩)], 2⟩ → W env spec_l7Same.c1 st (Qb 0 (Qs env spec_l7Same.c0 (Qf [.t 4] [false, false] ([.b r], [none, none]))))
set_option maxHeartbeats 4000000 in
theorem spec_l7Same.s0 (k : Nat) (ih : spec_l7Same.P0 k) : spec_l7Same.P0 (k + 1) := by
  intro l0 l1 x5 r H st hst
  rw [spec_l7Same.l0] at H
  rw [W_loopc (show spec_l7Same.c1 = C.loop 2 [0, 1, 5] spec_l7Same.d1 from rfl), hst]
  unfold spec_l7Same.d1
  try simp only [TN, ↓reduceIte, Nat.reduceEqDiff, Nat.reduceAdd, Nat.reduceMul, Nat.reduceSub, Nat.reduceLeDiff, Nat.reduceLT, Nat.reduceBEq, Nat.reduceBNe, Int.reduceLE, Int.reduceLT, Int.reduceEq, Int.reduceToNat, ne_eq, not_false_eq_true, not_true_eq_false, reduceCtorEq, and_self, eq_self, spec_l7Same.c0]
  rcases ite_or H with ⟨h1, H⟩ | ⟨h1, H⟩
  · skip
    obtain ⟨h2, H⟩ := ite_no H
    obtain ⟨h3, H⟩ := ite_no H
    try simp only [TN, ↓reduceIte, Nat.reduceEqDiff, Nat.reduceAdd, Nat.reduceMul, Nat.reduceSub, Nat.reduceLeDiff, Nat.reduceLT, Nat.reduceBEq, Nat.reduceBNe, Int.reduceLE, Int.reduceLT, Int.reduceEq, Int.reduceToNat, ne_eq, not_false_eq_true, not_true_eq_false, reduceCtorEq, and_self, eq_self, spec_l7Same.c0, h1, h2, h3]
    rcases ite_or H with ⟨h4, H⟩ | ⟨h4, H⟩
    · skip
      try simp only [TN, ↓reduceIte, Nat.reduceEqDiff, Nat.reduceAdd, Nat.reduceMul, Nat.reduceSub, Nat.reduceLeDiff, Nat.reduceLT, Nat.reduceBEq, Nat.reduceBNe, Int.reduceLE, Int.reduceLT, Int.reduceEq, Int.reduceToNat, ne_eq, not_false_eq_true, not_true_eq_false, reduceCtorEq, and_self, eq_self, spec_l7Same.c0, h1, h2, h3, eq_true h4]
      refine ih _ _ _ _ H _ ?_
      first | (rw [canon_eq]; done) | (rw [canon_eq]; rfl) | (rw [canon_eq]; simp only [List.length_set, List.length_append, List.length_replicate]; rfl)
    · skip
      injection H with H; subst H
      try simp only [TN, ↓reduceIte, Nat.reduceEqDiff, Nat.reduceAdd, Nat.reduceMul, Nat.reduceSub, Nat.reduceLeDiff, Nat.reduceLT, Nat.reduceBEq, Nat.reduceBNe, Int.reduceLE, Int.reduceLT, Int.reduceEq, Int.reduceToNat, ne_eq, not_false_eq_true, not_true_eq_false, reduceCtorEq, and_self, eq_self, spec_l7Same.c0, h1, h2, h3, h4]
      try rfl
  · skip
    injection H with H; subst H
    try simp only [TN, ↓reduceIte, Nat.reduceEqDiff, Nat.reduceAdd, Nat.reduceMul, Nat.reduceSub, Nat.reduceLeDiff, Nat.reduceLT, Nat.reduceBEq, Nat.reduceBNe, Int.reduceLE, Int.reduceLT, Int.reduceEq, Int.reduceToNat, ne_eq, not_false_eq_true, not_true_eq_false, reduceCtorEq, and_self, eq_self, spec_l7Same.c0, h1]
    try rfl
theorem spec_l7Same.w : ∀ k, spec_l7Same.P0 k := by
  intro k
  induction k with
  | zero => exact by intro l0 l1 x5 r H; cases (show (none : Option Bool) = some r from H)
  | succ k ih => exact spec_l7Same.s0 k ih
set_option maxHeartbeats 4000000 in
theorem spec_l7Same.link {k : Nat} {l0 : List Int} {l1 : List Int} {r : Bool} (H : spec_l7Same.f k l0 l1 = some r) : callW env 42 [.deep false true 1 (l0.map eI), .deep false true 1 (l1.map eI)] = some ([.b r], [none, none]) := by
  unfold spec_l7Same.f at H
  refine callW_fn' (F := spec_l7Same.F) (tm := tmOf [(0, .slc 0 [] 0 1 0 l0.length), (1, .slc 1 [] 0 1 0 l1.length)]) (rs := rsL [(0, some ⟨false, 1, 0, (l0.map eI)⟩), (1, some ⟨false, 1, 0, (l1.map eI)⟩)]) (nx := 2) (ow := [false, false]) rfl (by rfl) (by simp only [SN]) (by simp only [SN]) (by decide) ?_
  show W env spec_l7Same.B _ (Qf [.t 4] [false, false] _)
  unfold spec_l7Same.B
  try simp only [TN, ↓reduceIte, Nat.reduceEqDiff, Nat.reduceAdd, Nat.reduceMul, Nat.reduceSub, Nat.reduceLeDiff, Nat.reduceLT, Nat.reduceBEq, Nat.reduceBNe, Int.reduceLE, Int.reduceLT, Int.reduceEq, Int.reduceToNat, ne_eq, not_false_eq_true, not_true_eq_false, reduceCtorEq, and_self, eq_self, spec_l7Same.c0]
  rcases ite_or H with ⟨h1, H⟩ | ⟨h1, H⟩
  · skip
    try simp only [TN, ↓reduceIte, Nat.reduceEqDiff, Nat.reduceAdd, Nat.reduceMul, Nat.reduceSub, Nat.reduceLeDiff, Nat.reduceLT, Nat.reduceBEq, Nat.reduceBNe, Int.reduceLE, Int.reduceLT, Int.reduceEq, Int.reduceToNat, ne_eq, not_false_eq_true, not_true_eq_false, reduceCtorEq, and_self, eq_self, spec_l7Same.c0, eq_true h1]
    refine (spec_l7Same.w k) _ _ _ _ H _ ?_
    first | (rw [canon_eq]; done) | (rw [canon_eq]; rfl) | (rw [canon_eq]; simp only [List.length_set, List.length_append, List.length_replicate]; rfl)
  · skip
    injection H with H; subst H
    try simp only [TN, ↓reduceIte, Nat.reduceEqDiff, Nat.reduceAdd, Nat.reduceMul, Nat.reduceSub, Nat.reduceLeDiff, Nat.reduceLT, Nat.reduceBEq, Nat.reduceBNe, Int.reduceLE, Int.reduceLT, Int.reduceEq, Int.reduceToNat, ne_eq, not_false_eq_true, not_true_eq_false, reduceCtorEq, and_self, eq_self, spec_l7Same.c0, h1]
    try rfl
end Go.Proofs.Ythccagmifnipdaa.P
end YthccagmifnipdaaL42
section YthccagmifnipdaaL43
namespace Go.Proofs.Ythccagmifnipdaa.P
open Go Go.RowKit Go.Proofs.Ythccagmifnipdaa.V
set_option linter.unusedVariables false
set_option linter.unusedSimpArgs false
set_option linter.all false
set_option maxRecDepth 100000
/-! ### spec_Depths: function 43 -/
def spec_Depths.l0 : Nat → (List S33) → (List Int) → Int → Option (List Int)
 | 0, _, _, _ => none
 | k + 1, l0, x3, x4 => if x4 < (l0.length : Int) then (if 0 ≤ x4 then (if x3.length < 17592186044416 then (spec_Depths.l0 k l0 (x3 ++ ([(rd_T33 l0 x4).f1])) (wrap64 (x4 + 1))) else none) else none) else (some x3)
def spec_Depths.f (k : Nat) (l0 : List S33) : Option (List Int) := spec_Depths.l0 k l0 ([] : List Int) 0
def spec_Depths.P0 (k : Nat) : Prop := ∀ (l0 : List S33) (x3 : List Int) (x4 : Int) (r : (List Int)), spec_Depths.l0 k l0 x3 x4 = some r → ∀ st, canon 1 [0, 3, 4] st = ⟨tmOf [(0, .slc 0 [] 0 2 0 l0.length), (3, .slc 1 [] 0 1 0 x3.length), (4, .i .i64 x4)], rsL [(0, some ⟨false, 2, 0, (l0.map e33)⟩), (1, some ⟨true, 1, 0, (x3.map eI)⟩)], 2⟩ → W env spec_Depths.c1 st (Qb 0 (Qs env spec_Depths.c0 (Qf [.t 2] [false] ([.deep false false 1 (r.map eI)], [none]))))
set_option maxHeartbeats 4000000 in
theorem spec_Depths.s0 (k : Nat) (ih : spec_Depths.P0 k) : spec_Depths.P0 (k + 1) := by
  intro l0 x3 x4 r H st hst
  rw [spec_Depths.l0] at H
  rw [W_loopc (show spec_Depths.c1 = C.loop 1 [0, 3, 4] spec_Depths.d1 from rfl), hst]
  unfold spec_Depths.d1
  try simp only [TN, ↓reduceIte, Nat.reduceEqDiff, Nat.reduceAdd, Nat.reduceMul, Nat.reduceSub, Nat.reduceLeDiff, Nat.reduceLT, Nat.reduceBEq, Nat.reduceBNe, Int.reduceLE, Int.reduceLT, Int.reduceEq, Int.reduceToNat, ne_eq, not_false_eq_true, not_true_eq_false, reduceCtorEq, and_self, eq_self, spec_Depths.c0]
  rcases ite_or H with ⟨h1, H⟩ | ⟨h1, H⟩
  · skip
    obtain ⟨h2, H⟩ := ite_no H
    obtain ⟨h3, H⟩ := ite_no H
    have h4 : (x3.length + 1) * 8 ≤ 140737488355328 := by omega
    try simp only [TN, ↓reduceIte, Nat.reduceEqDiff, Nat.reduceAdd, Nat.reduceMul, Nat.reduceSub, Nat.reduceLeDiff, Nat.reduceLT, Nat.reduceBEq, Nat.reduceBNe, Int.reduceLE, Int.reduceLT, Int.reduceEq, Int.reduceToNat, ne_eq, not_false_eq_true, not_true_eq_false, reduceCtorEq, and_self, eq_self, spec_Depths.c0, h1, h2, h3, h4]
    refine ih _ _ _ _ H _ ?_
    first | (rw [canon_eq]; done) | (rw [canon_eq]; rfl) | (rw [canon_eq]; simp only [List.length_set, List.length_append, List.length_replicate]; rfl)
  · skip
    injection H with H; subst H
    try simp only [TN, ↓reduceIte, Nat.reduceEqDiff, Nat.reduceAdd, Nat.reduceMul, Nat.reduceSub, Nat.reduceLeDiff, Nat.reduceLT, Nat.reduceBEq, Nat.reduceBNe, Int.reduceLE, Int.reduceLT, Int.reduceEq, Int.reduceToNat, ne_eq, not_false_eq_true, not_true_eq_false, reduceCtorEq, and_self, eq_self, spec_Depths.c0, h1]
    try rfl
theorem spec_Depths.w : ∀ k, spec_Depths.P0 k := by
  intro k
  induction k with
  | zero => exact by intro l0 x3 x4 r H; cases (show (none : Option (List Int)) = some r from H)
  | succ k ih => exact spec_Depths.s0 k ih
set_option maxHeartbeats 4000000 in
theorem spec_Depths.link {k : Nat} {l0 : List S33} {r : (List Int)} (H : spec_Depths.f k l0 = some r) : callW env 43 [.deep false true 2 (l0.map e33)] = some ([.deep false false 1 (r.map eI)], [none]) := by
  unfold spec_Depths.f at H
  refine callW_fn' (F := spec_Depths.F) (tm := tmOf [(0, .slc 0 [] 0 2 0 l0.length)]) (rs := rsL [(0, some ⟨false, 2, 0, (l0.map e33)⟩)]) (nx := 1) (ow := [false]) rfl (by rfl) (by simp only [SN]) (by simp only [SN]) (by decide) ?_
  show W env spec_Depths.B _ (Qf [.t 2] [false] _)
  unfold spec_Depths.B
  try simp only [TN, ↓reduceIte, Nat.reduceEqDiff, Nat.reduceAdd, Nat.reduceMul, Nat.reduceSub, Nat.reduceLeDiff, Nat.reduceLT, Nat.reduceBEq, Nat.reduceBNe, Int.reduceLE, Int.reduceLT, Int.reduceEq, Int.reduceToNat, ne_eq, not_false_eq_true, not_true_eq_false, reduceCtorEq, and_self, eq_self, spec_Depths.c0]
  refine (spec_Depths.w k) _ _ _ _ H _ ?_
  first | (rw [canon_eq]; done) | (rw [canon_eq]; rfl) | (rw [canon_eq]; simp only [List.length_set, List.length_append, List.length_replicate]; rfl)
end Go.Proofs.Ythccagmifnipdaa.P
end YthccagmifnipdaaL43
section YthccagmifnipdaaL10
namespace Go.Proofs.Ythccagmifnipdaa.P
open Go Go.RowKit Go.Proofs.Ythccagmifnipdaa.V
set_option linter.unusedVariables false
set_option linter.unusedSimpArgs false
set_option linter.all false
set_option maxRecDepth 100000
/-! ### spec_SameShape: function 10 -/
def spec_SameShape.f (k : Nat) (l0 : List S33) (l1 : List S33) : Option Bool := (spec_TreeOk.f k l0).bind fun t1 => (if t1 = true then ((spec_TreeOk.f k l1).bind fun t2 => (if t2 = true then ((spec_Depths.f k l0).bind fun t3 => ((spec_Depths.f k l1).bind fun t4 => ((spec_l7Same.f k t3 t4).bind fun t5 => (some t5)))) else (some false))) else (some false))
set_option maxHeartbeats 4000000 in
theorem spec_SameShape.link {k : Nat} {l0 : List S33} {l1 : List S33} {r : Bool} (H : spec_SameShape.f k l0 l1 = some r) : callW env 10 [.deep false true 2 (l0.map e33), .deep false true 2 (l1.map e33)] = some ([.b r], [none, none]) := by
  unfold spec_SameShape.f at H
  refine callW_fn' (F := spec_SameShape.F) (tm := tmOf [(0, .slc 0 [] 0 2 0 l0.length), (1, .slc 1 [] 0 2 0 l1.length)]) (rs := rsL [(0, some ⟨false, 2, 0, (l0.map e33)⟩), (1, some ⟨false, 2, 0, (l1.map e33)⟩)]) (nx := 2) (ow := [false, false]) rfl (by rfl) (by simp only [SN]) (by simp only [SN]) (by decide) ?_
  show W env spec_SameShape.B _ (Qf [.t 4] [false, false] _)
  unfold spec_SameShape.B
  obtain ⟨t1, e1, H⟩ := bnd_some H
  have e1 := spec_TreeOk.link e1
  try simp only [TN, ↓reduceIte, Nat.reduceEqDiff, Nat.reduceAdd, Nat.reduceMul, Nat.reduceSub, Nat.reduceLeDiff, Nat.reduceLT, Nat.reduceBEq, Nat.reduceBNe, Int.reduceLE, Int.reduceLT, Int.reduceEq, Int.reduceToNat, ne_eq, not_false_eq_true, not_true_eq_false, reduceCtorEq, and_self, eq_self, e1]
  rcases ite_b H with ⟨h2, H⟩ | ⟨h2, H⟩
  · skip
    obtain ⟨t2, e3, H⟩ := bnd_some H
    have e3 := spec_TreeOk.link e3
    try simp only [TN, ↓reduceIte, Nat.reduceEqDiff, Nat.reduceAdd, Nat.reduceMul, Nat.reduceSub, Nat.reduceLeDiff, Nat.reduceLT, Nat.reduceBEq, Nat.reduceBNe, Int.reduceLE, Int.reduceLT, Int.reduceEq, Int.reduceToNat, ne_eq, not_false_eq_true, not_true_eq_false, reduceCtorEq, and_self, eq_self, e1, h2, e3]
    rcases ite_b H with ⟨h4, H⟩ | ⟨h4, H⟩
    · skip
      obtain ⟨t3, e5, H⟩ := bnd_some H
      have e5 := spec_Depths.link e5
      obtain ⟨t4, e6, H⟩ := bnd_some H
      have e6 := spec_Depths.link e6
      obtain ⟨t5, e7, H⟩ := bnd_some H
      have e7 := spec_l7Same.link e7
      injection H with H; subst H
      try simp only [TN, ↓reduceIte, Nat.reduceEqDiff, Nat.reduceAdd, Nat.reduceMul, Nat.reduceSub, Nat.reduceLeDiff, Nat.reduceLT, Nat.reduceBEq, Nat.reduceBNe, Int.reduceLE, Int.reduceLT, Int.reduceEq, Int.reduceToNat, ne_eq, not_false_eq_true, not_true_eq_false, reduceCtorEq, and_self, eq_self, e1, h2, e3, h4, e5, e6, e7]
      try rfl
    · skip
      injection H with H; subst H
      try simp only [TN, ↓reduceIte, Nat.reduceEqDiff, Nat.reduceAdd, Nat.reduceMul, Nat.reduceSub, Nat.reduceLeDiff, Nat.reduceLT, Nat.reduceBEq, Nat.reduceBNe, Int.reduceLE, Int.reduceLT, Int.reduceEq, Int.reduceToNat, ne_eq, not_false_eq_true, not_true_eq_false, reduceCtorEq, and_self, eq_self, e1, h2, e3, h4]
      try rfl
  · skip
    injection H with H; subst H
    try simp only [TN, ↓reduceIte, Nat.reduceEqDiff, Nat.reduceAdd, Nat.reduceMul, Nat.reduceSub, Nat.reduceLeDiff, Nat.reduceLT, Nat.reduceBEq, Nat.reduceBNe, Int.reduceLE, Int.reduceLT, Int.reduceEq, Int.reduceToNat, ne_eq, not_false_eq_true, not_true_eq_false, reduceCtorEq, and_self, eq_self, e1, h2]
    try rfl
end Go.Proofs.Ythccagmifnipdaa.P
end YthccagmifnipdaaL10
section YthccagmifnipdaaL11
namespace Go.Proofs.Ythccagmifnipdaa.P
open Go Go.RowKit Go.Proofs.Ythccagmifnipdaa.V
set_option linter.unusedVariables false
set_option linter.unusedSimpArgs false
set_option linter.all false
set_option maxRecDepth 100000
/-! ### laws_sameInts: function 11 -/
def laws_sameInts.l0 : Nat → (List Int) → (List Int) → Int → Option Bool
 | 0, _, _, _ => none
 | k + 1, l0, l1, x5 => if x5 < (l0.length : Int) then (if 0 ≤ x5 then (if x5 < (l1.length : Int) then (if (rd l0 x5) = (rd l1 x5) then (laws_sameInts.l0 k l0 l1 (wrap64 (x5 + 1))) else (some false)) else none) else none) else (some true)
def laws_sameInts.f (k : Nat) (l0 : List Int) (l1 : List Int) : Option Bool := if (l0.length : Int) = (l1.length : Int) then (laws_sameInts.l0 k l0 l1 0) else (some false)
def laws_sameInts.P0 (k : Nat) : Prop := ∀ (l0 : List Int) (l1 : List Int) (x5 : Int) (r : Bool), laws_sameInts.l0 k l0 l1 x5 = some r → ∀ st, canon 2 [0, 1, 5] st = ⟨tmOf [(0, .slc 0 [] 0 1 0 l0.length), (1, .slc 1 [] 0 1 0 l1.length), (5, .i .i64 x5)], rsL [(0, some ⟨false, 1, 0, (l0.map eI)⟩), (1, some ⟨false, 1, 0, (l1.map eI)⟩)], 2⟩ → W env laws_sameInts.c1 st (Qb 0 (Qs env laws_sameInts.c0 (Qf [.t 4] [false, false] ([.b r], [none, none]))))
set_option maxHeartbeats 4000000 in
theorem laws_sameInts.s0 (k : Nat) (ih : laws_sameInts.P0 k) : laws_sameInts.P0 (k + 1) := by
  intro l0 l1 x5 r H st hst
  rw [laws_sameInts.l0] at H
  rw [W_loopc (show laws_sameInts.c1 = C.loop 2 [0, 1, 5] laws_sameInts.d1 from rfl), hst]
  unfold laws_sameInts.d1
  try simp only [TN, ↓reduceIte, Nat.reduceEqDiff, Nat.reduceAdd, Nat.reduceMul, Nat.reduceSub, Nat.reduceLeDiff, Nat.reduceLT, Nat.reduceBEq, Nat.reduceBNe, Int.reduceLE, Int.reduceLT, Int.reduceEq, Int.reduceToNat, ne_eq, not_false_eq_true, not_true_eq_false, reduceCtorEq, and_self, eq_self, laws_sameInts.c0]
  rcases ite_or H with ⟨h1, H⟩ | ⟨h1, H⟩
  · skip
    obtain ⟨h2, H⟩ := ite_no H
    obtain ⟨h3, H⟩ := ite_no H
    try simp only [TN, ↓reduceIte, Nat.reduceEqDiff, Nat.reduceAdd, Nat.reduceMul, Nat.reduceSub, Nat.reduceLeDiff, Nat.reduceLT, Nat.reduceBEq, Nat.reduceBNe, Int.reduceLE, Int.reduceLT, Int.reduceEq, Int.reduceToNat, ne_eq, not_false_eq_true, not_true_eq_false, reduceCtorEq, and_self, eq_self, laws_sameInts.c0, h1, h2, h3]
    rcases ite_or H with ⟨h4, H⟩ | ⟨h4, H⟩
    · skip
      try simp only [TN, ↓reduceIte, Nat.reduceEqDiff, Nat.reduceAdd, Nat.reduceMul, Nat.reduceSub, Nat.reduceLeDiff, Nat.reduceLT, Nat.reduceBEq, Nat.reduceBNe, Int.reduceLE, Int.reduceLT, Int.reduceEq, Int.reduceToNat, ne_eq, not_false_eq_true, not_true_eq_false, reduceCtorEq, and_self, eq_self, laws_sameInts.c0, h1, h2, h3, eq_true h4]
      refine ih _ _ _ _ H _ ?_
      first | (rw [canon_eq]; done) | (rw [canon_eq]; rfl) | (rw [canon_eq]; simp only [List.length_set, List.length_append, List.length_replicate]; rfl)
    · skip
      injection H with H; subst H
      try simp only [TN, ↓reduceIte, Nat.reduceEqDiff, Nat.reduceAdd, Nat.reduceMul, Nat.reduceSub, Nat.reduceLeDiff, Nat.reduceLT, Nat.reduceBEq, Nat.reduceBNe, Int.reduceLE, Int.reduceLT, Int.reduceEq, Int.reduceToNat, ne_eq, not_false_eq_true, not_true_eq_false, reduceCtorEq, and_self, eq_self, laws_sameInts.c0, h1, h2, h3, h4]
      try rfl
  · skip
    injection H with H; subst H
    try simp only [TN, ↓reduceIte, Nat.reduceEqDiff, Nat.reduceAdd, Nat.reduceMul, Nat.reduceSub, Nat.reduceLeDiff, Nat.reduceLT, Nat.reduceBEq, Nat.reduceBNe, Int.reduceLE, Int.reduceLT, Int.reduceEq, Int.reduceToNat, ne_eq, not_false_eq_true, not_true_eq_false, reduceCtorEq, and_self, eq_self, laws_sameInts.c0, h1]
    try rfl
theorem laws_sameInts.w : ∀ k, laws_sameInts.P0 k := by
  intro k
  induction k with
  | zero => exact by intro l0 l1 x5 r H; cases (show (none : Option Bool) = some r from H)
  | succ k ih => exact laws_sameInts.s0 k ih
set_option maxHeartbeats 4000000 in
theorem laws_sameInts.link {k : Nat} {l0 : List Int} {l1 : List Int} {r : Bool} (H : laws_sameInts.f k l0 l1 = some r) : callW env 11 [.deep false true 1 (l0.map eI), .deep false true 1 (l1.map eI)] = some ([.b r], [none, none]) := by
  unfold laws_sameInts.f at H
  refine callW_fn' (F := laws_sameInts.F) (tm := tmOf [(0, .slc 0 [] 0 1 0 l0.length), (1, .slc 1 [] 0 1 0 l1.length)]) (rs := rsL [(0, some ⟨false, 1, 0, (l0.map eI)⟩), (1, some ⟨false, 1, 0, (l1.map eI)⟩)]) (nx := 2) (ow := [false, false]) rfl (by rfl) (by simp only [SN]) (by simp only [SN]) (by decide) ?_
  show W env laws_sameInts.B _ (Qf [.t 4] [false, false] _)
  unfold laws_sameInts.B
  try simp only [TN, ↓reduceIte, Nat.reduceEqDiff, Nat.reduceAdd, Nat.reduceMul, Nat.reduceSub, Nat.reduceLeDiff, Nat.reduceLT, Nat.reduceBEq, Nat.reduceBNe, Int.reduceLE, Int.reduceLT, Int.reduceEq, Int.reduceToNat, ne_eq, not_false_eq_true, not_true_eq_false, reduceCtorEq, and_self, eq_self, laws_sameInts.c0]
  rcases ite_or H with ⟨h1, H⟩ | ⟨h1, H⟩
  · skip
    try simp only [TN, ↓reduceIte, Nat.reduceEqDiff, Nat.reduceAdd, Nat.reduceMul, Nat.reduceSub, Nat.reduceLeDiff, Nat.reduceLT, Nat.reduceBEq, Nat.reduceBNe, Int.reduceLE, Int.reduceLT, Int.reduceEq, Int.reduceToNat, ne_eq, not_false_eq_true, not_true_eq_false, reduceCtorEq, and_self, eq_self, laws_sameInts.c0, eq_true h1]
    refine (laws_sameInts.w k) _ _ _ _ H _ ?_
    first | (rw [canon_eq]; done) | (rw [canon_eq]; rfl) | (rw [canon_eq]; simp only [List.length_set, List.length_append, List.length_replicate]; rfl)
  · skip
    injection H with H; subst H
    try simp only [TN, ↓reduceIte, Nat.reduceEqDiff, Nat.reduceAdd, Nat.reduceMul, Nat.reduceSub, Nat.reduceLeDiff, Nat.reduceLT, Nat.reduceBEq, Nat.reduceBNe, Int.reduceLE, Int.reduceLT, Int.reduceEq, Int.reduceToNat, ne_eq, not_false_eq_true, not_true_eq_false, reduceCtorEq, and_self, eq_self, laws_sameInts.c0, h1]
    try rfl
end Go.Proofs.Ythccagmifnipdaa.P
end YthccagmifnipdaaL11
section YthccagmifnipdaaL12
namespace Go.Proofs.Ythccagmifnipdaa.P
open Go Go.RowKit Go.Proofs.Ythccagmifnipdaa.V
set_option linter.unusedVariables false
set_option linter.unusedSimpArgs false
set_option linter.all false
set_option maxRecDepth 100000
/-! ### laws_has: function 12 -/
def laws_has.l0 : Nat → (List Int) → Int → Int → Option Bool
 | 0, _, _, _ => none
 | k + 1, l0, a1, x5 => if x5 < (l0.length : Int) then (if 0 ≤ x5 then (if (rd l0 x5) = a1 then (some true) else (laws_has.l0 k l0 a1 (wrap64 (x5 + 1)))) else none) else (some false)
def laws_has.f (k : Nat) (l0 : List Int) (a1 : Int) : Option Bool := laws_has.l0 k l0 a1 0
def laws_has.P0 (k : Nat) : Prop := ∀ (l0 : List Int) (a1 : Int) (x5 : Int) (r : Bool), laws_has.l0 k l0 a1 x5 = some r → ∀ st, canon 1 [0, 1, 5] st = ⟨tmOf [(0, .slc 0 [] 0 1 0 l0.length), (1, .i .i64 a1), (5, .i .i64 x5)], rsL [(0, some ⟨false, 1, 0, (l0.map eI)⟩)], 1⟩ → W env laws_has.c1 st (Qb 0 (Qs env laws_has.c0 (Qf [.t 4] [false] ([.b r], [none]))))
set_option maxHeartbeats 4000000 in
theorem laws_has.s0 (k : Nat) (ih : laws_has.P0 k) : laws_has.P0 (k + 1) := by
  intro l0 a1 x5 r H st hst
  rw [laws_has.l0] at H
  rw [W_loopc (show laws_has.c1 = C.loop 1 [0, 1, 5] laws_has.d1 from rfl), hst]
  unfold laws_has.d1
  try simp only [TN, ↓reduceIte, Nat.reduceEqDiff, Nat.reduceAdd, Nat.reduceMul, Nat.reduceSub, Nat.reduceLeDiff, Nat.reduceLT, Nat.reduceBEq, Nat.reduceBNe, Int.reduceLE, Int.reduceLT, Int.reduceEq, Int.reduceToNat, ne_eq, not_false_eq_true, not_true_eq_false, reduceCtorEq, and_self, eq_self, laws_has.c0]
  rcases ite_or H with ⟨h1, H⟩ | ⟨h1, H⟩
  · skip
    obtain ⟨h2, H⟩ := ite_no H
    try simp only [TN, ↓reduceIte, Nat.reduceEqDiff, Nat.reduceAdd, Nat.reduceMul, Nat.reduceSub, Nat.reduceLeDiff, Nat.reduceLT, Nat.reduceBEq, Nat.reduceBNe, Int.reduceLE, Int.reduceLT, Int.reduceEq, Int.reduceToNat, ne_eq, not_false_eq_true, not_true_eq_false, reduceCtorEq, and_self, eq_self, laws_has.c0, h1, h2]
    rcases ite_or H with ⟨h3, H⟩ | ⟨h3, H⟩
    · skip
      injection H with H; subst H
      try simp only [TN, ↓reduceIte, Nat.reduceEqDiff, Nat.reduceAdd, Nat.reduceMul, Nat.reduceSub, Nat.reduceLeDiff, Nat.reduceLT, Nat.reduceBEq, Nat.reduceBNe, Int.reduceLE, Int.reduceLT, Int.reduceEq, Int.reduceToNat, ne_eq, not_false_eq_true, not_true_eq_false, reduceCtorEq, and_self, eq_self, laws_has.c0, h1, h2, eq_true h3]
      try rfl
    · skip
      try simp only [TN, ↓reduceIte, Nat.reduceEqDiff, Nat.reduceAdd, Nat.reduceMul, Nat.reduceSub, Nat.reduceLeDiff, Nat.reduceLT, Nat.reduceBEq, Nat.reduceBNe, Int.reduceLE, Int.reduceLT, Int.reduceEq, Int.reduceToNat, ne_eq, not_false_eq_true, not_true_eq_false, reduceCtorEq, and_self, eq_self, laws_has.c0, h1, h2, h3]
      refine ih _ _ _ _ H _ ?_
      first | (rw [canon_eq]; done) | (rw [canon_eq]; rfl) | (rw [canon_eq]; simp only [List.length_set, List.length_append, List.length_replicate]; rfl)
  · skip
    injection H with H; subst H
    try simp only [TN, ↓reduceIte, Nat.reduceEqDiff, Nat.reduceAdd, Nat.reduceMul, Nat.reduceSub, Nat.reduceLeDiff, Nat.reduceLT, Nat.reduceBEq, Nat.reduceBNe, Int.reduceLE, Int.reduceLT, Int.reduceEq, Int.reduceToNat, ne_eq, not_false_eq_true, not_true_eq_false, reduceCtorEq, and_self, eq_self, laws_has.c0, h1]
    try rfl
theorem laws_has.w : ∀ k, laws_has.P0 k := by
  intro k
  induction k with
  | zero => exact by intro l0 a1 x5 r H; cases (show (none : Option Bool) = some r from H)
  | succ k ih => exact laws_has.s0 k ih
set_option maxHeartbeats 4000000 in
theorem laws_has.link {k : Nat} {l0 : List Int} {a1 : Int} {r : Bool} (H : laws_has.f k l0 a1 = some r) : callW env 12 [.deep false true 1 (l0.map eI), .i .i64 a1] = some ([.b r], [none]) := by
  unfold laws_has.f at H
  refine callW_fn' (F := laws_has.F) (tm := tmOf [(0, .slc 0 [] 0 1 0 l0.length), (1, .i .i64 a1)]) (rs := rsL [(0, some ⟨false, 1, 0, (l0.map eI)⟩)]) (nx := 1) (ow := [false]) rfl (by rfl) (by simp only [SN]) (by simp only [SN]) (by decide) ?_
  show W env laws_has.B _ (Qf [.t 4] [false] _)
  unfold laws_has.B
  try simp only [TN, ↓reduceIte, Nat.reduceEqDiff, Nat.reduceAdd, Nat.reduceMul, Nat.reduceSub, Nat.reduceLeDiff, Nat.reduceLT, Nat.reduceBEq, Nat.reduceBNe, Int.reduceLE, Int.reduceLT, Int.reduceEq, Int.reduceToNat, ne_eq, not_false_eq_true, not_true_eq_false, reduceCtorEq, and_self, eq_self, laws_has.c0]
  refine (laws_has.w k) _ _ _ _ H _ ?_
  first | (rw [canon_eq]; done) | (rw [canon_eq]; rfl) | (rw [canon_eq]; simp only [List.length_set, List.length_append, List.length_replicate]; rfl)
end Go.Proofs.Ythccagmifnipdaa.P
end YthccagmifnipdaaL12
section YthccagmifnipdaaL13
namespace Go.Proofs.Ythccagmifnipdaa.P
open Go Go.RowKit Go.Proofs.Ythccagmifnipdaa.V
set_option linter.unusedVariables false
set_option linter.unusedSimpArgs false
set_option linter.all false
set_option maxRecDepth 100000
/-! ### spec_SameTree: function 13 -/
def spec_SameTree.l0 : Nat → (List S33) → (List S33) → Int → Option Bool
 | 0, _, _, _ => none
 | k + 1, l0, l1, x5 => if x5 < (l0.length : Int) then (if 0 ≤ x5 then (if x5 < (l1.length : Int) then (if (decide ((rd_T33 l0 x5).f0 = (rd_T33 l1 x5).f0) && decide ((rd_T33 l0 x5).f1 = (rd_T33 l1 x5).f1)) = true then (spec_SameTree.l0 k l0 l1 (wrap64 (x5 + 1))) else (some false)) else none) else none) else (some true)
def spec_SameTree.f (k : Nat) (l0 : List S33) (l1 : List S33) : Option Bool := if (l0.length : Int) = (l1.length : Int) then (spec_SameTree.l0 k l0 l1 0) else (some false)
def spec_SameTree.P0 (k : Nat) : Prop := ∀ (l0 : List S33) (l1 : List S33) (x5 : Int) (r : Bool), spec_SameTree.l0 k l0 l1 x5 = some r → ∀ st, canon 2 [0, 1, 5] st = ⟨tmOf [(0, .slc 0 [] 0 2 0 l0.length), (1, .slc 1 [] 0 2 0 l1.length), (5, .i .i64 x5)], rsL [(0, some ⟨false, 2, 0, (l0.map e33)⟩), (1, some ⟨false, 2, 0, (l1.map e33)⟩)], 2⟩ → W env spec_SameTree.c1 st (Qb 0 (Qs env spec_SameTree.c0 (Qf [.t 4] [false, false] ([.b r], [none, none]))))
set_option maxHeartbeats 4000000 in
theorem spec_SameTree.s0 (k : Nat) (ih : spec_SameTree.P0 k) : spec_SameTree.P0 (k + 1) := by
  intro l0 l1 x5 r H st hst
  rw [spec_SameTree.l0] at H
  rw [W_loopc (show spec_SameTree.c1 = C.loop 2 [0, 1, 5] spec_SameTree.d1 from rfl), hst]
  unfold spec_SameTree.d1
  try simp only [TN, ↓reduceIte, Nat.reduceEqDiff, Nat.reduceAdd, Nat.reduceMul, Nat.reduceSub, Nat.reduceLeDiff, Nat.reduceLT, Nat.reduceBEq, Nat.reduceBNe, Int.reduceLE, Int.reduceLT, Int.reduceEq, Int.reduceToNat, ne_eq, not_false_eq_true, not_true_eq_false, reduceCtorEq, and_self, eq_self, spec_SameTree.c0]
  rcases ite_or H with ⟨h1, H⟩ | ⟨h1, H⟩
  · skip
    obtain ⟨h2, H⟩ := ite_no H
    obtain ⟨h3, H⟩ := ite_no H
    try simp only [TN, ↓reduceIte, Nat.reduceEqDiff, Nat.reduceAdd, Nat.reduceMul, Nat.reduceSub, Nat.reduceLeDiff, Nat.reduceLT, Nat.reduceBEq, Nat.reduceBNe, Int.reduceLE, Int.reduceLT, Int.reduceEq, Int.reduceToNat, ne_eq, not_false_eq_true, not_true_eq_false, reduceCtorEq, and_self, eq_self, spec_SameTree.c0, h1, h2, h3]
    rcases ite_b H with ⟨h4, H⟩ | ⟨h4, H⟩
    · skip
      try simp only [TN, ↓reduceIte, Nat.reduceEqDiff, Nat.reduceAdd, Nat.reduceMul, Nat.reduceSub, Nat.reduceLeDiff, Nat.reduceLT, Nat.reduceBEq, Nat.reduceBNe, Int.reduceLE, Int.reduceLT, Int.reduceEq, Int.reduceToNat, ne_eq, not_false_eq_true, not_true_eq_false, reduceCtorEq, and_self, eq_self, spec_SameTree.c0, h1, h2, h3, h4]
      refine ih _ _ _ _ H _ ?_
      first | (rw [canon_eq]; done) | (rw [canon_eq]; rfl) | (rw [canon_eq]; simp only [List.length_set, List.length_append, List.length_replicate]; rfl)
    · skip
      injection H with H; subst H
      try simp only [TN, ↓reduceIte, Nat.reduceEqDiff, Nat.reduceAdd, Nat.reduceMul, Nat.reduceSub, Nat.reduceLeDiff, Nat.reduceLT, Nat.reduceBEq, Nat.reduceBNe, Int.reduceLE, Int.reduceLT, Int.reduceEq, Int.reduceToNat, ne_eq, not_false_eq_true, not_true_eq_false, reduceCtorEq, and_self, eq_self, spec_SameTree.c0, h1, h2, h3, h4]
      try rfl
  · skip
    injection H with H; subst H
    try simp only [TN, ↓reduceIte, Nat.reduceEqDiff, Nat.reduceAdd, Nat.reduceMul, Nat.reduceSub, Nat.reduceLeDiff, Nat.reduceLT, Nat.reduceBEq, Nat.reduceBNe, Int.reduceLE, Int.reduceLT, Int.reduceEq, Int.reduceToNat, ne_eq, not_false_eq_true, not_true_eq_false, reduceCtorEq, and_self, eq_self, spec_SameTree.c0, h1]
    try rfl
theorem spec_SameTree.w : ∀ k, spec_SameTree.P0 k := by
  intro k
  induction k with
  | zero => exact by intro l0 l1 x5 r H; cases (show (none : Option Bool) = some r from H)
  | succ k ih => exact spec_SameTree.s0 k ih
set_option maxHeartbeats 4000000 in
theorem spec_SameTree.link {k : Nat} {l0 : List S33} {l1 : List S33} {r : Bool} (H : spec_SameTree.f k l0 l1 = some r) : callW env 13 [.deep false true 2 (l0.map e33), .deep false true 2 (l1.map e33)] = some ([.b r], [none, none]) := by
  unfold spec_SameTree.f at H
  refine callW_fn' (F := spec_SameTree.F) (tm := tmOf [(0, .slc 0 [] 0 2 0 l0.length), (1, .slc 1 [] 0 2 0 l1.length)]) (rs := rsL [(0, some ⟨false, 2, 0, (l0.map e33)⟩), (1, some ⟨false, 2, 0, (l1.map e33)⟩)]) (nx := 2) (ow := [false, false]) rfl (by rfl) (by simp only [SN]) (by simp only [SN]) (by decide) ?_
  show W env spec_SameTree.B _ (Qf [.t 4] [false, false] _)
  unfold spec_SameTree.B
  try simp only [TN, ↓reduceIte, Nat.reduceEqDiff, Nat.reduceAdd, Nat.reduceMul, Nat.reduceSub, Nat.reduceLeDiff, Nat.reduceLT, Nat.reduceBEq, Nat.reduceBNe, Int.reduceLE, Int.reduceLT, Int.reduceEq, Int.reduceToNat, ne_eq, not_false_eq_true, not_true_eq_false, reduceCtorEq, and_self, eq_self, spec_SameTree.c0]
  rcases ite_or H with ⟨h1, H⟩ | ⟨h1, H⟩
  · skip
    try simp only [TN, ↓reduceIte, Nat.reduceEqDiff, Nat.reduceAdd, Nat.reduceMul, Nat.reduceSub, Nat.reduceLeDiff, Nat.reduceLT, Nat.reduceBEq, Nat.reduceBNe, Int.reduceLE, Int.reduceLT, Int.reduceEq, Int.reduceToNat, ne_eq, not_false_eq_true, not_true_eq_false, reduceCtorEq, and_self, eq_self, spec_SameTree.c0, eq_true h1]
    refine (spec_SameTree.w k) _ _ _ _ H _ ?_
    first | (rw [canon_eq]; done) | (rw [canon_eq]; rfl) | (rw [canon_eq]; simp only [List.length_set, List.length_append, List.length_replicate]; rfl)
  · skip
    injection H with H; subst H
    try simp only [TN, ↓reduceIte, Nat.reduceEqDiff, Nat.reduceAdd, Nat.reduceMul, Nat.reduceSub, Nat.reduceLeDiff, Nat.reduceLT, Nat.reduceBEq, Nat.reduceBNe, Int.reduceLE, Int.reduceLT, Int.reduceEq, Int.reduceToNat, ne_eq, not_false_eq_true, not_true_eq_false, reduceCtorEq, and_self, eq_self, spec_SameTree.c0, h1]
    try rfl
end Go.Proofs.Ythccagmifnipdaa.P
end YthccagmifnipdaaL13
section YthccagmifnipdaaL3
namespace Go.Proofs.Ythccagmifnipdaa.P
open Go Go.RowKit Go.Proofs.Ythccagmifnipdaa.V
set_option linter.unusedVariables false
set_option linter.unusedSimpArgs false
set_option linter.all false
set_option maxRecDepth 100000
/-! ### laws_FnMerged: function 3 -/
def laws_FnMerged.l0 : Nat → (List S33) → (List S33) → (List S33) → (List S33) → (List Int) → (List S33) → Int → (List Int) → Option Bool
 | 0, _, _, _, _, _, _, _, _ => none
 | k + 1, x3, x4, x5, x6, x7, x9, x12, l0 => if x12 < (x3.length : Int) then (if 0 ≤ x12 then (if x12 < (x4.length : Int) then (if ((rd_T33 x4 x12).f0) = ((rd_T33 x3 x12).f0) then (if (x6.length : Int) = (x3.length : Int) then (if (x9.length : Int) = (x3.length : Int) then ((laws_has.f k x7 x12).bind fun t8 => (if t8 = false then (if x12 < (x6.length : Int) then (if ((rd_T33 x6 x12).f1) = ((rd_T33 x3 x12).f1) then (if x12 < (x9.length : Int) then (if (decide ((rd_T33 x6 x12).f0 = (rd_T33 x9 x12).f0) && decide ((rd_T33 x6 x12).f1 = (rd_T33 x9 x12).f1)) = true then (if x12 < (x5.length : Int) then (if ((rd_T33 x5 x12).f0) = ((rd_T33 x3 x12).f0) then (laws_FnMerged.l0 k x3 x4 x5 x6 x7 x9 (wrap64 (x12 + 1)) l0) else (if (decide ((rd_T33 x6 x12).f0 = (rd_T33 x5 x12).f0) && decide ((rd_T33 x6 x12).f1 = (rd_T33 x5 x12).f1)) = true then (laws_FnMerged.l0 k x3 x4 x5 x6 x7 x9 (wrap64 (x12 + 1)) l0) else (some false))) else none) else (some false)) else none) else (some false)) else none) else (some false))) else (some false)) else (some false)) else (if x12 < (x5.length : Int) then (if ((rd_T33 x5 x12).f0) = ((rd_T33 x3 x12).f0) then (if (x6.length : Int) = (x3.length : Int) then (if (x9.length : Int) = (x3.length : Int) then ((laws_has.f k x7 x12).bind fun t9 => (if t9 = false then (if x12 < (x6.length : Int) then (if ((rd_T33 x6 x12).f1) = ((rd_T33 x3 x12).f1) then (if x12 < (x9.length : Int) then (if (decide ((rd_T33 x6 x12).f0 = (rd_T33 x9 x12).f0) && decide ((rd_T33 x6 x12).f1 = (rd_T33 x9 x12).f1)) = true then (if (decide ((rd_T33 x6 x12).f0 = (rd_T33 x4 x12).f0) && decide ((rd_T33 x6 x12).f1 = (rd_T33 x4 x12).f1)) = true then (laws_FnMerged.l0 k x3 x4 x5 x6 x7 x9 (wrap64 (x12 + 1)) l0) else (some false)) else (some false)) else none) else (some false)) else none) else (some false))) else (some false)) else (some false)) else (if (x6.length : Int) = (x3.length : Int) then (if (x9.length : Int) = (x3.length : Int) then ((laws_has.f k x7 x12).bind fun t10 => (if t10 = (!(decide (((rd_T33 x4 x12).f0) = ((rd_T33 x5 x12).f0)))) then (if x12 < (x6.length : Int) then (if ((rd_T33 x6 x12).f1) = ((rd_T33 x3 x12).f1) then (if ((rd_T33 x4 x12).f0) = ((rd_T33 x5 x12).f0) then (if x12 < (x9.length : Int) then (if (decide ((rd_T33 x6 x12).f0 = (rd_T33 x9 x12).f0) && decide ((rd_T33 x6 x12).f1 = (rd_T33 x9 x12).f1)) = true then (if (decide ((rd_T33 x6 x12).f0 = (rd_T33 x4 x12).f0) && decide ((rd_T33 x6 x12).f1 = (rd_T33 x4 x12).f1)) = true then (if (decide ((rd_T33 x6 x12).f0 = (rd_T33 x5 x12).f0) && decide ((rd_T33 x6 x12).f1 = (rd_T33 x5 x12).f1)) = true then (laws_FnMerged.l0 k x3 x4 x5 x6 x7 x9 (wrap64 (x12 + 1)) l0) else (some false)) else (some false)) else (some false)) else none) else (if (decide ((rd_T33 x6 x12).f0 = (rd_T33 x4 x12).f0) && decide ((rd_T33 x6 x12).f1 = (rd_T33 x4 x12).f1)) = true then (if x12 < (x9.length : Int) then (if (decide ((rd_T33 x9 x12).f0 = (rd_T33 x5 x12).f0) && decide ((rd_T33 x9 x12).f1 = (rd_T33 x5 x12).f1)) = true then (laws_FnMerged.l0 k x3 x4 x5 x6 x7 x9 (wrap64 (x12 + 1)) l0) else (some false)) else none) else (some false))) else (some false)) else none) else (some false))) else (some false)) else (some false))) else none)) else none) else none) else ((impl_MergeLabels.f k x3 x3 x5).bind fun bt11 => ((spec_SameTree.f k bt11.1 x5).bind fun t12 => (some t12)))
def laws_FnMerged.f (k : Nat) (l0 : List Int) : Option Bool := (laws_big.f l0).bind fun t1 => (if t1 = true then (some true) else ((spec_DrawMergeLabels.f k l0).bind fun bt2 => ((impl_MergeLabels.f k bt2.1 bt2.2.1 bt2.2.2).bind fun bt3 => ((impl_MergeLabels.f k bt2.1 bt2.2.2 bt2.2.1).bind fun bt4 => ((spec_SameShape.f k bt2.1 bt2.2.1).bind fun t5 => (if t5 = true then ((spec_SameShape.f k bt2.1 bt2.2.2).bind fun t6 => (if bt3.2.2 = t6 then (if bt3.2.2 = bt4.2.2 then ((laws_sameInts.f k bt3.2.1 bt4.2.1).bind fun t7 => (if t7 = true then (if bt3.2.2 = true then (laws_FnMerged.l0 k bt2.1 bt2.2.1 bt2.2.2 bt3.1 bt3.2.1 bt4.1 0 l0) else (if (bt3.1.length : Int) = 0 then (some ((bt3.2.1.length : Int) == 0)) else (some false))) else (some false))) else (some false)) else (some false))) else (if bt3.2.2 = false then (if bt3.2.2 = bt4.2.2 then ((laws_sameInts.f k bt3.2.1 bt4.2.1).bind fun t13 => (if t13 = true then (if bt3.2.2 = true then (laws_FnMerged.l0 k bt2.1 bt2.2.1 bt2.2.2 bt3.1 bt3.2.1 bt4.1 0 l0) else (if (bt3.1.length : Int) = 0 then (some ((bt3.2.1.length : Int) == 0)) else (some false))) else (some false))) else (some false)) else (some false))))))))
def laws_FnMerged.P0 (k : Nat) : Prop := ∀ (x3 : List S33) (x4 : List S33) (x5 : List S33) (x6 : List S33) (x7 : List Int) (x9 : List S33) (x12 : Int) (l0 : List Int) (r : Bool), laws_FnMerged.l0 k x3 x4 x5 x6 x7 x9 x12 l0 = some r → ∀ st, canon 1 [3, 4, 5, 6, 7, 9, 12] st = ⟨tmOf [(3, .slc 1 [] 0 2 0 x3.length), (4, .slc 2 [] 0 2 0 x4.length), (5, .slc 3 [] 0 2 0 x5.length), (6, .slc 4 [] 0 2 0 x6.length), (7, .slc 5 [] 0 1 0 x7.length), (9, .slc 6 [] 0 2 0 x9.length), (12, .i .i64 x12)], rsL [(0, some ⟨false, 1, 0, (l0.map e8)⟩), (1, some ⟨true, 2, 0, (x3.map e33)⟩), (2, some ⟨true, 2, 0, (x4.map e33)⟩), (3, some ⟨true, 2, 0, (x5.map e33)⟩), (4, some ⟨true, 2, 0, (x6.map e33)⟩), (5, some ⟨true, 1, 0, (x7.map eI)⟩), (6, some ⟨true, 2, 0, (x9.map e33)⟩)], 7⟩ → W env laws_FnMerged.c1 st (Qb 0 (Qs env laws_FnMerged.c0 (Qf [.t 2] [false] ([.b r], [none]))))
set_option maxHeartbeats 4000000 in
theorem laws_FnMerged.s0 (k : Nat) (ih : laws_FnMerged.P0 k) : laws_FnMerged.P0 (k + 1) := by
  intro x3 x4 x5 x6 x7 x9 x12 l0 r H st hst
  rw [laws_FnMerged.l0] at H
  rw [W_loopc (show laws_FnMerged.c1 = C.loop 1 [3, 4, 5, 6, 7, 9, 12] laws_FnMerged.d1 from rfl), hst]
  unfold laws_FnMerged.d1
  try simp only [TN, ↓reduceIte, Nat.reduceEqDiff, Nat.reduceAdd, Nat.reduceMul, Nat.reduceSub, Nat.reduceLeDiff, Nat.reduceLT, Nat.reduceBEq, Nat.reduceBNe, Int.reduceLE, Int.reduceLT, Int.reduceEq, Int.reduceToNat, ne_eq, not_false_eq_true, not_true_eq_false, reduceCtorEq, and_self, eq_self, laws_FnMerged.c0]
  rcases ite_or H with ⟨h1, H⟩ | ⟨h1, H⟩
  · skip
    obtain ⟨h2, H⟩ := ite_no H
    obtain ⟨h3, H⟩ := ite_no H
    try simp only [TN, ↓reduceIte, Nat.reduceEqDiff, Nat.reduceAdd, Nat.reduceMul, Nat.reduceSub, Nat.reduceLeDiff, Nat.reduceLT, Nat.reduceBEq, Nat.reduceBNe, Int.reduceLE, Int.reduceLT, Int.reduceEq, Int.reduceToNat, ne_eq, not_false_eq_true, not_true_eq_false, reduceCtorEq, and_self, eq_self, laws_FnMerged.c0, h1, h2, h3]
    rcases ite_or H with ⟨h4, H⟩ | ⟨h4, H⟩
    · skip
      try simp only [TN, ↓reduceIte, Nat.reduceEqDiff, Nat.reduceAdd, Nat.reduceMul, Nat.reduceSub, Nat.reduceLeDiff, Nat.reduceLT, Nat.reduceBEq, Nat.reduceBNe, Int.reduceLE, Int.reduceLT, Int.reduceEq, Int.reduceToNat, ne_eq, not_false_eq_true, not_true_eq_false, reduceCtorEq, and_self, eq_self, laws_FnMerged.c0, h1, h2, h3, eq_true h4]
      rcases ite_or H with ⟨h5, H⟩ | ⟨h5, H⟩
      · skip
        try simp only [TN, ↓reduceIte, Nat.reduceEqDiff, Nat.reduceAdd, Nat.reduceMul, Nat.reduceSub, Nat.reduceLeDiff, Nat.reduceLT, Nat.reduceBEq, Nat.reduceBNe, Int.reduceLE, Int.reduceLT, Int.reduceEq, Int.reduceToNat, ne_eq, not_false_eq_true, not_true_eq_false, reduceCtorEq, and_self, eq_self, laws_FnMerged.c0, h1, h2, h3, eq_true h4, eq_true h5]
        rcases ite_or H with ⟨h6, H⟩ | ⟨h6, H⟩
        · skip
          obtain ⟨t8, e7, H⟩ := bnd_some H
          have e7 := laws_has.link e7
          try simp only [TN, ↓reduceIte, Nat.reduceEqDiff, Nat.reduceAdd, Nat.reduceMul, Nat.reduceSub, Nat.reduceLeDiff, Nat.reduceLT, Nat.reduceBEq, Nat.reduceBNe, Int.reduceLE, Int.reduceLT, Int.reduceEq, Int.reduceToNat, ne_eq, not_false_eq_true, not_true_eq_false, reduceCtorEq, and_self, eq_self, laws_FnMerged.c0, h1, h2, h3, eq_true h4, eq_true h5, eq_true h6, e7]
          rcases ite_or H with ⟨h8, H⟩ | ⟨h8, H⟩
          · skip
            obtain ⟨h9, H⟩ := ite_no H
            try simp only [TN, ↓reduceIte, Nat.reduceEqDiff, Nat.reduceAdd, Nat.reduceMul, Nat.reduceSub, Nat.reduceLeDiff, Nat.reduceLT, Nat.reduceBEq, Nat.reduceBNe, Int.reduceLE, Int.reduceLT, Int.reduceEq, Int.reduceToNat, ne_eq, not_false_eq_true, not_true_eq_false, reduceCtorEq, and_self, eq_self, laws_FnMerged.c0, h1, h2, h3, eq_true h4, eq_true h5, eq_true h6, e7, eq_true h8, h9]
            rcases ite_or H with ⟨h10, H⟩ | ⟨h10, H⟩
            · skip
              obtain ⟨h11, H⟩ := ite_no H
              try simp only [TN, ↓reduceIte, Nat.reduceEqDiff, Nat.reduceAdd, Nat.reduceMul, Nat.reduceSub, Nat.reduceLeDiff, Nat.reduceLT, Nat.reduceBEq, Nat.reduceBNe, Int.reduceLE, Int.reduceLT, Int.reduceEq, Int.reduceToNat, ne_eq, not_false_eq_true, not_true_eq_false, reduceCtorEq, and_self, eq_self, laws_FnMerged.c0, h1, h2, h3, eq_true h4, eq_true h5, eq_true h6, e7, eq_true h8, h9, eq_true h10, h11]
              rcases ite_b H with ⟨h12, H⟩ | ⟨h12, H⟩
              · skip
                obtain ⟨h13, H⟩ := ite_no H
                try simp only [TN, ↓reduceIte, Nat.reduceEqDiff, Nat.reduceAdd, Nat.reduceMul, Nat.reduceSub, Nat.reduceLeDiff, Nat.reduceLT, Nat.reduceBEq, Nat.reduceBNe, Int.reduceLE, Int.reduceLT, Int.reduceEq, Int.reduceToNat, ne_eq, not_false_eq_true, not_true_eq_false, reduceCtorEq, and_self, eq_self, laws_FnMerged.c0, h1, h2, h3, eq_true h4, eq_true h5, eq_true h6, e7, eq_true h8, h9, eq_true h10, h11, h12, h13]
                rcases ite_or H with ⟨h14, H⟩ | ⟨h14, H⟩
                · skip
                  try simp only [TN, ↓reduceIte, Nat.reduceEqDiff, Nat.reduceAdd, Nat.reduceMul, Nat.reduceSub, Nat.reduceLeDiff, Nat.reduceLT, Nat.reduceBEq, Nat.reduceBNe, Int.reduceLE, Int.reduceLT, Int.reduceEq, Int.reduceToNat, ne_eq, not_false_eq_true, not_true_eq_false, reduceCtorEq, and_self, eq_self, laws_FnMerged.c0, h1, h2, h3, eq_true h4, eq_true h5, eq_true h6, e7, eq_true h8, h9, eq_true h10, h11, h12, h13, eq_true h14]
                  refine ih _ _ _ _ _ _ _ _ _ H _ ?_
                  first | (rw [canon_eq]; done) | (rw [canon_eq]; rfl) | (rw [canon_eq]; simp only [List.length_set, List.length_append, List.length_replicate]; rfl)
                · skip
                  try simp only [TN, ↓reduceIte, Nat.reduceEqDiff, Nat.reduceAdd, Nat.reduceMul, Nat.reduceSub, Nat.reduceLeDiff, Nat.reduceLT, Nat.reduceBEq, Nat.reduceBNe, Int.reduceLE, Int.reduceLT, Int.reduceEq, Int.reduceToNat, ne_eq, not_false_eq_true, not_true_eq_false, reduceCtorEq, and_self, eq_self, laws_FnMerged.c0, h1, h2, h3, eq_true h4, eq_true h5, eq_true h6, e7, eq_true h8, h9, eq_true h10, h11, h12, h13, h14]
                  rcases ite_b H with ⟨h15, H⟩ | ⟨h15, H⟩
                  · skip
                    try simp only [TN, ↓reduceIte, Nat.reduceEqDiff, Nat.reduceAdd, Nat.reduceMul, Nat.reduceSub, Nat.reduceLeDiff, Nat.reduceLT, Nat.reduceBEq, Nat.reduceBNe, Int.reduceLE, Int.reduceLT, Int.reduceEq, Int.reduceToNat, ne_eq, not_false_eq_true, not_true_eq_false, reduceCtorEq, and_self, eq_self, laws_FnMerged.c0, h1, h2, h3, eq_true h4, eq_true h5, eq_true h6, e7, eq_true h8, h9, eq_true h10, h11, h12, h13, h14, h15]
                    refine ih _ _ _ _ _ _ _ _ _ H _ ?_
                    first | (rw [canon_eq]; done) | (rw [canon_eq]; rfl) | (rw [canon_eq]; simp only [List.length_set, List.length_append, List.length_replicate]; rfl)
                  · skip
                    injection H with H; subst H
                    try simp only [TN, ↓reduceIte, Nat.reduceEqDiff, Nat.reduceAdd, Nat.reduceMul, Nat.reduceSub, Nat.reduceLeDiff, Nat.reduceLT, Nat.reduceBEq, Nat.reduceBNe, Int.reduceLE, Int.reduceLT, Int.reduceEq, Int.reduceToNat, ne_eq, not_false_eq_true, not_true_eq_false, reduceCtorEq, and_self, eq_self, laws_FnMerged.c0, h1, h2, h3, eq_true h4, eq_true h5, eq_true h6, e7, eq_true h8, h9, eq_true h10, h11, h12, h13, h14, h15]
                    try rfl
              · skip
                injection H with H; subst H
                try simp only [TN, ↓reduceIte, Nat.reduceEqDiff, Nat.reduceAdd, Nat.reduceMul, Nat.reduceSub, Nat.reduceLeDiff, Nat.reduceLT, Nat.reduceBEq, Nat.reduceBNe, Int.reduceLE, Int.reduceLT, Int.reduceEq, Int.reduceToNat, ne_eq, not_false_eq_true, not_true_eq_false, reduceCtorEq, and_self, eq_self, laws_FnMerged.c0, h1, h2, h3, eq_true h4, eq_true h5, eq_true h6, e7, eq_true h8, h9, eq_true h10, h11, h12]
                try rfl
            · skip
              injection H with H; subst H
              try simp only [TN, ↓reduceIte, Nat.reduceEqDiff, Nat.reduceAdd, Nat.reduceMul, Nat.reduceSub, Nat.reduceLeDiff, Nat.reduceLT, Nat.reduceBEq, Nat.reduceBNe, Int.reduceLE, Int.reduceLT, Int.reduceEq, Int.reduceToNat, ne_eq, not_false_eq_true, not_true_eq_false, reduceCtorEq, and_self, eq_self, laws_FnMerged.c0, h1, h2, h3, eq_true h4, eq_true h5, eq_true h6, e7, eq_true h8, h9, h10]
              try rfl
          · skip
            injection H with H; subst H
            try simp only [TN, ↓reduceIte, Nat.reduceEqDiff, Nat.reduceAdd, Nat.reduceMul, Nat.reduceSub, Nat.reduceLeDiff, Nat.reduceLT, Nat.reduceBEq, Nat.reduceBNe, Int.reduceLE, Int.reduceLT, Int.reduceEq, Int.reduceToNat, ne_eq, not_false_eq_true, not_true_eq_false, reduceCtorEq, and_self, eq_self, laws_FnMerged.c0, h1, h2, h3, eq_true h4, eq_true h5, eq_true h6, e7, h8]
            try rfl
        · skip
          injection H with H; subst H
          try simp only [TN, ↓reduceIte, Nat.reduceEqDiff, Nat.reduceAdd, Nat.reduceMul, Nat.reduceSub, Nat.reduceLeDiff, Nat.reduceLT, Nat.reduceBEq, Nat.reduceBNe, Int.reduceLE, Int.reduceLT, Int.reduceEq, Int.reduceToNat, ne_eq, not_false_eq_true, not_true_eq_false, reduceCtorEq, and_self, eq_self, laws_FnMerged.c0, h1, h2, h3, eq_true h4, eq_true h5, h6]
          try rfl
      · skip
        injection H with H; subst H
        try simp only [TN, ↓reduceIte, Nat.reduceEqDiff, Nat.reduceAdd, Nat.reduceMul, Nat.reduceSub, Nat.reduceLeDiff, Nat.reduceLT, Nat.reduceBEq, Nat.reduceBNe, Int.reduceLE, Int.reduceLT, Int.reduceEq, Int.reduceToNat, ne_eq, not_false_eq_true, not_true_eq_false, reduceCtorEq, and_self, eq_self, laws_FnMerged.c0, h1, h2, h3, eq_true h4, h5]
        try rfl
    · skip
      obtain ⟨h16, H⟩ := ite_no H
      try simp only [TN, ↓reduceIte, Nat.reduceEqDiff, Nat.reduceAdd, Nat.reduceMul, Nat.reduceSub, Nat.reduceLeDiff, Nat.reduceLT, Nat.reduceBEq, Nat.reduceBNe, Int.reduceLE, Int.reduceLT, Int.reduceEq, Int.reduceToNat, ne_eq, not_false_eq_true, not_true_eq_false, reduceCtorEq, and_self, eq_self, laws_FnMerged.c0, h1, h2, h3, h4, h16]
      rcases ite_or H with ⟨h17, H⟩ | ⟨h17, H⟩
      · skip
        try simp only [TN, ↓reduceIte, Nat.reduceEqDiff, Nat.reduceAdd, Nat.reduceMul, Nat.reduceSub, Nat.reduceLeDiff, Nat.reduceLT, Nat.reduceBEq, Nat.reduceBNe, Int.reduceLE, Int.reduceLT, Int.reduceEq, Int.reduceToNat, ne_eq, not_false_eq_true, not_true_eq_false, reduceCtorEq, and_self, eq_self, laws_FnMerged.c0, h1, h2, h3, h4, h16, eq_true h17]
        rcases ite_or H with ⟨h18, H⟩ | ⟨h18, H⟩
        · skip
          try simp only [TN, ↓reduceIte, Nat.reduceEqDiff, Nat.reduceAdd, Nat.reduceMul, Nat.reduceSub, Nat.reduceLeDiff, Nat.reduceLT, Nat.reduceBEq, Nat.reduceBNe, Int.reduceLE, Int.reduceLT, Int.reduceEq, Int.reduceToNat, ne_eq, not_false_eq_true, not_true_eq_false, reduceCtorEq, and_self, eq_self, laws_FnMerged.c0, h1, h2, h3, h4, h16, eq_true h17, eq_true h18]
          rcases ite_or H with ⟨h19, H⟩ | ⟨h19, H⟩
          · skip
            obtain ⟨t9, e20, H⟩ := bnd_some H
            have e20 := laws_has.link e20
            try simp only [TN, ↓reduceIte, Nat.reduceEqDiff, Nat.reduceAdd, Nat.reduceMul, Nat.reduceSub, Nat.reduceLeDiff, Nat.reduceLT, Nat.reduceBEq, Nat.reduceBNe, Int.reduceLE, Int.reduceLT, Int.reduceEq, Int.reduceToNat, ne_eq, not_false_eq_true, not_true_eq_false, reduceCtorEq, and_self, eq_self, laws_FnMerged.c0, h1, h2, h3, h4, h16, eq_true h17, eq_true h18, eq_true h19, e20]
            rcases ite_or H with ⟨h21, H⟩ | ⟨h21, H⟩
            · skip
              obtain ⟨h22, H⟩ := ite_no H
              try simp only [TN, ↓reduceIte, Nat.reduceEqDiff, Nat.reduceAdd, Nat.reduceMul, Nat.reduceSub, Nat.reduceLeDiff, Nat.reduceLT, Nat.reduceBEq, Nat.reduceBNe, Int.reduceLE, Int.reduceLT, Int.reduceEq, Int.reduceToNat, ne_eq, not_false_eq_true, not_true_eq_false, reduceCtorEq, and_self, eq_self, laws_FnMerged.c0, h1, h2, h3, h4, h16, eq_true h17, eq_true h18, eq_true h19, e20, eq_true h21, h22]
              rcases ite_or H with ⟨h23, H⟩ | ⟨h23, H⟩
              · skip
                obtain ⟨h24, H⟩ := ite_no H
                try simp only [TN, ↓reduceIte, Nat.reduceEqDiff, Nat.reduceAdd, Nat.reduceMul, Nat.reduceSub, Nat.reduceLeDiff, Nat.reduceLT, Nat.reduceBEq, Nat.reduceBNe, Int.reduceLE, Int.reduceLT, Int.reduceEq, Int.reduceToNat, ne_eq, not_false_eq_true, not_true_eq_false, reduceCtorEq, and_self, eq_self, laws_FnMerged.c0, h1, h2, h3, h4, h16, eq_true h17, eq_true h18, eq_true h19, e20, eq_true h21, h22, eq_true h23, h24]
                rcases ite_b H with ⟨h25, H⟩ | ⟨h25, H⟩
                · skip
                  try simp only [TN, ↓reduceIte, Nat.reduceEqDiff, Nat.reduceAdd, Nat.reduceMul, Nat.reduceSub, Nat.reduceLeDiff, Nat.reduceLT, Nat.reduceBEq, Nat.reduceBNe, Int.reduceLE, Int.reduceLT, Int.reduceEq, Int.reduceToNat, ne_eq, not_false_eq_true, not_true_eq_false, reduceCtorEq, and_self, eq_self, laws_FnMerged.c0, h1, h2, h3, h4, h16, eq_true h17, eq_true h18, eq_true h19, e20, eq_true h21, h22, eq_true h23, h24, h25]
                  rcases ite_b H with ⟨h26, H⟩ | ⟨h26, H⟩
                  · skip
                    try simp only [TN, ↓reduceIte, Nat.reduceEqDiff, Nat.reduceAdd, Nat.reduceMul, Nat.reduceSub, Nat.reduceLeDiff, Nat.reduceLT, Nat.reduceBEq, Nat.reduceBNe, Int.reduceLE, Int.reduceLT, Int.reduceEq, Int.reduceToNat, ne_eq, not_false_eq_true, not_true_eq_false, reduceCtorEq, and_self, eq_self, laws_FnMerged.c0, h1, h2, h3, h4, h16, eq_true h17, eq_true h18, eq_true h19, e20, eq_true h21, h22, eq_true h23, h24, h25, h26]
                    refine ih _ _ _ _ _ _ _ _ _ H _ ?_
                    first | (rw [canon_eq]; done) | (rw [canon_eq]; rfl) | (rw [canon_eq]; simp only [List.length_set, List.length_append, List.length_replicate]; rfl)
                  · skip
                    injection H with H; subst H
                    try simp only [TN, ↓reduceIte, Nat.reduceEqDiff, Nat.reduceAdd, Nat.reduceMul, Nat.reduceSub, Nat.reduceLeDiff, Nat.reduceLT, Nat.reduceBEq, Nat.reduceBNe, Int.reduceLE, Int.reduceLT, Int.reduceEq, Int.reduceToNat, ne_eq, not_false_eq_true, not_true_eq_false, reduceCtorEq, and_self, eq_self, laws_FnMerged.c0, h1, h2, h3, h4, h16, eq_true h17, eq_true h18, eq_true h19, e20, eq_true h21, h22, eq_true h23, h24, h25, h26]
                    try rfl
                · skip
                  injection H with H; subst H
                  try simp only [TN, ↓reduceIte, Nat.reduceEqDiff, Nat.reduceAdd, Nat.reduceMul, Nat.reduceSub, Nat.reduceLeDiff, Nat.reduceLT, Nat.reduceBEq, Nat.reduceBNe, Int.reduceLE, Int.reduceLT, Int.reduceEq, Int.reduceToNat, ne_eq, not_false_eq_true, not_true_eq_false, reduceCtorEq, and_self, eq_self, laws_FnMerged.c0, h1, h2, h3, h4, h16, eq_true h17, eq_true h18, eq_true h19, e20, eq_true h21, h22, eq_true h23, h24, h25]
                  try rfl
              · skip
                injection H with H; subst H
                try simp only [TN, ↓reduceIte, Nat.reduceEqDiff, Nat.reduceAdd, Nat.reduceMul, Nat.reduceSub, Nat.reduceLeDiff, Nat.reduceLT, Nat.reduceBEq, Nat.reduceBNe, Int.reduceLE, Int.reduceLT, Int.reduceEq, Int.reduceToNat, ne_eq, not_false_eq_true, not_true_eq_false, reduceCtorEq, and_self, eq_self, laws_FnMerged.c0, h1, h2, h3, h4, h16, eq_true h17, eq_true h18, eq_true h19, e20, eq_true h21, h22, h23]
                try rfl
            · skip
              injection H with H; subst H
              try simp only [TN, ↓reduceIte, Nat.reduceEqDiff, Nat.reduceAdd, Nat.reduceMul, Nat.reduceSub, Nat.reduceLeDiff, Nat.reduceLT, Nat.reduceBEq, Nat.reduceBNe, Int.reduceLE, Int.reduceLT, Int.reduceEq, Int.reduceToNat, ne_eq, not_false_eq_true, not_true_eq_false, reduceCtorEq, and_self, eq_self, laws_FnMerged.c0, h1, h2, h3, h4, h16, eq_true h17, eq_true h18, eq_true h19, e20, h21]
              try rfl
          · skip
            injection H with H; subst H
            try simp only [TN, ↓reduceIte, Nat.reduceEqDiff, Nat.reduceAdd, Nat.reduceMul, Nat.reduceSub, Nat.reduceLeDiff, Nat.reduceLT, Nat.reduceBEq, Nat.reduceBNe, Int.reduceLE, Int.reduceLT, Int.reduceEq, Int.reduceToNat, ne_eq, not_false_eq_true, not_true_eq_false, reduceCtorEq, and_self, eq_self, laws_FnMerged.c0, h1, h2, h3, h4, h16, eq_true h17, eq_true h18, h19]
            try rfl
        · skip
          injection H with H; subst H
          try simp only [TN, ↓reduceIte, Nat.reduceEqDiff, Nat.reduceAdd, Nat.reduceMul, Nat.reduceSub, Nat.reduceLeDiff, Nat.reduceLT, Nat.reduceBEq, Nat.reduceBNe, Int.reduceLE, Int.reduceLT, Int.reduceEq, Int.reduceToNat, ne_eq, not_false_eq_true, not_true_eq_false, reduceCtorEq, and_self, eq_self, laws_FnMerged.c0, h1, h2, h3, h4, h16, eq_true h17, h18]
          try rfl
      · skip
        try simp only [TN, ↓reduceIte, Nat.reduceEqDiff, Nat.reduceAdd, Nat.reduceMul, Nat.reduceSub, Nat.reduceLeDiff, Nat.reduceLT, Nat.reduceBEq, Nat.reduceBNe, Int.reduceLE, Int.reduceLT, Int.reduceEq, Int.reduceToNat, ne_eq, not_false_eq_true, not_true_eq_false, reduceCtorEq, and_self, eq_self, laws_FnMerged.c0, h1, h2, h3, h4, h16, h17]
        rcases ite_or H with ⟨h27, H⟩ | ⟨h27, H⟩
        · skip
          try simp only [TN, ↓reduceIte, Nat.reduceEqDiff, Nat.reduceAdd, Nat.reduceMul, Nat.reduceSub, Nat.reduceLeDiff, Nat.reduceLT, Nat.reduceBEq, Nat.reduceBNe, Int.reduceLE, Int.reduceLT, Int.reduceEq, Int.reduceToNat, ne_eq, not_false_eq_true, not_true_eq_false, reduceCtorEq, and_self, eq_self, laws_FnMerged.c0, h1, h2, h3, h4, h16, h17, eq_true h27]
          rcases ite_or H with ⟨h28, H⟩ | ⟨h28, H⟩
          · skip
            obtain ⟨t10, e29, H⟩ := bnd_some H
            have e29 := laws_has.link e29
            try simp only [TN, ↓reduceIte, Nat.reduceEqDiff, Nat.reduceAdd, Nat.reduceMul, Nat.reduceSub, Nat.reduceLeDiff, Nat.reduceLT, Nat.reduceBEq, Nat.reduceBNe, Int.reduceLE, Int.reduceLT, Int.reduceEq, Int.reduceToNat, ne_eq, not_false_eq_true, not_true_eq_false, reduceCtorEq, and_self, eq_self, laws_FnMerged.c0, h1, h2, h3, h4, h16, h17, eq_true h27, eq_true h28, e29]
            rcases ite_or H with ⟨h30, H⟩ | ⟨h30, H⟩
            · skip
              obtain ⟨h31, H⟩ := ite_no H
              try simp only [TN, ↓reduceIte, Nat.reduceEqDiff, Nat.reduceAdd, Nat.reduceMul, Nat.reduceSub, Nat.reduceLeDiff, Nat.reduceLT, Nat.reduceBEq, Nat.reduceBNe, Int.reduceLE, Int.reduceLT, Int.reduceEq, Int.reduceToNat, ne_eq, not_false_eq_true, not_true_eq_false, reduceCtorEq, and_self, eq_self, laws_FnMerged.c0, h1, h2, h3, h4, h16, h17, eq_true h27, eq_true h28, e29, eq_true h30, h31]
              rcases ite_or H with ⟨h32, H⟩ | ⟨h32, H⟩
              · skip
                try simp only [TN, ↓reduceIte, Nat.reduceEqDiff, Nat.reduceAdd, Nat.reduceMul, Nat.reduceSub, Nat.reduceLeDiff, Nat.reduceLT, Nat.reduceBEq, Nat.reduceBNe, Int.reduceLE, Int.reduceLT, Int.reduceEq, Int.reduceToNat, ne_eq, not_false_eq_true, not_true_eq_false, reduceCtorEq, and_self, eq_self, laws_FnMerged.c0, h1, h2, h3, h4, h16, h17, eq_true h27, eq_true h28, e29, eq_true h30, h31, eq_true h32]
                rcases ite_or H with ⟨h33, H⟩ | ⟨h33, H⟩
                · skip
                  obtain ⟨h34, H⟩ := ite_no H
                  try simp only [TN, ↓reduceIte, Nat.reduceEqDiff, Nat.reduceAdd, Nat.reduceMul, Nat.reduceSub, Nat.reduceLeDiff, Nat.reduceLT, Nat.reduceBEq, Nat.reduceBNe, Int.reduceLE, Int.reduceLT, Int.reduceEq, Int.reduceToNat, ne_eq, not_false_eq_true, not_true_eq_false, reduceCtorEq, and_self, eq_self, laws_FnMerged.c0, h1, h2, h3, h4, h16, h17, eq_true h27, eq_true h28, e29, eq_true h30, h31, eq_true h32, eq_true h33, h34]
                  rcases ite_b H with ⟨h35, H⟩ | ⟨h35, H⟩
                  · skip
                    try simp only [TN, ↓reduceIte, Nat.reduceEqDiff, Nat.reduceAdd, Nat.reduceMul, Nat.reduceSub, Nat.reduceLeDiff, Nat.reduceLT, Nat.reduceBEq, Nat.reduceBNe, Int.reduceLE, Int.reduceLT, Int.reduceEq, Int.reduceToNat, ne_eq, not_false_eq_true, not_true_eq_false, reduceCtorEq, and_self, eq_self, laws_FnMerged.c0, h1, h2, h3, h4, h16, h17, eq_true h27, eq_true h28, e29, eq_true h30, h31, eq_true h32, eq_true h33, h34, h35]
                    rcases ite_b H with ⟨h36, H⟩ | ⟨h36, H⟩
                    · skip
                      try simp only [TN, ↓reduceIte, Nat.reduceEqDiff, Nat.reduceAdd, Nat.reduceMul, Nat.reduceSub, Nat.reduceLeDiff, Nat.reduceLT, Nat.reduceBEq, Nat.reduceBNe, Int.reduceLE, Int.reduceLT, Int.reduceEq, Int.reduceToNat, ne_eq, not_false_eq_true, not_true_eq_false, reduceCtorEq, and_self, eq_self, laws_FnMerged.c0, h1, h2, h3, h4, h16, h17, eq_true h27, eq_true h28, e29, eq_true h30, h31, eq_true h32, eq_true h33, h34, h35, h36]
                      rcases ite_b H with ⟨h37, H⟩ | ⟨h37, H⟩
                      · skip
                        try simp only [TN, ↓reduceIte, Nat.reduceEqDiff, Nat.reduceAdd, Nat.reduceMul, Nat.reduceSub, Nat.reduceLeDiff, Nat.reduceLT, Nat.reduceBEq, Nat.reduceBNe, Int.reduceLE, Int.reduceLT, Int.reduceEq, Int.reduceToNat, ne_eq, not_false_eq_true, not_true_eq_false, reduceCtorEq, and_self, eq_self, laws_FnMerged.c0, h1, h2, h3, h4, h16, h17, eq_true h27, eq_true h28, e29, eq_true h30, h31, eq_true h32, eq_true h33, h34, h35, h36, h37]
                        refine ih _ _ _ _ _ _ _ _ _ H _ ?_
                        first | (rw [canon_eq]; done) | (rw [canon_eq]; rfl) | (rw [canon_eq]; simp only [List.length_set, List.length_append, List.length_replicate]; rfl)
                      · skip
                        injection H with H; subst H
                        try simp only [TN, ↓reduceIte, Nat.reduceEqDiff, Nat.reduceAdd, Nat.reduceMul, Nat.reduceSub, Nat.reduceLeDiff, Nat.reduceLT, Nat.reduceBEq, Nat.reduceBNe, Int.reduceLE, Int.reduceLT, Int.reduceEq, Int.reduceToNat, ne_eq, not_false_eq_true, not_true_eq_false, reduceCtorEq, and_self, eq_self, laws_FnMerged.c0, h1, h2, h3, h4, h16, h17, eq_true h27, eq_true h28, e29, eq_true h30, h31, eq_true h32, eq_true h33, h34, h35, h36, h37]
                        try rfl
                    · skip
                      injection H with H; subst H
                      try simp only [TN, ↓reduceIte, Nat.reduceEqDiff, Nat.reduceAdd, Nat.reduceMul, Nat.reduceSub, Nat.reduceLeDiff, Nat.reduceLT, Nat.reduceBEq, Nat.reduceBNe, Int.reduceLE, Int.reduceLT, Int.reduceEq, Int.reduceToNat, ne_eq, not_false_eq_true, not_true_eq_false, reduceCtorEq, and_self, eq_self, laws_FnMerged.c0, h1, h2, h3, h4, h16, h17, eq_true h27, eq_true h28, e29, eq_true h30, h31, eq_true h32, eq_true h33, h34, h35, h36]
                      try rfl
                  · skip
                    injection H with H; subst H
                    try simp only [TN, ↓reduceIte, Nat.reduceEqDiff, Nat.reduceAdd, Nat.reduceMul, Nat.reduceSub, Nat.reduceLeDiff, Nat.reduceLT, Nat.reduceBEq, Nat.reduceBNe, Int.reduceLE, Int.reduceLT, Int.reduceEq, Int.reduceToNat, ne_eq, not_false_eq_true, not_true_eq_false, reduceCtorEq, and_self, eq_self, laws_FnMerged.c0, h1, h2, h3, h4, h16, h17, eq_true h27, eq_true h28, e29, eq_true h30, h31, eq_true h32, eq_true h33, h34, h35]
                    try rfl
                · skip
                  try simp only [TN, ↓reduceIte, Nat.reduceEqDiff, Nat.reduceAdd, Nat.reduceMul, Nat.reduceSub, Nat.reduceLeDiff, Nat.reduceLT, Nat.reduceBEq, Nat.reduceBNe, Int.reduceLE, Int.reduceLT, Int.reduceEq, Int.reduceToNat, ne_eq, not_false_eq_true, not_true_eq_false, reduceCtorEq, and_self, eq_self, laws_FnMerged.c0, h1, h2, h3, h4, h16, h17, eq_true h27, eq_true h28, e29, eq_true h30, h31, eq_true h32, h33]
                  rcases ite_b H with ⟨h38, H⟩ | ⟨h38, H⟩
                  · skip
                    obtain ⟨h39, H⟩ := ite_no H
                    try simp only [TN, ↓reduceIte, Nat.reduceEqDiff, Nat.reduceAdd, Nat.reduceMul, Nat.reduceSub, Nat.reduceLeDiff, Nat.reduceLT, Nat.reduceBEq, Nat.reduceBNe, Int.reduceLE, Int.reduceLT, Int.reduceEq, Int.reduceToNat, ne_eq, not_false_eq_true, not_true_eq_false, reduceCtorEq, and_self, eq_self, laws_FnMerged.c0, h1, h2, h3, h4, h16, h17, eq_true h27, eq_true h28, e29, eq_true h30, h31, eq_true h32, h33, h38, h39]
                    rcases ite_b H with ⟨h40, H⟩ | ⟨h40, H⟩
                    · skip
                      try simp only [TN, ↓reduceIte, Nat.reduceEqDiff, Nat.reduceAdd, Nat.reduceMul, Nat.reduceSub, Nat.reduceLeDiff, Nat.reduceLT, Nat.reduceBEq, Nat.reduceBNe, Int.reduceLE, Int.reduceLT, Int.reduceEq, Int.reduceToNat, ne_eq, not_false_eq_true, not_true_eq_false, reduceCtorEq, and_self, eq_self, laws_FnMerged.c0, h1, h2, h3, h4, h16, h17, eq_true h27, eq_true h28, e29, eq_true h30, h31, eq_true h32, h33, h38, h39, h40]
                      refine ih _ _ _ _ _ _ _ _ _ H _ ?_
                      first | (rw [canon_eq]; done) | (rw [canon_eq]; rfl) | (rw [canon_eq]; simp only [List.length_set, List.length_append, List.length_replicate]; rfl)
                    · skip
                      injection H with H; subst H
                      try simp only [TN, ↓reduceIte, Nat.reduceEqDiff, Nat.reduceAdd, Nat.reduceMul, Nat.reduceSub, Nat.reduceLeDiff, Nat.reduceLT, Nat.reduceBEq, Nat.reduceBNe, Int.reduceLE, Int.reduceLT, Int.reduceEq, Int.reduceToNat, ne_eq, not_false_eq_true, not_true_eq_false, reduceCtorEq, and_self, eq_self, laws_FnMerged.c0, h1, h2, h3, h4, h16, h17, eq_true h27, eq_true h28, e29, eq_true h30, h31, eq_true h32, h33, h38, h39, h40]
                      try rfl
                  · skip
                    injection H with H; subst H
                    try simp only [TN, ↓reduceIte, Nat.reduceEqDiff, Nat.reduceAdd, Nat.reduceMul, Nat.reduceSub, Nat.reduceLeDiff, Nat.reduceLT, Nat.reduceBEq, Nat.reduceBNe, Int.reduceLE, Int.reduceLT, Int.reduceEq, Int.reduceToNat, ne_eq, not_false_eq_true, not_true_eq_false, reduceCtorEq, and_self, eq_self, laws_FnMerged.c0, h1, h2, h3, h4, h16, h17, eq_true h27, eq_true h28, e29, eq_true h30, h31, eq_true h32, h33, h38]
                    try rfl
              · skip
                injection H with H; subst H
                try simp only [TN, ↓reduceIte, Nat.reduceEqDiff, Nat.reduceAdd, Nat.reduceMul, Nat.reduceSub, Nat.reduceLeDiff, Nat.reduceLT, Nat.reduceBEq, Nat.reduceBNe, Int.reduceLE, Int.reduceLT, Int.reduceEq, Int.reduceToNat, ne_eq, not_false_eq_true, not_true_eq_false, reduceCtorEq, and_self, eq_self, laws_FnMerged.c0, h1, h2, h3, h4, h16, h17, eq_true h27, eq_true h28, e29, eq_true h30, h31, h32]
                try rfl
            · skip
              injection H with H; subst H
              try simp only [TN, ↓reduceIte, Nat.reduceEqDiff, Nat.reduceAdd, Nat.reduceMul, Nat.reduceSub, Nat.reduceLeDiff, Nat.reduceLT, Nat.reduceBEq, Nat.reduceBNe, Int.reduceLE, Int.reduceLT, Int.reduceEq, Int.reduceToNat, ne_eq, not_false_eq_true, not_true_eq_false, reduceCtorEq, and_self, eq_self, laws_FnMerged.c0, h1, h2, h3, h4, h16, h17, eq_true h27, eq_true h28, e29, h30]
              try rfl
          · skip
            injection H with H; subst H
            try simp only [TN, ↓reduceIte, Nat.reduceEqDiff, Nat.reduceAdd, Nat.reduceMul, Nat.reduceSub, Nat.reduceLeDiff, Nat.reduceLT, Nat.reduceBEq, Nat.reduceBNe, Int.reduceLE, Int.reduceLT, Int.reduceEq, Int.reduceToNat, ne_eq, not_false_eq_true, not_true_eq_false, reduceCtorEq, and_self, eq_self, laws_FnMerged.c0, h1, h2, h3, h4, h16, h17, eq_true h27, h28]
            try rfl
        · skip
          injection H with H; subst H
          try simp only [TN, ↓reduceIte, Nat.reduceEqDiff, Nat.reduceAdd, Nat.reduceMul, Nat.reduceSub, Nat.reduceLeDiff, Nat.reduceLT, Nat.reduceBEq, Nat.reduceBNe, Int.reduceLE, Int.reduceLT, Int.reduceEq, Int.reduceToNat, ne_eq, not_false_eq_true, not_true_eq_false, reduceCtorEq, and_self, eq_self, laws_FnMerged.c0, h1, h2, h3, h4, h16, h17, h27]
          try rfl
  · skip
    obtain ⟨bt11, e41, H⟩ := bnd_some H
    have e41 := impl_MergeLabels.link e41
    obtain ⟨t12, e42, H⟩ := bnd_some H
    have e42 := spec_SameTree.link e42
    injection H with H; subst H
    try simp only [TN, ↓reduceIte, Nat.reduceEqDiff, Nat.reduceAdd, Nat.reduceMul, Nat.reduceSub, Nat.reduceLeDiff, Nat.reduceLT, Nat.reduceBEq, Nat.reduceBNe, Int.reduceLE, Int.reduceLT, Int.reduceEq, Int.reduceToNat, ne_eq, not_false_eq_true, not_true_eq_false, reduceCtorEq, and_self, eq_self, laws_FnMerged.c0, h1, e41, e42]
    try rfl
theorem laws_FnMerged.w : ∀ k, laws_FnMerged.P0 k := by
  intro k
  induction k with
  | zero => exact by intro x3 x4 x5 x6 x7 x9 x12 l0 r H; cases (show (none : Option Bool) = some r from H)
  | succ k ih => exact laws_FnMerged.s0 k ih
set_option maxHeartbeats 4000000 in
theorem laws_FnMerged.link {k : Nat} {l0 : List Int} {r : Bool} (H : laws_FnMerged.f k l0 = some r) : callW env 3 [.deep false true 1 (l0.map e8)] = some ([.b r], [none]) := by
  unfold laws_FnMerged.f at H
  refine callW_fn' (F := laws_FnMerged.F) (tm := tmOf [(0, .slc 0 [] 0 1 0 l0.length)]) (rs := rsL [(0, some ⟨false, 1, 0, (l0.map e8)⟩)]) (nx := 1) (ow := [false]) rfl (by rfl) (by simp only [SN]) (by simp only [SN]) (by decide) ?_
  show W env laws_FnMerged.B _ (Qf [.t 2] [false] _)
  unfold laws_FnMerged.B
  obtain ⟨t1, e1, H⟩ := bnd_some H
  have e1 := laws_big.link e1
  try simp only [TN, ↓reduceIte, Nat.reduceEqDiff, Nat.reduceAdd, Nat.reduceMul, Nat.reduceSub, Nat.reduceLeDiff, Nat.reduceLT, Nat.reduceBEq, Nat.reduceBNe, Int.reduceLE, Int.reduceLT, Int.reduceEq, Int.reduceToNat, ne_eq, not_false_eq_true, not_true_eq_false, reduceCtorEq, and_self, eq_self, laws_FnMerged.c0, e1]
  rcases ite_b H with ⟨h2, H⟩ | ⟨h2, H⟩
  · skip
    injection H with H; subst H
    try simp only [TN, ↓reduceIte, Nat.reduceEqDiff, Nat.reduceAdd, Nat.reduceMul, Nat.reduceSub, Nat.reduceLeDiff, Nat.reduceLT, Nat.reduceBEq, Nat.reduceBNe, Int.reduceLE, Int.reduceLT, Int.reduceEq, Int.reduceToNat, ne_eq, not_false_eq_true, not_true_eq_false, reduceCtorEq, and_self, eq_self, laws_FnMerged.c0, e1, h2]
    try rfl
  · skip
    obtain ⟨bt2, e3, H⟩ := bnd_some H
    have e3 := spec_DrawMergeLabels.link e3
    obtain ⟨bt3, e4, H⟩ := bnd_some H
    have e4 := impl_MergeLabels.link e4
    obtain ⟨bt4, e5, H⟩ := bnd_some H
    have e5 := impl_MergeLabels.link e5
    obtain ⟨t5, e6, H⟩ := bnd_some H
    have e6 := spec_SameShape.link e6
    try simp only [TN, ↓reduceIte, Nat.reduceEqDiff, Nat.reduceAdd, Nat.reduceMul, Nat.reduceSub, Nat.reduceLeDiff, Nat.reduceLT, Nat.reduceBEq, Nat.reduceBNe, Int.reduceLE, Int.reduceLT, Int.reduceEq, Int.reduceToNat, ne_eq, not_false_eq_true, not_true_eq_false, reduceCtorEq, and_self, eq_self, laws_FnMerged.c0, e1, h2, e3, e4, e5, e6]
    rcases ite_b H with ⟨h7, H⟩ | ⟨h7, H⟩
    · skip
      obtain ⟨t6, e8, H⟩ := bnd_some H
      have e8 := spec_SameShape.link e8
      try simp only [TN, ↓reduceIte, Nat.reduceEqDiff, Nat.reduceAdd, Nat.reduceMul, Nat.reduceSub, Nat.reduceLeDiff, Nat.reduceLT, Nat.reduceBEq, Nat.reduceBNe, Int.reduceLE, Int.reduceLT, Int.reduceEq, Int.reduceToNat, ne_eq, not_false_eq_true, not_true_eq_false, reduceCtorEq, and_self, eq_self, laws_FnMerged.c0, e1, h2, e3, e4, e5, e6, h7, e8]
      rcases ite_or H with ⟨h9, H⟩ | ⟨h9, H⟩
      · skip
        try simp only [TN, ↓reduceIte, Nat.reduceEqDiff, Nat.reduceAdd, Nat.reduceMul, Nat.reduceSub, Nat.reduceLeDiff, Nat.reduceLT, Nat.reduceBEq, Nat.reduceBNe, Int.reduceLE, Int.reduceLT, Int.reduceEq, Int.reduceToNat, ne_eq, not_false_eq_true, not_true_eq_false, reduceCtorEq, and_self, eq_self, laws_FnMerged.c0, e1, h2, e3, e4, e5, e6, h7, e8, eq_true h9]
        rcases ite_or H with ⟨h10, H⟩ | ⟨h10, H⟩
        · skip
          obtain ⟨t7, e11, H⟩ := bnd_some H
          have e11 := laws_sameInts.link e11
          try simp only [TN, ↓reduceIte, Nat.reduceEqDiff, Nat.reduceAdd, Nat.reduceMul, Nat.reduceSub, Nat.reduceLeDiff, Nat.reduceLT, Nat.reduceBEq, Nat.reduceBNe, Int.reduceLE, Int.reduceLT, Int.reduceEq, Int.reduceToNat, ne_eq, not_false_eq_true, not_true_eq_false, reduceCtorEq, and_self, eq_self, laws_FnMerged.c0, e1, h2, e3, e4, e5, e6, h7, e8, eq_true h9, eq_true h10, e11]
          rcases ite_b H with ⟨h12, H⟩ | ⟨h12, H⟩
          · skip
            try simp only [TN, ↓reduceIte, Nat.reduceEqDiff, Nat.reduceAdd, Nat.reduceMul, Nat.reduceSub, Nat.reduceLeDiff, Nat.reduceLT, Nat.reduceBEq, Nat.reduceBNe, Int.reduceLE, Int.reduceLT, Int.reduceEq, Int.reduceToNat, ne_eq, not_false_eq_true, not_true_eq_false, reduceCtorEq, and_self, eq_self, laws_FnMerged.c0, e1, h2, e3, e4, e5, e6, h7, e8, eq_true h9, eq_true h10, e11, h12]
            rcases ite_b H with ⟨h13, H⟩ | ⟨h13, H⟩
            · skip
              try simp only [TN, ↓reduceIte, Nat.reduceEqDiff, Nat.reduceAdd, Nat.reduceMul, Nat.reduceSub, Nat.reduceLeDiff, Nat.reduceLT, Nat.reduceBEq, Nat.reduceBNe, Int.reduceLE, Int.reduceLT, Int.reduceEq, Int.reduceToNat, ne_eq, not_false_eq_true, not_true_eq_false, reduceCtorEq, and_self, eq_self, laws_FnMerged.c0, e1, h2, e3, e4, e5, e6, h7, e8, eq_true h9, eq_true h10, e11, h12, h13]
              refine (laws_FnMerged.w k) _ _ _ _ _ _ _ _ _ H _ ?_
              first | (rw [canon_eq]; done) | (rw [canon_eq]; rfl) | (rw [canon_eq]; simp only [List.length_set, List.length_append, List.length_replicate]; rfl)
            · skip
              try simp only [TN, ↓reduceIte, Nat.reduceEqDiff, Nat.reduceAdd, Nat.reduceMul, Nat.reduceSub, Nat.reduceLeDiff, Nat.reduceLT, Nat.reduceBEq, Nat.reduceBNe, Int.reduceLE, Int.reduceLT, Int.reduceEq, Int.reduceToNat, ne_eq, not_false_eq_true, not_true_eq_false, reduceCtorEq, and_self, eq_self, laws_FnMerged.c0, e1, h2, e3, e4, e5, e6, h7, e8, eq_true h9, eq_true h10, e11, h12, h13]
              rcases ite_or H with ⟨h14, H⟩ | ⟨h14, H⟩
              · skip
                injection H with H; subst H
                try simp only [TN, ↓reduceIte, Nat.reduceEqDiff, Nat.reduceAdd, Nat.reduceMul, Nat.reduceSub, Nat.reduceLeDiff, Nat.reduceLT, Nat.reduceBEq, Nat.reduceBNe, Int.reduceLE, Int.reduceLT, Int.reduceEq, Int.reduceToNat, ne_eq, not_false_eq_true, not_true_eq_false, reduceCtorEq, and_self, eq_self, laws_FnMerged.c0, e1, h2, e3, e4, e5, e6, h7, e8, eq_true h9, eq_true h10, e11, h12, h13, eq_true h14]
                try rfl
              · skip
                injection H with H; subst H
                try simp only [TN, ↓reduceIte, Nat.reduceEqDiff, Nat.reduceAdd, Nat.reduceMul, Nat.reduceSub, Nat.reduceLeDiff, Nat.reduceLT, Nat.reduceBEq, Nat.reduceBNe, Int.reduceLE, Int.reduceLT, Int.reduceEq, Int.reduceToNat, ne_eq, not_false_eq_true, not_true_eq_false, reduceCtorEq, and_self, eq_self, laws_FnMerged.c0, e1, h2, e3, e4, e5, e6, h7, e8, eq_true h9, eq_true h10, e11, h12, h13, h14]
                try rfl
          · skip
            injection H with H; subst H
            try simp only [TN, ↓reduceIte, Nat.reduceEqDiff, Nat.reduceAdd, Nat.reduceMul, Nat.reduceSub, Nat.reduceLeDiff, Nat.reduceLT, Nat.reduceBEq, Nat.reduceBNe, Int.reduceLE, Int.reduceLT, Int.reduceEq, Int.reduceToNat, ne_eq, not_false_eq_true, not_true_eq_false, reduceCtorEq, and_self, eq_self, laws_FnMerged.c0, e1, h2, e3, e4, e5, e6, h7, e8, eq_true h9, eq_true h10, e11, h12]
            try rfl
        · skip
          injection H with H; subst H
          try simp only [TN, ↓reduceIte, Nat.reduceEqDiff, Nat.reduceAdd, Nat.reduceMul, Nat.reduceSub, Nat.reduceLeDiff, Nat.reduceLT, Nat.reduceBEq, Nat.reduceBNe, Int.reduceLE, Int.reduceLT, Int.reduceEq, Int.reduceToNat, ne_eq, not_false_eq_true, not_true_eq_false, reduceCtorEq, and_self, eq_self, laws_FnMerged.c0, e1, h2, e3, e4, e5, e6, h7, e8, eq_true h9, h10]
          try rfl
      · skip
        injection H with H; subst H
        try simp only [TN, ↓reduceIte, Nat.reduceEqDiff, Nat.reduceAdd, Nat.reduceMul, Nat.reduceSub, Nat.reduceLeDiff, Nat.reduceLT, Nat.reduceBEq, Nat.reduceBNe, Int.reduceLE, Int.reduceLT, Int.reduceEq, Int.reduceToNat, ne_eq, not_false_eq_true, not_true_eq_false, reduceCtorEq, and_self, eq_self, laws_FnMerged.c0, e1, h2, e3, e4, e5, e6, h7, e8, h9]
        try rfl
    · skip
      try simp only [TN, ↓reduceIte, Nat.reduceEqDiff, Nat.reduceAdd, Nat.reduceMul, Nat.reduceSub, Nat.reduceLeDiff, Nat.reduceLT, Nat.reduceBEq, Nat.reduceBNe, Int.reduceLE, Int.reduceLT, Int.reduceEq, Int.reduceToNat, ne_eq, not_false_eq_true, not_true_eq_false, reduceCtorEq, and_self, eq_self, laws_FnMerged.c0, e1, h2, e3, e4, e5, e6, h7]
      rcases ite_or H with ⟨h15, H⟩ | ⟨h15, H⟩
      · skip
        try simp only [TN, ↓reduceIte, Nat.reduceEqDiff, Nat.reduceAdd, Nat.reduceMul, Nat.reduceSub, Nat.reduceLeDiff, Nat.reduceLT, Nat.reduceBEq, Nat.reduceBNe, Int.reduceLE, Int.reduceLT, Int.reduceEq, Int.reduceToNat, ne_eq, not_false_eq_true, not_true_eq_false, reduceCtorEq, and_self, eq_self, laws_FnMerged.c0, e1, h2, e3, e4, e5, e6, h7, eq_true h15]
        rcases ite_or H with ⟨h16, H⟩ | ⟨h16, H⟩
        · skip
          obtain ⟨t13, e17, H⟩ := bnd_some H
          have e17 := laws_sameInts.link e17
          try simp only [TN, ↓reduceIte, Nat.reduceEqDiff, Nat.reduceAdd, Nat.reduceMul, Nat.reduceSub, Nat.reduceLeDiff, Nat.reduceLT, Nat.reduceBEq, Nat.reduceBNe, Int.reduceLE, Int.reduceLT, Int.reduceEq, Int.reduceToNat, ne_eq, not_false_eq_true, not_true_eq_false, reduceCtorEq, and_self, eq_self, laws_FnMerged.c0, e1, h2, e3, e4, e5, e6, h7, eq_true h15, eq_true h16, e17]
          rcases ite_b H with ⟨h18, H⟩ | ⟨h18, H⟩
          · skip
            try simp only [TN, ↓reduceIte, Nat.reduceEqDiff, Nat.reduceAdd, Nat.reduceMul, Nat.reduceSub, Nat.reduceLeDiff, Nat.reduceLT, Nat.reduceBEq, Nat.reduceBNe, Int.reduceLE, Int.reduceLT, Int.reduceEq, Int.reduceToNat, ne_eq, not_false_eq_true, not_true_eq_false, reduceCtorEq, and_self, eq_self, laws_FnMerged.c0, e1, h2, e3, e4, e5, e6, h7, eq_true h15, eq_true h16, e17, h18]
            rcases ite_b H with ⟨h19, H⟩ | ⟨h19, H⟩
            · skip
              try simp only [TN, ↓reduceIte, Nat.reduceEqDiff, Nat.reduceAdd, Nat.reduceMul, Nat.reduceSub, Nat.reduceLeDiff, Nat.reduceLT, Nat.reduceBEq, Nat.reduceBNe, Int.reduceLE, Int.reduceLT, Int.reduceEq, Int.reduceToNat, ne_eq, not_false_eq_true, not_true_eq_false, reduceCtorEq, and_self, eq_self, laws_FnMerged.c0, e1, h2, e3, e4, e5, e6, h7, eq_true h15, eq_true h16, e17, h18, h19]
              refine (laws_FnMerged.w k) _ _ _ _ _ _ _ _ _ H _ ?_
              first | (rw [canon_eq]; done) | (rw [canon_eq]; rfl) | (rw [canon_eq]; simp only [List.length_set, List.length_append, List.length_replicate]; rfl)
            · skip
              try simp only [TN, ↓reduceIte, Nat.reduceEqDiff, Nat.reduceAdd, Nat.reduceMul, Nat.reduceSub, Nat.reduceLeDiff, Nat.reduceLT, Nat.reduceBEq, Nat.reduceBNe, Int.reduceLE, Int.reduceLT, Int.reduceEq, Int.reduceToNat, ne_eq, not_false_eq_true, not_true_eq_false, reduceCtorEq, and_self, eq_self, laws_FnMerged.c0, e1, h2, e3, e4, e5, e6, h7, eq_true h15, eq_true h16, e17, h18, h19]
              rcases ite_or H with ⟨h20, H⟩ | ⟨h20, H⟩
              · skip
                injection H with H; subst H
                try simp only [TN, ↓reduceIte, Nat.reduceEqDiff, Nat.reduceAdd, Nat.reduceMul, Nat.reduceSub, Nat.reduceLeDiff, Nat.reduceLT, Nat.reduceBEq, Nat.reduceBNe, Int.reduceLE, Int.reduceLT, Int.reduceEq, Int.reduceToNat, ne_eq, not_false_eq_true, not_true_eq_false, reduceCtorEq, and_self, eq_self, laws_FnMerged.c0, e1, h2, e3, e4, e5, e6, h7, eq_true h15, eq_true h16, e17, h18, h19, eq_true h20]
                try rfl
              · skip
                injection H with H; subst H
                try simp only [TN, ↓reduceIte, Nat.reduceEqDiff, Nat.reduceAdd, Nat.reduceMul, Nat.reduceSub, Nat.reduceLeDiff, Nat.reduceLT, Nat.reduceBEq, Nat.reduceBNe, Int.reduceLE, Int.reduceLT, Int.reduceEq, Int.reduceToNat, ne_eq, not_false_eq_true, not_true_eq_false, reduceCtorEq, and_self, eq_self, laws_FnMerged.c0, e1, h2, e3, e4, e5, e6, h7, eq_true h15, eq_true h16, e17, h18, h19, h20]
                try rfl
          · skip
            injection H with H; subst H
            try simp only [TN, ↓reduceIte, Nat.reduceEqDiff, Nat.reduceAdd, Nat.reduceMul, Nat.reduceSub, Nat.reduceLeDiff, Nat.reduceLT, Nat.reduceBEq, Nat.reduceBNe, Int.reduceLE, Int.reduceLT, Int.reduceEq, Int.reduceToNat, ne_eq, not_false_eq_true, not_true_eq_false, reduceCtorEq, and_self, eq_self, laws_FnMerged.c0, e1, h2, e3, e4, e5, e6, h7, eq_true h15, eq_true h16, e17, h18]
            try rfl
        · skip
          injection H with H; subst H
          try simp only [TN, ↓reduceIte, Nat.reduceEqDiff, Nat.reduceAdd, Nat.reduceMul, Nat.reduceSub, Nat.reduceLeDiff, Nat.reduceLT, Nat.reduceBEq, Nat.reduceBNe, Int.reduceLE, Int.reduceLT, Int.reduceEq, Int.reduceToNat, ne_eq, not_false_eq_true, not_true_eq_false, reduceCtorEq, and_self, eq_self, laws_FnMerged.c0, e1, h2, e3, e4, e5, e6, h7, eq_true h15, h16]
          try rfl
      · skip
        injection H with H; subst H
        try simp only [TN, ↓reduceIte, Nat.reduceEqDiff, Nat.reduceAdd, Nat.reduceMul, Nat.reduceSub, Nat.reduceLeDiff, Nat.reduceLT, Nat.reduceBEq, Nat.reduceBNe, Int.reduceLE, Int.reduceLT, Int.reduceEq, Int.reduceToNat, ne_eq, not_false_eq_true, not_true_eq_false, reduceCtorEq, and_self, eq_self, laws_FnMerged.c0, e1, h2, e3, e4, e5, e6, h7, h15]
        try rfl
end Go.Proofs.Ythccagmifnipdaa.P
end YthccagmifnipdaaL3
section YthccagmifnipdaaXBase
namespace Go.Proofs.Ythccagmifnipdaa.B
open Go Go.RowKit Go.Proofs.Ythccagmifnipdaa.V Go.Proofs.Ythccagmifnipdaa.P

theorem wid {n : Int} (h0 : -9223372036854775808 ≤ n) (h1 : n ≤ 9223372036854775807) : wrap64 n = n := by unfold wrap64; omega
theorem wsucc {i : Nat} (h : i < 9223372036854775807) : wrap64 ((i : Int) + 1) = ((i + 1 : Nat) : Int) := by unfold wrap64; omega
theorem wsub {a : Int} {n : Nat} (h0 : 0 ≤ a) (h1 : a ≤ 9223372036854775807) (hn : n ≤ 9223372036854775807) : wrap64 (a - (n : Int)) = a - (n : Int) := by unfold wrap64; omega

/-- A counted loop: what it answers from i on, with enough rounds. -/
theorem loop {ρ : Type} (g : Nat → Nat → ρ) (n : Nat) (R : Nat → ρ) (last : ∀ k, g (k + 1) n = R n)
    (step : ∀ k i, i < n → (g k (i + 1) = R (i + 1)) → g (k + 1) i = R i) : ∀ k i, i ≤ n → n - i < k → g k i = R i := by
  intro k
  induction k with
  | zero => intro i _ h; omega
  | succ k ih =>
    intro i hi hk
    rcases Nat.lt_or_ge i n with hlt | hge
    · exact step k i hlt (ih (i + 1) hlt (by omega))
    · obtain rfl : i = n := by omega
      exact last k

/-- The same, where the rounds of what is called in the body are also bounded below. -/
theorem loopk {ρ : Type} (g : Nat → Nat → ρ) (n b : Nat) (R : Nat → ρ) (last : ∀ k, b ≤ k → g (k + 1) n = R n)
    (step : ∀ k i, b ≤ k → i < n → (g k (i + 1) = R (i + 1)) → g (k + 1) i = R i) : ∀ k i, i ≤ n → b + (n - i) < k → g k i = R i := by
  intro k
  induction k with
  | zero => intro i _ h; omega
  | succ k ih =>
    intro i hi hk
    rcases Nat.lt_or_ge i n with hlt | hge
    · exact step k i (by omega) hlt (ih (i + 1) hlt (by omega))
    · obtain rfl : i = n := by omega
      exact last k (by omega)

/-- With something that holds at the head of each round. -/
theorem loopI {ρ : Type} (g : Nat → Nat → ρ) (n b : Nat) (I : Nat → Prop) (R : Nat → ρ) (last : ∀ k, b ≤ k → I n → g (k + 1) n = R n)
    (step : ∀ k i, b ≤ k → i < n → I i → (I (i + 1) → g k (i + 1) = R (i + 1)) → g (k + 1) i = R i) : ∀ k i, i ≤ n → I i → b + (n - i) < k → g k i = R i := by
  intro k
  induction k with
  | zero => intro i _ _ h; omega
  | succ k ih =>
    intro i hi hI hk
    rcases Nat.lt_or_ge i n with hlt | hge
    · exact step k i (by omega) hlt hI (fun hI' => ih (i + 1) hlt hI' (by omega))
    · obtain rfl : i = n := by omega
      exact last k (by omega) hI

theorem getD_lt {α : Type} {xs : List α} {i : Nat} {z : α} (h : i < xs.length) : xs.getD i z = xs[i] := by
  rw [List.getD_eq_getElem?_getD, List.getElem?_eq_getElem h]; rfl

/-- A row that is filled from the front. -/
def filled {α β : Type} (l : List α) (f : α → β) (z : β) (i : Nat) : List β := (l.take i).map f ++ List.replicate (l.length - i) z
theorem filled_length {α β : Type} (l : List α) (f : α → β) (z : β) {i : Nat} (h : i ≤ l.length) : (filled l f z i).length = l.length := by
  unfold filled; simp; omega
theorem filled_zero {α β : Type} (l : List α) (f : α → β) (z : β) : filled l f z 0 = List.replicate l.length z := by simp [filled]
theorem filled_all {α β : Type} (l : List α) (f : α → β) (z : β) : filled l f z l.length = l.map f := by simp [filled]
theorem filled_set {α β : Type} (l : List α) (f : α → β) (z : β) {i : Nat} (h : i < l.length) : (filled l f z i).set i (f l[i]) = filled l f z (i + 1) := by
  unfold filled
  rw [List.set_append_right _ _ (by simp; omega)]
  have h1 : i - ((l.take i).map f).length = 0 := by simp; omega
  rw [h1]
  obtain ⟨m, hm⟩ : ∃ m, l.length - i = m + 1 := ⟨l.length - i - 1, by omega⟩
  rw [hm, show l.length - (i + 1) = m by omega, List.replicate_succ, List.set_cons_zero, List.take_succ_eq_append_getElem h, List.map_append, List.append_assoc]
  rfl

/-- Numbers one after the other. -/
def run (a : Int) (n : Nat) : List Int := (List.range n).map fun (i : Nat) => a + (i : Int)
theorem run_length (a : Int) (n : Nat) : (run a n).length = n := by simp [run]
theorem run_get (a : Int) (n : Nat) {i : Nat} (h : i < n) : (run a n).getD i 0 = a + (i : Int) := by
  rw [getD_lt (by simpa [run] using h)]
  simp [run]

theorem take_snoc {α β : Type} (l : List α) (f : α → β) {i : Nat} (h : i < l.length) : (l.take i).map f ++ [f l[i]] = (l.take (i + 1)).map f := by
  rw [List.take_succ_eq_append_getElem h, List.map_append]; rfl
theorem drop_eq_iff {α : Type} {a b : List α} {i : Nat} (ha : i < a.length) (hb : i < b.length) : a.drop i = b.drop i ↔ a[i] = b[i] ∧ a.drop (i + 1) = b.drop (i + 1) := by
  rw [List.drop_eq_getElem_cons ha, List.drop_eq_getElem_cons hb, List.cons.injEq]
theorem drop_eq_dec {α : Type} [DecidableEq α] {a b : List α} {i : Nat} (ha : i < a.length) (hb : i < b.length) : decide (a.drop i = b.drop i) = (decide (a[i] = b[i]) && decide (a.drop (i + 1) = b.drop (i + 1))) := by
  rw [Bool.eq_iff_iff]; simp only [Bool.and_eq_true, decide_eq_true_eq]; exact drop_eq_iff ha hb
theorem foldl_take {α β : Type} (f : β → α → β) (z : β) (l : List α) {i : Nat} (h : i < l.length) : (l.take (i + 1)).foldl f z = f ((l.take i).foldl f z) l[i] := by
  rw [List.take_succ_eq_append_getElem h, List.foldl_append]; rfl
/-- The first place from i on at which p holds, or -1. -/
def idxFrom {α : Type} (p : α → Bool) : List α → Nat → Int
  | [], _ => -1
  | x :: xs, i => if p x = true then (i : Int) else idxFrom p xs (i + 1)
theorem idxFrom_drop {α : Type} (p : α → Bool) (l : List α) {i : Nat} (h : i < l.length) : idxFrom p (l.drop i) i = if p l[i] = true then (i : Int) else idxFrom p (l.drop (i + 1)) (i + 1) := by
  rw [List.drop_eq_getElem_cons h]; rfl
theorem idxFrom_any {α : Type} (p : α → Bool) (l : List α) (i : Nat) : decide (idxFrom p l i ≥ 0) = l.any p := by
  induction l generalizing i with
  | nil => rfl
  | cons x xs ih =>
    unfold idxFrom
    rw [List.any_cons]
    cases hp : p x with
    | true => simp
    | false => rw [if_neg (by simp), ih]; simp
end Go.Proofs.Ythccagmifnipdaa.B
end YthccagmifnipdaaXBase
section YthccagmifnipdaaXEv
namespace Go.Proofs.Ythccagmifnipdaa.B
open Go Go.RowKit Go.Proofs.Ythccagmifnipdaa.V Go.Proofs.Ythccagmifnipdaa.P
def Ev {α : Type} (g : Nat → Option α) (v : α) : Prop := ∃ K, ∀ k, K ≤ k → g k = some v
theorem Ev.of {α : Type} {g : Nat → Option α} {v : α} (K : Nat) (h : ∀ k, K < k → g k = some v) : Ev g v := ⟨K + 1, fun k hk => h k hk⟩
theorem Ev.succ {α : Type} {g : Nat → Option α} {v : α} (h : Ev (fun k => g (k + 1)) v) : Ev g v := by
  obtain ⟨K, h⟩ := h
  refine ⟨K + 1, fun k hk => ?_⟩
  obtain ⟨m, rfl⟩ : ∃ m, k = m + 1 := ⟨k - 1, by omega⟩
  exact h m (by omega)
theorem Ev.pure {α : Type} (v : α) : Ev (fun _ => some v) v := ⟨0, fun _ _ => rfl⟩
theorem Ev.bind {α β : Type} {f : Nat → Option α} {g : Nat → α → Option β} {a : α} {v : β} (hf : Ev f a) (hg : Ev (fun k => g k a) v) : Ev (fun k => (f k).bind (g k)) v := by
  obtain ⟨K, hf⟩ := hf
  obtain ⟨L, hg⟩ := hg
  refine ⟨K + L, fun k hk => ?_⟩
  show (f k).bind (g k) = some v
  rw [hf k (by omega), Option.bind_some]
  exact hg k (by omega)
theorem Ev.ite {α : Type} {p : Prop} [Decidable p] {f g : Nat → Option α} {v : α} (hf : p → Ev f v) (hg : ¬p → Ev g v) : Ev (fun k => if p then f k else g k) v := by
  by_cases h : p
  · obtain ⟨K, hf⟩ := hf h; exact ⟨K, fun k hk => by show (if p then f k else g k) = some v; rw [if_pos h]; exact hf k hk⟩
  · obtain ⟨K, hg⟩ := hg h; exact ⟨K, fun k hk => by show (if p then f k else g k) = some v; rw [if_neg h]; exact hg k hk⟩
theorem Ev.eq {α : Type} {g : Nat → Option α} {v w : α} (h : Ev g v) (e : v = w) : Ev g w := e ▸ h
theorem Ev.ex {α : Type} {g : Nat → Option α} {v : α} (h : Ev g v) : ∃ k, g k = some v := by obtain ⟨K, h⟩ := h; exact ⟨K, h K (Nat.le_refl _)⟩
/-- A loop over i, i + 1, .., n, with what holds ahead of each round. -/
theorem Ev.loop {ρ : Type} {g : Nat → Nat → Option ρ} (n : Nat) (I : Nat → Prop) {v : ρ} (last : I n → Ev (fun k => g k n) v)
    (step : ∀ i, i < n → I i → (I (i + 1) → Ev (fun k => g k (i + 1)) v) → Ev (fun k => g k i) v) : ∀ i, i ≤ n → I i → Ev (fun k => g k i) v := by
  intro i hi
  obtain ⟨d, hd⟩ : ∃ d, n - i = d := ⟨_, rfl⟩
  induction d generalizing i with
  | zero => obtain rfl : i = n := by omega
            exact last
  | succ d ih => exact fun hI => step i (by omega) hI (ih (i + 1) (by omega) (by omega))
end Go.Proofs.Ythccagmifnipdaa.B
end YthccagmifnipdaaXEv
section YthccagmifnipdaaXEvP
namespace Go.Proofs.Ythccagmifnipdaa.B
open Go Go.RowKit Go.Proofs.Ythccagmifnipdaa.V Go.Proofs.Ythccagmifnipdaa.P
def EvP {α : Type} (g : Nat → Option α) (P : α → Prop) : Prop := ∃ v, P v ∧ Ev g v
theorem EvP.of {α : Type} {g : Nat → Option α} {v : α} {P : α → Prop} (h : Ev g v) (p : P v) : EvP g P := ⟨v, p, h⟩
theorem EvP.pure {α : Type} {v : α} {P : α → Prop} (p : P v) : EvP (fun _ => some v) P := ⟨v, p, Ev.pure v⟩
theorem EvP.mono {α : Type} {g : Nat → Option α} {P Q : α → Prop} (h : EvP g P) (q : ∀ v, P v → Q v) : EvP g Q := by
  obtain ⟨v, p, h⟩ := h; exact ⟨v, q v p, h⟩
theorem EvP.succ {α : Type} {g : Nat → Option α} {P : α → Prop} (h : EvP (fun k => g (k + 1)) P) : EvP g P := by
  obtain ⟨v, p, h⟩ := h; exact ⟨v, p, Ev.succ h⟩
theorem EvP.bind {α β : Type} {f : Nat → Option α} {g : Nat → α → Option β} {P : α → Prop} {Q : β → Prop} (hf : EvP f P) (hg : ∀ v, P v → EvP (fun k => g k v) Q) : EvP (fun k => (f k).bind (g k)) Q := by
  obtain ⟨v, p, h⟩ := hf
  obtain ⟨u, q, h'⟩ := hg v p
  exact ⟨u, q, Ev.bind h h'⟩
theorem EvP.ite {α : Type} {p : Prop} [Decidable p] {f g : Nat → Option α} {P : α → Prop} (hf : p → EvP f P) (hg : ¬p → EvP g P) : EvP (fun k => if p then f k else g k) P := by
  by_cases h : p
  · obtain ⟨v, q, e⟩ := hf h; exact ⟨v, q, Ev.ite (fun _ => e) (fun c => absurd h c)⟩
  · obtain ⟨v, q, e⟩ := hg h; exact ⟨v, q, Ev.ite (fun c => absurd c h) (fun _ => e)⟩
/-- From a property of the answer to an answer: the part behind is told of the answer itself. -/
theorem EvP.ev {α : Type} {g : Nat → Option α} {P : α → Prop} (h : EvP g P) : ∃ v, P v ∧ Ev g v := h
theorem Ev.of_mono {α : Type} {g : Nat → Option α} {v : α} (m : ∀ k r, g k = some r → g (k + 1) = some r) {k : Nat} (h : g k = some v) : Ev g v := by
  refine ⟨k, fun j hj => ?_⟩
  obtain ⟨d, rfl⟩ : ∃ d, j = k + d := ⟨j - k, by omega⟩
  clear hj
  induction d with
  | zero => exact h
  | succ d ih => exact m _ _ ih
/-- A drawn answer: a property of what is drawn, and the cursor stays in the code. -/
def Cu (b : List Int) {α : Type} (Q : α → Prop) (t : α × Int × Int) : Prop := Q t.1 ∧ 0 ≤ t.2.1 ∧ t.2.1 ≤ (b.length : Int)
theorem Cu.mk_ {b : List Int} {α : Type} {Q : α → Prop} {v : α} {i h : Int} (q : Q v) (h0 : 0 ≤ i) (h1 : i ≤ (b.length : Int)) : Cu b Q (v, i, h) := ⟨q, h0, h1⟩
end Go.Proofs.Ythccagmifnipdaa.B
end YthccagmifnipdaaXEvP
section YthccagmifnipdaaXDraw
namespace Go.Proofs.Ythccagmifnipdaa.X
open Go Go.RowKit Go.Proofs.Ythccagmifnipdaa.V Go.Proofs.Ythccagmifnipdaa.P

theorem and255 (n : Int) : 0 ≤ bits .and .i64 n 255 ∧ bits .and .i64 n 255 ≤ 255 := by
  have h255 : (BitVec.ofInt 64 255).toNat = 2 ^ 8 - 1 := by decide
  have key : (BitVec.ofInt 64 n &&& BitVec.ofInt 64 255).toNat = (n % ((2 ^ 64 : Nat) : Int)).toNat % 2 ^ 8 := by
    rw [BitVec.toNat_and, BitVec.toNat_ofInt, h255, Nat.and_two_pow_sub_one_eq_mod]
  have e : bits .and .i64 n 255 = n % 256 := by
    show IntKind.i64.wrap ((BitVec.ofInt 64 n &&& BitVec.ofInt 64 255).toNat : Nat) = n % 256
    rw [key, IntKind.wrap_i64]
    omega
  omega

theorem drByte {b : List Int} (hb : b.length ≤ 4194304) {i : Int} (h : Int) (h0 : 0 ≤ i) (h1 : i ≤ (b.length : Int)) : B.EvP (fun _ => spec_l1Byte.f b i h) (B.Cu b fun v => 0 ≤ v ∧ v ≤ 255) := by
  unfold spec_l1Byte.f
  refine B.EvP.ite (fun c => ?_) (fun c => B.EvP.pure ⟨and255 _, h0, h1⟩)
  rw [if_pos h0]
  have e : wrap64 (i + 1) = i + 1 := B.wid (by omega) (by omega)
  rw [e]
  exact B.EvP.pure ⟨and255 _, by simp only; omega, by simp only; omega⟩

def Below_ (n v : Int) : Prop := 0 ≤ v ∧ (0 < n → v < n) ∧ (n ≤ 0 → v = 0)
theorem drBelow {b : List Int} (hb : b.length ≤ 4194304) {i : Int} (h : Int) (n : Int) (h0 : 0 ≤ i) (h1 : i ≤ (b.length : Int)) : B.EvP (fun _ => spec_l1Below.f b i h n) (B.Cu b (Below_ n)) := by
  unfold spec_l1Below.f
  refine B.EvP.ite (fun c => B.EvP.pure ⟨⟨by omega, by omega, fun _ => rfl⟩, h0, h1⟩) (fun c => ?_)
  have fin : ∀ x : Int, 0 ≤ x → Below_ n (Int.tmod x n) := fun x hx => ⟨Int.tmod_nonneg _ hx, fun hn => Int.tmod_lt_of_pos _ hn, fun hn => absurd hn c⟩
  refine B.EvP.ite (fun c2 => ?_) (fun c2 => ?_)
  · refine B.EvP.bind (drByte hb h h0 h1) ?_
    rintro ⟨v, i, h⟩ ⟨q, h0, h1⟩
    rw [if_neg (by omega)]
    exact B.EvP.pure ⟨fin _ q.1, h0, h1⟩
  · refine B.EvP.bind (drByte hb h h0 h1) ?_
    rintro ⟨v, i, h⟩ ⟨q, h0, h1⟩
    refine B.EvP.bind (drByte hb h h0 h1) ?_
    rintro ⟨v2, i, h⟩ ⟨q2, h0, h1⟩
    refine B.EvP.bind (drByte hb h h0 h1) ?_
    rintro ⟨v3, i, h⟩ ⟨q3, h0, h1⟩
    refine B.EvP.bind (drByte hb h h0 h1) ?_
    rintro ⟨v4, i, h⟩ ⟨q4, h0, h1⟩
    rw [if_neg (by omega)]
    refine B.EvP.pure ⟨fin _ ?_, h0, h1⟩
    simp only at q q2 q3 q4 ⊢
    rw [B.wid (n := v * 16777216) (by omega) (by omega), B.wid (n := v2 * 65536) (by omega) (by omega), B.wid (n := v3 * 256) (by omega) (by omega), B.wid (n := v * 16777216 + v2 * 65536) (by omega) (by omega), B.wid (n := v * 16777216 + v2 * 65536 + v3 * 256) (by omega) (by omega), B.wid (by omega) (by omega)]
    omega

theorem drLabel {b : List Int} (hb : b.length ≤ 4194304) {i : Int} (h : Int) (h0 : 0 ≤ i) (h1 : i ≤ (b.length : Int)) : B.EvP (fun _ => spec_l2Label.f b i h) (B.Cu b fun v => 0 ≤ v ∧ v ≤ 3) := by
  unfold spec_l2Label.f
  refine B.EvP.bind (drBelow hb h 4 h0 h1) ?_
  rintro ⟨v, i, h⟩ ⟨q, h0, h1⟩
  exact B.EvP.pure ⟨⟨q.1, by have := q.2.1 (by decide); simp only at this ⊢; omega⟩, h0, h1⟩
theorem drPick {b : List Int} (hb : b.length ≤ 4194304) {i : Int} (h : Int) (l : List Int) (hl : 0 < l.length) (h0 : 0 ≤ i) (h1 : i ≤ (b.length : Int)) : B.EvP (fun _ => spec_l1PickInt.f b i h l) (B.Cu b fun v => v ∈ l) := by
  unfold spec_l1PickInt.f
  refine B.EvP.bind (drBelow hb h (l.length : Int) h0 h1) ?_
  rintro ⟨v, i, h⟩ ⟨q, h0, h1⟩
  have q1 := q.1
  have q2 := q.2.1 (by omega)
  simp only at q1 q2 ⊢
  rw [if_pos q1, if_pos q2]
  refine B.EvP.pure ⟨?_, h0, h1⟩
  show rd l v ∈ l
  unfold rd
  rw [B.getD_lt (by omega)]
  exact List.getElem_mem _
theorem drAnyLabel {b : List Int} (hb : b.length ≤ 4194304) {i : Int} (h : Int) (h0 : 0 ≤ i) (h1 : i ≤ (b.length : Int)) : B.EvP (fun _ => spec_l2Any.f b i h) (B.Cu b fun v => -1 ≤ v ∧ v ≤ 6) := by
  unfold spec_l2Any.f
  refine B.EvP.bind (drPick hb h [0, 1, 2, 3, 5, 6, -1] (by decide) h0 h1) ?_
  rintro ⟨v, i, h⟩ ⟨q, h0, h1⟩
  refine B.EvP.pure ⟨?_, h0, h1⟩
  simp at q ⊢
  omega
/-- The cursor at the begin of a code. -/
theorem drNew (l : List Int) (hl : l.length ≤ 4194304) : B.EvP (fun k => spec_l1New.f k l) (fun t => t.1 = l ∧ t.2.1 = 0) := by
  unfold spec_l1New.f
  suffices H : ∀ n : Nat, ∀ (i : Nat) (x : Int), i + n = l.length → B.EvP (fun k => spec_l1New.l0 k l x (i : Int)) (fun t => t.1 = l ∧ t.2.1 = 0) from H l.length 0 _ (by omega)
  intro n
  induction n with
  | zero =>
    intro i x hi
    refine B.EvP.succ ?_
    simp only [spec_l1New.l0, show ¬ ((i : Int) < (l.length : Int)) by omega, ↓reduceIte]
    exact B.EvP.pure ⟨rfl, rfl⟩
  | succ n ih =>
    intro i x hi
    refine B.EvP.succ ?_
    simp only [spec_l1New.l0, show (i : Int) < (l.length : Int) by omega, show 0 ≤ (i : Int) by omega, ↓reduceIte, B.wsucc (show i < 9223372036854775807 by omega)]
    exact B.EvP.ite (fun c => ih (i + 1) _ (by omega)) (fun c => B.EvP.pure ⟨rfl, rfl⟩)
theorem lawBig (l : List Int) : laws_big.f l = some (decide ((l.length : Int) > 1048576)) := rfl
end Go.Proofs.Ythccagmifnipdaa.X
end YthccagmifnipdaaXDraw
section YthccagmifnipdaaXDrawOnce
namespace Go.Proofs.Ythccagmifnipdaa.X
open Go Go.RowKit Go.Proofs.Ythccagmifnipdaa.V Go.Proofs.Ythccagmifnipdaa.P
theorem drOnce {b : List Int} (hb : b.length ≤ 4194304) {i : Int} (h : Int) (n : Int) (h0 : 0 ≤ i) (h1 : i ≤ (b.length : Int)) : B.EvP (fun _ => spec_l1Once.f b i h n) (B.Cu b fun _ => True) := by
  unfold spec_l1Once.f
  refine B.EvP.bind (drBelow hb h n h0 h1) ?_
  rintro ⟨v, i, h⟩ ⟨q, h0, h1⟩
  exact B.EvP.pure ⟨trivial, h0, h1⟩
end Go.Proofs.Ythccagmifnipdaa.X
end YthccagmifnipdaaXDrawOnce
section YthccagmifnipdaaXMark
namespace Go.Proofs.Ythccagmifnipdaa.X
open Go Go.RowKit Go.Proofs.Ythccagmifnipdaa.V Go.Proofs.Ythccagmifnipdaa.P

theorem l1In (a b c : Int) : spec_l1In.f a b c = some (decide (b ≤ a ∧ a ≤ c)) := by
  unfold spec_l1In.f
  by_cases h : b ≤ a <;> simp [h]
theorem within (a b c : Int) : impl_within.f a b c = some (decide (b ≤ a ∧ a ≤ c)) := by
  unfold impl_within.f
  by_cases h : b ≤ a <;> simp [h]
theorem specLabelOk (a : Int) : spec_LabelOk.f a = some (decide (0 ≤ a ∧ a ≤ 5)) := by unfold spec_LabelOk.f; rw [l1In]; rfl
theorem implLabelOk (a : Int) : impl_LabelOk.f a = some (decide (0 ≤ a ∧ a ≤ 5)) := by unfold impl_LabelOk.f; rw [within]; rfl
end Go.Proofs.Ythccagmifnipdaa.X
end YthccagmifnipdaaXMark
section YthccagmifnipdaaXTree
namespace Go.Proofs.Ythccagmifnipdaa.X
open Go Go.RowKit Go.Proofs.Ythccagmifnipdaa.V Go.Proofs.Ythccagmifnipdaa.P

theorem rdNode {xs : List S33} {i : Nat} : rd_T33 xs (i : Int) = xs.getD i z33 := by unfold rd_T33; rw [Int.toNat_natCast]
/-- Label and depth of a node. -/
def lab (l : List S33) (i : Nat) : Int := (l.getD i z33).f0
def dep (l : List S33) (i : Nat) : Int := (l.getD i z33).f1
def okAt (l : List S33) (i : Nat) : Bool :=
  decide (0 ≤ lab l i ∧ lab l i ≤ 5) && decide (0 ≤ dep l i ∧ dep l i ≤ 12) && decide (dep l i = 0 ↔ i = 0) && (decide (i = 0) || decide (dep l i ≤ dep l (i - 1) + 1))
def okUpto (l : List S33) (n : Nat) : Bool := (List.range n).all (okAt l)
/-- The tree is valid. -/
def okT (l : List S33) : Bool := decide (1 ≤ l.length ∧ l.length ≤ 24) && okUpto l l.length

theorem okUpto_succ (l : List S33) (n : Nat) : okUpto l (n + 1) = (okUpto l n && okAt l n) := by unfold okUpto; rw [List.range_succ, List.all_append]; simp
theorem okUpto_at {l : List S33} {n i : Nat} (h : okUpto l n = true) (hi : i < n) : okAt l i = true := by
  unfold okUpto at h; exact List.all_eq_true.1 h i (List.mem_range.2 hi)
theorem okAt_iff {l : List S33} {i : Nat} : okAt l i = true ↔ (0 ≤ lab l i ∧ lab l i ≤ 5) ∧ (0 ≤ dep l i ∧ dep l i ≤ 12) ∧ (dep l i = 0 ↔ i = 0) ∧ (i = 0 ∨ dep l i ≤ dep l (i - 1) + 1) := by
  unfold okAt; simp [and_assoc]
theorem okUpto_mono {l : List S33} {n m : Nat} (h : okUpto l n = true) (hm : m ≤ n) : okUpto l m = true := by
  unfold okUpto at *; exact List.all_eq_true.2 fun i hi => List.all_eq_true.1 h i (List.mem_range.2 (by have := List.mem_range.1 hi; omega))
theorem okUpto_false {l : List S33} {n i : Nat} (h : okAt l i = false) (hi : i < n) : okUpto l n = false := by
  rw [Bool.eq_false_iff]; intro hc; rw [okUpto_at hc hi] at h; cases h
theorem okT_len {l : List S33} (h : okT l = true) : 1 ≤ l.length ∧ l.length ≤ 24 := by unfold okT at h; simp at h; exact h.1
theorem okT_upto {l : List S33} (h : okT l = true) : okUpto l l.length = true := by unfold okT at h; simp at h; exact h.2
theorem okT_at {l : List S33} (h : okT l = true) {i : Nat} (hi : i < l.length) : (0 ≤ lab l i ∧ lab l i ≤ 5) ∧ (0 ≤ dep l i ∧ dep l i ≤ 12) ∧ (dep l i = 0 ↔ i = 0) ∧ (i = 0 ∨ dep l i ≤ dep l (i - 1) + 1) :=
  okAt_iff.1 (okUpto_at (okT_upto h) hi)


theorem specTreeOk (l : List S33) (hl : l.length ≤ 4194304) (k : Nat) (hk : l.length < k) : spec_TreeOk.f k l = some (okT l) := by
  unfold spec_TreeOk.f
  refine B.loopI (fun k i => spec_TreeOk.l0 k l (i : Int)) l.length 0 (fun i => okUpto l i = true) (fun _ => some (okT l)) ?_ ?_ k 0 (by omega) (by simp [okUpto]) (by omega)
  · intro k _ hI
    simp only [spec_TreeOk.l0]
    rw [if_neg (by omega), l1In]
    unfold okT
    rw [hI]
    simp only [Option.bind_some, Bool.and_true, Option.some.injEq]
    congr 1
    apply propext
    omega
  · intro k i _ hi hI ih
    have a1 : (i : Int) < (l.length : Int) := by omega
    have a3 : 0 ≤ (i : Int) := by omega
    simp only [spec_TreeOk.l0, a1, a3, ↓reduceIte, B.wsucc (show i < 9223372036854775807 by omega), specLabelOk, l1In, Option.bind_some, rdNode]
    rw [okUpto_succ, hI, Bool.true_and] at ih
    have hno : okAt l i = false → some false = some (okT l) := fun h => by
      unfold okT; rw [okUpto_false h hi, Bool.and_false]
    have e0 : lab l i = (l.getD i z33).f0 := rfl
    have e1 : dep l i = (l.getD i z33).f1 := rfl
    rw [← e0, ← e1]
    by_cases h1 : 0 ≤ lab l i ∧ lab l i ≤ 5
    · rw [if_pos (by simpa using h1)]
      by_cases h2 : 0 ≤ dep l i ∧ dep l i ≤ 12
      · rw [if_pos (by simpa using h2)]
        by_cases h3 : (dep l i = 0 ↔ i = 0)
        · rw [if_pos (by rw [Bool.eq_iff_iff]; simp only [decide_eq_true_eq]; omega)]
          rcases Nat.eq_zero_or_pos i with h0 | h0
          · subst h0
            rw [if_neg (by simp)]
            exact ih (okAt_iff.2 ⟨h1, h2, h3, Or.inl rfl⟩)
          · have ew : wrap64 ((i : Int) - 1) = ((i - 1 : Nat) : Int) := by unfold wrap64; omega
            have hp := (okAt_iff.1 (okUpto_at hI (i := i - 1) (by omega))).2.1
            rw [if_pos (by omega), ew, if_pos (by omega), if_pos (by omega), rdNode]
            have e2 : dep l (i - 1) = (l.getD (i - 1) z33).f1 := rfl
            rw [← e2, B.wid (by omega) (by omega)]
            by_cases h4 : dep l i ≤ dep l (i - 1) + 1
            · rw [if_neg (by omega)]
              exact ih (okAt_iff.2 ⟨h1, h2, h3, Or.inr h4⟩)
            · rw [if_pos (by omega)]
              refine hno ?_
              rw [Bool.eq_false_iff]; intro hc
              rcases (okAt_iff.1 hc).2.2.2 with h | h <;> omega
        · rw [if_neg (by rw [Bool.eq_iff_iff]; simp only [decide_eq_true_eq]; omega)]
          refine hno ?_
          rw [Bool.eq_false_iff]; intro hc; exact h3 (okAt_iff.1 hc).2.2.1
      · rw [if_neg (by simpa using h2)]
        refine hno ?_
        rw [Bool.eq_false_iff]; intro hc; exact h2 (okAt_iff.1 hc).2.1
    · rw [if_neg (by simpa using h1)]
      refine hno ?_
      rw [Bool.eq_false_iff]; intro hc; exact h1 (okAt_iff.1 hc).1

theorem implTreeOk (l : List S33) (hl : l.length ≤ 4194304) (k : Nat) (hk : l.length < k) : impl_TreeOk.f k l = some (okT l) := by
  unfold impl_TreeOk.f
  rw [within]
  simp only [Option.bind_some]
  by_cases hn : 1 ≤ l.length ∧ l.length ≤ 24
  · rw [if_pos (by simp; omega)]
    refine B.loopI (fun k i => impl_TreeOk.l0 k l l (l.length : Int) (i : Int)) l.length 0 (fun i => okUpto l i = true) (fun _ => some (okT l)) ?_ ?_ k 0 (by omega) (by simp [okUpto]) (by omega)
    · intro k _ hI
      simp only [impl_TreeOk.l0]
      rw [if_neg (by omega)]
      unfold okT
      rw [hI, decide_eq_true hn]; rfl
    · intro k i _ hi hI ih
      have a1 : (i : Int) < (l.length : Int) := by omega
      have a3 : 0 ≤ (i : Int) := by omega
      simp only [impl_TreeOk.l0, a1, a3, ↓reduceIte, B.wsucc (show i < 9223372036854775807 by omega), implLabelOk, within, Option.bind_some, rdNode]
      rw [okUpto_succ, hI, Bool.true_and] at ih
      have hno : okAt l i = false → some false = some (okT l) := fun h => by
        unfold okT; rw [okUpto_false h hi, Bool.and_false]
      have e0 : lab l i = (l.getD i z33).f0 := rfl
      have e1 : dep l i = (l.getD i z33).f1 := rfl
      rw [← e0, ← e1]
      by_cases h1 : 0 ≤ lab l i ∧ lab l i ≤ 5
      · rw [if_pos (by simpa using h1)]
        by_cases h2 : 0 ≤ dep l i ∧ dep l i ≤ 12
        · rw [if_pos (by simpa using h2)]
          have hd : impl_depthOk.f l (i : Int) = some (decide ((dep l i = 0 ↔ i = 0) ∧ (i = 0 ∨ dep l i ≤ dep l (i - 1) + 1))) := by
            unfold impl_depthOk.f
            rcases Nat.eq_zero_or_pos i with h0 | h0
            · subst h0
              rw [if_pos (by simp), if_pos (by omega)]
              have := rdNode (xs := l) (i := 0)
              rw [show ((0 : Nat) : Int) = 0 from rfl] at this
              rw [this]
              show some (dep l 0 == 0) = _
              rw [Option.some.injEq, Bool.eq_iff_iff]; simp
            · have ew : wrap64 ((i : Int) - 1) = ((i - 1 : Nat) : Int) := by unfold wrap64; omega
              have hp := (okAt_iff.1 (okUpto_at hI (i := i - 1) (by omega))).2.1
              rw [if_neg (by omega), if_pos (by omega), if_pos a1, ew, if_pos (by omega), if_pos (by omega), rdNode, rdNode]
              have e2 : dep l (i - 1) = (l.getD (i - 1) z33).f1 := rfl
              rw [← e1, ← e2, within, B.wid (by omega) (by omega)]
              simp only [Option.bind_some, Option.some.injEq]
              congr 1
              apply propext
              omega
          rw [hd]
          simp only [Option.bind_some]
          by_cases h3 : (dep l i = 0 ↔ i = 0) ∧ (i = 0 ∨ dep l i ≤ dep l (i - 1) + 1)
          · rw [if_pos (by simpa using h3)]
            exact ih (okAt_iff.2 ⟨h1, h2, h3⟩)
          · rw [if_neg (by simpa using h3)]
            refine hno ?_
            rw [Bool.eq_false_iff]; intro hc; exact h3 (okAt_iff.1 hc).2.2
        · rw [if_neg (by simpa using h2)]
          refine hno ?_
          rw [Bool.eq_false_iff]; intro hc; exact h2 (okAt_iff.1 hc).2.1
      · rw [if_neg (by simpa using h1)]
        refine hno ?_
        rw [Bool.eq_false_iff]; intro hc; exact h1 (okAt_iff.1 hc).1
  · rw [if_neg (by simp; omega)]
    unfold okT
    rw [decide_eq_false hn]; rfl
end Go.Proofs.Ythccagmifnipdaa.X
end YthccagmifnipdaaXTree
section YthccagmifnipdaaXDrawTree
namespace Go.Proofs.Ythccagmifnipdaa.X
open Go Go.RowKit Go.Proofs.Ythccagmifnipdaa.V Go.Proofs.Ythccagmifnipdaa.P
theorem drTreeLoop {b : List Int} (hb : b.length ≤ 4194304) : ∀ (n : Nat) (l : List S33) (i h : Int), 0 ≤ i → i ≤ (b.length : Int) → 1 ≤ l.length → l.length + n ≤ 4194304 →
    B.EvP (fun k => spec_l3Tree.l0 k l (n : Int) b i h) (B.Cu b fun l' => l'.length = l.length + n) := by
  intro n
  induction n with
  | zero =>
    intro l i h h0 h1 _ _
    refine B.EvP.succ ?_
    simp only [spec_l3Tree.l0, show ¬ ((0 : Nat) : Int) > 0 by decide, ↓reduceIte]
    exact B.EvP.pure ⟨rfl, h0, h1⟩
  | succ n ih =>
    intro l i h h0 h1 hl hn
    refine B.EvP.succ ?_
    have e1 : wrap64 ((l.length : Int) - 1) = (l.length : Int) - 1 := B.wid (by omega) (by omega)
    have e2 : wrap64 (((n + 1 : Nat) : Int) - 1) = (n : Int) := by rw [B.wid (by omega) (by omega)]; omega
    simp only [spec_l3Tree.l0, show ((n + 1 : Nat) : Int) > 0 by omega, e1, e2, show 0 ≤ (l.length : Int) - 1 by omega, show (l.length : Int) - 1 < (l.length : Int) by omega, show l.length < 8796093022208 by omega, ↓reduceIte]
    have fin : ∀ (x : S33) (i h : Int), 0 ≤ i → i ≤ (b.length : Int) → B.EvP (fun k => spec_l3Tree.l0 k (l ++ [x]) (n : Int) b i h) (B.Cu b fun l' => l'.length = l.length + (n + 1)) := fun x i h h0 h1 =>
      (ih (l ++ [x]) i h h0 h1 (by simp) (by simp; omega)).mono fun v hv => ⟨by have := hv.1; simp at this; simp only; omega, hv.2⟩
    refine B.EvP.bind (drBelow hb h _ h0 h1) ?_
    rintro ⟨v, i, h⟩ ⟨q, h0, h1⟩
    refine B.EvP.bind (drOnce hb h _ h0 h1) ?_
    rintro ⟨v2, i, h⟩ ⟨_, h0, h1⟩
    refine B.EvP.ite (fun _ => ?_) (fun _ => ?_)
    all_goals
      refine B.EvP.ite (fun _ => ?_) (fun _ => ?_)
      all_goals
        refine B.EvP.bind (drLabel hb h h0 h1) ?_
        rintro ⟨v3, i, h⟩ ⟨_, h0, h1⟩
        exact fin _ i h h0 h1
theorem drTree {b : List Int} (hb : b.length ≤ 4194304) {i : Int} (h : Int) (most : Int) (hm : most ≤ 1000) (h0 : 0 ≤ i) (h1 : i ≤ (b.length : Int)) : B.EvP (fun k => spec_l3Tree.f k b i h most) (B.Cu b fun l => 1 ≤ l.length ∧ l.length ≤ 1001) := by
  unfold spec_l3Tree.f
  refine B.EvP.bind (drLabel hb h h0 h1) ?_
  rintro ⟨v, i, h⟩ ⟨_, h0, h1⟩
  refine B.EvP.bind (drBelow hb h most h0 h1) ?_
  rintro ⟨n, i, h⟩ ⟨q, h0, h1⟩
  obtain ⟨m, hm'⟩ : ∃ m : Nat, n = (m : Int) := ⟨n.toNat, by have := q.1; simp only at this; omega⟩
  subst hm'
  have hle : m ≤ 1000 := by
    have q2 := q.2.1
    have q3 := q.2.2
    simp only at q2 q3
    omega
  refine (drTreeLoop hb m [⟨v, 0⟩] i h h0 h1 (by simp) (by simp; omega)).mono fun t ht => ⟨?_, ht.2⟩
  have := ht.1
  simp at this
  omega
theorem drAnyLoop0 {b : List Int} (hb : b.length ≤ 4194304) : ∀ (n : Nat) (l : List S33) (i h : Int), 0 ≤ i → i ≤ (b.length : Int) → l.length ≤ 1001 → 25 ≤ l.length + n →
    B.EvP (fun k => spec_l3Any.l0 k l b i h) (B.Cu b fun l' => l'.length ≤ 1001) := by
  intro n
  induction n with
  | zero =>
    intro l i h h0 h1 hl hn
    refine B.EvP.succ ?_
    simp only [spec_l3Any.l0]
    refine B.EvP.bind (drBelow hb h 2 h0 h1) ?_
    rintro ⟨v, i, h⟩ ⟨q, h0, h1⟩
    have q1 := q.1
    have q2 := q.2.1 (by omega)
    simp only at q1 q2 ⊢
    rw [B.wid (by omega) (by omega)]
    simp only [show ¬ ((l.length : Int) < 24 + v) by omega, ↓reduceIte]
    exact B.EvP.pure ⟨hl, h0, h1⟩
  | succ n ih =>
    intro l i h h0 h1 hl hn
    refine B.EvP.succ ?_
    simp only [spec_l3Any.l0]
    refine B.EvP.bind (drBelow hb h 2 h0 h1) ?_
    rintro ⟨v, i, h⟩ ⟨q, h0, h1⟩
    have q1 := q.1
    have q2 := q.2.1 (by omega)
    simp only at q1 q2 ⊢
    rw [B.wid (by omega) (by omega)]
    refine B.EvP.ite (fun c => ?_) (fun c => B.EvP.pure ⟨hl, h0, h1⟩)
    simp only [show l.length < 8796093022208 by omega, ↓reduceIte]
    exact ih _ _ _ h0 h1 (by simp; omega) (by simp; omega)
theorem drAnyLoop1 {b : List Int} (hb : b.length ≤ 4194304) : ∀ (n : Nat) (l : List S33) (i h : Int), 0 ≤ i → i ≤ (b.length : Int) → l.length ≤ 1001 → 14 ≤ l.length + n →
    B.EvP (fun k => spec_l3Any.l1 k l b i h) (B.Cu b fun l' => l'.length ≤ 1001) := by
  intro n
  induction n with
  | zero =>
    intro l i h h0 h1 hl hn
    refine B.EvP.succ ?_
    simp only [spec_l3Any.l1]
    refine B.EvP.bind (drBelow hb h 2 h0 h1) ?_
    rintro ⟨v, i, h⟩ ⟨q, h0, h1⟩
    have q1 := q.1
    have q2 := q.2.1 (by omega)
    simp only at q1 q2 ⊢
    rw [B.wid (by omega) (by omega)]
    simp only [show ¬ ((l.length : Int) < 13 + v) by omega, ↓reduceIte]
    exact B.EvP.pure ⟨hl, h0, h1⟩
  | succ n ih =>
    intro l i h h0 h1 hl hn
    refine B.EvP.succ ?_
    simp only [spec_l3Any.l1]
    refine B.EvP.bind (drBelow hb h 2 h0 h1) ?_
    rintro ⟨v, i, h⟩ ⟨q, h0, h1⟩
    have q1 := q.1
    have q2 := q.2.1 (by omega)
    simp only at q1 q2 ⊢
    rw [B.wid (by omega) (by omega)]
    refine B.EvP.ite (fun c => ?_) (fun c => B.EvP.pure ⟨hl, h0, h1⟩)
    simp only [show l.length < 8796093022208 by omega, ↓reduceIte]
    exact ih _ _ _ h0 h1 (by simp; omega) (by simp; omega)
theorem drAny {b : List Int} (hb : b.length ≤ 4194304) {i : Int} (h : Int) (most : Int) (hm : most ≤ 1000) (h0 : 0 ≤ i) (h1 : i ≤ (b.length : Int)) : B.EvP (fun k => spec_l3Any.f k b i h most) (B.Cu b fun l => l.length ≤ 1001) := by
  unfold spec_l3Any.f
  refine B.EvP.bind (drTree hb h most hm h0 h1) ?_
  rintro ⟨l, i, h⟩ ⟨⟨hl, hl'⟩, h0, h1⟩
  simp only at hl hl'
  refine B.EvP.bind (drBelow hb h (l.length : Int) h0 h1) ?_
  rintro ⟨v, i, h⟩ ⟨q, h0, h1⟩
  have q1 := q.1
  have q2 := q.2.1 (by omega)
  refine B.EvP.bind (drBelow hb h 18 h0 h1) ?_
  rintro ⟨s, i, h⟩ ⟨_, h0, h1⟩
  simp only at q1 q2 ⊢
  refine B.EvP.ite (fun _ => ?_) (fun _ => ?_)
  · refine B.EvP.bind (drAnyLabel hb h h0 h1) ?_
    rintro ⟨v3, i, h⟩ ⟨_, h0, h1⟩
    rw [if_pos q1, if_pos q2]
    exact B.EvP.pure ⟨by simp; omega, h0, h1⟩
  refine B.EvP.ite (fun _ => ?_) (fun _ => ?_)
  · rw [if_pos q1, if_pos q2]
    refine B.EvP.bind (drPick hb h _ (by simp) h0 h1) ?_
    rintro ⟨v3, i, h⟩ ⟨_, h0, h1⟩
    exact B.EvP.pure ⟨by simp; omega, h0, h1⟩
  refine B.EvP.ite (fun _ => ?_) (fun _ => ?_)
  · rw [if_pos (by omega)]
    exact B.EvP.pure ⟨by simp; omega, h0, h1⟩
  refine B.EvP.ite (fun _ => drAnyLoop0 hb 25 l i h h0 h1 (by omega) (by omega)) (fun _ => ?_)
  exact B.EvP.ite (fun _ => drAnyLoop1 hb 14 _ i h h0 h1 (by simp) (by simp)) (fun _ => B.EvP.pure ⟨hl', h0, h1⟩)
end Go.Proofs.Ythccagmifnipdaa.X
end YthccagmifnipdaaXDrawTree
section YthccagmifnipdaaXDrawNear
namespace Go.Proofs.Ythccagmifnipdaa.X
open Go Go.RowKit Go.Proofs.Ythccagmifnipdaa.V Go.Proofs.Ythccagmifnipdaa.P
theorem copyN (l : List S33) (hl : l.length ≤ 4194304) : spec_l3Copy.f l = some l := by
  unfold spec_l3Copy.f
  rw [if_pos (by omega)]
/-- A drawn tree near another one: of at most three nodes more, or of at most 1001. -/
theorem drNearLoop {b : List Int} (hb : b.length ≤ 4194304) (m : List S33) : ∀ (n : Nat) (l : List S33) (i h : Int), 0 ≤ i → i ≤ (b.length : Int) → l.length + n ≤ 2000000 →
    B.EvP (fun k => spec_l3Near.l0 k l (n : Int) b i h m) (B.Cu b fun l' => l'.length ≤ max 1001 (l.length + n)) := by
  intro n
  induction n with
  | zero =>
    intro l i h h0 h1 hn
    refine B.EvP.succ ?_
    simp only [spec_l3Near.l0, show ¬ ((0 : Nat) : Int) > 0 by decide, ↓reduceIte]
    refine B.EvP.bind (B.EvP.of (B.Ev.of _ (fun k hk => specTreeOk l (by omega) k hk)) (P := fun _ => True) trivial) ?_
    rintro v _
    refine B.EvP.ite (fun _ => B.EvP.pure ⟨by simp only; omega, h0, h1⟩) (fun _ => ?_)
    refine B.EvP.bind (drTree hb h 8 (by omega) h0 h1) ?_
    rintro ⟨l', i, h⟩ ⟨q, h0, h1⟩
    exact B.EvP.pure ⟨by simp only at q ⊢; omega, h0, h1⟩
  | succ n ih =>
    intro l i h h0 h1 hn
    refine B.EvP.succ ?_
    have e2 : wrap64 (((n + 1 : Nat) : Int) - 1) = (n : Int) := by rw [B.wid (by omega) (by omega)]; omega
    have fin : ∀ (l' : List S33) (i h : Int), l'.length ≤ l.length + 1 → 0 ≤ i → i ≤ (b.length : Int) → B.EvP (fun k => spec_l3Near.l0 k l' (n : Int) b i h m) (B.Cu b fun l' => l'.length ≤ max 1001 (l.length + (n + 1))) := fun l' i h hl h0 h1 =>
      (ih l' i h h0 h1 (by omega)).mono fun v hv => ⟨by have := hv.1; simp only at this ⊢; omega, hv.2⟩
    simp only [spec_l3Near.l0, show ((n + 1 : Nat) : Int) > 0 by omega, ↓reduceIte, e2]
    refine B.EvP.ite (fun c => ?_) (fun _ => ?_)
    · have hl : 0 < l.length := by omega
      refine B.EvP.bind (drBelow hb h (l.length : Int) h0 h1) ?_
      rintro ⟨v, i, h⟩ ⟨q, h0, h1⟩
      have q1 := q.1
      have q2 := q.2.1 (by omega)
      refine B.EvP.bind (drBelow hb h 3 h0 h1) ?_
      rintro ⟨s, i, h⟩ ⟨_, h0, h1⟩
      simp only at q1 q2 ⊢
      have e1 : wrap64 ((l.length : Int) - 1) = (l.length : Int) - 1 := B.wid (by omega) (by omega)
      have e3 : wrap64 (v + 1) = v + 1 := B.wid (by omega) (by omega)
      simp only [e1, e3, q1, q2, show v ≤ (l.length : Int) by omega, show 0 ≤ v + 1 by omega, show v + 1 ≤ (l.length : Int) by omega, show 0 ≤ (l.length : Int) - 1 by omega, show (l.length : Int) - 1 < (l.length : Int) by omega, ↓reduceIte]
      refine B.EvP.ite (fun _ => ?_) (fun _ => ?_)
      · refine B.EvP.bind (drLabel hb h h0 h1) ?_
        rintro ⟨v3, i, h⟩ ⟨_, h0, h1⟩
        exact fin _ i h (by simp) h0 h1
      refine B.EvP.ite (fun _ => ?_) (fun _ => ?_)
      · refine B.EvP.ite (fun _ => ?_) (fun _ => fin _ i h (by omega) h0 h1)
        refine B.EvP.ite (fun _ => ?_) (fun _ => fin _ i h (by omega) h0 h1)
        simp only [Option.bind_some]
        rw [copyN _ (by rw [List.length_take]; omega)]
        simp only [Option.bind_some]
        have e5 : ((l.take v.toNat).length + (l.drop (v + 1).toNat).length) * 16 ≤ 140737488355328 := by rw [List.length_take, List.length_drop]; omega
        simp only [e5, ↓reduceIte]
        exact fin _ i h (by rw [List.length_append, List.length_take, List.length_drop]; omega) h0 h1
      · rw [copyN _ (by omega)]
        simp only [Option.bind_some]
        refine B.EvP.bind (drLabel hb h h0 h1) ?_
        rintro ⟨v3, i, h⟩ ⟨_, h0, h1⟩
        refine B.EvP.bind (drBelow hb h _ h0 h1) ?_
        rintro ⟨v4, i, h⟩ ⟨_, h0, h1⟩
        simp only [show l.length < 8796093022208 by omega, ↓reduceIte]
        exact fin _ i h (by simp) h0 h1
    · refine B.EvP.bind (B.EvP.of (B.Ev.of _ (fun k hk => specTreeOk l (by omega) k hk)) (P := fun _ => True) trivial) ?_
      rintro v _
      refine B.EvP.ite (fun _ => B.EvP.pure ⟨by simp only; omega, h0, h1⟩) (fun _ => ?_)
      refine B.EvP.bind (drTree hb h 8 (by omega) h0 h1) ?_
      rintro ⟨l', i, h⟩ ⟨q, h0, h1⟩
      exact B.EvP.pure ⟨by simp only at q ⊢; omega, h0, h1⟩
theorem drNear {b : List Int} (hb : b.length ≤ 4194304) {i : Int} (h : Int) (l : List S33) (hl : l.length ≤ 1000000) (h0 : 0 ≤ i) (h1 : i ≤ (b.length : Int)) : B.EvP (fun k => spec_l3Near.f k b i h l) (B.Cu b fun l' => l'.length ≤ max 1001 (l.length + 3)) := by
  unfold spec_l3Near.f
  rw [copyN _ (by omega)]
  simp only [Option.bind_some]
  refine B.EvP.bind (drBelow hb h 3 h0 h1) ?_
  rintro ⟨v, i, h⟩ ⟨q, h0, h1⟩
  have q1 := q.1
  have q2 := q.2.1 (by omega)
  simp only at q1 q2 ⊢
  obtain ⟨m, hm⟩ : ∃ m : Nat, wrap64 (1 + v) = (m : Int) := ⟨(1 + v).toNat, by rw [B.wid (by omega) (by omega)]; omega⟩
  have hm3 : m ≤ 3 := by rw [B.wid (by omega) (by omega)] at hm; omega
  rw [hm]
  exact (drNearLoop hb l m l i h h0 h1 (by omega)).mono fun t ht => ⟨by have := ht.1; simp only at this ⊢; omega, ht.2⟩
end Go.Proofs.Ythccagmifnipdaa.X
end YthccagmifnipdaaXDrawNear
section YthccagmifnipdaaXDrawNamed
namespace Go.Proofs.Ythccagmifnipdaa.X
open Go Go.RowKit Go.Proofs.Ythccagmifnipdaa.V Go.Proofs.Ythccagmifnipdaa.P
theorem drNamedLoop {b : List Int} (hb : b.length ≤ 4194304) (m : List S33) : ∀ (n : Nat) (l : List S33) (i h : Int), 0 ≤ i → i ≤ (b.length : Int) → l.length + n ≤ 100000 →
    B.EvP (fun k => spec_l29Named.l0 k l (n : Int) b i h m) (B.Cu b fun l' => l'.length ≤ 200000) := by
  have last : ∀ (l : List S33) (i h : Int), 0 ≤ i → i ≤ (b.length : Int) → l.length ≤ 100000 → B.EvP (fun k => (spec_l1Once.f b i h 14).bind fun t => if t.1 = true then (spec_l3Near.f k b t.2.1 t.2.2 l).bind fun u => some (u.1, u.2.1, u.2.2) else some (l, t.2.1, t.2.2)) (B.Cu b fun l' => l'.length ≤ 200000) := by
    intro l i h h0 h1 hl
    refine B.EvP.bind (drOnce hb h _ h0 h1) ?_
    rintro ⟨v2, i, h⟩ ⟨_, h0, h1⟩
    refine B.EvP.ite (fun _ => ?_) (fun _ => B.EvP.pure ⟨by simp only; omega, h0, h1⟩)
    refine B.EvP.bind (drNear hb h l (by omega) h0 h1) ?_
    rintro ⟨l', i, h⟩ ⟨q, h0, h1⟩
    exact B.EvP.pure ⟨by simp only at q ⊢; omega, h0, h1⟩
  intro n
  induction n with
  | zero =>
    intro l i h h0 h1 hn
    refine B.EvP.succ ?_
    simp only [spec_l29Named.l0, show ¬ ((0 : Nat) : Int) > 0 by decide, ↓reduceIte]
    exact last l i h h0 h1 (by omega)
  | succ n ih =>
    intro l i h h0 h1 hn
    refine B.EvP.succ ?_
    have e2 : wrap64 (((n + 1 : Nat) : Int) - 1) = (n : Int) := by rw [B.wid (by omega) (by omega)]; omega
    simp only [spec_l29Named.l0, show ((n + 1 : Nat) : Int) > 0 by omega, ↓reduceIte, e2]
    refine B.EvP.ite (fun c => ?_) (fun _ => last l i h h0 h1 (by omega))
    refine B.EvP.bind (drBelow hb h (l.length : Int) h0 h1) ?_
    rintro ⟨v, i, h⟩ ⟨q, h0, h1⟩
    have q1 := q.1
    have q2 := q.2.1 (by omega)
    refine B.EvP.bind (drLabel hb h h0 h1) ?_
    rintro ⟨v3, i, h⟩ ⟨_, h0, h1⟩
    simp only at q1 q2 ⊢
    simp only [q1, q2, ↓reduceIte]
    exact ih _ i h h0 h1 (by rw [List.length_set]; omega)
theorem drNamed {b : List Int} (hb : b.length ≤ 4194304) {i : Int} (h : Int) (l : List S33) (hl : l.length ≤ 10000) (h0 : 0 ≤ i) (h1 : i ≤ (b.length : Int)) : B.EvP (fun k => spec_l29Named.f k b i h l) (B.Cu b fun l' => l'.length ≤ 200000) := by
  unfold spec_l29Named.f
  rw [copyN _ (by omega)]
  simp only [Option.bind_some]
  refine B.EvP.bind (drBelow hb h 4 h0 h1) ?_
  rintro ⟨v, i, h⟩ ⟨q, h0, h1⟩
  have q1 := q.1
  have q2 := q.2.1 (by omega)
  simp only at q1 q2 ⊢
  obtain ⟨m, hm⟩ : ∃ m : Nat, v = (m : Int) := ⟨v.toNat, by omega⟩
  subst hm
  exact drNamedLoop hb l m l i h h0 h1 (by omega)
theorem drMerge (b : List Int) (hb : b.length ≤ 4194304) : B.EvP (fun k => spec_DrawMergeLabels.f k b) (fun t => t.1.length ≤ 200000 ∧ t.2.1.length ≤ 200000 ∧ t.2.2.length ≤ 200000) := by
  unfold spec_DrawMergeLabels.f
  refine B.EvP.bind (drNew b hb) ?_
  rintro ⟨b', i, h⟩ ⟨e, e0⟩
  simp only at e e0 ⊢
  subst e e0
  refine B.EvP.bind (drAny hb h 9 (by omega) (by omega) (by omega)) ?_
  rintro ⟨o, i, h⟩ ⟨q, h0, h1⟩
  simp only at q ⊢
  refine B.EvP.bind (drNamed hb h o (by omega) h0 h1) ?_
  rintro ⟨x, i, h⟩ ⟨qx, h0, h1⟩
  simp only at qx ⊢
  refine B.EvP.bind (drNamed hb h o (by omega) h0 h1) ?_
  rintro ⟨y, i, h⟩ ⟨qy, h0, h1⟩
  simp only at qy ⊢
  exact B.EvP.pure ⟨by simp only; omega, qx, qy⟩
end Go.Proofs.Ythccagmifnipdaa.X
end YthccagmifnipdaaXDrawNamed
section YthccagmifnipdaaXRd
namespace Go.Proofs.Ythccagmifnipdaa.X
open Go Go.RowKit Go.Proofs.Ythccagmifnipdaa.V Go.Proofs.Ythccagmifnipdaa.P
theorem rdInt {xs : List Int} {i : Nat} : rd xs (i : Int) = xs.getD i 0 := by unfold rd; rw [Int.toNat_natCast]
end Go.Proofs.Ythccagmifnipdaa.X
end YthccagmifnipdaaXRd
section YthccagmifnipdaaXShape
namespace Go.Proofs.Ythccagmifnipdaa.X
open Go Go.RowKit Go.Proofs.Ythccagmifnipdaa.V Go.Proofs.Ythccagmifnipdaa.P
theorem getD_z {xs : List S33} {i : Nat} (h : i < xs.length) : xs.getD i z33 = xs[i] := B.getD_lt h

theorem specDepths (l : List S33) (hl : l.length ≤ 4194304) (k : Nat) (hk : l.length < k) : spec_Depths.f k l = some (l.map S33.f1) := by
  unfold spec_Depths.f
  have h := B.loop (fun k i => spec_Depths.l0 k l ((l.take i).map S33.f1) (i : Int)) l.length (fun _ => some (l.map S33.f1))
    (fun k => by simp only [spec_Depths.l0]; rw [if_neg (by omega), List.take_length])
    (fun k i hi ih => by
      have a1 : (i : Int) < (l.length : Int) := by omega
      have a2 : ((l.take i).map S33.f1).length < 17592186044416 := by rw [List.length_map, List.length_take]; omega
      have a3 : 0 ≤ (i : Int) := by omega
      simp only [spec_Depths.l0, a1, a2, a3, ↓reduceIte, B.wsucc (show i < 9223372036854775807 by omega), rdNode]
      rw [← B.take_snoc l S33.f1 hi] at ih
      rw [getD_z hi]
      exact ih) k 0 (by omega) (by omega)
  exact h

theorem implDepths (l : List S33) (hl : l.length ≤ 4194304) (k : Nat) (hk : l.length < k) : impl_Depths.f k l = some (l.map S33.f1) := by
  unfold impl_Depths.f
  have h := B.loop (fun k i => impl_Depths.l0 k ((l.take i).map S33.f1) l (l.length : Int) (i : Int)) l.length (fun _ => some (l.map S33.f1))
    (fun k => by simp only [impl_Depths.l0]; rw [if_neg (by omega), List.take_length])
    (fun k i hi ih => by
      have a1 : (i : Int) < (l.length : Int) := by omega
      have a2 : ((l.take i).map S33.f1).length < 17592186044416 := by rw [List.length_map, List.length_take]; omega
      have a3 : 0 ≤ (i : Int) := by omega
      simp only [impl_Depths.l0, a1, a2, a3, ↓reduceIte, B.wsucc (show i < 9223372036854775807 by omega), rdNode]
      rw [← B.take_snoc l S33.f1 hi] at ih
      rw [getD_z hi]
      exact ih) k 0 (by omega) (by omega)
  exact h

theorem specSameInts (a b : List Int) (hl : a.length ≤ 4194304) (k : Nat) (hk : a.length < k) : spec_l7Same.f k a b = some (decide (a = b)) := by
  unfold spec_l7Same.f
  by_cases he : a.length = b.length
  · rw [if_pos (by omega)]
    exact B.loop (fun k i => spec_l7Same.l0 k a b (i : Int)) a.length (fun i => some (decide (a.drop i = b.drop i)))
      (fun k => by simp only [spec_l7Same.l0]; rw [if_neg (by omega), List.drop_length, he, List.drop_length]; simp)
      (fun k i hi ih => by
        have a1 : (i : Int) < (a.length : Int) := by omega
        have a2 : (i : Int) < (b.length : Int) := by omega
        have a3 : 0 ≤ (i : Int) := by omega
        simp only [spec_l7Same.l0, a1, a2, a3, ↓reduceIte, B.wsucc (show i < 9223372036854775807 by omega), rdInt]
        rw [B.getD_lt hi, B.getD_lt (show i < b.length by omega), B.drop_eq_dec hi (show i < b.length by omega)]
        by_cases hc : a[i] = b[i]
        · rw [if_pos hc, ih]; simp [hc]
        · rw [if_neg hc]; simp [hc]) k 0 (by omega) (by omega)
  · rw [if_neg (by omega), decide_eq_false (fun h => he (by rw [h]))]

theorem implSameInts (a b : List Int) (hl : a.length ≤ 4194304) (k : Nat) (hk : a.length < k) : slices_Equal_int_int.f k a b = some (decide (a = b)) := by
  unfold slices_Equal_int_int.f
  by_cases he : a.length = b.length
  · rw [if_pos (by omega)]
    exact B.loop (fun k i => slices_Equal_int_int.l0 k a b (a.length : Int) (i : Int)) a.length (fun i => some (decide (a.drop i = b.drop i)))
      (fun k => by simp only [slices_Equal_int_int.l0]; rw [if_neg (by omega), List.drop_length, he, List.drop_length]; simp)
      (fun k i hi ih => by
        have a1 : (i : Int) < (a.length : Int) := by omega
        have a2 : (i : Int) < (b.length : Int) := by omega
        have a3 : 0 ≤ (i : Int) := by omega
        simp only [slices_Equal_int_int.l0, a1, a2, a3, ↓reduceIte, B.wsucc (show i < 9223372036854775807 by omega), rdInt]
        rw [B.getD_lt hi, B.getD_lt (show i < b.length by omega), B.drop_eq_dec hi (show i < b.length by omega)]
        by_cases hc : a[i] = b[i]
        · rw [if_pos hc, ih]; simp [hc]
        · rw [if_neg hc]; simp [hc]) k 0 (by omega) (by omega)
  · rw [if_neg (by omega), decide_eq_false (fun h => he (by rw [h]))]

/-- Two trees are valid and of one shape. -/
def sameShape (a b : List S33) : Bool := okT a && (okT b && decide (a.map S33.f1 = b.map S33.f1))
theorem specSameShape (a b : List S33) (hl : a.length ≤ 4194304) (hb : b.length ≤ 4194304) (k : Nat) (hk : 4194304 < k) : spec_SameShape.f k a b = some (sameShape a b) := by
  unfold spec_SameShape.f sameShape
  rw [specTreeOk a hl k (by omega), specTreeOk b hb k (by omega), specDepths a hl k (by omega), specDepths b hb k (by omega)]
  simp only [Option.bind_some]
  rw [specSameInts _ _ (by simpa using hl) k (by rw [List.length_map]; omega)]
  cases okT a <;> cases okT b <;> rfl
theorem implSameShape (a b : List S33) (hl : a.length ≤ 4194304) (hb : b.length ≤ 4194304) (k : Nat) (hk : 4194304 < k) : impl_SameShape.f k a b = some (sameShape a b) := by
  unfold impl_SameShape.f sameShape
  rw [implTreeOk a hl k (by omega), implTreeOk b hb k (by omega), implDepths a hl k (by omega), implDepths b hb k (by omega)]
  simp only [Option.bind_some]
  rw [implSameInts _ _ (by simpa using hl) k (by rw [List.length_map]; omega)]
  cases okT a <;> cases okT b <;> rfl
end Go.Proofs.Ythccagmifnipdaa.X
end YthccagmifnipdaaXShape
section YthccagmifnipdaaXMerge
namespace Go.Proofs.Ythccagmifnipdaa.X
open Go Go.RowKit Go.Proofs.Ythccagmifnipdaa.V Go.Proofs.Ythccagmifnipdaa.P

/-- n steps from place i on. -/
def mergeGo (o a b : List S33) : Nat → Nat → List S33 → List Int → List S33 × List Int
  | 0, _, x, c => (x, c)
  | n + 1, i, x, c => if (a.getD i z33).f0 = (o.getD i z33).f0 then mergeGo o a b n (i + 1) (x.set i ⟨(b.getD i z33).f0, (x.getD i z33).f1⟩) c
      else if (b.getD i z33).f0 = (o.getD i z33).f0 ∨ (a.getD i z33).f0 = (b.getD i z33).f0 then mergeGo o a b n (i + 1) x c
      else mergeGo o a b n (i + 1) x (c ++ [(i : Int)])
def merged (o a b : List S33) : List S33 × List Int × Bool :=
  if sameShape o a && sameShape o b then ((mergeGo o a b o.length 0 a []).1, (mergeGo o a b o.length 0 a []).2, true) else ([], [], false)

theorem mergeGo_length (o a b : List S33) : ∀ (n i : Nat) (x : List S33) (c : List Int), (mergeGo o a b n i x c).1.length = x.length ∧ (mergeGo o a b n i x c).2.length ≤ c.length + n := by
  intro n
  induction n with
  | zero => intro i x c; exact ⟨rfl, Nat.le_refl _⟩
  | succ n ih =>
    intro i x c
    simp only [mergeGo]
    split
    · have h := ih (i + 1) (x.set i ⟨(b.getD i z33).f0, (x.getD i z33).f1⟩) c
      rw [List.length_set] at h; omega
    · split
      · have h := ih (i + 1) x c; omega
      · have h := ih (i + 1) x (c ++ [(i : Int)])
        rw [List.length_append] at h; simp only [List.length_singleton] at h; omega

theorem sameShape_length {a b : List S33} (h : sameShape a b = true) : a.length = b.length := by
  unfold sameShape at h
  have h2 : a.map S33.f1 = b.map S33.f1 := by simp at h; exact h.2.2
  have := congrArg List.length h2
  rw [List.length_map, List.length_map] at this
  exact this

theorem implMergeLoop (o a b : List S33) (ho : o.length ≤ 4194304) (ha : a.length = o.length) (hb : b.length = o.length) : ∀ (n i : Nat) (x : List S33) (c : List Int) (k : Nat), i + n = o.length → x.length = o.length → c.length ≤ i → n < k →
    impl_MergeLabels.l0 k o a b x c (o.length : Int) (i : Int) = some ((mergeGo o a b n i x c).1, (mergeGo o a b n i x c).2, true) := by
  intro n
  induction n with
  | zero =>
    intro i x c k hi hx hc hk
    obtain ⟨k, rfl⟩ : ∃ m, k = m + 1 := ⟨k - 1, by omega⟩
    simp only [impl_MergeLabels.l0, mergeGo]
    rw [if_neg (by omega)]
  | succ n ih =>
    intro i x c k hi hx hc hk
    obtain ⟨k, rfl⟩ : ∃ m, k = m + 1 := ⟨k - 1, by omega⟩
    have a1 : (i : Int) < (o.length : Int) := by omega
    have a2 : 0 ≤ (i : Int) := by omega
    have a3 : (i : Int) < (a.length : Int) := by omega
    have a4 : (i : Int) < (b.length : Int) := by omega
    have a5 : (i : Int) < (x.length : Int) := by omega
    have a6 : c.length < 17592186044416 := by omega
    simp only [impl_MergeLabels.l0, a1, a2, a3, a4, a5, a6, ↓reduceIte, B.wsucc (show i < 9223372036854775807 by omega), Int.toNat_natCast, rdNode, mergeGo]
    by_cases c1 : (a.getD i z33).f0 = (o.getD i z33).f0
    · rw [if_pos c1, if_pos c1]
      exact ih (i + 1) _ c k (by omega) (by rw [List.length_set]; exact hx) (by omega) (by omega)
    · rw [if_neg c1, if_neg c1]
      by_cases c3 : (a.getD i z33).f0 = (b.getD i z33).f0
      · rw [if_pos c3, if_pos (Or.inr c3)]
        exact ih (i + 1) x c k (by omega) hx (by omega) (by omega)
      · rw [if_neg c3]
        by_cases c2 : (b.getD i z33).f0 = (o.getD i z33).f0
        · rw [if_pos c2, if_pos (Or.inl c2)]
          exact ih (i + 1) x c k (by omega) hx (by omega) (by omega)
        · rw [if_neg c2, if_neg (fun h => h.elim c2 c3)]
          exact ih (i + 1) x (c ++ [(i : Int)]) k (by omega) hx (by rw [List.length_append]; simp only [List.length_singleton]; omega) (by omega)

theorem cloneN (l : List S33) (hl : l.length ≤ 4194304) : slices_Clone_impl_Node_impl_Node.f l = some l := by
  unfold slices_Clone_impl_Node_impl_Node.f
  rw [if_pos (by omega)]
theorem implMergeLabels (o a b : List S33) (ho : o.length ≤ 4194304) (ha : a.length ≤ 4194304) (hb : b.length ≤ 4194304) (k : Nat) (hk : 4194305 < k) : impl_MergeLabels.f k o a b = some (merged o a b) := by
  unfold impl_MergeLabels.f merged
  rw [implSameShape o a ho ha _ (by omega)]
  simp only [Option.bind_some]
  rw [implSameShape o b ho hb _ (by omega)]
  simp only [Option.bind_some]
  cases h1 : sameShape o a
  · simp
  · cases h2 : sameShape o b
    · simp
    · have e1 := sameShape_length h1
      have e2 := sameShape_length h2
      simp only [↓reduceIte, cloneN a ha, Option.bind_some, Bool.and_self]
      exact implMergeLoop o a b ho e1.symm e2.symm o.length 0 a [] k (by omega) e1.symm (Nat.le_refl _) (by omega)
end Go.Proofs.Ythccagmifnipdaa.X
end YthccagmifnipdaaXMerge
section YthccagmifnipdaaXMergeAt
namespace Go.Proofs.Ythccagmifnipdaa.X
open Go Go.RowKit Go.Proofs.Ythccagmifnipdaa.V Go.Proofs.Ythccagmifnipdaa.P
theorem mergeGo_at (o a b : List S33) : ∀ (n i : Nat) (x : List S33) (c : List Int), i + n ≤ x.length → ∀ j : Nat, (mergeGo o a b n i x c).1.getD j z33 =
    if i ≤ j ∧ j < i + n ∧ (a.getD j z33).f0 = (o.getD j z33).f0 then ⟨(b.getD j z33).f0, (x.getD j z33).f1⟩ else x.getD j z33 := by
  intro n
  induction n with
  | zero => intro i x c _ j; rw [if_neg (by omega)]; rfl
  | succ n ih =>
    intro i x c hx j
    have key : ∀ (x' : List S33) (c' : List Int), i + 1 + n ≤ x'.length → (¬ (a.getD i z33).f0 = (o.getD i z33).f0) → x' = x → (mergeGo o a b n (i + 1) x' c').1.getD j z33 =
        if i ≤ j ∧ j < i + (n + 1) ∧ (a.getD j z33).f0 = (o.getD j z33).f0 then ⟨(b.getD j z33).f0, (x.getD j z33).f1⟩ else x.getD j z33 := by
      intro x' c' hx' hn e
      subst e
      rw [ih (i + 1) x' c' hx' j]
      by_cases e : j = i
      · subst e; rw [if_neg (by omega), if_neg (fun h => hn h.2.2)]
      · by_cases h : i + 1 ≤ j ∧ j < i + 1 + n ∧ (a.getD j z33).f0 = (o.getD j z33).f0
        · rw [if_pos h, if_pos ⟨by omega, by omega, h.2.2⟩]
        · rw [if_neg h, if_neg (fun g => h ⟨by omega, by omega, g.2.2⟩)]
    simp only [mergeGo]
    by_cases c1 : (a.getD i z33).f0 = (o.getD i z33).f0
    · rw [if_pos c1, ih (i + 1) _ c (by rw [List.length_set]; omega) j]
      by_cases e : j = i
      · subst e
        rw [if_neg (by omega), if_pos ⟨by omega, by omega, c1⟩]
        have hj : j < x.length := by omega
        simp [List.getD_eq_getElem?_getD, hj]
      · have eq : (x.set i ⟨(b.getD i z33).f0, (x.getD i z33).f1⟩).getD j z33 = x.getD j z33 := by
          simp only [List.getD_eq_getElem?_getD]; rw [List.getElem?_set_ne (by omega)]
        rw [eq]
        by_cases h : i + 1 ≤ j ∧ j < i + 1 + n ∧ (a.getD j z33).f0 = (o.getD j z33).f0
        · rw [if_pos h, if_pos ⟨by omega, by omega, h.2.2⟩]
        · rw [if_neg h, if_neg (fun g => h ⟨by omega, by omega, g.2.2⟩)]
    · rw [if_neg c1]
      split
      · exact key _ _ (by omega) c1 rfl
      · exact key _ _ (by omega) c1 rfl
/-- The conflicts from place i on, n places. -/
def confL (o a b : List S33) : Nat → Nat → List Int
  | 0, _ => []
  | n + 1, i => if (a.getD i z33).f0 = (o.getD i z33).f0 ∨ (b.getD i z33).f0 = (o.getD i z33).f0 ∨ (a.getD i z33).f0 = (b.getD i z33).f0 then confL o a b n (i + 1) else (i : Int) :: confL o a b n (i + 1)
theorem mergeGo_conf (o a b : List S33) : ∀ (n i : Nat) (x : List S33) (c : List Int), (mergeGo o a b n i x c).2 = c ++ confL o a b n i := by
  intro n
  induction n with
  | zero => intro i x c; simp [mergeGo, confL]
  | succ n ih =>
    intro i x c
    simp only [mergeGo, confL]
    by_cases c1 : (a.getD i z33).f0 = (o.getD i z33).f0
    · rw [if_pos c1, if_pos (Or.inl c1), ih]
    · rw [if_neg c1]
      by_cases c2 : (b.getD i z33).f0 = (o.getD i z33).f0 ∨ (a.getD i z33).f0 = (b.getD i z33).f0
      · rw [if_pos c2, if_pos (Or.inr c2), ih]
      · rw [if_neg c2, if_neg (fun h => h.elim c1 c2), ih]; simp
theorem confL_comm (o a b : List S33) : ∀ (n i : Nat), confL o a b n i = confL o b a n i := by
  intro n
  induction n with
  | zero => intro i; rfl
  | succ n ih =>
    intro i
    simp only [confL]
    rw [ih (i + 1)]
    congr 1
    apply propext
    constructor
    · rintro (h | h | h)
      · exact Or.inr (Or.inl h)
      · exact Or.inl h
      · exact Or.inr (Or.inr h.symm)
    · rintro (h | h | h)
      · exact Or.inr (Or.inl h)
      · exact Or.inl h
      · exact Or.inr (Or.inr h.symm)
theorem confL_mem (o a b : List S33) : ∀ (n i j : Nat), (j : Int) ∈ confL o a b n i ↔ i ≤ j ∧ j < i + n ∧ ¬ ((a.getD j z33).f0 = (o.getD j z33).f0 ∨ (b.getD j z33).f0 = (o.getD j z33).f0 ∨ (a.getD j z33).f0 = (b.getD j z33).f0) := by
  intro n
  induction n with
  | zero => intro i j; simp only [confL, List.not_mem_nil, false_iff]; omega
  | succ n ih =>
    intro i j
    simp only [confL]
    by_cases c : (a.getD i z33).f0 = (o.getD i z33).f0 ∨ (b.getD i z33).f0 = (o.getD i z33).f0 ∨ (a.getD i z33).f0 = (b.getD i z33).f0
    · rw [if_pos c, ih]
      constructor
      · rintro ⟨h1, h2, h3⟩; exact ⟨by omega, by omega, h3⟩
      · rintro ⟨h1, h2, h3⟩
        have : j ≠ i := by rintro rfl; exact h3 c
        exact ⟨by omega, by omega, h3⟩
    · rw [if_neg c, List.mem_cons, ih]
      constructor
      · rintro (h | ⟨h1, h2, h3⟩)
        · have : j = i := by omega
          subst this
          exact ⟨by omega, by omega, c⟩
        · exact ⟨by omega, by omega, h3⟩
      · rintro ⟨h1, h2, h3⟩
        by_cases e : j = i
        · left; rw [e]
        · right; exact ⟨by omega, by omega, h3⟩
theorem confL_len (o a b : List S33) (n i : Nat) : (confL o a b n i).length ≤ n := by
  have h := (mergeGo_length o a b n i [] []).2
  rw [mergeGo_conf] at h
  simpa using h
theorem evHas (l : List Int) (v : Int) (hl : l.length ≤ 4194304) : B.Ev (fun k => laws_has.f k l v) (decide (v ∈ l)) := by
  unfold laws_has.f
  refine B.Ev.loop (g := fun k j => laws_has.l0 k l v (j : Int)) l.length (fun j => v ∉ l.take j) ?_ ?_ 0 (by omega) (by simp)
  · intro h
    refine B.Ev.succ ?_
    simp only [laws_has.l0, Int.lt_irrefl, ↓reduceIte]
    rw [List.take_length] at h
    simp only [h, decide_false]
    exact B.Ev.pure _
  · intro j hj h ih
    refine B.Ev.succ ?_
    simp only [laws_has.l0, show (j : Int) < (l.length : Int) by omega, show 0 ≤ (j : Int) by omega, ↓reduceIte, rdInt, B.wsucc (show j < 9223372036854775807 by omega), B.getD_lt hj]
    refine B.Ev.ite (fun e => ?_) (fun e => ih ?_)
    · rw [decide_eq_true (show v ∈ l by rw [← e]; exact List.getElem_mem hj)]
      exact B.Ev.pure _
    · rw [List.take_succ_eq_append_getElem hj, List.mem_append]
      rintro (g | g)
      · exact h g
      · exact e ((List.mem_singleton.1 g).symm)
theorem evSameInts (l : List Int) (hl : l.length ≤ 4194304) : B.Ev (fun k => laws_sameInts.f k l l) true := by
  unfold laws_sameInts.f
  simp only [↓reduceIte]
  refine B.Ev.loop (g := fun k j => laws_sameInts.l0 k l l (j : Int)) l.length (fun _ => True) ?_ ?_ 0 (by omega) trivial
  · intro _
    refine B.Ev.succ ?_
    simp only [laws_sameInts.l0, Int.lt_irrefl, ↓reduceIte]
    exact B.Ev.pure _
  · intro j hj _ ih
    refine B.Ev.succ ?_
    simp only [laws_sameInts.l0, show (j : Int) < (l.length : Int) by omega, show 0 ≤ (j : Int) by omega, ↓reduceIte, B.wsucc (show j < 9223372036854775807 by omega)]
    exact ih trivial
theorem evSameTree (l : List S33) (hl : l.length ≤ 4194304) : B.Ev (fun k => spec_SameTree.f k l l) true := by
  unfold spec_SameTree.f
  simp only [↓reduceIte]
  refine B.Ev.loop (g := fun k j => spec_SameTree.l0 k l l (j : Int)) l.length (fun _ => True) ?_ ?_ 0 (by omega) trivial
  · intro _
    refine B.Ev.succ ?_
    simp only [spec_SameTree.l0, Int.lt_irrefl, ↓reduceIte]
    exact B.Ev.pure _
  · intro j hj _ ih
    refine B.Ev.succ ?_
    simp only [spec_SameTree.l0, show (j : Int) < (l.length : Int) by omega, show 0 ≤ (j : Int) by omega, ↓reduceIte, B.wsucc (show j < 9223372036854775807 by omega), decide_true, Bool.and_self]
    exact ih trivial
end Go.Proofs.Ythccagmifnipdaa.X
end YthccagmifnipdaaXMergeAt
section YthccagmifnipdaaPureFnMerged
namespace Go.Proofs.Ythccagmifnipdaa.Pure
open Go Go.RowKit Go.Proofs.Ythccagmifnipdaa.V Go.Proofs.Ythccagmifnipdaa.P Go.Proofs.Ythccagmifnipdaa.X
set_option linter.unusedVariables false
set_option linter.unusedSimpArgs false
theorem mergedIn (o a b : List S33) (hm : sameShape o a = true) (hm2 : sameShape o b = true) (ho : o.length ≤ 200000) :
    ∃ X C, merged o a b = (X, C, true) ∧ X.length = o.length ∧ C = confL o a b o.length 0 ∧
      (∀ j : Nat, X.getD j z33 = if j < o.length ∧ (a.getD j z33).f0 = (o.getD j z33).f0 then ⟨(b.getD j z33).f0, (a.getD j z33).f1⟩ else a.getD j z33) := by
  have e1 := sameShape_length hm
  refine ⟨_, _, by unfold merged; rw [hm, hm2]; rfl, ?_, ?_, ?_⟩
  · rw [(mergeGo_length o a b o.length 0 a []).1]; exact e1.symm
  · rw [mergeGo_conf]; rfl
  · intro j
    rw [mergeGo_at o a b o.length 0 a [] (by omega) j]
    by_cases h : j < o.length ∧ (a.getD j z33).f0 = (o.getD j z33).f0
    · rw [if_pos h, if_pos ⟨by omega, by omega, h.2⟩]
    · rw [if_neg h, if_neg (fun g => h ⟨by omega, g.2.2⟩)]
theorem sameShape_dep {a b : List S33} (h : sameShape a b = true) (j : Nat) : (b.getD j z33).f1 = (a.getD j z33).f1 := by
  unfold sameShape at h
  have h2 : a.map S33.f1 = b.map S33.f1 := by simp at h; exact h.2.2
  have h3 := congrArg (fun l => l.getD j z33.f1) h2
  simp only [List.getD_eq_getElem?_getD, List.getElem?_map, Option.getD_map] at h3
  simpa [List.getD_eq_getElem?_getD] using h3.symm
theorem sameShape_self {a b : List S33} (h : sameShape a b = true) : sameShape a a = true := by
  unfold sameShape at h ⊢
  simp at h ⊢
  exact h.1
theorem evLoop (L : List Int) (o a b : List S33) (ho : o.length ≤ 200000) (h1 : sameShape o a = true) (h2 : sameShape o b = true) (X Y : List S33) (C : List Int) (hX : X.length = o.length) (hY : Y.length = o.length) (hC : C = confL o a b o.length 0)
    (aX : ∀ j : Nat, X.getD j z33 = if j < o.length ∧ (a.getD j z33).f0 = (o.getD j z33).f0 then ⟨(b.getD j z33).f0, (a.getD j z33).f1⟩ else a.getD j z33)
    (aY : ∀ j : Nat, Y.getD j z33 = if j < o.length ∧ (b.getD j z33).f0 = (o.getD j z33).f0 then ⟨(a.getD j z33).f0, (b.getD j z33).f1⟩ else b.getD j z33) :
    B.Ev (fun k => laws_FnMerged.l0 k o a b X C Y 0 L) true := by
  have e1 := sameShape_length h1
  have e2 := sameShape_length h2
  have lC : C.length ≤ 200000 := by rw [hC]; exact Nat.le_trans (confL_len _ _ _ _ _) ho
  refine B.Ev.loop (g := fun k j => laws_FnMerged.l0 k o a b X C Y (j : Int) L) o.length (fun _ => True) ?_ ?_ 0 (by omega) trivial
  · intro _
    refine B.Ev.succ ?_
    simp only [laws_FnMerged.l0, Int.lt_irrefl, ↓reduceIte]
    obtain ⟨Z, D, em, lZ, _, aZ⟩ := mergedIn o o b (sameShape_self h1) h2 ho
    refine B.Ev.bind (B.Ev.of _ (fun k hk => implMergeLabels o o b (by omega) (by omega) (by omega) k hk)) ?_
    rw [em]
    have : Z = b := by
      refine List.ext_getElem (by omega) fun j h3 h4 => ?_
      have := aZ j
      rw [if_pos ⟨by omega, rfl⟩, B.getD_lt h3, B.getD_lt h4] at this
      rw [this, ← sameShape_dep h2 j, B.getD_lt h4]
    subst this
    refine B.Ev.bind (evSameTree Z (by omega)) ?_
    exact B.Ev.pure _
  · intro j hj _ ih
    have ih := ih trivial
    refine B.Ev.succ ?_
    have d1 := sameShape_dep h1 j
    have d2 := sameShape_dep h2 j
    have aX := aX j
    have aY := aY j
    have m := confL_mem o a b o.length 0 j
    rw [← hC] at m
    simp only [laws_FnMerged.l0, show (j : Int) < (o.length : Int) by omega, show 0 ≤ (j : Int) by omega, show (j : Int) < (a.length : Int) by omega, show (j : Int) < (b.length : Int) by omega, show (j : Int) < (X.length : Int) by omega, show (j : Int) < (Y.length : Int) by omega, show (X.length : Int) = (o.length : Int) by omega, show (Y.length : Int) = (o.length : Int) by omega, ↓reduceIte, rdNode, B.wsucc (show j < 9223372036854775807 by omega), aX, aY]
    have hs := evHas C (j : Int) (by omega)
    simp only [hj, true_and, Nat.zero_le, Nat.zero_add] at m ⊢
    by_cases c1 : (a.getD j z33).f0 = (o.getD j z33).f0
    · have hs : B.Ev (fun k => laws_has.f k C (j : Int)) false := by rw [show decide ((j : Int) ∈ C) = false from decide_eq_false (fun g => m.1 g (Or.inl c1))] at hs; exact hs
      by_cases c2 : (b.getD j z33).f0 = (o.getD j z33).f0
      · simp only [c1, c2, d1, d2, ↓reduceIte, decide_true, Bool.and_self]
        refine B.Ev.bind hs ?_
        simp only [↓reduceIte]
        exact ih
      · simp only [c1, c2, d1, d2, ↓reduceIte, decide_true, Bool.and_self]
        refine B.Ev.bind hs ?_
        simp only [↓reduceIte]
        exact ih
    · by_cases c2 : (b.getD j z33).f0 = (o.getD j z33).f0
      · have hs : B.Ev (fun k => laws_has.f k C (j : Int)) false := by rw [show decide ((j : Int) ∈ C) = false from decide_eq_false (fun g => m.1 g (Or.inr (Or.inl c2)))] at hs; exact hs
        simp only [c1, c2, d1, d2, ↓reduceIte, decide_true, Bool.and_self]
        refine B.Ev.bind hs ?_
        simp only [↓reduceIte]
        exact ih
      · by_cases c3 : (a.getD j z33).f0 = (b.getD j z33).f0
        · have hs : B.Ev (fun k => laws_has.f k C (j : Int)) false := by rw [show decide ((j : Int) ∈ C) = false from decide_eq_false (fun g => m.1 g (Or.inr (Or.inr c3)))] at hs; exact hs
          simp only [c1, c2, c3, d1, d2, ↓reduceIte, decide_true, Bool.and_self, Bool.not_true]
          refine B.Ev.bind hs ?_
          simp only [↓reduceIte]
          exact ih
        · have hs : B.Ev (fun k => laws_has.f k C (j : Int)) true := by rw [show decide ((j : Int) ∈ C) = true from decide_eq_true (m.2 (fun g => g.elim c1 fun g => g.elim c2 c3))] at hs; exact hs
          simp only [c1, c2, c3, d1, d2, ↓reduceIte, decide_true, decide_false, Bool.and_self, Bool.not_false]
          refine B.Ev.bind hs ?_
          simp only [↓reduceIte]
          exact ih
theorem FnMerged : ∀ (l0 : List Int), (l0.length ≤ maxLen ∧ ∀ x ∈ l0, (Lit.int .u8 x).wf = true) → ∃ k, laws_FnMerged.f k l0 = some true := by
  intro l0 _
  refine B.Ev.ex ?_
  unfold laws_FnMerged.f
  rw [lawBig]
  simp only [Option.bind_some]
  refine B.Ev.ite (fun _ => B.Ev.pure _) (fun h => ?_)
  have hl : l0.length ≤ 1048576 := by simp at h; omega
  obtain ⟨⟨o, a, b⟩, ⟨ho, ha, hb⟩, ed⟩ := (drMerge l0 (by omega)).ev
  simp only at ho ha hb
  refine B.Ev.bind ed ?_
  refine B.Ev.bind (B.Ev.of _ (fun k hk => implMergeLabels o a b (by omega) (by omega) (by omega) k hk)) ?_
  refine B.Ev.bind (B.Ev.of _ (fun k hk => implMergeLabels o b a (by omega) (by omega) (by omega) k hk)) ?_
  refine B.Ev.bind (B.Ev.of _ (fun k hk => specSameShape o a (by omega) (by omega) k hk)) ?_
  by_cases h1 : sameShape o a = true
  · by_cases h2 : sameShape o b = true
    · obtain ⟨X, C, em, lX, eC, aX⟩ := mergedIn o a b h1 h2 ho
      obtain ⟨Y, D, en, lY, eD, aY⟩ := mergedIn o b a h2 h1 ho
      rw [confL_comm, ← eC] at eD
      subst eD
      simp only [em, en, h1, h2, ↓reduceIte]
      refine B.Ev.bind (B.Ev.of _ (fun k hk => specSameShape o b (by omega) (by omega) k hk)) ?_
      simp only [h2, ↓reduceIte]
      refine B.Ev.bind (evSameInts D (by rw [eC]; exact Nat.le_trans (confL_len _ _ _ _ _) (by omega))) ?_
      simp only [↓reduceIte]
      exact evLoop l0 o a b ho h1 h2 X Y D lX lY eC aX aY
    · have em : merged o a b = ([], [], false) := by unfold merged; simp [h2]
      have en : merged o b a = ([], [], false) := by unfold merged; simp [h2]
      simp only [em, en, h1, ↓reduceIte]
      refine B.Ev.bind (B.Ev.of _ (fun k hk => specSameShape o b (by omega) (by omega) k hk)) ?_
      simp only [Bool.not_eq_true] at h2
      simp only [h2, ↓reduceIte]
      refine B.Ev.bind (evSameInts [] (by simp)) ?_
      simp only [Bool.false_eq_true, ↓reduceIte, List.length_nil]
      exact B.Ev.pure _
  · have em : merged o a b = ([], [], false) := by unfold merged; simp [h1]
    have en : merged o b a = ([], [], false) := by unfold merged; simp [h1]
    simp only [em, en, h1, ↓reduceIte]
    refine B.Ev.bind (evSameInts [] (by simp)) ?_
    simp only [Bool.false_eq_true, ↓reduceIte, List.length_nil]
    exact B.Ev.pure _
end Go.Proofs.Ythccagmifnipdaa.Pure
end YthccagmifnipdaaPureFnMerged
