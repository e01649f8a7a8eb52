/- FnExactHistAdd: L54 L37 L107 L108 L99 L123 L134 L126 L121 L122 L124 L125 L100 L79 L137 L139 L136 L130 L129 L135 L128 L114 L93 L56 L24 L94 L57 L95 L59 L26 L58 L25 L60 L62 L28 L61 L27 L63 L115 L96 L64 L29 L6 XBase XRd XIntsEq XInts XEv XOpsM XEvP XOpsC XMark XScrOk XTree XEnd XKids XHas XKidsI XEvR XNodeA XCodeA XApply XApplyA XHistT XIntsTo. -/
import Derived.Test.YtinlbiphjgpmmaaBFnExactHistAdd3
section YtinlbiphjgpmmaaL54
namespace Go.Proofs.Ytinlbiphjgpmmaa.P
open Go Go.RowKit Go.Proofs.Ytinlbiphjgpmmaa.V
set_option linter.unusedVariables false
set_option linter.unusedSimpArgs false
set_option linter.all false
set_option maxRecDepth 100000
/-! ### impl_histCopy: function 54 -/
def impl_histCopy.l0 : Nat → (List (List S87)) → Int → Int → (List S105) → (List S105) → (List (List S87)) → (List S105) → (List (List S87)) → Option ((List S105) × (List (List S87)))
 | 0, _, _, _, _, _, _, _, _ => none
 | k + 1, l0_1, x12, x13, l0_0, c2_0, c2_1, c3_0, c3_1 => if x13 < x12 then (if 0 ≤ x13 then (if x13 < (l0_1.length : Int) then ((impl_Joined.f k (rdL l0_1 x13) []).bind fun t2 => (if c3_1.length < 5864062014805 then (impl_histCopy.l0 k l0_1 x12 (wrap64 (x13 + 1)) l0_0 c2_0 c2_1 c3_0 (c3_1 ++ ([t2]))) else none)) else none) else none) else (some (c3_0, c3_1))
def impl_histCopy.f (k : Nat) (l0_0 : List S105) (l0_1 : List (List S87)) : Option ((List S105) × (List (List S87))) := (slices_Clone_impl_Node_impl_Node.f l0_0).bind fun t1 => (impl_histCopy.l0 k l0_1 (l0_1.length : Int) 0 l0_0 [] [] t1 [])
def impl_histCopy.P0 (k : Nat) : Prop := ∀ (l0_1 : List (List S87)) (x12 : Int) (x13 : Int) (l0_0 : List S105) (c2_0 : List S105) (c2_1 : List (List S87)) (c3_0 : List S105) (c3_1 : List (List S87)) (r : (List S105) × (List (List S87))), impl_histCopy.l0 k l0_1 x12 x13 l0_0 c2_0 c2_1 c3_0 c3_1 = some r → ∀ st, canon 2 [2, 3, 11, 12, 13] st = ⟨tmOf [(2, .ptr 2 [] 0 0 0), (3, .ptr 3 [] 0 0 0), (11, .slc 1 [] 0 1 0 l0_1.length), (12, .i .i64 x12), (13, .i .i64 x13)], rsL [(0, some ⟨false, 2, 0, (l0_0.map e105)⟩), (1, some ⟨false, 1, 0, (l0_1.map (eL 5 false (e87 false)))⟩), (2, some ⟨true, 2, 0, [[.deep false false 2 (c2_0.map e105), .deep false false 1 (c2_1.map (eL 5 false (e87 false)))]]⟩), (3, some ⟨true, 2, 0, [[.deep false false 2 (c3_0.map e105), .deep false false 1 (c3_1.map (eL 5 false (e87 false)))]]⟩)], 4⟩ → W env impl_histCopy.c1 st (Qb 0 (Qs env impl_histCopy.c0 (Qf [.cell 2 (some 2)] [false, false] ([.agg [.deep false false 2 (r.1.map e105), .deep false false 1 (r.2.map (eL 5 false (e87 false)))]], [none, none]))))
set_option maxHeartbeats 4000000 in
theorem impl_histCopy.s0 (k : Nat) (ih : impl_histCopy.P0 k) : impl_histCopy.P0 (k + 1) := by
  intro l0_1 x12 x13 l0_0 c2_0 c2_1 c3_0 c3_1 r H st hst
  rw [impl_histCopy.l0] at H
  rw [W_loopc (show impl_histCopy.c1 = C.loop 2 [2, 3, 11, 12, 13] impl_histCopy.d1 from rfl), hst]
  unfold impl_histCopy.d1
  try simp only [TN, simprocAttr, impl_histCopy.c0]
  rcases ite_or H with ⟨h1, H⟩ | ⟨h1, H⟩
  · skip
    obtain ⟨h2, H⟩ := ite_no H
    obtain ⟨h3, H⟩ := ite_no H
    obtain ⟨t2, e4, H⟩ := bnd_some H
    have e4 := impl_Joined.link e4
    simp only [List.map_nil] at e4
    obtain ⟨h5, H⟩ := ite_no H
    have h6 : (c3_1.length + 1) * 24 ≤ 140737488355328 := by omega
    try simp only [TN, simprocAttr, impl_histCopy.c0, h1, h2, h3, e4, h5, h6]
    refine ih _ _ _ _ _ _ _ _ _ H _ ?_
    first | (rw [canon_eq]; done) | (rw [canon_eq]; rfl) | (rw [canon_eq]; simp only [List.length_set, List.length_append, List.length_replicate]; rfl)
  · skip
    injection H with H; subst H
    try simp only [TN, simprocAttr, impl_histCopy.c0, h1]
    try rfl
theorem impl_histCopy.w : ∀ k, impl_histCopy.P0 k := by
  intro k
  induction k with
  | zero => exact by intro l0_1 x12 x13 l0_0 c2_0 c2_1 c3_0 c3_1 r H; cases (show (none : Option ((List S105) × (List (List S87)))) = some r from H)
  | succ k ih => exact impl_histCopy.s0 k ih
set_option maxHeartbeats 4000000 in
theorem impl_histCopy.link {k : Nat} {l0_0 : List S105} {l0_1 : List (List S87)} {r : (List S105) × (List (List S87))} (H : impl_histCopy.f k l0_0 l0_1 = some r) : callW env 54 [.agg [.deep false true 2 (l0_0.map e105), .deep false true 1 (l0_1.map (eL 5 false (e87 false)))]] = some ([.agg [.deep false false 2 (r.1.map e105), .deep false false 1 (r.2.map (eL 5 false (e87 false)))]], [none, none]) := by
  unfold impl_histCopy.f at H
  refine callW_fn' (F := impl_histCopy.F) (tm := tmOf [(0, .agg [.slc 0 [] 0 2 0 l0_0.length, .slc 1 [] 0 1 0 l0_1.length])]) (rs := rsL [(0, some ⟨false, 2, 0, (l0_0.map e105)⟩), (1, some ⟨false, 1, 0, (l0_1.map (eL 5 false (e87 false)))⟩)]) (nx := 2) (ow := [false, false]) rfl (by rfl) (by simp only [SN]) (by simp only [SN]) (by decide) ?_
  show W env impl_histCopy.B _ (Qf [.cell 2 (some 2)] [false, false] _)
  unfold impl_histCopy.B
  obtain ⟨t1, e1, H⟩ := bnd_some H
  have e1 := slices_Clone_impl_Node_impl_Node.link e1
  try simp only [TN, simprocAttr, impl_histCopy.c0, e1]
  refine (impl_histCopy.w k) _ _ _ _ _ _ _ _ _ H _ ?_
  first | (rw [canon_eq]; done) | (rw [canon_eq]; rfl) | (rw [canon_eq]; simp only [List.length_set, List.length_append, List.length_replicate]; rfl)
end Go.Proofs.Ytinlbiphjgpmmaa.P
end YtinlbiphjgpmmaaL54
section YtinlbiphjgpmmaaL37
namespace Go.Proofs.Ytinlbiphjgpmmaa.P
open Go Go.RowKit Go.Proofs.Ytinlbiphjgpmmaa.V
set_option linter.unusedVariables false
set_option linter.unusedSimpArgs false
set_option linter.all false
set_option maxRecDepth 100000
/-! ### impl_within: function 37 -/
def impl_within.f (a0 : Int) (a1 : Int) (a2 : Int) : Option Bool := if a1 ≤ a0 then (some (decide (a0 ≤ a2))) else (some false)
set_option maxHeartbeats 4000000 in
theorem impl_within.link {a0 : Int} {a1 : Int} {a2 : Int} {r : Bool} (H : impl_within.f a0 a1 a2 = some r) : callW env 37 [.i .i64 a0, .i .i64 a1, .i .i64 a2] = some ([.b r], []) := by
  unfold impl_within.f at H
  refine callW_fn' (F := impl_within.F) (tm := tmOf [(0, .i .i64 a0), (1, .i .i64 a1), (2, .i .i64 a2)]) (rs := rsL []) (nx := 0) (ow := []) rfl (by rfl) (by simp only [SN]) (by simp only [SN]) (by decide) ?_
  show W env impl_within.B _ (Qf [.t 6] [] _)
  unfold impl_within.B
  try simp only [TN, simprocAttr]
  rcases ite_or H with ⟨h1, H⟩ | ⟨h1, H⟩
  · skip
    injection H with H; subst H
    try simp only [TN, simprocAttr, h1]
    try rfl
  · skip
    injection H with H; subst H
    try simp only [TN, simprocAttr, h1]
    try rfl
end Go.Proofs.Ytinlbiphjgpmmaa.P
end YtinlbiphjgpmmaaL37
section YtinlbiphjgpmmaaL107
namespace Go.Proofs.Ytinlbiphjgpmmaa.P
open Go Go.RowKit Go.Proofs.Ytinlbiphjgpmmaa.V
set_option linter.unusedVariables false
set_option linter.unusedSimpArgs false
set_option linter.all false
set_option maxRecDepth 100000
/-! ### impl_LabelOk: function 107 -/
def impl_LabelOk.f (a0 : Int) : Option Bool := (impl_within.f a0 0 5).bind fun t1 => (some t1)
set_option maxHeartbeats 4000000 in
theorem impl_LabelOk.link {a0 : Int} {r : Bool} (H : impl_LabelOk.f a0 = some r) : callW env 107 [.i .i64 a0] = some ([.b r], []) := by
  unfold impl_LabelOk.f at H
  refine callW_fn' (F := impl_LabelOk.F) (tm := tmOf [(0, .i .i64 a0)]) (rs := rsL []) (nx := 0) (ow := []) rfl (by rfl) (by simp only [SN]) (by simp only [SN]) (by decide) ?_
  show W env impl_LabelOk.B _ (Qf [.t 2] [] _)
  unfold impl_LabelOk.B
  obtain ⟨t1, e1, H⟩ := bnd_some H
  have e1 := impl_within.link e1
  injection H with H; subst H
  try simp only [TN, simprocAttr, e1]
  try rfl
end Go.Proofs.Ytinlbiphjgpmmaa.P
end YtinlbiphjgpmmaaL107
section YtinlbiphjgpmmaaL108
namespace Go.Proofs.Ytinlbiphjgpmmaa.P
open Go Go.RowKit Go.Proofs.Ytinlbiphjgpmmaa.V
set_option linter.unusedVariables false
set_option linter.unusedSimpArgs false
set_option linter.all false
set_option maxRecDepth 100000
/-! ### impl_depthOk: function 108 -/
def impl_depthOk.f (l0 : List S105) (a1 : Int) : Option Bool := if a1 = 0 then (if 0 < (l0.length : Int) then (some (((rd_T105 l0 0).f1) == 0)) else none) else (if 0 ≤ a1 then (if a1 < (l0.length : Int) then (if 0 ≤ wrap64 (a1 - 1) then (if wrap64 (a1 - 1) < (l0.length : Int) then ((impl_within.f ((rd_T105 l0 a1).f1) 1 (wrap64 (((rd_T105 l0 (wrap64 (a1 - 1))).f1) + 1))).bind fun t1 => (some t1)) else none) else none) else none) else none)
set_option maxHeartbeats 4000000 in
theorem impl_depthOk.link {l0 : List S105} {a1 : Int} {r : Bool} (H : impl_depthOk.f l0 a1 = some r) : callW env 108 [.deep false true 2 (l0.map e105), .i .i64 a1] = some ([.b r], [none]) := by
  unfold impl_depthOk.f at H
  refine callW_fn' (F := impl_depthOk.F) (tm := tmOf [(0, .slc 0 [] 0 2 0 l0.length), (1, .i .i64 a1)]) (rs := rsL [(0, some ⟨false, 2, 0, (l0.map e105)⟩)]) (nx := 1) (ow := [false]) rfl (by rfl) (by simp only [SN]) (by simp only [SN]) (by decide) ?_
  show W env impl_depthOk.B _ (Qf [.t 4] [false] _)
  unfold impl_depthOk.B
  try simp only [TN, simprocAttr]
  rcases ite_or H with ⟨h1, H⟩ | ⟨h1, H⟩
  · skip
    obtain ⟨h2, H⟩ := ite_no H
    injection H with H; subst H
    try simp only [TN, simprocAttr, eq_true h1, h2]
    try rfl
  · skip
    obtain ⟨h3, H⟩ := ite_no H
    obtain ⟨h4, H⟩ := ite_no H
    obtain ⟨h5, H⟩ := ite_no H
    obtain ⟨h6, H⟩ := ite_no H
    obtain ⟨t1, e7, H⟩ := bnd_some H
    have e7 := impl_within.link e7
    injection H with H; subst H
    try simp only [TN, simprocAttr, h1, h3, h4, h5, h6, e7]
    try rfl
end Go.Proofs.Ytinlbiphjgpmmaa.P
end YtinlbiphjgpmmaaL108
section YtinlbiphjgpmmaaL99
namespace Go.Proofs.Ytinlbiphjgpmmaa.P
open Go Go.RowKit Go.Proofs.Ytinlbiphjgpmmaa.V
set_option linter.unusedVariables false
set_option linter.unusedSimpArgs false
set_option linter.all false
set_option maxRecDepth 100000
/-! ### impl_TreeOk: function 99 -/
def impl_TreeOk.l0 : Nat → (List S105) → (List S105) → Int → Int → Option Bool
 | 0, _, _, _, _ => none
 | k + 1, l0, x9, x10, x11 => if x11 < x10 then (if 0 ≤ x11 then (if x11 < (l0.length : Int) then ((impl_LabelOk.f ((rd_T105 l0 x11).f0)).bind fun t2 => (if t2 = true then ((impl_within.f ((rd_T105 l0 x11).f1) 0 12).bind fun t3 => (if t3 = true then ((impl_depthOk.f l0 x11).bind fun t4 => (if t4 = true then (impl_TreeOk.l0 k l0 l0 x10 (wrap64 (x11 + 1))) else (some false))) else (some false))) else (some false))) else none) else none) else (some true)
def impl_TreeOk.f (k : Nat) (l0 : List S105) : Option Bool := (impl_within.f (l0.length : Int) 1 24).bind fun t1 => (if t1 = true then (impl_TreeOk.l0 k l0 l0 (l0.length : Int) 0) else (some false))
def impl_TreeOk.P0 (k : Nat) : Prop := ∀ (l0 : List S105) (x9 : List S105) (x10 : Int) (x11 : Int) (r : Bool), x9 = l0 → impl_TreeOk.l0 k l0 x9 x10 x11 = some r → ∀ st, canon 1 [0, 9, 10, 11] st = ⟨tmOf [(0, .slc 0 [] 0 2 0 l0.length), (9, .slc 0 [] 0 2 0 l0.length), (10, .i .i64 x10), (11, .i .i64 x11)], rsL [(0, some ⟨false, 2, 0, (l0.map e105)⟩)], 1⟩ → W env impl_TreeOk.c1 st (Qb 0 (Qs env impl_TreeOk.c0 (Qf [.t 2] [false] ([.b r], [none]))))
set_option maxHeartbeats 4000000 in
theorem impl_TreeOk.s0 (k : Nat) (ih : impl_TreeOk.P0 k) : impl_TreeOk.P0 (k + 1) := by
  intro l0 x9 x10 x11 r a0 H st hst
  subst a0
  rw [impl_TreeOk.l0] at H
  rw [W_loopc (show impl_TreeOk.c1 = C.loop 1 [0, 9, 10, 11] impl_TreeOk.d1 from rfl), hst]
  unfold impl_TreeOk.d1
  try simp only [TN, simprocAttr, impl_TreeOk.c0]
  rcases ite_or H with ⟨h1, H⟩ | ⟨h1, H⟩
  · skip
    obtain ⟨h2, H⟩ := ite_no H
    obtain ⟨h3, H⟩ := ite_no H
    obtain ⟨t2, e4, H⟩ := bnd_some H
    have e4 := impl_LabelOk.link e4
    try simp only [TN, simprocAttr, impl_TreeOk.c0, h1, h2, h3, e4]
    rcases ite_b H with ⟨h5, H⟩ | ⟨h5, H⟩
    · skip
      obtain ⟨t3, e6, H⟩ := bnd_some H
      have e6 := impl_within.link e6
      try simp only [TN, simprocAttr, impl_TreeOk.c0, h1, h2, h3, e4, h5, e6]
      rcases ite_b H with ⟨h7, H⟩ | ⟨h7, H⟩
      · skip
        obtain ⟨t4, e8, H⟩ := bnd_some H
        have e8 := impl_depthOk.link e8
        try simp only [TN, simprocAttr, impl_TreeOk.c0, h1, h2, h3, e4, h5, e6, h7, e8]
        rcases ite_b H with ⟨h9, H⟩ | ⟨h9, H⟩
        · skip
          try simp only [TN, simprocAttr, impl_TreeOk.c0, h1, h2, h3, e4, h5, e6, h7, e8, h9]
          refine ih _ _ _ _ _ rfl H _ ?_
          first | (rw [canon_eq]; done) | (rw [canon_eq]; rfl) | (rw [canon_eq]; simp only [List.length_set, List.length_append, List.length_replicate]; rfl)
        · skip
          injection H with H; subst H
          try simp only [TN, simprocAttr, impl_TreeOk.c0, h1, h2, h3, e4, h5, e6, h7, e8, h9]
          try rfl
      · skip
        injection H with H; subst H
        try simp only [TN, simprocAttr, impl_TreeOk.c0, h1, h2, h3, e4, h5, e6, h7]
        try rfl
    · skip
      injection H with H; subst H
      try simp only [TN, simprocAttr, impl_TreeOk.c0, h1, h2, h3, e4, h5]
      try rfl
  · skip
    injection H with H; subst H
    try simp only [TN, simprocAttr, impl_TreeOk.c0, h1]
    try rfl
theorem impl_TreeOk.w : ∀ k, impl_TreeOk.P0 k := by
  intro k
  induction k with
  | zero => exact by intro l0 x9 x10 x11 r _ H; cases (show (none : Option Bool) = some r from H)
  | succ k ih => exact impl_TreeOk.s0 k ih
set_option maxHeartbeats 4000000 in
theorem impl_TreeOk.link {k : Nat} {l0 : List S105} {r : Bool} (H : impl_TreeOk.f k l0 = some r) : callW env 99 [.deep false true 2 (l0.map e105)] = some ([.b r], [none]) := by
  unfold impl_TreeOk.f at H
  refine callW_fn' (F := impl_TreeOk.F) (tm := tmOf [(0, .slc 0 [] 0 2 0 l0.length)]) (rs := rsL [(0, some ⟨false, 2, 0, (l0.map e105)⟩)]) (nx := 1) (ow := [false]) rfl (by rfl) (by simp only [SN]) (by simp only [SN]) (by decide) ?_
  show W env impl_TreeOk.B _ (Qf [.t 2] [false] _)
  unfold impl_TreeOk.B
  obtain ⟨t1, e1, H⟩ := bnd_some H
  have e1 := impl_within.link e1
  try simp only [TN, simprocAttr, impl_TreeOk.c0, e1]
  rcases ite_b H with ⟨h2, H⟩ | ⟨h2, H⟩
  · skip
    try simp only [TN, simprocAttr, impl_TreeOk.c0, e1, h2]
    refine (impl_TreeOk.w k) _ _ _ _ _ rfl H _ ?_
    first | (rw [canon_eq]; done) | (rw [canon_eq]; rfl) | (rw [canon_eq]; simp only [List.length_set, List.length_append, List.length_replicate]; rfl)
  · skip
    injection H with H; subst H
    try simp only [TN, simprocAttr, impl_TreeOk.c0, e1, h2]
    try rfl
end Go.Proofs.Ytinlbiphjgpmmaa.P
end YtinlbiphjgpmmaaL99
section YtinlbiphjgpmmaaL123
namespace Go.Proofs.Ytinlbiphjgpmmaa.P
open Go Go.RowKit Go.Proofs.Ytinlbiphjgpmmaa.V
set_option linter.unusedVariables false
set_option linter.unusedSimpArgs false
set_option linter.all false
set_option maxRecDepth 100000
/-! ### impl_endOf: function 123 -/
def impl_endOf.l0 : Nat → (List S105) → Int → Int → Option Int
 | 0, _, _, _ => none
 | k + 1, l0, a1, x5 => if x5 < (l0.length : Int) then (if 0 ≤ x5 then (if 0 ≤ a1 then (if a1 < (l0.length : Int) then (if ((rd_T105 l0 x5).f1) > ((rd_T105 l0 a1).f1) then (impl_endOf.l0 k l0 a1 (wrap64 (x5 + 1))) else (some x5)) else none) else none) else none) else (some x5)
def impl_endOf.f (k : Nat) (l0 : List S105) (a1 : Int) : Option Int := impl_endOf.l0 k l0 a1 (wrap64 (a1 + 1))
def impl_endOf.P0 (k : Nat) : Prop := ∀ (l0 : List S105) (a1 : Int) (x5 : Int) (r : Int), impl_endOf.l0 k l0 a1 x5 = some r → ∀ st, canon 1 [0, 1, 5] st = ⟨tmOf [(0, .slc 0 [] 0 2 0 l0.length), (1, .i .i64 a1), (5, .i .i64 x5)], rsL [(0, some ⟨false, 2, 0, (l0.map e105)⟩)], 1⟩ → W env impl_endOf.c1 st (Qb 0 (Qs env impl_endOf.c0 (Qf [.t 4] [false] ([.i .i64 r], [none]))))
set_option maxHeartbeats 4000000 in
theorem impl_endOf.s0 (k : Nat) (ih : impl_endOf.P0 k) : impl_endOf.P0 (k + 1) := by
  intro l0 a1 x5 r H st hst
  rw [impl_endOf.l0] at H
  rw [W_loopc (show impl_endOf.c1 = C.loop 1 [0, 1, 5] impl_endOf.d1 from rfl), hst]
  unfold impl_endOf.d1
  try simp only [TN, simprocAttr, impl_endOf.c0]
  rcases ite_or H with ⟨h1, H⟩ | ⟨h1, H⟩
  · skip
    obtain ⟨h2, H⟩ := ite_no H
    obtain ⟨h3, H⟩ := ite_no H
    obtain ⟨h4, H⟩ := ite_no H
    try simp only [TN, simprocAttr, impl_endOf.c0, h1, h2, h3, h4]
    rcases ite_or H with ⟨h5, H⟩ | ⟨h5, H⟩
    · skip
      try simp only [TN, simprocAttr, impl_endOf.c0, h1, h2, h3, h4, h5]
      refine ih _ _ _ _ H _ ?_
      first | (rw [canon_eq]; done) | (rw [canon_eq]; rfl) | (rw [canon_eq]; simp only [List.length_set, List.length_append, List.length_replicate]; rfl)
    · skip
      injection H with H; subst H
      try simp only [TN, simprocAttr, impl_endOf.c0, h1, h2, h3, h4, h5]
      try rfl
  · skip
    injection H with H; subst H
    try simp only [TN, simprocAttr, impl_endOf.c0, h1]
    try rfl
theorem impl_endOf.w : ∀ k, impl_endOf.P0 k := by
  intro k
  induction k with
  | zero => exact by intro l0 a1 x5 r H; cases (show (none : Option Int) = some r from H)
  | succ k ih => exact impl_endOf.s0 k ih
set_option maxHeartbeats 4000000 in
theorem impl_endOf.link {k : Nat} {l0 : List S105} {a1 : Int} {r : Int} (H : impl_endOf.f k l0 a1 = some r) : callW env 123 [.deep false true 2 (l0.map e105), .i .i64 a1] = some ([.i .i64 r], [none]) := by
  unfold impl_endOf.f at H
  refine callW_fn' (F := impl_endOf.F) (tm := tmOf [(0, .slc 0 [] 0 2 0 l0.length), (1, .i .i64 a1)]) (rs := rsL [(0, some ⟨false, 2, 0, (l0.map e105)⟩)]) (nx := 1) (ow := [false]) rfl (by rfl) (by simp only [SN]) (by simp only [SN]) (by decide) ?_
  show W env impl_endOf.B _ (Qf [.t 4] [false] _)
  unfold impl_endOf.B
  try simp only [TN, simprocAttr, impl_endOf.c0]
  refine (impl_endOf.w k) _ _ _ _ H _ ?_
  first | (rw [canon_eq]; done) | (rw [canon_eq]; rfl) | (rw [canon_eq]; simp only [List.length_set, List.length_append, List.length_replicate]; rfl)
end Go.Proofs.Ytinlbiphjgpmmaa.P
end YtinlbiphjgpmmaaL123
section YtinlbiphjgpmmaaL134
namespace Go.Proofs.Ytinlbiphjgpmmaa.P
open Go Go.RowKit Go.Proofs.Ytinlbiphjgpmmaa.V
set_option linter.unusedVariables false
set_option linter.unusedSimpArgs false
set_option linter.all false
set_option maxRecDepth 100000
/-! ### impl_hasNode: function 134 -/
def impl_hasNode.f (k : Nat) (l0 : List S105) (a1 : Int) : Option Bool := (impl_TreeOk.f k l0).bind fun t1 => (if t1 = true then ((impl_within.f a1 0 (wrap64 ((l0.length : Int) - 1))).bind fun t2 => (some t2)) else (some false))
set_option maxHeartbeats 4000000 in
theorem impl_hasNode.link {k : Nat} {l0 : List S105} {a1 : Int} {r : Bool} (H : impl_hasNode.f k l0 a1 = some r) : callW env 134 [.deep false true 2 (l0.map e105), .i .i64 a1] = some ([.b r], [none]) := by
  unfold impl_hasNode.f at H
  refine callW_fn' (F := impl_hasNode.F) (tm := tmOf [(0, .slc 0 [] 0 2 0 l0.length), (1, .i .i64 a1)]) (rs := rsL [(0, some ⟨false, 2, 0, (l0.map e105)⟩)]) (nx := 1) (ow := [false]) rfl (by rfl) (by simp only [SN]) (by simp only [SN]) (by decide) ?_
  show W env impl_hasNode.B _ (Qf [.t 4] [false] _)
  unfold impl_hasNode.B
  obtain ⟨t1, e1, H⟩ := bnd_some H
  have e1 := impl_TreeOk.link e1
  try simp only [TN, simprocAttr, e1]
  rcases ite_b H with ⟨h2, H⟩ | ⟨h2, H⟩
  · skip
    obtain ⟨t2, e3, H⟩ := bnd_some H
    have e3 := impl_within.link e3
    injection H with H; subst H
    try simp only [TN, simprocAttr, e1, h2, e3]
    try rfl
  · skip
    injection H with H; subst H
    try simp only [TN, simprocAttr, e1, h2]
    try rfl
end Go.Proofs.Ytinlbiphjgpmmaa.P
end YtinlbiphjgpmmaaL134
section YtinlbiphjgpmmaaL126
namespace Go.Proofs.Ytinlbiphjgpmmaa.P
open Go Go.RowKit Go.Proofs.Ytinlbiphjgpmmaa.V
set_option linter.unusedVariables false
set_option linter.unusedSimpArgs false
set_option linter.all false
set_option maxRecDepth 100000
/-! ### impl_KidsOf: function 126 -/
def impl_KidsOf.l0 : Nat → (List S105) → Int → (List Int) → Int → Option (List Int)
 | 0, _, _, _, _ => none
 | k + 1, l0, a1, x5, x6 => (impl_endOf.f k l0 a1).bind fun t2 => (if x6 < t2 then (if 0 ≤ x6 then (if x6 < (l0.length : Int) then (if 0 ≤ a1 then (if a1 < (l0.length : Int) then (if ((rd_T105 l0 x6).f1) = (wrap64 (((rd_T105 l0 a1).f1) + 1)) then (if x5.length < 17592186044416 then (impl_KidsOf.l0 k l0 a1 (x5 ++ ([x6])) (wrap64 (x6 + 1))) else none) else (impl_KidsOf.l0 k l0 a1 x5 (wrap64 (x6 + 1)))) else none) else none) else none) else none) else (some x5))
def impl_KidsOf.f (k : Nat) (l0 : List S105) (a1 : Int) : Option (List Int) := (impl_hasNode.f k l0 a1).bind fun t1 => (if t1 = true then (impl_KidsOf.l0 k l0 a1 ([] : List Int) (wrap64 (a1 + 1))) else (some ([] : List Int)))
def impl_KidsOf.P0 (k : Nat) : Prop := ∀ (l0 : List S105) (a1 : Int) (x5 : List Int) (x6 : Int) (r : (List Int)), impl_KidsOf.l0 k l0 a1 x5 x6 = some r → ∀ st, canon 1 [0, 1, 5, 6] st = ⟨tmOf [(0, .slc 0 [] 0 2 0 l0.length), (1, .i .i64 a1), (5, .slc 1 [] 0 1 0 x5.length), (6, .i .i64 x6)], rsL [(0, some ⟨false, 2, 0, (l0.map e105)⟩), (1, some ⟨true, 1, 0, (x5.map eI)⟩)], 2⟩ → W env impl_KidsOf.c1 st (Qb 0 (Qs env impl_KidsOf.c0 (Qf [.t 4] [false] ([.deep false false 1 (r.map eI)], [none]))))
set_option maxHeartbeats 4000000 in
theorem impl_KidsOf.s0 (k : Nat) (ih : impl_KidsOf.P0 k) : impl_KidsOf.P0 (k + 1) := by
  intro l0 a1 x5 x6 r H st hst
  rw [impl_KidsOf.l0] at H
  rw [W_loopc (show impl_KidsOf.c1 = C.loop 1 [0, 1, 5, 6] impl_KidsOf.d1 from rfl), hst]
  unfold impl_KidsOf.d1
  obtain ⟨t2, e1, H⟩ := bnd_some H
  have e1 := impl_endOf.link e1
  try simp only [TN, simprocAttr, impl_KidsOf.c0, e1]
  rcases ite_or H with ⟨h2, H⟩ | ⟨h2, H⟩
  · skip
    obtain ⟨h3, H⟩ := ite_no H
    obtain ⟨h4, H⟩ := ite_no H
    obtain ⟨h5, H⟩ := ite_no H
    obtain ⟨h6, H⟩ := ite_no H
    try simp only [TN, simprocAttr, impl_KidsOf.c0, e1, h2, h3, h4, h5, h6]
    rcases ite_or H with ⟨h7, H⟩ | ⟨h7, H⟩
    · skip
      obtain ⟨h8, H⟩ := ite_no H
      have h9 : (x5.length + 1) * 8 ≤ 140737488355328 := by omega
      try simp only [TN, simprocAttr, impl_KidsOf.c0, e1, h2, h3, h4, h5, h6, eq_true h7, h8, h9]
      refine ih _ _ _ _ _ H _ ?_
      first | (rw [canon_eq]; done) | (rw [canon_eq]; rfl) | (rw [canon_eq]; simp only [List.length_set, List.length_append, List.length_replicate]; rfl)
    · skip
      try simp only [TN, simprocAttr, impl_KidsOf.c0, e1, h2, h3, h4, h5, h6, h7]
      refine ih _ _ _ _ _ H _ ?_
      first | (rw [canon_eq]; done) | (rw [canon_eq]; rfl) | (rw [canon_eq]; simp only [List.length_set, List.length_append, List.length_replicate]; rfl)
  · skip
    injection H with H; subst H
    try simp only [TN, simprocAttr, impl_KidsOf.c0, e1, h2]
    try rfl
theorem impl_KidsOf.w : ∀ k, impl_KidsOf.P0 k := by
  intro k
  induction k with
  | zero => exact by intro l0 a1 x5 x6 r H; cases (show (none : Option (List Int)) = some r from H)
  | succ k ih => exact impl_KidsOf.s0 k ih
set_option maxHeartbeats 4000000 in
theorem impl_KidsOf.link {k : Nat} {l0 : List S105} {a1 : Int} {r : (List Int)} (H : impl_KidsOf.f k l0 a1 = some r) : callW env 126 [.deep false true 2 (l0.map e105), .i .i64 a1] = some ([.deep false false 1 (r.map eI)], [none]) := by
  unfold impl_KidsOf.f at H
  refine callW_fn' (F := impl_KidsOf.F) (tm := tmOf [(0, .slc 0 [] 0 2 0 l0.length), (1, .i .i64 a1)]) (rs := rsL [(0, some ⟨false, 2, 0, (l0.map e105)⟩)]) (nx := 1) (ow := [false]) rfl (by rfl) (by simp only [SN]) (by simp only [SN]) (by decide) ?_
  show W env impl_KidsOf.B _ (Qf [.t 4] [false] _)
  unfold impl_KidsOf.B
  obtain ⟨t1, e1, H⟩ := bnd_some H
  have e1 := impl_hasNode.link e1
  try simp only [TN, simprocAttr, impl_KidsOf.c0, e1]
  rcases ite_b H with ⟨h2, H⟩ | ⟨h2, H⟩
  · skip
    try simp only [TN, simprocAttr, impl_KidsOf.c0, e1, h2]
    refine (impl_KidsOf.w k) _ _ _ _ _ H _ ?_
    first | (rw [canon_eq]; done) | (rw [canon_eq]; rfl) | (rw [canon_eq]; simp only [List.length_set, List.length_append, List.length_replicate]; rfl)
  · skip
    injection H with H; subst H
    try simp only [TN, simprocAttr, impl_KidsOf.c0, e1, h2]
    try rfl
end Go.Proofs.Ytinlbiphjgpmmaa.P
end YtinlbiphjgpmmaaL126
section YtinlbiphjgpmmaaL121
namespace Go.Proofs.Ytinlbiphjgpmmaa.P
open Go Go.RowKit Go.Proofs.Ytinlbiphjgpmmaa.V
set_option linter.unusedVariables false
set_option linter.unusedSimpArgs false
set_option linter.all false
set_option maxRecDepth 100000
/-! ### impl_NodeAt: function 121 -/
def impl_NodeAt.l0 : Nat → (List S105) → Int → (List Int) → Int → Int → Option Int
 | 0, _, _, _, _, _ => none
 | k + 1, l0, x5, l1, x13, x14 => if x14 < x13 then (if 0 ≤ x14 then (if x14 < (l1.length : Int) then ((impl_KidsOf.f k l0 x5).bind fun t2 => ((impl_within.f (rd l1 x14) 0 (wrap64 ((t2.length : Int) - 1))).bind fun t3 => (if t3 = true then (if 0 ≤ rd l1 x14 then (if rd l1 x14 < (t2.length : Int) then (impl_NodeAt.l0 k l0 (rd t2 (rd l1 x14)) l1 x13 (wrap64 (x14 + 1))) else none) else none) else (some (-1))))) else none) else none) else (some x5)
def impl_NodeAt.f (k : Nat) (l0 : List S105) (l1 : List Int) : Option Int := (impl_TreeOk.f k l0).bind fun t1 => (if t1 = true then (impl_NodeAt.l0 k l0 0 l1 (l1.length : Int) 0) else (some (-1)))
def impl_NodeAt.P0 (k : Nat) : Prop := ∀ (l0 : List S105) (x5 : Int) (l1 : List Int) (x13 : Int) (x14 : Int) (r : Int), impl_NodeAt.l0 k l0 x5 l1 x13 x14 = some r → ∀ st, canon 2 [0, 5, 12, 13, 14] st = ⟨tmOf [(0, .slc 0 [] 0 2 0 l0.length), (5, .i .i64 x5), (12, .slc 1 [] 0 1 0 l1.length), (13, .i .i64 x13), (14, .i .i64 x14)], rsL [(0, some ⟨false, 2, 0, (l0.map e105)⟩), (1, some ⟨false, 1, 0, (l1.map eI)⟩)], 2⟩ → W env impl_NodeAt.c1 st (Qb 0 (Qs env impl_NodeAt.c0 (Qf [.t 4] [false, false] ([.i .i64 r], [none, none]))))
set_option maxHeartbeats 4000000 in
theorem impl_NodeAt.s0 (k : Nat) (ih : impl_NodeAt.P0 k) : impl_NodeAt.P0 (k + 1) := by
  intro l0 x5 l1 x13 x14 r H st hst
  rw [impl_NodeAt.l0] at H
  rw [W_loopc (show impl_NodeAt.c1 = C.loop 2 [0, 5, 12, 13, 14] impl_NodeAt.d1 from rfl), hst]
  unfold impl_NodeAt.d1
  try simp only [TN, simprocAttr, impl_NodeAt.c0]
  rcases ite_or H with ⟨h1, H⟩ | ⟨h1, H⟩
  · skip
    obtain ⟨h2, H⟩ := ite_no H
    obtain ⟨h3, H⟩ := ite_no H
    obtain ⟨t2, e4, H⟩ := bnd_some H
    have e4 := impl_KidsOf.link e4
    obtain ⟨t3, e5, H⟩ := bnd_some H
    have e5 := impl_within.link e5
    try simp only [TN, simprocAttr, impl_NodeAt.c0, h1, h2, h3, e4, e5]
    rcases ite_b H with ⟨h6, H⟩ | ⟨h6, H⟩
    · skip
      obtain ⟨h7, H⟩ := ite_no H
      obtain ⟨h8, H⟩ := ite_no H
      try simp only [TN, simprocAttr, impl_NodeAt.c0, h1, h2, h3, e4, e5, h6, h7, h8]
      refine ih _ _ _ _ _ _ H _ ?_
      first | (rw [canon_eq]; done) | (rw [canon_eq]; rfl) | (rw [canon_eq]; simp only [List.length_set, List.length_append, List.length_replicate]; rfl)
    · skip
      injection H with H; subst H
      try simp only [TN, simprocAttr, impl_NodeAt.c0, h1, h2, h3, e4, e5, h6]
      try rfl
  · skip
    injection H with H; subst H
    try simp only [TN, simprocAttr, impl_NodeAt.c0, h1]
    try rfl
theorem impl_NodeAt.w : ∀ k, impl_NodeAt.P0 k := by
  intro k
  induction k with
  | zero => exact by intro l0 x5 l1 x13 x14 r H; cases (show (none : Option Int) = some r from H)
  | succ k ih => exact impl_NodeAt.s0 k ih
set_option maxHeartbeats 4000000 in
theorem impl_NodeAt.link {k : Nat} {l0 : List S105} {l1 : List Int} {r : Int} (H : impl_NodeAt.f k l0 l1 = some r) : callW env 121 [.deep false true 2 (l0.map e105), .deep false true 1 (l1.map eI)] = some ([.i .i64 r], [none, none]) := by
  unfold impl_NodeAt.f at H
  refine callW_fn' (F := impl_NodeAt.F) (tm := tmOf [(0, .slc 0 [] 0 2 0 l0.length), (1, .slc 1 [] 0 1 0 l1.length)]) (rs := rsL [(0, some ⟨false, 2, 0, (l0.map e105)⟩), (1, some ⟨false, 1, 0, (l1.map eI)⟩)]) (nx := 2) (ow := [false, false]) rfl (by rfl) (by simp only [SN]) (by simp only [SN]) (by decide) ?_
  show W env impl_NodeAt.B _ (Qf [.t 4] [false, false] _)
  unfold impl_NodeAt.B
  obtain ⟨t1, e1, H⟩ := bnd_some H
  have e1 := impl_TreeOk.link e1
  try simp only [TN, simprocAttr, impl_NodeAt.c0, e1]
  rcases ite_b H with ⟨h2, H⟩ | ⟨h2, H⟩
  · skip
    try simp only [TN, simprocAttr, impl_NodeAt.c0, e1, h2]
    refine (impl_NodeAt.w k) _ _ _ _ _ _ H _ ?_
    first | (rw [canon_eq]; done) | (rw [canon_eq]; rfl) | (rw [canon_eq]; simp only [List.length_set, List.length_append, List.length_replicate]; rfl)
  · skip
    injection H with H; subst H
    try simp only [TN, simprocAttr, impl_NodeAt.c0, e1, h2]
    try rfl
end Go.Proofs.Ytinlbiphjgpmmaa.P
end YtinlbiphjgpmmaaL121
section YtinlbiphjgpmmaaL122
namespace Go.Proofs.Ytinlbiphjgpmmaa.P
open Go Go.RowKit Go.Proofs.Ytinlbiphjgpmmaa.V
set_option linter.unusedVariables false
set_option linter.unusedSimpArgs false
set_option linter.all false
set_option maxRecDepth 100000
/-! ### impl_opCode: function 122 -/
def impl_opCode.l0 : Nat → (List S105) → Int → Int → Int → (List S105) → Int → Int → (List Int) → Option (Int × Int × Int)
 | 0, _, _, _, _, _, _, _, _ => none
 | k + 1, l0, x7, x8, x11, x92, x93, x94, l1_1 => if x94 < x93 then (if 0 ≤ x94 then (if x94 < (x92.length : Int) then (impl_opCode.l0 k l0 x7 x8 (mx x11 (wrap64 (((rd_T105 x92 x94).f1) + 1))) x92 x93 (wrap64 (x94 + 1)) l1_1) else none) else none) else (if (l0.length : Int) = 24 then (some (6, 0, 0)) else (if x11 > 12 then (some (7, 0, 0)) else (some (0, x7, x8))))
def impl_opCode.f (k : Nat) (l0 : List S105) (a1_0 : Int) (l1_1 : List Int) (a1_2 : Int) (a1_3 : Int) (a1_4 : Int) (a2 : Int) : Option (Int × Int × Int) := (impl_within.f a1_0 1 3).bind fun t1 => (if t1 = true then (if a2 < 0 then (some (2, 0, 0)) else (if a1_0 = 2 then (if a2 = 0 then (some (4, 0, 0)) else (if a1_0 = 3 then ((impl_KidsOf.f k l0 a2).bind fun t2 => ((impl_within.f a1_3 0 (t2.length : Int)).bind fun t3 => (if t3 = true then ((impl_within.f a1_4 0 (wrap64 ((t2.length : Int) - a1_3))).bind fun t4 => (if t4 = true then ((impl_endOf.f k l0 a2).bind fun t5 => (if t2.length < 17592186044416 then ((some (t2 ++ ([t5]) : List Int)).bind fun y0 => (if 0 ≤ a1_3 then (if a1_3 < (y0.length : Int) then (if 0 ≤ wrap64 (a1_3 + a1_4) then (if wrap64 (a1_3 + a1_4) < (y0.length : Int) then (if 0 ≤ a2 then (if a2 < (l0.length : Int) then (if rd y0 (wrap64 (a1_3 + a1_4)) ≤ (l0.length : Int) then (if 0 ≤ rd y0 a1_3 then (if rd y0 a1_3 ≤ rd y0 (wrap64 (a1_3 + a1_4)) then ((some ((l0.take (rd y0 (wrap64 (a1_3 + a1_4)) : Int).toNat).drop (rd y0 a1_3 : Int).toNat : List S105)).bind fun y1 => (impl_opCode.l0 k l0 (rd y0 a1_3) (rd y0 (wrap64 (a1_3 + a1_4))) (wrap64 (((rd_T105 l0 a2).f1) + 1)) y1 (y1.length : Int) 0 l1_1)) else none) else none) else none) else none) else none) else none) else none) else none) else none)) else none)) else (some (5, 0, 0)))) else (some (5, 0, 0))))) else (some (0, 0, 0)))) else ((impl_LabelOk.f a1_2).bind fun t6 => (if t6 = true then (if a1_0 = 3 then ((impl_KidsOf.f k l0 a2).bind fun t7 => ((impl_within.f a1_3 0 (t7.length : Int)).bind fun t8 => (if t8 = true then ((impl_within.f a1_4 0 (wrap64 ((t7.length : Int) - a1_3))).bind fun t9 => (if t9 = true then ((impl_endOf.f k l0 a2).bind fun t10 => (if t7.length < 17592186044416 then ((some (t7 ++ ([t10]) : List Int)).bind fun y2 => (if 0 ≤ a1_3 then (if a1_3 < (y2.length : Int) then (if 0 ≤ wrap64 (a1_3 + a1_4) then (if wrap64 (a1_3 + a1_4) < (y2.length : Int) then (if 0 ≤ a2 then (if a2 < (l0.length : Int) then (if rd y2 (wrap64 (a1_3 + a1_4)) ≤ (l0.length : Int) then (if 0 ≤ rd y2 a1_3 then (if rd y2 a1_3 ≤ rd y2 (wrap64 (a1_3 + a1_4)) then ((some ((l0.take (rd y2 (wrap64 (a1_3 + a1_4)) : Int).toNat).drop (rd y2 a1_3 : Int).toNat : List S105)).bind fun y3 => (impl_opCode.l0 k l0 (rd y2 a1_3) (rd y2 (wrap64 (a1_3 + a1_4))) (wrap64 (((rd_T105 l0 a2).f1) + 1)) y3 (y3.length : Int) 0 l1_1)) else none) else none) else none) else none) else none) else none) else none) else none) else none)) else none)) else (some (5, 0, 0)))) else (some (5, 0, 0))))) else (some (0, 0, 0))) else (some (3, 0, 0)))))) else (some (1, 0, 0)))
def impl_opCode.P0 (k : Nat) : Prop := ∀ (l0 : List S105) (x7 : Int) (x8 : Int) (x11 : Int) (x92 : List S105) (x93 : Int) (x94 : Int) (l1_1 : List Int) (ox92 : Nat) (r : Int × Int × Int), (List.drop ox92 l0).take (List.length x92) = x92 → impl_opCode.l0 k l0 x7 x8 x11 x92 x93 x94 l1_1 = some r → ∀ st, canon 2 [0, 7, 8, 11, 92, 93, 94] st = ⟨tmOf [(0, .slc 0 [] 0 2 0 l0.length), (7, .i .i64 x7), (8, .i .i64 x8), (11, .i .i64 x11), (92, .slc 0 [] 0 2 ox92 x92.length), (93, .i .i64 x93), (94, .i .i64 x94)], rsL [(0, some ⟨false, 2, 0, (l0.map e105)⟩), (1, some ⟨false, 1, 0, (l1_1.map eI)⟩)], 2⟩ → W env impl_opCode.c1 st (Qb 1 (Qs env impl_opCode.c0 (Qf [.t 6, .t 7, .t 8] [false, false] ([.i .i64 r.1, .i .i64 r.2.1, .i .i64 r.2.2], [none, none]))))
set_option maxHeartbeats 4000000 in
theorem impl_opCode.s0 (k : Nat) (ih : impl_opCode.P0 k) : impl_opCode.P0 (k + 1) := by
  intro l0 x7 x8 x11 x92 x93 x94 l1_1 ox92 r v0 H st hst
  have vg0 : ∀ {j : Int}, 0 ≤ j → j < (List.length x92 : Int) → (l0.map e105)[ox92 + j.toNat]? = some (e105 (rd_T105 x92 j)) := fun h1 h2 => get_w v0 h1 h2
  have vw0 := wnd_cut (e := e105) v0
  rw [impl_opCode.l0] at H
  rw [W_loopc (show impl_opCode.c1 = C.loop 2 [0, 7, 8, 11, 92, 93, 94] impl_opCode.d1 from rfl), hst]
  unfold impl_opCode.d1
  try simp only [TN, simprocAttr, impl_opCode.c0, vg0, vw0]
  rcases ite_or H with ⟨h1, H⟩ | ⟨h1, H⟩
  · skip
    obtain ⟨h2, H⟩ := ite_no H
    obtain ⟨h3, H⟩ := ite_no H
    try simp only [TN, simprocAttr, impl_opCode.c0, vg0, vw0, h1, h2, h3]
    refine ih _ _ _ _ _ _ _ _ (ox92) _ (by assumption) H _ ?_
    first | (rw [canon_eq]; done) | (rw [canon_eq]; rfl) | (rw [canon_eq]; simp only [List.length_set, List.length_append, List.length_replicate]; rfl)
  · skip
    try simp only [TN, simprocAttr, impl_opCode.c0, vg0, vw0, h1]
    rcases ite_or H with ⟨h4, H⟩ | ⟨h4, H⟩
    · skip
      injection H with H; subst H
      try simp only [TN, simprocAttr, impl_opCode.c0, vg0, vw0, h1, eq_true h4]
      try rfl
    · skip
      try simp only [TN, simprocAttr, impl_opCode.c0, vg0, vw0, h1, h4]
      rcases ite_or H with ⟨h5, H⟩ | ⟨h5, H⟩
      · skip
        injection H with H; subst H
        try simp only [TN, simprocAttr, impl_opCode.c0, vg0, vw0, h1, h4, h5]
        try rfl
      · skip
        injection H with H; subst H
        try simp only [TN, simprocAttr, impl_opCode.c0, vg0, vw0, h1, h4, h5]
        try rfl
theorem impl_opCode.w : ∀ k, impl_opCode.P0 k := by
  intro k
  induction k with
  | zero => exact by intro l0 x7 x8 x11 x92 x93 x94 l1_1 _ r _ H; cases (show (none : Option (Int × Int × Int)) = some r from H)
  | succ k ih => exact impl_opCode.s0 k ih
set_option maxHeartbeats 4000000 in
theorem impl_opCode.link {k : Nat} {l0 : List S105} {a1_0 : Int} {l1_1 : List Int} {a1_2 : Int} {a1_3 : Int} {a1_4 : Int} {a2 : Int} {r : Int × Int × Int} (H : impl_opCode.f k l0 a1_0 l1_1 a1_2 a1_3 a1_4 a2 = some r) : callW env 122 [.deep false true 2 (l0.map e105), .agg [.i .i64 a1_0, .deep false true 1 (l1_1.map eI), .i .i64 a1_2, .i .i64 a1_3, .i .i64 a1_4], .i .i64 a2] = some ([.i .i64 r.1, .i .i64 r.2.1, .i .i64 r.2.2], [none, none]) := by
  unfold impl_opCode.f at H
  refine callW_fn' (F := impl_opCode.F) (tm := tmOf [(0, .slc 0 [] 0 2 0 l0.length), (1, .agg [.i .i64 a1_0, .slc 1 [] 0 1 0 l1_1.length, .i .i64 a1_2, .i .i64 a1_3, .i .i64 a1_4]), (2, .i .i64 a2)]) (rs := rsL [(0, some ⟨false, 2, 0, (l0.map e105)⟩), (1, some ⟨false, 1, 0, (l1_1.map eI)⟩)]) (nx := 2) (ow := [false, false]) rfl (by rfl) (by simp only [SN]) (by simp only [SN]) (by decide) ?_
  show W env impl_opCode.B _ (Qf [.t 6, .t 7, .t 8] [false, false] _)
  unfold impl_opCode.B
  obtain ⟨t1, e1, H⟩ := bnd_some H
  have e1 := impl_within.link e1
  try simp only [TN, simprocAttr, impl_opCode.c0, e1]
  rcases ite_b H with ⟨h2, H⟩ | ⟨h2, H⟩
  · skip
    try simp only [TN, simprocAttr, impl_opCode.c0, e1, h2]
    rcases ite_or H with ⟨h3, H⟩ | ⟨h3, H⟩
    · skip
      injection H with H; subst H
      try simp only [TN, simprocAttr, impl_opCode.c0, e1, h2, h3]
      try rfl
    · skip
      try simp only [TN, simprocAttr, impl_opCode.c0, e1, h2, h3]
      rcases ite_or H with ⟨h4, H⟩ | ⟨h4, H⟩
      · skip
        try simp only [TN, simprocAttr, impl_opCode.c0, e1, h2, h3, eq_true h4]
        rcases ite_or H with ⟨h5, H⟩ | ⟨h5, H⟩
        · skip
          injection H with H; subst H
          try simp only [TN, simprocAttr, impl_opCode.c0, e1, h2, h3, eq_true h4, eq_true h5]
          try rfl
        · skip
          try simp only [TN, simprocAttr, impl_opCode.c0, e1, h2, h3, eq_true h4, h5]
          rcases ite_or H with ⟨h6, H⟩ | ⟨h6, H⟩
          · skip
            obtain ⟨t2, e7, H⟩ := bnd_some H
            have e7 := impl_KidsOf.link e7
            obtain ⟨t3, e8, H⟩ := bnd_some H
            have e8 := impl_within.link e8
            try simp only [TN, simprocAttr, impl_opCode.c0, e1, h2, h3, eq_true h4, h5, eq_true h6, e7, e8]
            rcases ite_b H with ⟨h9, H⟩ | ⟨h9, H⟩
            · skip
              obtain ⟨t4, e10, H⟩ := bnd_some H
              have e10 := impl_within.link e10
              try simp only [TN, simprocAttr, impl_opCode.c0, e1, h2, h3, eq_true h4, h5, eq_true h6, e7, e8, h9, e10]
              rcases ite_b H with ⟨h11, H⟩ | ⟨h11, H⟩
              · skip
                obtain ⟨t5, e12, H⟩ := bnd_some H
                have e12 := impl_endOf.link e12
                obtain ⟨h13, H⟩ := ite_no H
                have h14 : (t2.length + 1) * 8 ≤ 140737488355328 := by omega
                obtain ⟨_, hy15, H⟩ := some_bnd H; subst hy15
                obtain ⟨h16, H⟩ := ite_no H
                obtain ⟨h17, H⟩ := ite_no H
                obtain ⟨h18, H⟩ := ite_no H
                obtain ⟨h19, H⟩ := ite_no H
                obtain ⟨h20, H⟩ := ite_no H
                obtain ⟨h21, H⟩ := ite_no H
                obtain ⟨h22, H⟩ := ite_no H
                obtain ⟨h23, H⟩ := ite_no H
                obtain ⟨h24, H⟩ := ite_no H
                obtain ⟨y1, hy1, H⟩ := some_bnd H
                have h25 : (rd (t2 ++ ([t5])) (wrap64 (a1_3 + a1_4)) : Int).toNat - (rd (t2 ++ ([t5])) a1_3 : Int).toNat = List.length y1 := by rw [← hy1]; simp only [List.length_drop, List.length_take] <;> omega
                have cw25 : (List.drop (0 + (rd (t2 ++ ([t5])) a1_3 : Int).toNat) l0).take (List.length y1) = y1 := by rw [← h25, Nat.zero_add, ← List.drop_take]; exact hy1
                have g25 : ∀ {j : Int}, 0 ≤ j → j < (List.length y1 : Int) → (l0.map e105)[0 + (rd (t2 ++ ([t5])) a1_3 : Int).toNat + j.toNat]? = some (e105 (rd_T105 y1 j)) := fun h1 h2 => get_w cw25 h1 h2
                have w25 := wnd_cut (e := e105) cw25
                try simp only [TN, simprocAttr, impl_opCode.c0, e1, h2, h3, eq_true h4, h5, eq_true h6, e7, e8, h9, e10, h11, e12, h13, h14, h16, h17, h18, h19, h20, h21, h22, h23, h24, h25, g25, w25]
                refine (impl_opCode.w k) _ _ _ _ _ _ _ _ ((0 + (rd (t2 ++ ([t5])) a1_3 : Int).toNat)) _ (by assumption) H _ ?_
                first | (rw [canon_eq]; done) | (rw [canon_eq]; rfl) | (rw [canon_eq]; simp only [List.length_set, List.length_append, List.length_replicate]; rfl)
              · skip
                injection H with H; subst H
                try simp only [TN, simprocAttr, impl_opCode.c0, e1, h2, h3, eq_true h4, h5, eq_true h6, e7, e8, h9, e10, h11]
                try rfl
            · skip
              injection H with H; subst H
              try simp only [TN, simprocAttr, impl_opCode.c0, e1, h2, h3, eq_true h4, h5, eq_true h6, e7, e8, h9]
              try rfl
          · skip
            injection H with H; subst H
            try simp only [TN, simprocAttr, impl_opCode.c0, e1, h2, h3, eq_true h4, h5, h6]
            try rfl
      · skip
        obtain ⟨t6, e26, H⟩ := bnd_some H
        have e26 := impl_LabelOk.link e26
        try simp only [TN, simprocAttr, impl_opCode.c0, e1, h2, h3, h4, e26]
        rcases ite_b H with ⟨h27, H⟩ | ⟨h27, H⟩
        · skip
          try simp only [TN, simprocAttr, impl_opCode.c0, e1, h2, h3, h4, e26, h27]
          rcases ite_or H with ⟨h28, H⟩ | ⟨h28, H⟩
          · skip
            obtain ⟨t7, e29, H⟩ := bnd_some H
            have e29 := impl_KidsOf.link e29
            obtain ⟨t8, e30, H⟩ := bnd_some H
            have e30 := impl_within.link e30
            try simp only [TN, simprocAttr, impl_opCode.c0, e1, h2, h3, h4, e26, h27, eq_true h28, e29, e30]
            rcases ite_b H with ⟨h31, H⟩ | ⟨h31, H⟩
            · skip
              obtain ⟨t9, e32, H⟩ := bnd_some H
              have e32 := impl_within.link e32
              try simp only [TN, simprocAttr, impl_opCode.c0, e1, h2, h3, h4, e26, h27, eq_true h28, e29, e30, h31, e32]
              rcases ite_b H with ⟨h33, H⟩ | ⟨h33, H⟩
              · skip
                obtain ⟨t10, e34, H⟩ := bnd_some H
                have e34 := impl_endOf.link e34
                obtain ⟨h35, H⟩ := ite_no H
                have h36 : (t7.length + 1) * 8 ≤ 140737488355328 := by omega
                obtain ⟨_, hy37, H⟩ := some_bnd H; subst hy37
                obtain ⟨h38, H⟩ := ite_no H
                obtain ⟨h39, H⟩ := ite_no H
                obtain ⟨h40, H⟩ := ite_no H
                obtain ⟨h41, H⟩ := ite_no H
                obtain ⟨h42, H⟩ := ite_no H
                obtain ⟨h43, H⟩ := ite_no H
                obtain ⟨h44, H⟩ := ite_no H
                obtain ⟨h45, H⟩ := ite_no H
                obtain ⟨h46, H⟩ := ite_no H
                obtain ⟨y3, hy3, H⟩ := some_bnd H
                have h47 : (rd (t7 ++ ([t10])) (wrap64 (a1_3 + a1_4)) : Int).toNat - (rd (t7 ++ ([t10])) a1_3 : Int).toNat = List.length y3 := by rw [← hy3]; simp only [List.length_drop, List.length_take] <;> omega
                have cw47 : (List.drop (0 + (rd (t7 ++ ([t10])) a1_3 : Int).toNat) l0).take (List.length y3) = y3 := by rw [← h47, Nat.zero_add, ← List.drop_take]; exact hy3
                have g47 : ∀ {j : Int}, 0 ≤ j → j < (List.length y3 : Int) → (l0.map e105)[0 + (rd (t7 ++ ([t10])) a1_3 : Int).toNat + j.toNat]? = some (e105 (rd_T105 y3 j)) := fun h1 h2 => get_w cw47 h1 h2
                have w47 := wnd_cut (e := e105) cw47
                try simp only [TN, simprocAttr, impl_opCode.c0, e1, h2, h3, h4, e26, h27, eq_true h28, e29, e30, h31, e32, h33, e34, h35, h36, h38, h39, h40, h41, h42, h43, h44, h45, h46, h47, g47, w47]
                refine (impl_opCode.w k) _ _ _ _ _ _ _ _ ((0 + (rd (t7 ++ ([t10])) a1_3 : Int).toNat)) _ (by assumption) H _ ?_
                first | (rw [canon_eq]; done) | (rw [canon_eq]; rfl) | (rw [canon_eq]; simp only [List.length_set, List.length_append, List.length_replicate]; rfl)
              · skip
                injection H with H; subst H
                try simp only [TN, simprocAttr, impl_opCode.c0, e1, h2, h3, h4, e26, h27, eq_true h28, e29, e30, h31, e32, h33]
                try rfl
            · skip
              injection H with H; subst H
              try simp only [TN, simprocAttr, impl_opCode.c0, e1, h2, h3, h4, e26, h27, eq_true h28, e29, e30, h31]
              try rfl
          · skip
            injection H with H; subst H
            try simp only [TN, simprocAttr, impl_opCode.c0, e1, h2, h3, h4, e26, h27, h28]
            try rfl
        · skip
          injection H with H; subst H
          try simp only [TN, simprocAttr, impl_opCode.c0, e1, h2, h3, h4, e26, h27]
          try rfl
  · skip
    injection H with H; subst H
    try simp only [TN, simprocAttr, impl_opCode.c0, e1, h2]
    try rfl
end Go.Proofs.Ytinlbiphjgpmmaa.P
end YtinlbiphjgpmmaaL122
section YtinlbiphjgpmmaaL124
namespace Go.Proofs.Ytinlbiphjgpmmaa.P
open Go Go.RowKit Go.Proofs.Ytinlbiphjgpmmaa.V
set_option linter.unusedVariables false
set_option linter.unusedSimpArgs false
set_option linter.all false
set_option maxRecDepth 100000
/-! ### slices_Delete_impl_Node_impl_Node: function 124 -/
def slices_Delete_impl_Node_impl_Node.f (l0 : List S105) (a1 : Int) (a2 : Int) : Option (List S105) := if 0 ≤ a1 then (if a1 ≤ a2 then (if a2 ≤ (l0.length : Int) then (if l0.length * 16 ≤ 140737488355328 then some (l0.take a1.toNat ++ l0.drop a2.toNat) else none) else none) else none) else none
theorem slices_Delete_impl_Node_impl_Node.link {l0 : List S105} {a1 a2 : Int} {r : List S105} (H : slices_Delete_impl_Node_impl_Node.f l0 a1 a2 = some r) : callW env 124 [.deep false false 2 (l0.map e105), .i .i64 a1, .i .i64 a2] = some ([.deep false false 2 (r.map e105)], [none]) := by
  unfold slices_Delete_impl_Node_impl_Node.f at H
  obtain ⟨h1, H⟩ := ite_no H
  obtain ⟨h2, H⟩ := ite_no H
  obtain ⟨h3, H⟩ := ite_no H
  obtain ⟨h4, H⟩ := ite_no H
  injection H with H; subst H
  rw [List.map_append, List.map_take, List.map_drop]
  exact del_link (zero := [.i .i64 0, .i .i64 0]) (by' := 16) rfl rfl rfl rfl dps105 h1 h2 (by rw [List.length_map]; exact h3) (by rw [List.length_map]; exact h4)
end Go.Proofs.Ytinlbiphjgpmmaa.P
end YtinlbiphjgpmmaaL124
section YtinlbiphjgpmmaaL125
namespace Go.Proofs.Ytinlbiphjgpmmaa.P
open Go Go.RowKit Go.Proofs.Ytinlbiphjgpmmaa.V
set_option linter.unusedVariables false
set_option linter.unusedSimpArgs false
set_option linter.all false
set_option maxRecDepth 100000
/-! ### slices_Insert_impl_Node_impl_Node: function 125 -/
def slices_Insert_impl_Node_impl_Node.f (l0 : List S105) (a1 : Int) (l2 : List S105) : Option (List S105) := if 0 ≤ a1 then (if a1 ≤ (l0.length : Int) then (if 0 < l2.length then (if (l0.length + l2.length) * 16 ≤ 140737488355328 then some (l0.take a1.toNat ++ l2 ++ l0.drop a1.toNat) else none) else none) else none) else none
theorem slices_Insert_impl_Node_impl_Node.link {l0 : List S105} {a1 : Int} {l2 : List S105} {r : List S105} (H : slices_Insert_impl_Node_impl_Node.f l0 a1 l2 = some r) : callW env 125 [.deep false false 2 (l0.map e105), .i .i64 a1, .deep false false 2 (l2.map e105)] = some ([.deep false false 2 (r.map e105)], [none, some (l2.map e105)]) := by
  unfold slices_Insert_impl_Node_impl_Node.f at H
  obtain ⟨h1, H⟩ := ite_no H
  obtain ⟨h2, H⟩ := ite_no H
  obtain ⟨h3, H⟩ := ite_no H
  obtain ⟨h4, H⟩ := ite_no H
  injection H with H; subst H
  rw [List.map_append, List.map_append, List.map_take, List.map_drop]
  exact ins_link (zero := [.i .i64 0, .i .i64 0]) (by' := 16) (rot := 133) rfl rfl rfl rfl (by decide) dps105 dps105 (by rw [List.length_map]; exact h3) h1 (by rw [List.length_map]; exact h2) (by rw [List.length_map, List.length_map]; exact h4)
end Go.Proofs.Ytinlbiphjgpmmaa.P
end YtinlbiphjgpmmaaL125
section YtinlbiphjgpmmaaL100
namespace Go.Proofs.Ytinlbiphjgpmmaa.P
open Go Go.RowKit Go.Proofs.Ytinlbiphjgpmmaa.V
set_option linter.unusedVariables false
set_option linter.unusedSimpArgs false
set_option linter.all false
set_option maxRecDepth 100000
/-! ### impl_ApplyOp: function 100 -/
mutual
def impl_ApplyOp.l0 : Nat → (List S105) → (List S105) → Int → Int → (List Int) → Option ((List S105) × Int)
 | 0, _, _, _, _, _ => none
 | k + 1, l0, x6, x7, x11, l1_1 => (impl_endOf.f k l0 x7).bind fun t5 => (if x11 < t5 then (if 0 ≤ x11 then (if x11 < (x6.length : Int) then (impl_ApplyOp.l0 k l0 (x6.set (x11 : Int).toNat (⟨(rd_T105 x6 x11).f0, wrap64 (((rd_T105 x6 x11).f1) - 1)⟩ : S105)) x7 (wrap64 (x11 + 1)) l1_1) else none) else none) else ((slices_Delete_impl_Node_impl_Node.f x6 x7 (wrap64 (x7 + 1))).bind fun t6 => (some (t6, 0))))
def impl_ApplyOp.l1 : Nat → (List S105) → Int → (List Int) → Int → Int → Int → (List S105) → Int → Int → Int → Int → Option ((List S105) × Int)
 | 0, _, _, _, _, _, _, _, _, _, _, _ => none
 | k + 1, l0, a1_0, l1_1, a1_2, a1_3, a1_4, x6, x7, x9, x10, x12 => if x12 < x10 then (if 0 ≤ x12 then (if x12 < (x6.length : Int) then (impl_ApplyOp.l1 k l0 a1_0 l1_1 a1_2 a1_3 a1_4 (x6.set (x12 : Int).toNat (⟨(rd_T105 x6 x12).f0, wrap64 (((rd_T105 x6 x12).f1) + 1)⟩ : S105)) x7 x9 x10 (wrap64 (x12 + 1))) else none) else none) else (if 0 ≤ x7 then (if x7 < (l0.length : Int) then ((slices_Insert_impl_Node_impl_Node.f x6 x9 ([(⟨a1_2, wrap64 (((rd_T105 l0 x7).f1) + 1)⟩ : S105)])).bind fun t7 => (some (t7, 0))) else none) else none)
end
def impl_ApplyOp.f (k : Nat) (l0 : List S105) (a1_0 : Int) (l1_1 : List Int) (a1_2 : Int) (a1_3 : Int) (a1_4 : Int) : Option ((List S105) × Int) := (impl_TreeOk.f k l0).bind fun t1 => (if t1 = true then ((slices_Clone_impl_Node_impl_Node.f l0).bind fun t2 => ((impl_NodeAt.f k l0 l1_1).bind fun t3 => ((impl_opCode.f k l0 a1_0 l1_1 a1_2 a1_3 a1_4 t3).bind fun bt4 => (if bt4.1 = 0 then (if a1_0 = 1 then (if 0 ≤ t3 then (if t3 < (t2.length : Int) then (some ((t2.set (t3 : Int).toNat (⟨a1_2, (rd_T105 t2 t3).f1⟩ : S105)), 0)) else none) else none) else (if a1_0 = 2 then (impl_ApplyOp.l0 k l0 t2 t3 (wrap64 (t3 + 1)) l1_1) else (impl_ApplyOp.l1 k l0 a1_0 l1_1 a1_2 a1_3 a1_4 t2 t3 bt4.2.1 bt4.2.2 bt4.2.1))) else (some (t2, bt4.1)))))) else (some (([] : List S105), 2)))
def impl_ApplyOp.P0 (k : Nat) : Prop := ∀ (l0 : List S105) (x6 : List S105) (x7 : Int) (x11 : Int) (l1_1 : List Int) (r : (List S105) × Int), impl_ApplyOp.l0 k l0 x6 x7 x11 l1_1 = some r → ∀ st, canon 2 [0, 6, 7, 11] st = ⟨tmOf [(0, .slc 0 [] 0 2 0 l0.length), (6, .slc 2 [] 0 2 0 x6.length), (7, .i .i64 x7), (11, .i .i64 x11)], rsL [(0, some ⟨false, 2, 0, (l0.map e105)⟩), (1, some ⟨false, 1, 0, (l1_1.map eI)⟩), (2, some ⟨true, 2, 0, (x6.map e105)⟩)], 3⟩ → W env impl_ApplyOp.c2 st (Qb 3 (Qs env impl_ApplyOp.c1 (Qb 0 (Qs env impl_ApplyOp.c0 (Qf [.t 4, .t 5] [false, false] ([.deep false false 2 (r.1.map e105), .i .i64 r.2], [none, none]))))))
def impl_ApplyOp.P1 (k : Nat) : Prop := ∀ (l0 : List S105) (a1_0 : Int) (l1_1 : List Int) (a1_2 : Int) (a1_3 : Int) (a1_4 : Int) (x6 : List S105) (x7 : Int) (x9 : Int) (x10 : Int) (x12 : Int) (r : (List S105) × Int), impl_ApplyOp.l1 k l0 a1_0 l1_1 a1_2 a1_3 a1_4 x6 x7 x9 x10 x12 = some r → ∀ st, canon 2 [0, 3, 6, 7, 9, 10, 12] st = ⟨tmOf [(0, .slc 0 [] 0 2 0 l0.length), (3, .bx [.i .i64 a1_0, .slc 1 [] 0 1 0 l1_1.length, .i .i64 a1_2, .i .i64 a1_3, .i .i64 a1_4] 0), (6, .slc 2 [] 0 2 0 x6.length), (7, .i .i64 x7), (9, .i .i64 x9), (10, .i .i64 x10), (12, .i .i64 x12)], rsL [(0, some ⟨false, 2, 0, (l0.map e105)⟩), (1, some ⟨false, 1, 0, (l1_1.map eI)⟩), (2, some ⟨true, 2, 0, (x6.map e105)⟩)], 3⟩ → W env impl_ApplyOp.c4 st (Qb 1 (Qs env impl_ApplyOp.c3 (Qb 0 (Qs env impl_ApplyOp.c0 (Qf [.t 4, .t 5] [false, false] ([.deep false false 2 (r.1.map e105), .i .i64 r.2], [none, none]))))))
set_option maxHeartbeats 4000000 in
theorem impl_ApplyOp.s0 (k : Nat) (ih : impl_ApplyOp.P0 k ∧ impl_ApplyOp.P1 k) : impl_ApplyOp.P0 (k + 1) := by
  intro l0 x6 x7 x11 l1_1 r H st hst
  rw [impl_ApplyOp.l0] at H
  rw [W_loopc (show impl_ApplyOp.c2 = C.loop 2 [0, 6, 7, 11] impl_ApplyOp.d2 from rfl), hst]
  unfold impl_ApplyOp.d2
  obtain ⟨t5, e1, H⟩ := bnd_some H
  have e1 := impl_endOf.link e1
  try simp only [TN, simprocAttr, impl_ApplyOp.c0, impl_ApplyOp.c1, impl_ApplyOp.c3, e1]
  rcases ite_or H with ⟨h2, H⟩ | ⟨h2, H⟩
  · skip
    obtain ⟨h3, H⟩ := ite_no H
    obtain ⟨h4, H⟩ := ite_no H
    try simp only [TN, simprocAttr, impl_ApplyOp.c0, impl_ApplyOp.c1, impl_ApplyOp.c3, e1, h2, h3, h4]
    refine ih.1 _ _ _ _ _ _ H _ ?_
    first | (rw [canon_eq]; done) | (rw [canon_eq]; rfl) | (rw [canon_eq]; simp only [List.length_set, List.length_append, List.length_replicate]; rfl)
  · skip
    obtain ⟨t6, e5, H⟩ := bnd_some H
    have e5 := slices_Delete_impl_Node_impl_Node.link e5
    injection H with H; subst H
    try simp only [TN, simprocAttr, impl_ApplyOp.c0, impl_ApplyOp.c1, impl_ApplyOp.c3, e1, h2, e5]
    try rfl
set_option maxHeartbeats 4000000 in
theorem impl_ApplyOp.s1 (k : Nat) (ih : impl_ApplyOp.P0 k ∧ impl_ApplyOp.P1 k) : impl_ApplyOp.P1 (k + 1) := by
  intro l0 a1_0 l1_1 a1_2 a1_3 a1_4 x6 x7 x9 x10 x12 r H st hst
  rw [impl_ApplyOp.l1] at H
  rw [W_loopc (show impl_ApplyOp.c4 = C.loop 2 [0, 3, 6, 7, 9, 10, 12] impl_ApplyOp.d4 from rfl), hst]
  unfold impl_ApplyOp.d4
  try simp only [TN, simprocAttr, impl_ApplyOp.c0, impl_ApplyOp.c1, impl_ApplyOp.c3]
  rcases ite_or H with ⟨h1, H⟩ | ⟨h1, H⟩
  · skip
    obtain ⟨h2, H⟩ := ite_no H
    obtain ⟨h3, H⟩ := ite_no H
    try simp only [TN, simprocAttr, impl_ApplyOp.c0, impl_ApplyOp.c1, impl_ApplyOp.c3, h1, h2, h3]
    refine ih.2 _ _ _ _ _ _ _ _ _ _ _ _ H _ ?_
    first | (rw [canon_eq]; done) | (rw [canon_eq]; rfl) | (rw [canon_eq]; simp only [List.length_set, List.length_append, List.length_replicate]; rfl)
  · skip
    obtain ⟨h4, H⟩ := ite_no H
    obtain ⟨h5, H⟩ := ite_no H
    obtain ⟨t7, e6, H⟩ := bnd_some H
    have e6 := slices_Insert_impl_Node_impl_Node.link e6
    injection H with H; subst H
    try simp only [TN, simprocAttr, impl_ApplyOp.c0, impl_ApplyOp.c1, impl_ApplyOp.c3, h1, h4, h5, @litX_105_1, e6]
    try rfl
theorem impl_ApplyOp.w : ∀ k, impl_ApplyOp.P0 k ∧ impl_ApplyOp.P1 k := by
  intro k
  induction k with
  | zero => exact ⟨(by intro l0 x6 x7 x11 l1_1 r H; cases (show (none : Option ((List S105) × Int)) = some r from H)), (by intro l0 a1_0 l1_1 a1_2 a1_3 a1_4 x6 x7 x9 x10 x12 r H; cases (show (none : Option ((List S105) × Int)) = some r from H))⟩
  | succ k ih => exact ⟨(impl_ApplyOp.s0 k ih), (impl_ApplyOp.s1 k ih)⟩
set_option maxHeartbeats 4000000 in
theorem impl_ApplyOp.link {k : Nat} {l0 : List S105} {a1_0 : Int} {l1_1 : List Int} {a1_2 : Int} {a1_3 : Int} {a1_4 : Int} {r : (List S105) × Int} (H : impl_ApplyOp.f k l0 a1_0 l1_1 a1_2 a1_3 a1_4 = some r) : callW env 100 [.deep false true 2 (l0.map e105), .agg [.i .i64 a1_0, .deep false true 1 (l1_1.map eI), .i .i64 a1_2, .i .i64 a1_3, .i .i64 a1_4]] = some ([.deep false false 2 (r.1.map e105), .i .i64 r.2], [none, none]) := by
  unfold impl_ApplyOp.f at H
  refine callW_fn' (F := impl_ApplyOp.F) (tm := tmOf [(0, .slc 0 [] 0 2 0 l0.length), (1, .agg [.i .i64 a1_0, .slc 1 [] 0 1 0 l1_1.length, .i .i64 a1_2, .i .i64 a1_3, .i .i64 a1_4])]) (rs := rsL [(0, some ⟨false, 2, 0, (l0.map e105)⟩), (1, some ⟨false, 1, 0, (l1_1.map eI)⟩)]) (nx := 2) (ow := [false, false]) rfl (by rfl) (by simp only [SN]) (by simp only [SN]) (by decide) ?_
  show W env impl_ApplyOp.B _ (Qf [.t 4, .t 5] [false, false] _)
  unfold impl_ApplyOp.B
  obtain ⟨t1, e1, H⟩ := bnd_some H
  have e1 := impl_TreeOk.link e1
  try simp only [TN, simprocAttr, impl_ApplyOp.c0, impl_ApplyOp.c1, impl_ApplyOp.c3, e1]
  rcases ite_b H with ⟨h2, H⟩ | ⟨h2, H⟩
  · skip
    obtain ⟨t2, e3, H⟩ := bnd_some H
    have e3 := slices_Clone_impl_Node_impl_Node.link e3
    obtain ⟨t3, e4, H⟩ := bnd_some H
    have e4 := impl_NodeAt.link e4
    obtain ⟨bt4, e5, H⟩ := bnd_some H
    have e5 := impl_opCode.link e5
    try simp only [TN, simprocAttr, impl_ApplyOp.c0, impl_ApplyOp.c1, impl_ApplyOp.c3, e1, h2, e3, e4, e5]
    rcases ite_or H with ⟨h6, H⟩ | ⟨h6, H⟩
    · skip
      try simp only [TN, simprocAttr, impl_ApplyOp.c0, impl_ApplyOp.c1, impl_ApplyOp.c3, e1, h2, e3, e4, e5, eq_true h6]
      rcases ite_or H with ⟨h7, H⟩ | ⟨h7, H⟩
      · skip
        obtain ⟨h8, H⟩ := ite_no H
        obtain ⟨h9, H⟩ := ite_no H
        injection H with H; subst H
        try simp only [TN, simprocAttr, impl_ApplyOp.c0, impl_ApplyOp.c1, impl_ApplyOp.c3, e1, h2, e3, e4, e5, eq_true h6, eq_true h7, h8, h9]
        try rfl
      · skip
        try simp only [TN, simprocAttr, impl_ApplyOp.c0, impl_ApplyOp.c1, impl_ApplyOp.c3, e1, h2, e3, e4, e5, eq_true h6, h7]
        rcases ite_or H with ⟨h10, H⟩ | ⟨h10, H⟩
        · skip
          try simp only [TN, simprocAttr, impl_ApplyOp.c0, impl_ApplyOp.c1, impl_ApplyOp.c3, e1, h2, e3, e4, e5, eq_true h6, h7, eq_true h10]
          refine (impl_ApplyOp.w k).1 _ _ _ _ _ _ H _ ?_
          first | (rw [canon_eq]; done) | (rw [canon_eq]; rfl) | (rw [canon_eq]; simp only [List.length_set, List.length_append, List.length_replicate]; rfl)
        · skip
          try simp only [TN, simprocAttr, impl_ApplyOp.c0, impl_ApplyOp.c1, impl_ApplyOp.c3, e1, h2, e3, e4, e5, eq_true h6, h7, h10]
          refine (impl_ApplyOp.w k).2 _ _ _ _ _ _ _ _ _ _ _ _ H _ ?_
          first | (rw [canon_eq]; done) | (rw [canon_eq]; rfl) | (rw [canon_eq]; simp only [List.length_set, List.length_append, List.length_replicate]; rfl)
    · skip
      injection H with H; subst H
      try simp only [TN, simprocAttr, impl_ApplyOp.c0, impl_ApplyOp.c1, impl_ApplyOp.c3, e1, h2, e3, e4, e5, h6]
      try rfl
  · skip
    injection H with H; subst H
    try simp only [TN, simprocAttr, impl_ApplyOp.c0, impl_ApplyOp.c1, impl_ApplyOp.c3, e1, h2]
    try rfl
end Go.Proofs.Ytinlbiphjgpmmaa.P
end YtinlbiphjgpmmaaL100
section YtinlbiphjgpmmaaL79
namespace Go.Proofs.Ytinlbiphjgpmmaa.P
open Go Go.RowKit Go.Proofs.Ytinlbiphjgpmmaa.V
set_option linter.unusedVariables false
set_option linter.unusedSimpArgs false
set_option linter.all false
set_option maxRecDepth 100000
/-! ### impl_ApplyAll: function 79 -/
def impl_ApplyAll.l0 : Nat → (List S87) → (List S105) → (List S87) → Int → Int → (List S105) → Option ((List S105) × Int × Int)
 | 0, _, _, _, _, _, _ => none
 | k + 1, l1, x7, x18, x19, x20, l0 => if x20 < x19 then (if 0 ≤ x20 then (if x20 < (l1.length : Int) then ((impl_ApplyOp.f k x7 ((rd_T87 l1 x20).f0) ((rd_T87 l1 x20).f1) ((rd_T87 l1 x20).f2) ((rd_T87 l1 x20).f3) ((rd_T87 l1 x20).f4)).bind fun bt3 => (if bt3.2 = 0 then (impl_ApplyAll.l0 k l1 bt3.1 l1 x19 (wrap64 (x20 + 1)) l0) else (some (x7, x20, bt3.2)))) else none) else none) else (some (x7, (l1.length : Int), 0))
def impl_ApplyAll.f (k : Nat) (l0 : List S105) (l1 : List S87) : Option ((List S105) × Int × Int) := (impl_TreeOk.f k l0).bind fun t1 => (if t1 = true then ((slices_Clone_impl_Node_impl_Node.f l0).bind fun t2 => (impl_ApplyAll.l0 k l1 t2 l1 (l1.length : Int) 0 l0)) else (some (([] : List S105), 0, 2)))
def impl_ApplyAll.P0 (k : Nat) : Prop := ∀ (l1 : List S87) (x7 : List S105) (x18 : List S87) (x19 : Int) (x20 : Int) (l0 : List S105) (r : (List S105) × Int × Int), x18 = l1 → impl_ApplyAll.l0 k l1 x7 x18 x19 x20 l0 = some r → ∀ st, canon 2 [1, 7, 18, 19, 20] st = ⟨tmOf [(1, .slc 1 [] 0 5 0 l1.length), (7, .slc 2 [] 0 2 0 x7.length), (18, .slc 1 [] 0 5 0 l1.length), (19, .i .i64 x19), (20, .i .i64 x20)], rsL [(0, some ⟨false, 2, 0, (l0.map e105)⟩), (1, some ⟨false, 5, 0, (l1.map (e87 false))⟩), (2, some ⟨true, 2, 0, (x7.map e105)⟩)], 3⟩ → W env impl_ApplyAll.c1 st (Qb 0 (Qs env impl_ApplyAll.c0 (Qf [.t 4, .t 5, .t 6] [false, false] ([.deep false false 2 (r.1.map e105), .i .i64 r.2.1, .i .i64 r.2.2], [none, none]))))
set_option maxHeartbeats 4000000 in
theorem impl_ApplyAll.s0 (k : Nat) (ih : impl_ApplyAll.P0 k) : impl_ApplyAll.P0 (k + 1) := by
  intro l1 x7 x18 x19 x20 l0 r a0 H st hst
  subst a0
  rw [impl_ApplyAll.l0] at H
  rw [W_loopc (show impl_ApplyAll.c1 = C.loop 2 [1, 7, 18, 19, 20] impl_ApplyAll.d1 from rfl), hst]
  unfold impl_ApplyAll.d1
  try simp only [TN, simprocAttr, impl_ApplyAll.c0]
  rcases ite_or H with ⟨h1, H⟩ | ⟨h1, H⟩
  · skip
    obtain ⟨h2, H⟩ := ite_no H
    obtain ⟨h3, H⟩ := ite_no H
    obtain ⟨bt3, e4, H⟩ := bnd_some H
    have e4 := impl_ApplyOp.link e4
    try simp only [TN, simprocAttr, impl_ApplyAll.c0, h1, h2, h3, e4]
    rcases ite_or H with ⟨h5, H⟩ | ⟨h5, H⟩
    · skip
      try simp only [TN, simprocAttr, impl_ApplyAll.c0, h1, h2, h3, e4, eq_true h5]
      refine ih _ _ _ _ _ _ _ rfl H _ ?_
      first | (rw [canon_eq]; done) | (rw [canon_eq]; rfl) | (rw [canon_eq]; simp only [List.length_set, List.length_append, List.length_replicate]; rfl)
    · skip
      injection H with H; subst H
      try simp only [TN, simprocAttr, impl_ApplyAll.c0, h1, h2, h3, e4, h5]
      try rfl
  · skip
    injection H with H; subst H
    try simp only [TN, simprocAttr, impl_ApplyAll.c0, h1]
    try rfl
theorem impl_ApplyAll.w : ∀ k, impl_ApplyAll.P0 k := by
  intro k
  induction k with
  | zero => exact by intro l1 x7 x18 x19 x20 l0 r _ H; cases (show (none : Option ((List S105) × Int × Int)) = some r from H)
  | succ k ih => exact impl_ApplyAll.s0 k ih
set_option maxHeartbeats 4000000 in
theorem impl_ApplyAll.link {k : Nat} {l0 : List S105} {l1 : List S87} {r : (List S105) × Int × Int} (H : impl_ApplyAll.f k l0 l1 = some r) : callW env 79 [.deep false true 2 (l0.map e105), .deep false true 5 (l1.map (e87 false))] = some ([.deep false false 2 (r.1.map e105), .i .i64 r.2.1, .i .i64 r.2.2], [none, none]) := by
  unfold impl_ApplyAll.f at H
  refine callW_fn' (F := impl_ApplyAll.F) (tm := tmOf [(0, .slc 0 [] 0 2 0 l0.length), (1, .slc 1 [] 0 5 0 l1.length)]) (rs := rsL [(0, some ⟨false, 2, 0, (l0.map e105)⟩), (1, some ⟨false, 5, 0, (l1.map (e87 false))⟩)]) (nx := 2) (ow := [false, false]) rfl (by rfl) (by simp only [SN]) (by simp only [SN]) (by decide) ?_
  show W env impl_ApplyAll.B _ (Qf [.t 4, .t 5, .t 6] [false, false] _)
  unfold impl_ApplyAll.B
  obtain ⟨t1, e1, H⟩ := bnd_some H
  have e1 := impl_TreeOk.link e1
  try simp only [TN, simprocAttr, impl_ApplyAll.c0, e1]
  rcases ite_b H with ⟨h2, H⟩ | ⟨h2, H⟩
  · skip
    obtain ⟨t2, e3, H⟩ := bnd_some H
    have e3 := slices_Clone_impl_Node_impl_Node.link e3
    try simp only [TN, simprocAttr, impl_ApplyAll.c0, e1, h2, e3]
    refine (impl_ApplyAll.w k) _ _ _ _ _ _ _ rfl H _ ?_
    first | (rw [canon_eq]; done) | (rw [canon_eq]; rfl) | (rw [canon_eq]; simp only [List.length_set, List.length_append, List.length_replicate]; rfl)
  · skip
    injection H with H; subst H
    try simp only [TN, simprocAttr, impl_ApplyAll.c0, e1, h2]
    try rfl
end Go.Proofs.Ytinlbiphjgpmmaa.P
end YtinlbiphjgpmmaaL79
section YtinlbiphjgpmmaaL137
namespace Go.Proofs.Ytinlbiphjgpmmaa.P
open Go Go.RowKit Go.Proofs.Ytinlbiphjgpmmaa.V
set_option linter.unusedVariables false
set_option linter.unusedSimpArgs false
set_option linter.all false
set_option maxRecDepth 100000
/-! ### impl_OpOk_lit1: function 137 -/
def impl_OpOk_lit1.f (a0 : Int) : Option Bool := (impl_within.f a0 0 24).bind fun t1 => (some (!t1))
set_option maxHeartbeats 4000000 in
theorem impl_OpOk_lit1.link {a0 : Int} {r : Bool} (H : impl_OpOk_lit1.f a0 = some r) : callW env 137 [.i .i64 a0] = some ([.b r], []) := by
  unfold impl_OpOk_lit1.f at H
  refine callW_fn' (F := impl_OpOk_lit1.F) (tm := tmOf [(0, .i .i64 a0)]) (rs := rsL []) (nx := 0) (ow := []) rfl (by rfl) (by simp only [SN]) (by simp only [SN]) (by decide) ?_
  show W env impl_OpOk_lit1.B _ (Qf [.t 2] [] _)
  unfold impl_OpOk_lit1.B
  obtain ⟨t1, e1, H⟩ := bnd_some H
  have e1 := impl_within.link e1
  injection H with H; subst H
  try simp only [TN, simprocAttr, e1]
  try rfl
end Go.Proofs.Ytinlbiphjgpmmaa.P
end YtinlbiphjgpmmaaL137
section YtinlbiphjgpmmaaL139
namespace Go.Proofs.Ytinlbiphjgpmmaa.P
open Go Go.RowKit Go.Proofs.Ytinlbiphjgpmmaa.V
set_option linter.unusedVariables false
set_option linter.unusedSimpArgs false
set_option linter.all false
set_option maxRecDepth 100000
/-! ### slices_IndexFunc_int_int: function 139 -/
def slices_IndexFunc_int_int.l0 : Nat → (List Int) → Int → Int → Option Int
 | 0, _, _, _ => none
 | k + 1, l0, x7, x8 => if x8 < x7 then (if 0 ≤ x8 then (if x8 < (l0.length : Int) then ((impl_OpOk_lit1.f (rd l0 x8)).bind fun t1 => (if t1 = true then (some x8) else (slices_IndexFunc_int_int.l0 k l0 x7 (wrap64 (x8 + 1))))) else none) else none) else (some (-1))
def slices_IndexFunc_int_int.f (k : Nat) (l0 : List Int) : Option Int := slices_IndexFunc_int_int.l0 k l0 (l0.length : Int) 0
def slices_IndexFunc_int_int.P0 (k : Nat) : Prop := ∀ (l0 : List Int) (x7 : Int) (x8 : Int) (r : Int), slices_IndexFunc_int_int.l0 k l0 x7 x8 = some r → ∀ st, canon 5 [0, 1, 7, 8] st = ⟨tmOf [(0, .slc 0 [] 0 1 0 l0.length), (1, .fn 137 []), (7, .i .i64 x7), (8, .i .i64 x8)], rsL [(0, some ⟨false, 1, 0, (l0.map eI)⟩), (1, none), (2, none), (3, none), (4, none)], 5⟩ → W env slices_IndexFunc_int_int.c1 st (Qb 0 (Qs env slices_IndexFunc_int_int.c0 (Qf [.t 4] [false] ([.i .i64 r], [none]))))
set_option maxHeartbeats 4000000 in
theorem slices_IndexFunc_int_int.s0 (k : Nat) (ih : slices_IndexFunc_int_int.P0 k) : slices_IndexFunc_int_int.P0 (k + 1) := by
  intro l0 x7 x8 r H st hst
  rw [slices_IndexFunc_int_int.l0] at H
  rw [W_loopc (show slices_IndexFunc_int_int.c1 = C.loop 5 [0, 1, 7, 8] slices_IndexFunc_int_int.d1 from rfl), hst]
  unfold slices_IndexFunc_int_int.d1
  try simp only [TN, simprocAttr, slices_IndexFunc_int_int.c0]
  rcases ite_or H with ⟨h1, H⟩ | ⟨h1, H⟩
  · skip
    obtain ⟨h2, H⟩ := ite_no H
    obtain ⟨h3, H⟩ := ite_no H
    obtain ⟨t1, e4, H⟩ := bnd_some H
    have e4 := impl_OpOk_lit1.link e4
    try simp only [TN, simprocAttr, slices_IndexFunc_int_int.c0, h1, h2, h3, e4]
    rcases ite_b H with ⟨h5, H⟩ | ⟨h5, H⟩
    · skip
      injection H with H; subst H
      try simp only [TN, simprocAttr, slices_IndexFunc_int_int.c0, h1, h2, h3, e4, h5]
      try rfl
    · skip
      try simp only [TN, simprocAttr, slices_IndexFunc_int_int.c0, h1, h2, h3, e4, h5]
      refine ih _ _ _ _ H _ ?_
      first | (rw [canon_eq]; done) | (rw [canon_eq]; rfl) | (rw [canon_eq]; simp only [List.length_set, List.length_append, List.length_replicate]; rfl)
  · skip
    injection H with H; subst H
    try simp only [TN, simprocAttr, slices_IndexFunc_int_int.c0, h1]
    try rfl
theorem slices_IndexFunc_int_int.w : ∀ k, slices_IndexFunc_int_int.P0 k := by
  intro k
  induction k with
  | zero => exact by intro l0 x7 x8 r H; cases (show (none : Option Int) = some r from H)
  | succ k ih => exact slices_IndexFunc_int_int.s0 k ih
set_option maxHeartbeats 4000000 in
theorem slices_IndexFunc_int_int.link {k : Nat} {l0 : List Int} {r : Int} (H : slices_IndexFunc_int_int.f k l0 = some r) : callW env 139 [.deep false true 1 (l0.map eI), .fn 137 []] = some ([.i .i64 r], [none]) := by
  unfold slices_IndexFunc_int_int.f at H
  refine callW_fn' (F := slices_IndexFunc_int_int.F) (tm := tmOf [(0, .slc 0 [] 0 1 0 l0.length), (1, .fn 137 [])]) (rs := rsL [(0, some ⟨false, 1, 0, (l0.map eI)⟩)]) (nx := 1) (ow := [false]) rfl (by rfl) (by simp only [SN]) (by simp only [SN]) (by decide) ?_
  show W env slices_IndexFunc_int_int.B _ (Qf [.t 4] [false] _)
  unfold slices_IndexFunc_int_int.B
  try simp only [TN, simprocAttr, slices_IndexFunc_int_int.c0]
  refine (slices_IndexFunc_int_int.w k) _ _ _ _ H _ ?_
  first | (rw [canon_eq]; done) | (rw [canon_eq]; rfl) | (rw [canon_eq]; simp only [List.length_set, List.length_append, List.length_replicate]; rfl)
end Go.Proofs.Ytinlbiphjgpmmaa.P
end YtinlbiphjgpmmaaL139
section YtinlbiphjgpmmaaL136
namespace Go.Proofs.Ytinlbiphjgpmmaa.P
open Go Go.RowKit Go.Proofs.Ytinlbiphjgpmmaa.V
set_option linter.unusedVariables false
set_option linter.unusedSimpArgs false
set_option linter.all false
set_option maxRecDepth 100000
/-! ### slices_ContainsFunc_int_int: function 136 -/
def slices_ContainsFunc_int_int.f (k : Nat) (l0 : List Int) : Option Bool := (slices_IndexFunc_int_int.f k l0).bind fun t1 => (some (decide (t1 ≥ 0)))
set_option maxHeartbeats 4000000 in
theorem slices_ContainsFunc_int_int.link {k : Nat} {l0 : List Int} {r : Bool} (H : slices_ContainsFunc_int_int.f k l0 = some r) : callW env 136 [.deep false true 1 (l0.map eI), .fn 137 []] = some ([.b r], [none]) := by
  unfold slices_ContainsFunc_int_int.f at H
  refine callW_fn' (F := slices_ContainsFunc_int_int.F) (tm := tmOf [(0, .slc 0 [] 0 1 0 l0.length), (1, .fn 137 [])]) (rs := rsL [(0, some ⟨false, 1, 0, (l0.map eI)⟩)]) (nx := 1) (ow := [false]) rfl (by rfl) (by simp only [SN]) (by simp only [SN]) (by decide) ?_
  show W env slices_ContainsFunc_int_int.B _ (Qf [.t 4] [false] _)
  unfold slices_ContainsFunc_int_int.B
  obtain ⟨t1, e1, H⟩ := bnd_some H
  have e1 := slices_IndexFunc_int_int.link e1
  injection H with H; subst H
  try simp only [TN, simprocAttr, e1]
  try rfl
end Go.Proofs.Ytinlbiphjgpmmaa.P
end YtinlbiphjgpmmaaL136
section YtinlbiphjgpmmaaL130
namespace Go.Proofs.Ytinlbiphjgpmmaa.P
open Go Go.RowKit Go.Proofs.Ytinlbiphjgpmmaa.V
set_option linter.unusedVariables false
set_option linter.unusedSimpArgs false
set_option linter.all false
set_option maxRecDepth 100000
/-! ### impl_OpOk: function 130 -/
def impl_OpOk.f (k : Nat) (a0_0 : Int) (l0_1 : List Int) (a0_2 : Int) (a0_3 : Int) (a0_4 : Int) : Option Bool := if (l0_1.length : Int) > 12 then (some false) else ((slices_ContainsFunc_int_int.f k l0_1).bind fun t1 => (if t1 = true then (some false) else (if a0_0 = 1 then ((impl_LabelOk.f a0_2).bind fun t2 => (if t2 = true then (if a0_3 = 0 then (some (a0_4 == 0)) else (some false)) else (some false))) else (if a0_0 = 2 then (if a0_2 = 0 then (if a0_3 = 0 then (some (a0_4 == 0)) else (some false)) else (some false)) else (if a0_0 = 3 then ((impl_LabelOk.f a0_2).bind fun t3 => (if t3 = true then ((impl_within.f a0_3 0 24).bind fun t4 => (if t4 = true then ((impl_within.f a0_4 0 24).bind fun t5 => (some t5)) else (some false))) else (some false))) else (some false))))))
set_option maxHeartbeats 4000000 in
theorem impl_OpOk.link {k : Nat} {a0_0 : Int} {l0_1 : List Int} {a0_2 : Int} {a0_3 : Int} {a0_4 : Int} {r : Bool} (H : impl_OpOk.f k a0_0 l0_1 a0_2 a0_3 a0_4 = some r) : callW env 130 [.agg [.i .i64 a0_0, .deep false true 1 (l0_1.map eI), .i .i64 a0_2, .i .i64 a0_3, .i .i64 a0_4]] = some ([.b r], [none]) := by
  unfold impl_OpOk.f at H
  refine callW_fn' (F := impl_OpOk.F) (tm := tmOf [(0, .agg [.i .i64 a0_0, .slc 0 [] 0 1 0 l0_1.length, .i .i64 a0_2, .i .i64 a0_3, .i .i64 a0_4])]) (rs := rsL [(0, some ⟨false, 1, 0, (l0_1.map eI)⟩)]) (nx := 1) (ow := [false]) rfl (by rfl) (by simp only [SN]) (by simp only [SN]) (by decide) ?_
  show W env impl_OpOk.B _ (Qf [.t 2] [false] _)
  unfold impl_OpOk.B
  try simp only [TN, simprocAttr]
  rcases ite_or H with ⟨h1, H⟩ | ⟨h1, H⟩
  · skip
    injection H with H; subst H
    try simp only [TN, simprocAttr, h1]
    try rfl
  · skip
    obtain ⟨t1, e2, H⟩ := bnd_some H
    have e2 := slices_ContainsFunc_int_int.link e2
    try simp only [TN, simprocAttr, h1, e2]
    rcases ite_b H with ⟨h3, H⟩ | ⟨h3, H⟩
    · skip
      injection H with H; subst H
      try simp only [TN, simprocAttr, h1, e2, h3]
      try rfl
    · skip
      try simp only [TN, simprocAttr, h1, e2, h3]
      rcases ite_or H with ⟨h4, H⟩ | ⟨h4, H⟩
      · skip
        obtain ⟨t2, e5, H⟩ := bnd_some H
        have e5 := impl_LabelOk.link e5
        try simp only [TN, simprocAttr, h1, e2, h3, eq_true h4, e5]
        rcases ite_b H with ⟨h6, H⟩ | ⟨h6, H⟩
        · skip
          try simp only [TN, simprocAttr, h1, e2, h3, eq_true h4, e5, h6]
          rcases ite_or H with ⟨h7, H⟩ | ⟨h7, H⟩
          · skip
            injection H with H; subst H
            try simp only [TN, simprocAttr, h1, e2, h3, eq_true h4, e5, h6, eq_true h7]
            try rfl
          · skip
            injection H with H; subst H
            try simp only [TN, simprocAttr, h1, e2, h3, eq_true h4, e5, h6, h7]
            try rfl
        · skip
          injection H with H; subst H
          try simp only [TN, simprocAttr, h1, e2, h3, eq_true h4, e5, h6]
          try rfl
      · skip
        try simp only [TN, simprocAttr, h1, e2, h3, h4]
        rcases ite_or H with ⟨h8, H⟩ | ⟨h8, H⟩
        · skip
          try simp only [TN, simprocAttr, h1, e2, h3, h4, eq_true h8]
          rcases ite_or H with ⟨h9, H⟩ | ⟨h9, H⟩
          · skip
            try simp only [TN, simprocAttr, h1, e2, h3, h4, eq_true h8, eq_true h9]
            rcases ite_or H with ⟨h10, H⟩ | ⟨h10, H⟩
            · skip
              injection H with H; subst H
              try simp only [TN, simprocAttr, h1, e2, h3, h4, eq_true h8, eq_true h9, eq_true h10]
              try rfl
            · skip
              injection H with H; subst H
              try simp only [TN, simprocAttr, h1, e2, h3, h4, eq_true h8, eq_true h9, h10]
              try rfl
          · skip
            injection H with H; subst H
            try simp only [TN, simprocAttr, h1, e2, h3, h4, eq_true h8, h9]
            try rfl
        · skip
          try simp only [TN, simprocAttr, h1, e2, h3, h4, h8]
          rcases ite_or H with ⟨h11, H⟩ | ⟨h11, H⟩
          · skip
            obtain ⟨t3, e12, H⟩ := bnd_some H
            have e12 := impl_LabelOk.link e12
            try simp only [TN, simprocAttr, h1, e2, h3, h4, h8, eq_true h11, e12]
            rcases ite_b H with ⟨h13, H⟩ | ⟨h13, H⟩
            · skip
              obtain ⟨t4, e14, H⟩ := bnd_some H
              have e14 := impl_within.link e14
              try simp only [TN, simprocAttr, h1, e2, h3, h4, h8, eq_true h11, e12, h13, e14]
              rcases ite_b H with ⟨h15, H⟩ | ⟨h15, H⟩
              · skip
                obtain ⟨t5, e16, H⟩ := bnd_some H
                have e16 := impl_within.link e16
                injection H with H; subst H
                try simp only [TN, simprocAttr, h1, e2, h3, h4, h8, eq_true h11, e12, h13, e14, h15, e16]
                try rfl
              · skip
                injection H with H; subst H
                try simp only [TN, simprocAttr, h1, e2, h3, h4, h8, eq_true h11, e12, h13, e14, h15]
                try rfl
            · skip
              injection H with H; subst H
              try simp only [TN, simprocAttr, h1, e2, h3, h4, h8, eq_true h11, e12, h13]
              try rfl
          · skip
            injection H with H; subst H
            try simp only [TN, simprocAttr, h1, e2, h3, h4, h8, h11]
            try rfl
end Go.Proofs.Ytinlbiphjgpmmaa.P
end YtinlbiphjgpmmaaL130
section YtinlbiphjgpmmaaL129
namespace Go.Proofs.Ytinlbiphjgpmmaa.P
open Go Go.RowKit Go.Proofs.Ytinlbiphjgpmmaa.V
set_option linter.unusedVariables false
set_option linter.unusedSimpArgs false
set_option linter.all false
set_option maxRecDepth 100000
/-! ### impl_ScriptOk_lit1: function 129 -/
def impl_ScriptOk_lit1.f (k : Nat) (a0_0 : Int) (l0_1 : List Int) (a0_2 : Int) (a0_3 : Int) (a0_4 : Int) : Option Bool := (impl_OpOk.f k a0_0 l0_1 a0_2 a0_3 a0_4).bind fun t1 => (some (!t1))
set_option maxHeartbeats 4000000 in
theorem impl_ScriptOk_lit1.link {k : Nat} {a0_0 : Int} {l0_1 : List Int} {a0_2 : Int} {a0_3 : Int} {a0_4 : Int} {r : Bool} (H : impl_ScriptOk_lit1.f k a0_0 l0_1 a0_2 a0_3 a0_4 = some r) : callW env 129 [.agg [.i .i64 a0_0, .deep false true 1 (l0_1.map eI), .i .i64 a0_2, .i .i64 a0_3, .i .i64 a0_4]] = some ([.b r], [none]) := by
  unfold impl_ScriptOk_lit1.f at H
  refine callW_fn' (F := impl_ScriptOk_lit1.F) (tm := tmOf [(0, .agg [.i .i64 a0_0, .slc 0 [] 0 1 0 l0_1.length, .i .i64 a0_2, .i .i64 a0_3, .i .i64 a0_4])]) (rs := rsL [(0, some ⟨false, 1, 0, (l0_1.map eI)⟩)]) (nx := 1) (ow := [false]) rfl (by rfl) (by simp only [SN]) (by simp only [SN]) (by decide) ?_
  show W env impl_ScriptOk_lit1.B _ (Qf [.t 2] [false] _)
  unfold impl_ScriptOk_lit1.B
  obtain ⟨t1, e1, H⟩ := bnd_some H
  have e1 := impl_OpOk.link e1
  injection H with H; subst H
  try simp only [TN, simprocAttr, e1]
  try rfl
end Go.Proofs.Ytinlbiphjgpmmaa.P
end YtinlbiphjgpmmaaL129
section YtinlbiphjgpmmaaL135
namespace Go.Proofs.Ytinlbiphjgpmmaa.P
open Go Go.RowKit Go.Proofs.Ytinlbiphjgpmmaa.V
set_option linter.unusedVariables false
set_option linter.unusedSimpArgs false
set_option linter.all false
set_option maxRecDepth 100000
/-! ### slices_IndexFunc_impl_Op_impl_Op: function 135 -/
def slices_IndexFunc_impl_Op_impl_Op.l0 : Nat → (List S87) → Int → Int → Option Int
 | 0, _, _, _ => none
 | k + 1, l0, x7, x8 => if x8 < x7 then (if 0 ≤ x8 then (if x8 < (l0.length : Int) then ((impl_ScriptOk_lit1.f k ((rd_T87 l0 x8).f0) ((rd_T87 l0 x8).f1) ((rd_T87 l0 x8).f2) ((rd_T87 l0 x8).f3) ((rd_T87 l0 x8).f4)).bind fun t1 => (if t1 = true then (some x8) else (slices_IndexFunc_impl_Op_impl_Op.l0 k l0 x7 (wrap64 (x8 + 1))))) else none) else none) else (some (-1))
def slices_IndexFunc_impl_Op_impl_Op.f (k : Nat) (l0 : List S87) : Option Int := slices_IndexFunc_impl_Op_impl_Op.l0 k l0 (l0.length : Int) 0
def slices_IndexFunc_impl_Op_impl_Op.P0 (k : Nat) : Prop := ∀ (l0 : List S87) (x7 : Int) (x8 : Int) (r : Int), slices_IndexFunc_impl_Op_impl_Op.l0 k l0 x7 x8 = some r → ∀ st, canon 5 [0, 1, 7, 8] st = ⟨tmOf [(0, .slc 0 [] 0 5 0 l0.length), (1, .fn 129 []), (7, .i .i64 x7), (8, .i .i64 x8)], rsL [(0, some ⟨false, 5, 0, (l0.map (e87 false))⟩), (1, none), (2, none), (3, none), (4, none)], 5⟩ → W env slices_IndexFunc_impl_Op_impl_Op.c1 st (Qb 0 (Qs env slices_IndexFunc_impl_Op_impl_Op.c0 (Qf [.t 4] [false] ([.i .i64 r], [none]))))
set_option maxHeartbeats 4000000 in
theorem slices_IndexFunc_impl_Op_impl_Op.s0 (k : Nat) (ih : slices_IndexFunc_impl_Op_impl_Op.P0 k) : slices_IndexFunc_impl_Op_impl_Op.P0 (k + 1) := by
  intro l0 x7 x8 r H st hst
  rw [slices_IndexFunc_impl_Op_impl_Op.l0] at H
  rw [W_loopc (show slices_IndexFunc_impl_Op_impl_Op.c1 = C.loop 5 [0, 1, 7, 8] slices_IndexFunc_impl_Op_impl_Op.d1 from rfl), hst]
  unfold slices_IndexFunc_impl_Op_impl_Op.d1
  try simp only [TN, simprocAttr, slices_IndexFunc_impl_Op_impl_Op.c0]
  rcases ite_or H with ⟨h1, H⟩ | ⟨h1, H⟩
  · skip
    obtain ⟨h2, H⟩ := ite_no H
    obtain ⟨h3, H⟩ := ite_no H
    obtain ⟨t1, e4, H⟩ := bnd_some H
    have e4 := impl_ScriptOk_lit1.link e4
    try simp only [TN, simprocAttr, slices_IndexFunc_impl_Op_impl_Op.c0, h1, h2, h3, e4]
    rcases ite_b H with ⟨h5, H⟩ | ⟨h5, H⟩
    · skip
      injection H with H; subst H
      try simp only [TN, simprocAttr, slices_IndexFunc_impl_Op_impl_Op.c0, h1, h2, h3, e4, h5]
      try rfl
    · skip
      try simp only [TN, simprocAttr, slices_IndexFunc_impl_Op_impl_Op.c0, h1, h2, h3, e4, h5]
      refine ih _ _ _ _ H _ ?_
      first | (rw [canon_eq]; done) | (rw [canon_eq]; rfl) | (rw [canon_eq]; simp only [List.length_set, List.length_append, List.length_replicate]; rfl)
  · skip
    injection H with H; subst H
    try simp only [TN, simprocAttr, slices_IndexFunc_impl_Op_impl_Op.c0, h1]
    try rfl
theorem slices_IndexFunc_impl_Op_impl_Op.w : ∀ k, slices_IndexFunc_impl_Op_impl_Op.P0 k := by
  intro k
  induction k with
  | zero => exact by intro l0 x7 x8 r H; cases (show (none : Option Int) = some r from H)
  | succ k ih => exact slices_IndexFunc_impl_Op_impl_Op.s0 k ih
set_option maxHeartbeats 4000000 in
theorem slices_IndexFunc_impl_Op_impl_Op.link {k : Nat} {l0 : List S87} {r : Int} (H : slices_IndexFunc_impl_Op_impl_Op.f k l0 = some r) : callW env 135 [.deep false true 5 (l0.map (e87 false)), .fn 129 []] = some ([.i .i64 r], [none]) := by
  unfold slices_IndexFunc_impl_Op_impl_Op.f at H
  refine callW_fn' (F := slices_IndexFunc_impl_Op_impl_Op.F) (tm := tmOf [(0, .slc 0 [] 0 5 0 l0.length), (1, .fn 129 [])]) (rs := rsL [(0, some ⟨false, 5, 0, (l0.map (e87 false))⟩)]) (nx := 1) (ow := [false]) rfl (by rfl) (by simp only [SN]) (by simp only [SN]) (by decide) ?_
  show W env slices_IndexFunc_impl_Op_impl_Op.B _ (Qf [.t 4] [false] _)
  unfold slices_IndexFunc_impl_Op_impl_Op.B
  try simp only [TN, simprocAttr, slices_IndexFunc_impl_Op_impl_Op.c0]
  refine (slices_IndexFunc_impl_Op_impl_Op.w k) _ _ _ _ H _ ?_
  first | (rw [canon_eq]; done) | (rw [canon_eq]; rfl) | (rw [canon_eq]; simp only [List.length_set, List.length_append, List.length_replicate]; rfl)
end Go.Proofs.Ytinlbiphjgpmmaa.P
end YtinlbiphjgpmmaaL135
section YtinlbiphjgpmmaaL128
namespace Go.Proofs.Ytinlbiphjgpmmaa.P
open Go Go.RowKit Go.Proofs.Ytinlbiphjgpmmaa.V
set_option linter.unusedVariables false
set_option linter.unusedSimpArgs false
set_option linter.all false
set_option maxRecDepth 100000
/-! ### slices_ContainsFunc_impl_Op_impl_Op: function 128 -/
def slices_ContainsFunc_impl_Op_impl_Op.f (k : Nat) (l0 : List S87) : Option Bool := (slices_IndexFunc_impl_Op_impl_Op.f k l0).bind fun t1 => (some (decide (t1 ≥ 0)))
set_option maxHeartbeats 4000000 in
theorem slices_ContainsFunc_impl_Op_impl_Op.link {k : Nat} {l0 : List S87} {r : Bool} (H : slices_ContainsFunc_impl_Op_impl_Op.f k l0 = some r) : callW env 128 [.deep false true 5 (l0.map (e87 false)), .fn 129 []] = some ([.b r], [none]) := by
  unfold slices_ContainsFunc_impl_Op_impl_Op.f at H
  refine callW_fn' (F := slices_ContainsFunc_impl_Op_impl_Op.F) (tm := tmOf [(0, .slc 0 [] 0 5 0 l0.length), (1, .fn 129 [])]) (rs := rsL [(0, some ⟨false, 5, 0, (l0.map (e87 false))⟩)]) (nx := 1) (ow := [false]) rfl (by rfl) (by simp only [SN]) (by simp only [SN]) (by decide) ?_
  show W env slices_ContainsFunc_impl_Op_impl_Op.B _ (Qf [.t 4] [false] _)
  unfold slices_ContainsFunc_impl_Op_impl_Op.B
  obtain ⟨t1, e1, H⟩ := bnd_some H
  have e1 := slices_IndexFunc_impl_Op_impl_Op.link e1
  injection H with H; subst H
  try simp only [TN, simprocAttr, e1]
  try rfl
end Go.Proofs.Ytinlbiphjgpmmaa.P
end YtinlbiphjgpmmaaL128
section YtinlbiphjgpmmaaL114
namespace Go.Proofs.Ytinlbiphjgpmmaa.P
open Go Go.RowKit Go.Proofs.Ytinlbiphjgpmmaa.V
set_option linter.unusedVariables false
set_option linter.unusedSimpArgs false
set_option linter.all false
set_option maxRecDepth 100000
/-! ### impl_ScriptOk: function 114 -/
def impl_ScriptOk.f (k : Nat) (l0 : List S87) : Option Bool := if (l0.length : Int) ≤ 60 then ((slices_ContainsFunc_impl_Op_impl_Op.f k l0).bind fun t1 => (some (!t1))) else (some false)
set_option maxHeartbeats 4000000 in
theorem impl_ScriptOk.link {k : Nat} {l0 : List S87} {r : Bool} (H : impl_ScriptOk.f k l0 = some r) : callW env 114 [.deep false true 5 (l0.map (e87 false))] = some ([.b r], [none]) := by
  unfold impl_ScriptOk.f at H
  refine callW_fn' (F := impl_ScriptOk.F) (tm := tmOf [(0, .slc 0 [] 0 5 0 l0.length)]) (rs := rsL [(0, some ⟨false, 5, 0, (l0.map (e87 false))⟩)]) (nx := 1) (ow := [false]) rfl (by rfl) (by simp only [SN]) (by simp only [SN]) (by decide) ?_
  show W env impl_ScriptOk.B _ (Qf [.t 2] [false] _)
  unfold impl_ScriptOk.B
  try simp only [TN, simprocAttr]
  rcases ite_or H with ⟨h1, H⟩ | ⟨h1, H⟩
  · skip
    obtain ⟨t1, e2, H⟩ := bnd_some H
    have e2 := slices_ContainsFunc_impl_Op_impl_Op.link e2
    injection H with H; subst H
    try simp only [TN, simprocAttr, h1, e2]
    try rfl
  · skip
    injection H with H; subst H
    try simp only [TN, simprocAttr, h1]
    try rfl
end Go.Proofs.Ytinlbiphjgpmmaa.P
end YtinlbiphjgpmmaaL114
section YtinlbiphjgpmmaaL93
namespace Go.Proofs.Ytinlbiphjgpmmaa.P
open Go Go.RowKit Go.Proofs.Ytinlbiphjgpmmaa.V
set_option linter.unusedVariables false
set_option linter.unusedSimpArgs false
set_option linter.all false
set_option maxRecDepth 100000
/-! ### impl_Hist_trees: function 93 -/
def impl_Hist_trees.l0 : Nat → (List (List S105)) → (List (List S87)) → Int → Int → (List S105) → Option ((List (List S105)) × Bool)
 | 0, _, _, _, _, _ => none
 | k + 1, x4, l0_1, x26, x27, l0_0 => if x27 < x26 then (if 0 ≤ x27 then (if x27 < (l0_1.length : Int) then (if x27 < (x4.length : Int) then ((impl_ApplyAll.f k (rdL x4 x27) (rdL l0_1 x27)).bind fun bt3 => (if bt3.2.2 = 0 then ((impl_ScriptOk.f k (rdL l0_1 x27)).bind fun t4 => (if t4 = true then (if x4.length < 5864062014805 then (impl_Hist_trees.l0 k (x4 ++ ([bt3.1])) l0_1 x26 (wrap64 (x27 + 1)) l0_0) else none) else (some ([], false)))) else (some ([], false)))) else none) else none) else none) else (some (x4, true))
def impl_Hist_trees.f (k : Nat) (l0_0 : List S105) (l0_1 : List (List S87)) : Option ((List (List S105)) × Bool) := (impl_TreeOk.f k l0_0).bind fun t1 => (if t1 = true then (if (l0_1.length : Int) > 6 then (some ([], false)) else ((slices_Clone_impl_Node_impl_Node.f l0_0).bind fun t2 => (impl_Hist_trees.l0 k ([t2]) l0_1 (l0_1.length : Int) 0 l0_0))) else (some ([], false)))
def impl_Hist_trees.P0 (k : Nat) : Prop := ∀ (x4 : List (List S105)) (l0_1 : List (List S87)) (x26 : Int) (x27 : Int) (l0_0 : List S105) (r : (List (List S105)) × Bool), impl_Hist_trees.l0 k x4 l0_1 x26 x27 l0_0 = some r → ∀ st, canon 2 [4, 25, 26, 27] st = ⟨tmOf [(4, .slc 2 [] 0 1 0 x4.length), (25, .slc 1 [] 0 1 0 l0_1.length), (26, .i .i64 x26), (27, .i .i64 x27)], rsL [(0, some ⟨false, 2, 0, (l0_0.map e105)⟩), (1, some ⟨false, 1, 0, (l0_1.map (eL 5 false (e87 false)))⟩), (2, some ⟨true, 1, 0, (x4.map (eL 2 false e105))⟩)], 3⟩ → W env impl_Hist_trees.c1 st (Qb 0 (Qs env impl_Hist_trees.c0 (Qf [.t 2, .t 3] [false, false] ([.deep false false 1 (r.1.map (eL 2 false e105)), .b r.2], [none, none]))))
set_option maxHeartbeats 4000000 in
theorem impl_Hist_trees.s0 (k : Nat) (ih : impl_Hist_trees.P0 k) : impl_Hist_trees.P0 (k + 1) := by
  intro x4 l0_1 x26 x27 l0_0 r H st hst
  rw [impl_Hist_trees.l0] at H
  rw [W_loopc (show impl_Hist_trees.c1 = C.loop 2 [4, 25, 26, 27] impl_Hist_trees.d1 from rfl), hst]
  unfold impl_Hist_trees.d1
  try simp only [TN, simprocAttr, impl_Hist_trees.c0]
  rcases ite_or H with ⟨h1, H⟩ | ⟨h1, H⟩
  · skip
    obtain ⟨h2, H⟩ := ite_no H
    obtain ⟨h3, H⟩ := ite_no H
    obtain ⟨h4, H⟩ := ite_no H
    obtain ⟨bt3, e5, H⟩ := bnd_some H
    have e5 := impl_ApplyAll.link e5
    try simp only [TN, simprocAttr, impl_Hist_trees.c0, h1, h2, h3, h4, e5]
    rcases ite_or H with ⟨h6, H⟩ | ⟨h6, H⟩
    · skip
      obtain ⟨t4, e7, H⟩ := bnd_some H
      have e7 := impl_ScriptOk.link e7
      try simp only [TN, simprocAttr, impl_Hist_trees.c0, h1, h2, h3, h4, e5, eq_true h6, e7]
      rcases ite_b H with ⟨h8, H⟩ | ⟨h8, H⟩
      · skip
        obtain ⟨h9, H⟩ := ite_no H
        have h10 : (x4.length + 1) * 24 ≤ 140737488355328 := by omega
        try simp only [TN, simprocAttr, impl_Hist_trees.c0, h1, h2, h3, h4, e5, eq_true h6, e7, h8, h9, h10]
        refine ih _ _ _ _ _ _ H _ ?_
        first | (rw [canon_eq]; done) | (rw [canon_eq]; rfl) | (rw [canon_eq]; simp only [List.length_set, List.length_append, List.length_replicate]; rfl)
      · skip
        injection H with H; subst H
        try simp only [TN, simprocAttr, impl_Hist_trees.c0, h1, h2, h3, h4, e5, eq_true h6, e7, h8]
        try rfl
    · skip
      injection H with H; subst H
      try simp only [TN, simprocAttr, impl_Hist_trees.c0, h1, h2, h3, h4, e5, h6]
      try rfl
  · skip
    injection H with H; subst H
    try simp only [TN, simprocAttr, impl_Hist_trees.c0, h1]
    try rfl
theorem impl_Hist_trees.w : ∀ k, impl_Hist_trees.P0 k := by
  intro k
  induction k with
  | zero => exact by intro x4 l0_1 x26 x27 l0_0 r H; cases (show (none : Option ((List (List S105)) × Bool)) = some r from H)
  | succ k ih => exact impl_Hist_trees.s0 k ih
set_option maxHeartbeats 4000000 in
theorem impl_Hist_trees.link {k : Nat} {l0_0 : List S105} {l0_1 : List (List S87)} {r : (List (List S105)) × Bool} (H : impl_Hist_trees.f k l0_0 l0_1 = some r) : callW env 93 [.agg [.deep false true 2 (l0_0.map e105), .deep false true 1 (l0_1.map (eL 5 false (e87 false)))]] = some ([.deep false false 1 (r.1.map (eL 2 false e105)), .b r.2], [none, none]) := by
  unfold impl_Hist_trees.f at H
  refine callW_fn' (F := impl_Hist_trees.F) (tm := tmOf [(0, .agg [.slc 0 [] 0 2 0 l0_0.length, .slc 1 [] 0 1 0 l0_1.length])]) (rs := rsL [(0, some ⟨false, 2, 0, (l0_0.map e105)⟩), (1, some ⟨false, 1, 0, (l0_1.map (eL 5 false (e87 false)))⟩)]) (nx := 2) (ow := [false, false]) rfl (by rfl) (by simp only [SN]) (by simp only [SN]) (by decide) ?_
  show W env impl_Hist_trees.B _ (Qf [.t 2, .t 3] [false, false] _)
  unfold impl_Hist_trees.B
  obtain ⟨t1, e1, H⟩ := bnd_some H
  have e1 := impl_TreeOk.link e1
  try simp only [TN, simprocAttr, impl_Hist_trees.c0, e1]
  rcases ite_b H with ⟨h2, H⟩ | ⟨h2, H⟩
  · skip
    try simp only [TN, simprocAttr, impl_Hist_trees.c0, e1, h2]
    rcases ite_or H with ⟨h3, H⟩ | ⟨h3, H⟩
    · skip
      injection H with H; subst H
      try simp only [TN, simprocAttr, impl_Hist_trees.c0, e1, h2, h3]
      try rfl
    · skip
      obtain ⟨t2, e4, H⟩ := bnd_some H
      have e4 := slices_Clone_impl_Node_impl_Node.link e4
      try simp only [TN, simprocAttr, impl_Hist_trees.c0, e1, h2, h3, e4]
      refine (impl_Hist_trees.w k) _ _ _ _ _ _ H _ ?_
      first | (rw [canon_eq]; done) | (rw [canon_eq]; rfl) | (rw [canon_eq]; simp only [List.length_set, List.length_append, List.length_replicate]; rfl)
  · skip
    injection H with H; subst H
    try simp only [TN, simprocAttr, impl_Hist_trees.c0, e1, h2]
    try rfl
end Go.Proofs.Ytinlbiphjgpmmaa.P
end YtinlbiphjgpmmaaL93
section YtinlbiphjgpmmaaL56
namespace Go.Proofs.Ytinlbiphjgpmmaa.P
open Go Go.RowKit Go.Proofs.Ytinlbiphjgpmmaa.V
set_option linter.unusedVariables false
set_option linter.unusedSimpArgs false
set_option linter.all false
set_option maxRecDepth 100000
/-! ### impl_HistOk: function 56 -/
def impl_HistOk.f (k : Nat) (l0_0 : List S105) (l0_1 : List (List S87)) : Option Bool := (impl_Hist_trees.f k l0_0 l0_1).bind fun bt1 => (some bt1.2)
set_option maxHeartbeats 4000000 in
theorem impl_HistOk.link {k : Nat} {l0_0 : List S105} {l0_1 : List (List S87)} {r : Bool} (H : impl_HistOk.f k l0_0 l0_1 = some r) : callW env 56 [.agg [.deep false true 2 (l0_0.map e105), .deep false true 1 (l0_1.map (eL 5 false (e87 false)))]] = some ([.b r], [none, none]) := by
  unfold impl_HistOk.f at H
  refine callW_fn' (F := impl_HistOk.F) (tm := tmOf [(0, .agg [.slc 0 [] 0 2 0 l0_0.length, .slc 1 [] 0 1 0 l0_1.length])]) (rs := rsL [(0, some ⟨false, 2, 0, (l0_0.map e105)⟩), (1, some ⟨false, 1, 0, (l0_1.map (eL 5 false (e87 false)))⟩)]) (nx := 2) (ow := [false, false]) rfl (by rfl) (by simp only [SN]) (by simp only [SN]) (by decide) ?_
  show W env impl_HistOk.B _ (Qf [.t 2] [false, false] _)
  unfold impl_HistOk.B
  obtain ⟨bt1, e1, H⟩ := bnd_some H
  have e1 := impl_Hist_trees.link e1
  injection H with H; subst H
  try simp only [TN, simprocAttr, e1]
  try rfl
end Go.Proofs.Ytinlbiphjgpmmaa.P
end YtinlbiphjgpmmaaL56
section YtinlbiphjgpmmaaL24
namespace Go.Proofs.Ytinlbiphjgpmmaa.P
open Go Go.RowKit Go.Proofs.Ytinlbiphjgpmmaa.V
set_option linter.unusedVariables false
set_option linter.unusedSimpArgs false
set_option linter.all false
set_option maxRecDepth 100000
/-! ### impl_HistAdd: function 24 -/
def impl_HistAdd.f (k : Nat) (l0_0 : List S105) (l0_1 : List (List S87)) (l1 : List S87) : Option ((List S105) × (List (List S87)) × Bool) := (impl_histCopy.f k l0_0 l0_1).bind fun bt1 => ((impl_Joined.f k l1 []).bind fun t2 => (if bt1.2.length < 5864062014805 then ((some (bt1.2 ++ ([t2]) : List (List S87))).bind fun y0 => ((impl_HistOk.f k bt1.1 y0).bind fun t3 => (if t3 = true then (some (bt1.1, y0, true)) else (some (bt1.1, bt1.2, false))))) else none))
set_option maxHeartbeats 4000000 in
theorem impl_HistAdd.link {k : Nat} {l0_0 : List S105} {l0_1 : List (List S87)} {l1 : List S87} {r : (List S105) × (List (List S87)) × Bool} (H : impl_HistAdd.f k l0_0 l0_1 l1 = some r) : callW env 24 [.agg [.deep false true 2 (l0_0.map e105), .deep false true 1 (l0_1.map (eL 5 false (e87 false)))], .deep false true 5 (l1.map (e87 false))] = some ([.agg [.deep false false 2 (r.1.map e105), .deep false false 1 (r.2.1.map (eL 5 false (e87 false)))], .b r.2.2], [none, none, none]) := by
  unfold impl_HistAdd.f at H
  refine callW_fn' (F := impl_HistAdd.F) (tm := tmOf [(0, .agg [.slc 0 [] 0 2 0 l0_0.length, .slc 1 [] 0 1 0 l0_1.length]), (1, .slc 2 [] 0 5 0 l1.length)]) (rs := rsL [(0, some ⟨false, 2, 0, (l0_0.map e105)⟩), (1, some ⟨false, 1, 0, (l0_1.map (eL 5 false (e87 false)))⟩), (2, some ⟨false, 5, 0, (l1.map (e87 false))⟩)]) (nx := 3) (ow := [false, false, false]) rfl (by rfl) (by simp only [SN]) (by simp only [SN]) (by decide) ?_
  show W env impl_HistAdd.B _ (Qf [.cell 4 (some 2), .t 5] [false, false, false] _)
  unfold impl_HistAdd.B
  obtain ⟨bt1, e1, H⟩ := bnd_some H
  have e1 := impl_histCopy.link e1
  obtain ⟨t2, e2, H⟩ := bnd_some H
  have e2 := impl_Joined.link e2
  simp only [List.map_nil] at e2
  obtain ⟨h3, H⟩ := ite_no H
  have h4 : (bt1.2.length + 1) * 24 ≤ 140737488355328 := by omega
  obtain ⟨_, hy5, H⟩ := some_bnd H; subst hy5
  obtain ⟨t3, e6, H⟩ := bnd_some H
  have e6 := impl_HistOk.link e6
  try simp only [TN, simprocAttr, e1, e2, h3, h4, e6]
  rcases ite_b H with ⟨h7, H⟩ | ⟨h7, H⟩
  · skip
    injection H with H; subst H
    try simp only [TN, simprocAttr, e1, e2, h3, h4, e6, h7]
    try rfl
  · skip
    injection H with H; subst H
    try simp only [TN, simprocAttr, e1, e2, h3, h4, e6, h7]
    try rfl
end Go.Proofs.Ytinlbiphjgpmmaa.P
end YtinlbiphjgpmmaaL24
section YtinlbiphjgpmmaaL94
namespace Go.Proofs.Ytinlbiphjgpmmaa.P
open Go Go.RowKit Go.Proofs.Ytinlbiphjgpmmaa.V
set_option linter.unusedVariables false
set_option linter.unusedSimpArgs false
set_option linter.all false
set_option maxRecDepth 100000
/-! ### laws_eqNode: function 94 -/
def laws_eqNode.f (a0_0 : Int) (a0_1 : Int) (a1_0 : Int) (a1_1 : Int) : Option Bool := if a0_0 = a1_0 then (if a0_1 = a1_1 then (some true) else (some false)) else (some false)
set_option maxHeartbeats 4000000 in
theorem laws_eqNode.link {a0_0 : Int} {a0_1 : Int} {a1_0 : Int} {a1_1 : Int} {r : Bool} (H : laws_eqNode.f a0_0 a0_1 a1_0 a1_1 = some r) : callW env 94 [.agg [.i .i64 a0_0, .i .i64 a0_1], .agg [.i .i64 a1_0, .i .i64 a1_1]] = some ([.b r], []) := by
  unfold laws_eqNode.f at H
  refine callW_fn' (F := laws_eqNode.F) (tm := tmOf [(0, .agg [.i .i64 a0_0, .i .i64 a0_1]), (1, .agg [.i .i64 a1_0, .i .i64 a1_1])]) (rs := rsL []) (nx := 0) (ow := []) rfl (by rfl) (by simp only [SN]) (by simp only [SN]) (by decide) ?_
  show W env laws_eqNode.B _ (Qf [.t 4] [] _)
  unfold laws_eqNode.B
  try simp only [TN, simprocAttr]
  rcases ite_or H with ⟨h1, H⟩ | ⟨h1, H⟩
  · skip
    try simp only [TN, simprocAttr, eq_true h1]
    rcases ite_or H with ⟨h2, H⟩ | ⟨h2, H⟩
    · skip
      injection H with H; subst H
      try simp only [TN, simprocAttr, eq_true h1, eq_true h2]
      try rfl
    · skip
      injection H with H; subst H
      try simp only [TN, simprocAttr, eq_true h1, h2]
      try rfl
  · skip
    injection H with H; subst H
    try simp only [TN, simprocAttr, h1]
    try rfl
end Go.Proofs.Ytinlbiphjgpmmaa.P
end YtinlbiphjgpmmaaL94
section YtinlbiphjgpmmaaL57
namespace Go.Proofs.Ytinlbiphjgpmmaa.P
open Go Go.RowKit Go.Proofs.Ytinlbiphjgpmmaa.V
set_option linter.unusedVariables false
set_option linter.unusedSimpArgs false
set_option linter.all false
set_option maxRecDepth 100000
/-! ### laws_eqNodeS: function 57 -/
def laws_eqNodeS.l0 : Nat → (List S105) → (List S105) → Int → Option Bool
 | 0, _, _, _ => none
 | k + 1, l0, l1, x5 => if x5 < (l0.length : Int) then (if 0 ≤ x5 then (if x5 < (l1.length : Int) then ((laws_eqNode.f ((rd_T105 l0 x5).f0) ((rd_T105 l0 x5).f1) ((rd_T105 l1 x5).f0) ((rd_T105 l1 x5).f1)).bind fun t1 => (if t1 = true then (laws_eqNodeS.l0 k l0 l1 (wrap64 (x5 + 1))) else (some false))) else none) else none) else (some true)
def laws_eqNodeS.f (k : Nat) (l0 : List S105) (l1 : List S105) : Option Bool := if (l0.length : Int) = (l1.length : Int) then (laws_eqNodeS.l0 k l0 l1 0) else (some false)
def laws_eqNodeS.P0 (k : Nat) : Prop := ∀ (l0 : List S105) (l1 : List S105) (x5 : Int) (r : Bool), laws_eqNodeS.l0 k l0 l1 x5 = some r → ∀ st, canon 2 [0, 1, 5] st = ⟨tmOf [(0, .slc 0 [] 0 2 0 l0.length), (1, .slc 1 [] 0 2 0 l1.length), (5, .i .i64 x5)], rsL [(0, some ⟨false, 2, 0, (l0.map e105)⟩), (1, some ⟨false, 2, 0, (l1.map e105)⟩)], 2⟩ → W env laws_eqNodeS.c1 st (Qb 0 (Qs env laws_eqNodeS.c0 (Qf [.t 4] [false, false] ([.b r], [none, none]))))
set_option maxHeartbeats 4000000 in
theorem laws_eqNodeS.s0 (k : Nat) (ih : laws_eqNodeS.P0 k) : laws_eqNodeS.P0 (k + 1) := by
  intro l0 l1 x5 r H st hst
  rw [laws_eqNodeS.l0] at H
  rw [W_loopc (show laws_eqNodeS.c1 = C.loop 2 [0, 1, 5] laws_eqNodeS.d1 from rfl), hst]
  unfold laws_eqNodeS.d1
  try simp only [TN, simprocAttr, laws_eqNodeS.c0]
  rcases ite_or H with ⟨h1, H⟩ | ⟨h1, H⟩
  · skip
    obtain ⟨h2, H⟩ := ite_no H
    obtain ⟨h3, H⟩ := ite_no H
    obtain ⟨t1, e4, H⟩ := bnd_some H
    have e4 := laws_eqNode.link e4
    try simp only [TN, simprocAttr, laws_eqNodeS.c0, h1, h2, h3, e4]
    rcases ite_b H with ⟨h5, H⟩ | ⟨h5, H⟩
    · skip
      try simp only [TN, simprocAttr, laws_eqNodeS.c0, h1, h2, h3, e4, h5]
      refine ih _ _ _ _ H _ ?_
      first | (rw [canon_eq]; done) | (rw [canon_eq]; rfl) | (rw [canon_eq]; simp only [List.length_set, List.length_append, List.length_replicate]; rfl)
    · skip
      injection H with H; subst H
      try simp only [TN, simprocAttr, laws_eqNodeS.c0, h1, h2, h3, e4, h5]
      try rfl
  · skip
    injection H with H; subst H
    try simp only [TN, simprocAttr, laws_eqNodeS.c0, h1]
    try rfl
theorem laws_eqNodeS.w : ∀ k, laws_eqNodeS.P0 k := by
  intro k
  induction k with
  | zero => exact by intro l0 l1 x5 r H; cases (show (none : Option Bool) = some r from H)
  | succ k ih => exact laws_eqNodeS.s0 k ih
set_option maxHeartbeats 4000000 in
theorem laws_eqNodeS.link {k : Nat} {l0 : List S105} {l1 : List S105} {r : Bool} (H : laws_eqNodeS.f k l0 l1 = some r) : callW env 57 [.deep false true 2 (l0.map e105), .deep false true 2 (l1.map e105)] = some ([.b r], [none, none]) := by
  unfold laws_eqNodeS.f at H
  refine callW_fn' (F := laws_eqNodeS.F) (tm := tmOf [(0, .slc 0 [] 0 2 0 l0.length), (1, .slc 1 [] 0 2 0 l1.length)]) (rs := rsL [(0, some ⟨false, 2, 0, (l0.map e105)⟩), (1, some ⟨false, 2, 0, (l1.map e105)⟩)]) (nx := 2) (ow := [false, false]) rfl (by rfl) (by simp only [SN]) (by simp only [SN]) (by decide) ?_
  show W env laws_eqNodeS.B _ (Qf [.t 4] [false, false] _)
  unfold laws_eqNodeS.B
  try simp only [TN, simprocAttr, laws_eqNodeS.c0]
  rcases ite_or H with ⟨h1, H⟩ | ⟨h1, H⟩
  · skip
    try simp only [TN, simprocAttr, laws_eqNodeS.c0, eq_true h1]
    refine (laws_eqNodeS.w k) _ _ _ _ H _ ?_
    first | (rw [canon_eq]; done) | (rw [canon_eq]; rfl) | (rw [canon_eq]; simp only [List.length_set, List.length_append, List.length_replicate]; rfl)
  · skip
    injection H with H; subst H
    try simp only [TN, simprocAttr, laws_eqNodeS.c0, h1]
    try rfl
end Go.Proofs.Ytinlbiphjgpmmaa.P
end YtinlbiphjgpmmaaL57
section YtinlbiphjgpmmaaL95
namespace Go.Proofs.Ytinlbiphjgpmmaa.P
open Go Go.RowKit Go.Proofs.Ytinlbiphjgpmmaa.V
set_option linter.unusedVariables false
set_option linter.unusedSimpArgs false
set_option linter.all false
set_option maxRecDepth 100000
/-! ### laws_eqIntS: function 95 -/
def laws_eqIntS.l0 : Nat → (List Int) → (List Int) → Int → Option Bool
 | 0, _, _, _ => none
 | k + 1, l0, l1, x5 => if x5 < (l0.length : Int) then (if 0 ≤ x5 then (if x5 < (l1.length : Int) then (if (rd l0 x5) = (rd l1 x5) then (laws_eqIntS.l0 k l0 l1 (wrap64 (x5 + 1))) else (some false)) else none) else none) else (some true)
def laws_eqIntS.f (k : Nat) (l0 : List Int) (l1 : List Int) : Option Bool := if (l0.length : Int) = (l1.length : Int) then (laws_eqIntS.l0 k l0 l1 0) else (some false)
def laws_eqIntS.P0 (k : Nat) : Prop := ∀ (l0 : List Int) (l1 : List Int) (x5 : Int) (r : Bool), laws_eqIntS.l0 k l0 l1 x5 = some r → ∀ st, canon 2 [0, 1, 5] st = ⟨tmOf [(0, .slc 0 [] 0 1 0 l0.length), (1, .slc 1 [] 0 1 0 l1.length), (5, .i .i64 x5)], rsL [(0, some ⟨false, 1, 0, (l0.map eI)⟩), (1, some ⟨false, 1, 0, (l1.map eI)⟩)], 2⟩ → W env laws_eqIntS.c1 st (Qb 0 (Qs env laws_eqIntS.c0 (Qf [.t 4] [false, false] ([.b r], [none, none]))))
set_option maxHeartbeats 4000000 in
theorem laws_eqIntS.s0 (k : Nat) (ih : laws_eqIntS.P0 k) : laws_eqIntS.P0 (k + 1) := by
  intro l0 l1 x5 r H st hst
  rw [laws_eqIntS.l0] at H
  rw [W_loopc (show laws_eqIntS.c1 = C.loop 2 [0, 1, 5] laws_eqIntS.d1 from rfl), hst]
  unfold laws_eqIntS.d1
  try simp only [TN, simprocAttr, laws_eqIntS.c0]
  rcases ite_or H with ⟨h1, H⟩ | ⟨h1, H⟩
  · skip
    obtain ⟨h2, H⟩ := ite_no H
    obtain ⟨h3, H⟩ := ite_no H
    try simp only [TN, simprocAttr, laws_eqIntS.c0, h1, h2, h3]
    rcases ite_or H with ⟨h4, H⟩ | ⟨h4, H⟩
    · skip
      try simp only [TN, simprocAttr, laws_eqIntS.c0, h1, h2, h3, eq_true h4]
      refine ih _ _ _ _ H _ ?_
      first | (rw [canon_eq]; done) | (rw [canon_eq]; rfl) | (rw [canon_eq]; simp only [List.length_set, List.length_append, List.length_replicate]; rfl)
    · skip
      injection H with H; subst H
      try simp only [TN, simprocAttr, laws_eqIntS.c0, h1, h2, h3, h4]
      try rfl
  · skip
    injection H with H; subst H
    try simp only [TN, simprocAttr, laws_eqIntS.c0, h1]
    try rfl
theorem laws_eqIntS.w : ∀ k, laws_eqIntS.P0 k := by
  intro k
  induction k with
  | zero => exact by intro l0 l1 x5 r H; cases (show (none : Option Bool) = some r from H)
  | succ k ih => exact laws_eqIntS.s0 k ih
set_option maxHeartbeats 4000000 in
theorem laws_eqIntS.link {k : Nat} {l0 : List Int} {l1 : List Int} {r : Bool} (H : laws_eqIntS.f k l0 l1 = some r) : callW env 95 [.deep false true 1 (l0.map eI), .deep false true 1 (l1.map eI)] = some ([.b r], [none, none]) := by
  unfold laws_eqIntS.f at H
  refine callW_fn' (F := laws_eqIntS.F) (tm := tmOf [(0, .slc 0 [] 0 1 0 l0.length), (1, .slc 1 [] 0 1 0 l1.length)]) (rs := rsL [(0, some ⟨false, 1, 0, (l0.map eI)⟩), (1, some ⟨false, 1, 0, (l1.map eI)⟩)]) (nx := 2) (ow := [false, false]) rfl (by rfl) (by simp only [SN]) (by simp only [SN]) (by decide) ?_
  show W env laws_eqIntS.B _ (Qf [.t 4] [false, false] _)
  unfold laws_eqIntS.B
  try simp only [TN, simprocAttr, laws_eqIntS.c0]
  rcases ite_or H with ⟨h1, H⟩ | ⟨h1, H⟩
  · skip
    try simp only [TN, simprocAttr, laws_eqIntS.c0, eq_true h1]
    refine (laws_eqIntS.w k) _ _ _ _ H _ ?_
    first | (rw [canon_eq]; done) | (rw [canon_eq]; rfl) | (rw [canon_eq]; simp only [List.length_set, List.length_append, List.length_replicate]; rfl)
  · skip
    injection H with H; subst H
    try simp only [TN, simprocAttr, laws_eqIntS.c0, h1]
    try rfl
end Go.Proofs.Ytinlbiphjgpmmaa.P
end YtinlbiphjgpmmaaL95
section YtinlbiphjgpmmaaL59
namespace Go.Proofs.Ytinlbiphjgpmmaa.P
open Go Go.RowKit Go.Proofs.Ytinlbiphjgpmmaa.V
set_option linter.unusedVariables false
set_option linter.unusedSimpArgs false
set_option linter.all false
set_option maxRecDepth 100000
/-! ### laws_eqOp: function 59 -/
def laws_eqOp.f (k : Nat) (a0_0 : Int) (l0_1 : List Int) (a0_2 : Int) (a0_3 : Int) (a0_4 : Int) (a1_0 : Int) (l1_1 : List Int) (a1_2 : Int) (a1_3 : Int) (a1_4 : Int) : Option Bool := if a0_0 = a1_0 then ((laws_eqIntS.f k l0_1 l1_1).bind fun t1 => (if t1 = true then (if a0_2 = a1_2 then (if a0_3 = a1_3 then (if a0_4 = a1_4 then (some true) else (some false)) else (some false)) else (some false)) else (some false))) else (some false)
set_option maxHeartbeats 4000000 in
theorem laws_eqOp.link {k : Nat} {a0_0 : Int} {l0_1 : List Int} {a0_2 : Int} {a0_3 : Int} {a0_4 : Int} {a1_0 : Int} {l1_1 : List Int} {a1_2 : Int} {a1_3 : Int} {a1_4 : Int} {r : Bool} (H : laws_eqOp.f k a0_0 l0_1 a0_2 a0_3 a0_4 a1_0 l1_1 a1_2 a1_3 a1_4 = some r) : callW env 59 [.agg [.i .i64 a0_0, .deep false true 1 (l0_1.map eI), .i .i64 a0_2, .i .i64 a0_3, .i .i64 a0_4], .agg [.i .i64 a1_0, .deep false true 1 (l1_1.map eI), .i .i64 a1_2, .i .i64 a1_3, .i .i64 a1_4]] = some ([.b r], [none, none]) := by
  unfold laws_eqOp.f at H
  refine callW_fn' (F := laws_eqOp.F) (tm := tmOf [(0, .agg [.i .i64 a0_0, .slc 0 [] 0 1 0 l0_1.length, .i .i64 a0_2, .i .i64 a0_3, .i .i64 a0_4]), (1, .agg [.i .i64 a1_0, .slc 1 [] 0 1 0 l1_1.length, .i .i64 a1_2, .i .i64 a1_3, .i .i64 a1_4])]) (rs := rsL [(0, some ⟨false, 1, 0, (l0_1.map eI)⟩), (1, some ⟨false, 1, 0, (l1_1.map eI)⟩)]) (nx := 2) (ow := [false, false]) rfl (by rfl) (by simp only [SN]) (by simp only [SN]) (by decide) ?_
  show W env laws_eqOp.B _ (Qf [.t 4] [false, false] _)
  unfold laws_eqOp.B
  try simp only [TN, simprocAttr]
  rcases ite_or H with ⟨h1, H⟩ | ⟨h1, H⟩
  · skip
    obtain ⟨t1, e2, H⟩ := bnd_some H
    have e2 := laws_eqIntS.link e2
    try simp only [TN, simprocAttr, eq_true h1, e2]
    rcases ite_b H with ⟨h3, H⟩ | ⟨h3, H⟩
    · skip
      try simp only [TN, simprocAttr, eq_true h1, e2, h3]
      rcases ite_or H with ⟨h4, H⟩ | ⟨h4, H⟩
      · skip
        try simp only [TN, simprocAttr, eq_true h1, e2, h3, eq_true h4]
        rcases ite_or H with ⟨h5, H⟩ | ⟨h5, H⟩
        · skip
          try simp only [TN, simprocAttr, eq_true h1, e2, h3, eq_true h4, eq_true h5]
          rcases ite_or H with ⟨h6, H⟩ | ⟨h6, H⟩
          · skip
            injection H with H; subst H
            try simp only [TN, simprocAttr, eq_true h1, e2, h3, eq_true h4, eq_true h5, eq_true h6]
            try rfl
          · skip
            injection H with H; subst H
            try simp only [TN, simprocAttr, eq_true h1, e2, h3, eq_true h4, eq_true h5, h6]
            try rfl
        · skip
          injection H with H; subst H
          try simp only [TN, simprocAttr, eq_true h1, e2, h3, eq_true h4, h5]
          try rfl
      · skip
        injection H with H; subst H
        try simp only [TN, simprocAttr, eq_true h1, e2, h3, h4]
        try rfl
    · skip
      injection H with H; subst H
      try simp only [TN, simprocAttr, eq_true h1, e2, h3]
      try rfl
  · skip
    injection H with H; subst H
    try simp only [TN, simprocAttr, h1]
    try rfl
end Go.Proofs.Ytinlbiphjgpmmaa.P
end YtinlbiphjgpmmaaL59
section YtinlbiphjgpmmaaL26
namespace Go.Proofs.Ytinlbiphjgpmmaa.P
open Go Go.RowKit Go.Proofs.Ytinlbiphjgpmmaa.V
set_option linter.unusedVariables false
set_option linter.unusedSimpArgs false
set_option linter.all false
set_option maxRecDepth 100000
/-! ### laws_eqOpS: function 26 -/
def laws_eqOpS.l0 : Nat → (List S87) → (List S87) → Int → Option Bool
 | 0, _, _, _ => none
 | k + 1, l0, l1, x5 => if x5 < (l0.length : Int) then (if 0 ≤ x5 then (if x5 < (l1.length : Int) then ((laws_eqOp.f k ((rd_T87 l0 x5).f0) ((rd_T87 l0 x5).f1) ((rd_T87 l0 x5).f2) ((rd_T87 l0 x5).f3) ((rd_T87 l0 x5).f4) ((rd_T87 l1 x5).f0) ((rd_T87 l1 x5).f1) ((rd_T87 l1 x5).f2) ((rd_T87 l1 x5).f3) ((rd_T87 l1 x5).f4)).bind fun t1 => (if t1 = true then (laws_eqOpS.l0 k l0 l1 (wrap64 (x5 + 1))) else (some false))) else none) else none) else (some true)
def laws_eqOpS.f (k : Nat) (l0 : List S87) (l1 : List S87) : Option Bool := if (l0.length : Int) = (l1.length : Int) then (laws_eqOpS.l0 k l0 l1 0) else (some false)
def laws_eqOpS.P0 (k : Nat) : Prop := ∀ (l0 : List S87) (l1 : List S87) (x5 : Int) (r : Bool), laws_eqOpS.l0 k l0 l1 x5 = some r → ∀ st, canon 2 [0, 1, 5] st = ⟨tmOf [(0, .slc 0 [] 0 5 0 l0.length), (1, .slc 1 [] 0 5 0 l1.length), (5, .i .i64 x5)], rsL [(0, some ⟨false, 5, 0, (l0.map (e87 false))⟩), (1, some ⟨false, 5, 0, (l1.map (e87 false))⟩)], 2⟩ → W env laws_eqOpS.c1 st (Qb 0 (Qs env laws_eqOpS.c0 (Qf [.t 4] [false, false] ([.b r], [none, none]))))
set_option maxHeartbeats 4000000 in
theorem laws_eqOpS.s0 (k : Nat) (ih : laws_eqOpS.P0 k) : laws_eqOpS.P0 (k + 1) := by
  intro l0 l1 x5 r H st hst
  rw [laws_eqOpS.l0] at H
  rw [W_loopc (show laws_eqOpS.c1 = C.loop 2 [0, 1, 5] laws_eqOpS.d1 from rfl), hst]
  unfold laws_eqOpS.d1
  try simp only [TN, simprocAttr, laws_eqOpS.c0]
  rcases ite_or H with ⟨h1, H⟩ | ⟨h1, H⟩
  · skip
    obtain ⟨h2, H⟩ := ite_no H
    obtain ⟨h3, H⟩ := ite_no H
    obtain ⟨t1, e4, H⟩ := bnd_some H
    have e4 := laws_eqOp.link e4
    try simp only [TN, simprocAttr, laws_eqOpS.c0, h1, h2, h3, e4]
    rcases ite_b H with ⟨h5, H⟩ | ⟨h5, H⟩
    · skip
      try simp only [TN, simprocAttr, laws_eqOpS.c0, h1, h2, h3, e4, h5]
      refine ih _ _ _ _ H _ ?_
      first | (rw [canon_eq]; done) | (rw [canon_eq]; rfl) | (rw [canon_eq]; simp only [List.length_set, List.length_append, List.length_replicate]; rfl)
    · skip
      injection H with H; subst H
      try simp only [TN, simprocAttr, laws_eqOpS.c0, h1, h2, h3, e4, h5]
      try rfl
  · skip
    injection H with H; subst H
    try simp only [TN, simprocAttr, laws_eqOpS.c0, h1]
    try rfl
theorem laws_eqOpS.w : ∀ k, laws_eqOpS.P0 k := by
  intro k
  induction k with
  | zero => exact by intro l0 l1 x5 r H; cases (show (none : Option Bool) = some r from H)
  | succ k ih => exact laws_eqOpS.s0 k ih
set_option maxHeartbeats 4000000 in
theorem laws_eqOpS.link {k : Nat} {l0 : List S87} {l1 : List S87} {r : Bool} (H : laws_eqOpS.f k l0 l1 = some r) : callW env 26 [.deep false true 5 (l0.map (e87 false)), .deep false true 5 (l1.map (e87 false))] = some ([.b r], [none, none]) := by
  unfold laws_eqOpS.f at H
  refine callW_fn' (F := laws_eqOpS.F) (tm := tmOf [(0, .slc 0 [] 0 5 0 l0.length), (1, .slc 1 [] 0 5 0 l1.length)]) (rs := rsL [(0, some ⟨false, 5, 0, (l0.map (e87 false))⟩), (1, some ⟨false, 5, 0, (l1.map (e87 false))⟩)]) (nx := 2) (ow := [false, false]) rfl (by rfl) (by simp only [SN]) (by simp only [SN]) (by decide) ?_
  show W env laws_eqOpS.B _ (Qf [.t 4] [false, false] _)
  unfold laws_eqOpS.B
  try simp only [TN, simprocAttr, laws_eqOpS.c0]
  rcases ite_or H with ⟨h1, H⟩ | ⟨h1, H⟩
  · skip
    try simp only [TN, simprocAttr, laws_eqOpS.c0, eq_true h1]
    refine (laws_eqOpS.w k) _ _ _ _ H _ ?_
    first | (rw [canon_eq]; done) | (rw [canon_eq]; rfl) | (rw [canon_eq]; simp only [List.length_set, List.length_append, List.length_replicate]; rfl)
  · skip
    injection H with H; subst H
    try simp only [TN, simprocAttr, laws_eqOpS.c0, h1]
    try rfl
end Go.Proofs.Ytinlbiphjgpmmaa.P
end YtinlbiphjgpmmaaL26
section YtinlbiphjgpmmaaL58
namespace Go.Proofs.Ytinlbiphjgpmmaa.P
open Go Go.RowKit Go.Proofs.Ytinlbiphjgpmmaa.V
set_option linter.unusedVariables false
set_option linter.unusedSimpArgs false
set_option linter.all false
set_option maxRecDepth 100000
/-! ### laws_eqOpSS: function 58 -/
def laws_eqOpSS.l0 : Nat → (List (List S87)) → (List (List S87)) → Int → Option Bool
 | 0, _, _, _ => none
 | k + 1, l0, l1, x5 => if x5 < (l0.length : Int) then (if 0 ≤ x5 then (if x5 < (l1.length : Int) then ((laws_eqOpS.f k (rdL l0 x5) (rdL l1 x5)).bind fun t1 => (if t1 = true then (laws_eqOpSS.l0 k l0 l1 (wrap64 (x5 + 1))) else (some false))) else none) else none) else (some true)
def laws_eqOpSS.f (k : Nat) (l0 : List (List S87)) (l1 : List (List S87)) : Option Bool := if (l0.length : Int) = (l1.length : Int) then (laws_eqOpSS.l0 k l0 l1 0) else (some false)
def laws_eqOpSS.P0 (k : Nat) : Prop := ∀ (l0 : List (List S87)) (l1 : List (List S87)) (x5 : Int) (r : Bool), laws_eqOpSS.l0 k l0 l1 x5 = some r → ∀ st, canon 2 [0, 1, 5] st = ⟨tmOf [(0, .slc 0 [] 0 1 0 l0.length), (1, .slc 1 [] 0 1 0 l1.length), (5, .i .i64 x5)], rsL [(0, some ⟨false, 1, 0, (l0.map (eL 5 false (e87 false)))⟩), (1, some ⟨false, 1, 0, (l1.map (eL 5 false (e87 false)))⟩)], 2⟩ → W env laws_eqOpSS.c1 st (Qb 0 (Qs env laws_eqOpSS.c0 (Qf [.t 4] [false, false] ([.b r], [none, none]))))
set_option maxHeartbeats 4000000 in
theorem laws_eqOpSS.s0 (k : Nat) (ih : laws_eqOpSS.P0 k) : laws_eqOpSS.P0 (k + 1) := by
  intro l0 l1 x5 r H st hst
  rw [laws_eqOpSS.l0] at H
  rw [W_loopc (show laws_eqOpSS.c1 = C.loop 2 [0, 1, 5] laws_eqOpSS.d1 from rfl), hst]
  unfold laws_eqOpSS.d1
  try simp only [TN, simprocAttr, laws_eqOpSS.c0]
  rcases ite_or H with ⟨h1, H⟩ | ⟨h1, H⟩
  · skip
    obtain ⟨h2, H⟩ := ite_no H
    obtain ⟨h3, H⟩ := ite_no H
    obtain ⟨t1, e4, H⟩ := bnd_some H
    have e4 := laws_eqOpS.link e4
    try simp only [TN, simprocAttr, laws_eqOpSS.c0, h1, h2, h3, e4]
    rcases ite_b H with ⟨h5, H⟩ | ⟨h5, H⟩
    · skip
      try simp only [TN, simprocAttr, laws_eqOpSS.c0, h1, h2, h3, e4, h5]
      refine ih _ _ _ _ H _ ?_
      first | (rw [canon_eq]; done) | (rw [canon_eq]; rfl) | (rw [canon_eq]; simp only [List.length_set, List.length_append, List.length_replicate]; rfl)
    · skip
      injection H with H; subst H
      try simp only [TN, simprocAttr, laws_eqOpSS.c0, h1, h2, h3, e4, h5]
      try rfl
  · skip
    injection H with H; subst H
    try simp only [TN, simprocAttr, laws_eqOpSS.c0, h1]
    try rfl
theorem laws_eqOpSS.w : ∀ k, laws_eqOpSS.P0 k := by
  intro k
  induction k with
  | zero => exact by intro l0 l1 x5 r H; cases (show (none : Option Bool) = some r from H)
  | succ k ih => exact laws_eqOpSS.s0 k ih
set_option maxHeartbeats 4000000 in
theorem laws_eqOpSS.link {k : Nat} {l0 : List (List S87)} {l1 : List (List S87)} {r : Bool} (H : laws_eqOpSS.f k l0 l1 = some r) : callW env 58 [.deep false true 1 (l0.map (eL 5 false (e87 false))), .deep false true 1 (l1.map (eL 5 false (e87 false)))] = some ([.b r], [none, none]) := by
  unfold laws_eqOpSS.f at H
  refine callW_fn' (F := laws_eqOpSS.F) (tm := tmOf [(0, .slc 0 [] 0 1 0 l0.length), (1, .slc 1 [] 0 1 0 l1.length)]) (rs := rsL [(0, some ⟨false, 1, 0, (l0.map (eL 5 false (e87 false)))⟩), (1, some ⟨false, 1, 0, (l1.map (eL 5 false (e87 false)))⟩)]) (nx := 2) (ow := [false, false]) rfl (by rfl) (by simp only [SN]) (by simp only [SN]) (by decide) ?_
  show W env laws_eqOpSS.B _ (Qf [.t 4] [false, false] _)
  unfold laws_eqOpSS.B
  try simp only [TN, simprocAttr, laws_eqOpSS.c0]
  rcases ite_or H with ⟨h1, H⟩ | ⟨h1, H⟩
  · skip
    try simp only [TN, simprocAttr, laws_eqOpSS.c0, eq_true h1]
    refine (laws_eqOpSS.w k) _ _ _ _ H _ ?_
    first | (rw [canon_eq]; done) | (rw [canon_eq]; rfl) | (rw [canon_eq]; simp only [List.length_set, List.length_append, List.length_replicate]; rfl)
  · skip
    injection H with H; subst H
    try simp only [TN, simprocAttr, laws_eqOpSS.c0, h1]
    try rfl
end Go.Proofs.Ytinlbiphjgpmmaa.P
end YtinlbiphjgpmmaaL58
section YtinlbiphjgpmmaaL25
namespace Go.Proofs.Ytinlbiphjgpmmaa.P
open Go Go.RowKit Go.Proofs.Ytinlbiphjgpmmaa.V
set_option linter.unusedVariables false
set_option linter.unusedSimpArgs false
set_option linter.all false
set_option maxRecDepth 100000
/-! ### laws_eqHist: function 25 -/
def laws_eqHist.f (k : Nat) (l0_0 : List S105) (l0_1 : List (List S87)) (l1_0 : List S105) (l1_1 : List (List S87)) : Option Bool := (laws_eqNodeS.f k l0_0 l1_0).bind fun t1 => (if t1 = true then ((laws_eqOpSS.f k l0_1 l1_1).bind fun t2 => (if t2 = true then (some true) else (some false))) else (some false))
set_option maxHeartbeats 4000000 in
theorem laws_eqHist.link {k : Nat} {l0_0 : List S105} {l0_1 : List (List S87)} {l1_0 : List S105} {l1_1 : List (List S87)} {r : Bool} (H : laws_eqHist.f k l0_0 l0_1 l1_0 l1_1 = some r) : callW env 25 [.agg [.deep false true 2 (l0_0.map e105), .deep false true 1 (l0_1.map (eL 5 false (e87 false)))], .agg [.deep false true 2 (l1_0.map e105), .deep false true 1 (l1_1.map (eL 5 false (e87 false)))]] = some ([.b r], [none, none, none, none]) := by
  unfold laws_eqHist.f at H
  refine callW_fn' (F := laws_eqHist.F) (tm := tmOf [(0, .agg [.slc 0 [] 0 2 0 l0_0.length, .slc 1 [] 0 1 0 l0_1.length]), (1, .agg [.slc 2 [] 0 2 0 l1_0.length, .slc 3 [] 0 1 0 l1_1.length])]) (rs := rsL [(0, some ⟨false, 2, 0, (l0_0.map e105)⟩), (1, some ⟨false, 1, 0, (l0_1.map (eL 5 false (e87 false)))⟩), (2, some ⟨false, 2, 0, (l1_0.map e105)⟩), (3, some ⟨false, 1, 0, (l1_1.map (eL 5 false (e87 false)))⟩)]) (nx := 4) (ow := [false, false, false, false]) rfl (by rfl) (by simp only [SN]) (by simp only [SN]) (by decide) ?_
  show W env laws_eqHist.B _ (Qf [.t 4] [false, false, false, false] _)
  unfold laws_eqHist.B
  obtain ⟨t1, e1, H⟩ := bnd_some H
  have e1 := laws_eqNodeS.link e1
  try simp only [TN, simprocAttr, e1]
  rcases ite_b H with ⟨h2, H⟩ | ⟨h2, H⟩
  · skip
    obtain ⟨t2, e3, H⟩ := bnd_some H
    have e3 := laws_eqOpSS.link e3
    try simp only [TN, simprocAttr, e1, h2, e3]
    rcases ite_b H with ⟨h4, H⟩ | ⟨h4, H⟩
    · skip
      injection H with H; subst H
      try simp only [TN, simprocAttr, e1, h2, e3, h4]
      try rfl
    · skip
      injection H with H; subst H
      try simp only [TN, simprocAttr, e1, h2, e3, h4]
      try rfl
  · skip
    injection H with H; subst H
    try simp only [TN, simprocAttr, e1, h2]
    try rfl
end Go.Proofs.Ytinlbiphjgpmmaa.P
end YtinlbiphjgpmmaaL25
section YtinlbiphjgpmmaaL60
namespace Go.Proofs.Ytinlbiphjgpmmaa.P
open Go Go.RowKit Go.Proofs.Ytinlbiphjgpmmaa.V
set_option linter.unusedVariables false
set_option linter.unusedSimpArgs false
set_option linter.all false
set_option maxRecDepth 100000
/-! ### laws_markNodeS: function 60 -/
def laws_markNodeS.l0 : Nat → (List S105) → Int → Int → Option (Int × (List S105))
 | 0, _, _, _ => none
 | k + 1, l0, a1, x5 => if x5 < (l0.length : Int) then (if 0 ≤ x5 then ((some (l0.set (x5 : Int).toNat (⟨a1, (rd_T105 l0 x5).f1⟩ : S105) : List S105)).bind fun y0 => (laws_markNodeS.l0 k (y0.set (x5 : Int).toNat (⟨(rd_T105 y0 x5).f0, wrap64 (a1 + 1)⟩ : S105)) (wrap64 ((wrap64 (a1 + 1)) + 1)) (wrap64 (x5 + 1)))) else none) else (some (a1, l0))
def laws_markNodeS.f (k : Nat) (l0 : List S105) (a1 : Int) : Option (Int × (List S105)) := laws_markNodeS.l0 k l0 a1 0
def laws_markNodeS.P0 (k : Nat) : Prop := ∀ (l0 : List S105) (a1 : Int) (x5 : Int) (r : Int × (List S105)), laws_markNodeS.l0 k l0 a1 x5 = some r → ∀ st, canon 1 [0, 1, 5] st = ⟨tmOf [(0, .slc 0 [] 0 2 0 l0.length), (1, .i .i64 a1), (5, .i .i64 x5)], rsL [(0, some ⟨true, 2, 0, (l0.map e105)⟩)], 1⟩ → W env laws_markNodeS.c1 st (Qb 0 (Qs env laws_markNodeS.c0 (Qf [.t 4] [true] ([.i .i64 r.1], [some (r.2.map e105)]))))
set_option maxHeartbeats 4000000 in
theorem laws_markNodeS.s0 (k : Nat) (ih : laws_markNodeS.P0 k) : laws_markNodeS.P0 (k + 1) := by
  intro l0 a1 x5 r H st hst
  rw [laws_markNodeS.l0] at H
  rw [W_loopc (show laws_markNodeS.c1 = C.loop 1 [0, 1, 5] laws_markNodeS.d1 from rfl), hst]
  unfold laws_markNodeS.d1
  try simp only [TN, simprocAttr, laws_markNodeS.c0]
  rcases ite_or H with ⟨h1, H⟩ | ⟨h1, H⟩
  · skip
    obtain ⟨h2, H⟩ := ite_no H
    obtain ⟨_, hy3, H⟩ := some_bnd H; subst hy3
    try simp only [TN, simprocAttr, laws_markNodeS.c0, h1, h2]
    refine ih _ _ _ _ H _ ?_
    first | (rw [canon_eq]; done) | (rw [canon_eq]; rfl) | (rw [canon_eq]; simp only [List.length_set, List.length_append, List.length_replicate]; rfl)
  · skip
    injection H with H; subst H
    try simp only [TN, simprocAttr, laws_markNodeS.c0, h1]
    try rfl
theorem laws_markNodeS.w : ∀ k, laws_markNodeS.P0 k := by
  intro k
  induction k with
  | zero => exact by intro l0 a1 x5 r H; cases (show (none : Option (Int × (List S105))) = some r from H)
  | succ k ih => exact laws_markNodeS.s0 k ih
set_option maxHeartbeats 4000000 in
theorem laws_markNodeS.link {k : Nat} {l0 : List S105} {a1 : Int} {r : Int × (List S105)} (H : laws_markNodeS.f k l0 a1 = some r) : callW env 60 [.deep false false 2 (l0.map e105), .i .i64 a1] = some ([.i .i64 r.1], [some (r.2.map e105)]) := by
  unfold laws_markNodeS.f at H
  refine callW_fn' (F := laws_markNodeS.F) (tm := tmOf [(0, .slc 0 [] 0 2 0 l0.length), (1, .i .i64 a1)]) (rs := rsL [(0, some ⟨true, 2, 0, (l0.map e105)⟩)]) (nx := 1) (ow := [true]) rfl (by rfl) (by simp only [SN]) (by simp only [SN]) (by decide) ?_
  show W env laws_markNodeS.B _ (Qf [.t 4] [true] _)
  unfold laws_markNodeS.B
  try simp only [TN, simprocAttr, laws_markNodeS.c0]
  refine (laws_markNodeS.w k) _ _ _ _ H _ ?_
  first | (rw [canon_eq]; done) | (rw [canon_eq]; rfl) | (rw [canon_eq]; simp only [List.length_set, List.length_append, List.length_replicate]; rfl)
end Go.Proofs.Ytinlbiphjgpmmaa.P
end YtinlbiphjgpmmaaL60
section YtinlbiphjgpmmaaL62
namespace Go.Proofs.Ytinlbiphjgpmmaa.P
open Go Go.RowKit Go.Proofs.Ytinlbiphjgpmmaa.V
set_option linter.unusedVariables false
set_option linter.unusedSimpArgs false
set_option linter.all false
set_option maxRecDepth 100000
/-! ### laws_markIntS: function 62 -/
def laws_markIntS.l0 : Nat → (List Int) → Int → Int → Option (Int × (List Int))
 | 0, _, _, _ => none
 | k + 1, l0, a1, x5 => if x5 < (l0.length : Int) then (if 0 ≤ x5 then (laws_markIntS.l0 k (l0.set (x5 : Int).toNat a1) (wrap64 (a1 + 1)) (wrap64 (x5 + 1))) else none) else (some (a1, l0))
def laws_markIntS.f (k : Nat) (l0 : List Int) (a1 : Int) : Option (Int × (List Int)) := laws_markIntS.l0 k l0 a1 0
def laws_markIntS.P0 (k : Nat) : Prop := ∀ (l0 : List Int) (a1 : Int) (x5 : Int) (r : Int × (List Int)), laws_markIntS.l0 k l0 a1 x5 = some r → ∀ st, canon 1 [0, 1, 5] st = ⟨tmOf [(0, .slc 0 [] 0 1 0 l0.length), (1, .i .i64 a1), (5, .i .i64 x5)], rsL [(0, some ⟨true, 1, 0, (l0.map eI)⟩)], 1⟩ → W env laws_markIntS.c1 st (Qb 0 (Qs env laws_markIntS.c0 (Qf [.t 4] [true] ([.i .i64 r.1], [some (r.2.map eI)]))))
set_option maxHeartbeats 4000000 in
theorem laws_markIntS.s0 (k : Nat) (ih : laws_markIntS.P0 k) : laws_markIntS.P0 (k + 1) := by
  intro l0 a1 x5 r H st hst
  rw [laws_markIntS.l0] at H
  rw [W_loopc (show laws_markIntS.c1 = C.loop 1 [0, 1, 5] laws_markIntS.d1 from rfl), hst]
  unfold laws_markIntS.d1
  try simp only [TN, simprocAttr, laws_markIntS.c0]
  rcases ite_or H with ⟨h1, H⟩ | ⟨h1, H⟩
  · skip
    obtain ⟨h2, H⟩ := ite_no H
    try simp only [TN, simprocAttr, laws_markIntS.c0, h1, h2]
    refine ih _ _ _ _ H _ ?_
    first | (rw [canon_eq]; done) | (rw [canon_eq]; rfl) | (rw [canon_eq]; simp only [List.length_set, List.length_append, List.length_replicate]; rfl)
  · skip
    injection H with H; subst H
    try simp only [TN, simprocAttr, laws_markIntS.c0, h1]
    try rfl
theorem laws_markIntS.w : ∀ k, laws_markIntS.P0 k := by
  intro k
  induction k with
  | zero => exact by intro l0 a1 x5 r H; cases (show (none : Option (Int × (List Int))) = some r from H)
  | succ k ih => exact laws_markIntS.s0 k ih
set_option maxHeartbeats 4000000 in
theorem laws_markIntS.link {k : Nat} {l0 : List Int} {a1 : Int} {r : Int × (List Int)} (H : laws_markIntS.f k l0 a1 = some r) : callW env 62 [.deep false false 1 (l0.map eI), .i .i64 a1] = some ([.i .i64 r.1], [some (r.2.map eI)]) := by
  unfold laws_markIntS.f at H
  refine callW_fn' (F := laws_markIntS.F) (tm := tmOf [(0, .slc 0 [] 0 1 0 l0.length), (1, .i .i64 a1)]) (rs := rsL [(0, some ⟨true, 1, 0, (l0.map eI)⟩)]) (nx := 1) (ow := [true]) rfl (by rfl) (by simp only [SN]) (by simp only [SN]) (by decide) ?_
  show W env laws_markIntS.B _ (Qf [.t 4] [true] _)
  unfold laws_markIntS.B
  try simp only [TN, simprocAttr, laws_markIntS.c0]
  refine (laws_markIntS.w k) _ _ _ _ H _ ?_
  first | (rw [canon_eq]; done) | (rw [canon_eq]; rfl) | (rw [canon_eq]; simp only [List.length_set, List.length_append, List.length_replicate]; rfl)
end Go.Proofs.Ytinlbiphjgpmmaa.P
end YtinlbiphjgpmmaaL62
section YtinlbiphjgpmmaaL28
namespace Go.Proofs.Ytinlbiphjgpmmaa.P
open Go Go.RowKit Go.Proofs.Ytinlbiphjgpmmaa.V
set_option linter.unusedVariables false
set_option linter.unusedSimpArgs false
set_option linter.all false
set_option maxRecDepth 100000
/-! ### laws_markOpS: function 28 -/
def laws_markOpS.l0 : Nat → (List S87) → Int → Int → Option (Int × (List S87))
 | 0, _, _, _ => none
 | k + 1, l0, a1, x5 => if x5 < (l0.length : Int) then (if 0 ≤ x5 then ((some (l0.set (x5 : Int).toNat (⟨a1, (rd_T87 l0 x5).f1, (rd_T87 l0 x5).f2, (rd_T87 l0 x5).f3, (rd_T87 l0 x5).f4⟩ : S87) : List S87)).bind fun y0 => ((laws_markIntS.f k ((rd_T87 y0 x5).f1) (wrap64 (a1 + 1))).bind fun bt1 => ((some (y0.set (x5 : Int).toNat (⟨(rd_T87 y0 x5).f0, bt1.2, (rd_T87 y0 x5).f2, (rd_T87 y0 x5).f3, (rd_T87 y0 x5).f4⟩ : S87) : List S87)).bind fun y1 => ((some (y1.set (x5 : Int).toNat (⟨(rd_T87 y1 x5).f0, (rd_T87 y1 x5).f1, bt1.1, (rd_T87 y1 x5).f3, (rd_T87 y1 x5).f4⟩ : S87) : List S87)).bind fun y2 => ((some (y2.set (x5 : Int).toNat (⟨(rd_T87 y2 x5).f0, (rd_T87 y2 x5).f1, (rd_T87 y2 x5).f2, wrap64 (bt1.1 + 1), (rd_T87 y2 x5).f4⟩ : S87) : List S87)).bind fun y3 => (laws_markOpS.l0 k (y3.set (x5 : Int).toNat (⟨(rd_T87 y3 x5).f0, (rd_T87 y3 x5).f1, (rd_T87 y3 x5).f2, (rd_T87 y3 x5).f3, wrap64 ((wrap64 (bt1.1 + 1)) + 1)⟩ : S87)) (wrap64 ((wrap64 ((wrap64 (bt1.1 + 1)) + 1)) + 1)) (wrap64 (x5 + 1)))))))) else none) else (some (a1, l0))
def laws_markOpS.f (k : Nat) (l0 : List S87) (a1 : Int) : Option (Int × (List S87)) := laws_markOpS.l0 k l0 a1 0
def laws_markOpS.P0 (k : Nat) : Prop := ∀ (l0 : List S87) (a1 : Int) (x5 : Int) (r : Int × (List S87)), laws_markOpS.l0 k l0 a1 x5 = some r → ∀ st, canon 1 [0, 1, 5] st = ⟨tmOf [(0, .slc 0 [] 0 5 0 l0.length), (1, .i .i64 a1), (5, .i .i64 x5)], rsL [(0, some ⟨true, 5, 0, (l0.map (e87 false))⟩)], 1⟩ → W env laws_markOpS.c1 st (Qb 0 (Qs env laws_markOpS.c0 (Qf [.t 4] [true] ([.i .i64 r.1], [some (r.2.map (e87 false))]))))
set_option maxHeartbeats 4000000 in
theorem laws_markOpS.s0 (k : Nat) (ih : laws_markOpS.P0 k) : laws_markOpS.P0 (k + 1) := by
  intro l0 a1 x5 r H st hst
  rw [laws_markOpS.l0] at H
  rw [W_loopc (show laws_markOpS.c1 = C.loop 1 [0, 1, 5] laws_markOpS.d1 from rfl), hst]
  unfold laws_markOpS.d1
  try simp only [TN, simprocAttr, laws_markOpS.c0]
  rcases ite_or H with ⟨h1, H⟩ | ⟨h1, H⟩
  · skip
    obtain ⟨h2, H⟩ := ite_no H
    obtain ⟨_, hy3, H⟩ := some_bnd H; subst hy3
    obtain ⟨bt1, e4, H⟩ := bnd_some H
    have e4 := laws_markIntS.link e4
    obtain ⟨_, hy5, H⟩ := some_bnd H; subst hy5
    obtain ⟨_, hy6, H⟩ := some_bnd H; subst hy6
    obtain ⟨_, hy7, H⟩ := some_bnd H; subst hy7
    try simp only [TN, simprocAttr, laws_markOpS.c0, h1, h2, e4]
    refine ih _ _ _ _ H _ ?_
    first | (rw [canon_eq]; done) | (rw [canon_eq]; rfl) | (rw [canon_eq]; simp only [List.length_set, List.length_append, List.length_replicate]; rfl)
  · skip
    injection H with H; subst H
    try simp only [TN, simprocAttr, laws_markOpS.c0, h1]
    try rfl
theorem laws_markOpS.w : ∀ k, laws_markOpS.P0 k := by
  intro k
  induction k with
  | zero => exact by intro l0 a1 x5 r H; cases (show (none : Option (Int × (List S87))) = some r from H)
  | succ k ih => exact laws_markOpS.s0 k ih
set_option maxHeartbeats 4000000 in
theorem laws_markOpS.link {k : Nat} {l0 : List S87} {a1 : Int} {r : Int × (List S87)} (H : laws_markOpS.f k l0 a1 = some r) : callW env 28 [.deep false false 5 (l0.map (e87 false)), .i .i64 a1] = some ([.i .i64 r.1], [some (r.2.map (e87 false))]) := by
  unfold laws_markOpS.f at H
  refine callW_fn' (F := laws_markOpS.F) (tm := tmOf [(0, .slc 0 [] 0 5 0 l0.length), (1, .i .i64 a1)]) (rs := rsL [(0, some ⟨true, 5, 0, (l0.map (e87 false))⟩)]) (nx := 1) (ow := [true]) rfl (by rfl) (by simp only [SN]) (by simp only [SN]) (by decide) ?_
  show W env laws_markOpS.B _ (Qf [.t 4] [true] _)
  unfold laws_markOpS.B
  try simp only [TN, simprocAttr, laws_markOpS.c0]
  refine (laws_markOpS.w k) _ _ _ _ H _ ?_
  first | (rw [canon_eq]; done) | (rw [canon_eq]; rfl) | (rw [canon_eq]; simp only [List.length_set, List.length_append, List.length_replicate]; rfl)
end Go.Proofs.Ytinlbiphjgpmmaa.P
end YtinlbiphjgpmmaaL28
section YtinlbiphjgpmmaaL61
namespace Go.Proofs.Ytinlbiphjgpmmaa.P
open Go Go.RowKit Go.Proofs.Ytinlbiphjgpmmaa.V
set_option linter.unusedVariables false
set_option linter.unusedSimpArgs false
set_option linter.all false
set_option maxRecDepth 100000
/-! ### laws_markOpSS: function 61 -/
def laws_markOpSS.l0 : Nat → (List (List S87)) → Int → Int → Option (Int × (List (List S87)))
 | 0, _, _, _ => none
 | k + 1, l0, a1, x5 => if x5 < (l0.length : Int) then (if 0 ≤ x5 then ((laws_markOpS.f k (rdL l0 x5) a1).bind fun bt1 => (laws_markOpSS.l0 k (l0.set (x5 : Int).toNat bt1.2) bt1.1 (wrap64 (x5 + 1)))) else none) else (some (a1, l0))
def laws_markOpSS.f (k : Nat) (l0 : List (List S87)) (a1 : Int) : Option (Int × (List (List S87))) := laws_markOpSS.l0 k l0 a1 0
def laws_markOpSS.P0 (k : Nat) : Prop := ∀ (l0 : List (List S87)) (a1 : Int) (x5 : Int) (r : Int × (List (List S87))), laws_markOpSS.l0 k l0 a1 x5 = some r → ∀ st, canon 1 [0, 1, 5] st = ⟨tmOf [(0, .slc 0 [] 0 1 0 l0.length), (1, .i .i64 a1), (5, .i .i64 x5)], rsL [(0, some ⟨true, 1, 0, (l0.map (eL 5 false (e87 false)))⟩)], 1⟩ → W env laws_markOpSS.c1 st (Qb 0 (Qs env laws_markOpSS.c0 (Qf [.t 4] [true] ([.i .i64 r.1], [some (r.2.map (eL 5 false (e87 false)))]))))
set_option maxHeartbeats 4000000 in
theorem laws_markOpSS.s0 (k : Nat) (ih : laws_markOpSS.P0 k) : laws_markOpSS.P0 (k + 1) := by
  intro l0 a1 x5 r H st hst
  rw [laws_markOpSS.l0] at H
  rw [W_loopc (show laws_markOpSS.c1 = C.loop 1 [0, 1, 5] laws_markOpSS.d1 from rfl), hst]
  unfold laws_markOpSS.d1
  try simp only [TN, simprocAttr, laws_markOpSS.c0]
  rcases ite_or H with ⟨h1, H⟩ | ⟨h1, H⟩
  · skip
    obtain ⟨h2, H⟩ := ite_no H
    obtain ⟨bt1, e3, H⟩ := bnd_some H
    have e3 := laws_markOpS.link e3
    try simp only [TN, simprocAttr, laws_markOpSS.c0, h1, h2, e3]
    refine ih _ _ _ _ H _ ?_
    first | (rw [canon_eq]; done) | (rw [canon_eq]; rfl) | (rw [canon_eq]; simp only [List.length_set, List.length_append, List.length_replicate]; rfl)
  · skip
    injection H with H; subst H
    try simp only [TN, simprocAttr, laws_markOpSS.c0, h1]
    try rfl
theorem laws_markOpSS.w : ∀ k, laws_markOpSS.P0 k := by
  intro k
  induction k with
  | zero => exact by intro l0 a1 x5 r H; cases (show (none : Option (Int × (List (List S87)))) = some r from H)
  | succ k ih => exact laws_markOpSS.s0 k ih
set_option maxHeartbeats 4000000 in
theorem laws_markOpSS.link {k : Nat} {l0 : List (List S87)} {a1 : Int} {r : Int × (List (List S87))} (H : laws_markOpSS.f k l0 a1 = some r) : callW env 61 [.deep false false 1 (l0.map (eL 5 false (e87 false))), .i .i64 a1] = some ([.i .i64 r.1], [some (r.2.map (eL 5 false (e87 false)))]) := by
  unfold laws_markOpSS.f at H
  refine callW_fn' (F := laws_markOpSS.F) (tm := tmOf [(0, .slc 0 [] 0 1 0 l0.length), (1, .i .i64 a1)]) (rs := rsL [(0, some ⟨true, 1, 0, (l0.map (eL 5 false (e87 false)))⟩)]) (nx := 1) (ow := [true]) rfl (by rfl) (by simp only [SN]) (by simp only [SN]) (by decide) ?_
  show W env laws_markOpSS.B _ (Qf [.t 4] [true] _)
  unfold laws_markOpSS.B
  try simp only [TN, simprocAttr, laws_markOpSS.c0]
  refine (laws_markOpSS.w k) _ _ _ _ H _ ?_
  first | (rw [canon_eq]; done) | (rw [canon_eq]; rfl) | (rw [canon_eq]; simp only [List.length_set, List.length_append, List.length_replicate]; rfl)
end Go.Proofs.Ytinlbiphjgpmmaa.P
end YtinlbiphjgpmmaaL61
section YtinlbiphjgpmmaaL27
namespace Go.Proofs.Ytinlbiphjgpmmaa.P
open Go Go.RowKit Go.Proofs.Ytinlbiphjgpmmaa.V
set_option linter.unusedVariables false
set_option linter.unusedSimpArgs false
set_option linter.all false
set_option maxRecDepth 100000
/-! ### laws_markHist: function 27 -/
def laws_markHist.f (k : Nat) (l0_0 : List S105) (l0_1 : List (List S87)) (a1 : Int) : Option (Int × (List S105) × (List (List S87))) := (laws_markNodeS.f k l0_0 a1).bind fun bt1 => (if bt1.2.length = l0_0.length then ((laws_markOpSS.f k l0_1 bt1.1).bind fun bt2 => (if bt2.2.length = l0_1.length then (some (bt2.1, bt1.2, bt2.2)) else none)) else none)
set_option maxHeartbeats 4000000 in
theorem laws_markHist.link {k : Nat} {l0_0 : List S105} {l0_1 : List (List S87)} {a1 : Int} {r : Int × (List S105) × (List (List S87))} (H : laws_markHist.f k l0_0 l0_1 a1 = some r) : callW env 27 [.agg [.deep false false 2 (l0_0.map e105), .deep false false 1 (l0_1.map (eL 5 false (e87 false)))], .i .i64 a1] = some ([.i .i64 r.1], [some (r.2.1.map e105), some (r.2.2.map (eL 5 false (e87 false)))]) := by
  unfold laws_markHist.f at H
  refine callW_fn' (F := laws_markHist.F) (tm := tmOf [(0, .agg [.slc 0 [] 0 2 0 l0_0.length, .slc 1 [] 0 1 0 l0_1.length]), (1, .i .i64 a1)]) (rs := rsL [(0, some ⟨true, 2, 0, (l0_0.map e105)⟩), (1, some ⟨true, 1, 0, (l0_1.map (eL 5 false (e87 false)))⟩)]) (nx := 2) (ow := [true, true]) rfl (by rfl) (by simp only [SN]) (by simp only [SN]) (by decide) ?_
  show W env laws_markHist.B _ (Qf [.t 4] [true, true] _)
  unfold laws_markHist.B
  obtain ⟨bt1, e1, H⟩ := bnd_some H
  have e1 := laws_markNodeS.link e1
  obtain ⟨q2, H⟩ := ite_no H
  obtain ⟨bt2, e3, H⟩ := bnd_some H
  have e3 := laws_markOpSS.link e3
  obtain ⟨q4, H⟩ := ite_no H
  injection H with H; subst H
  try simp only [TN, simprocAttr, e1, q2, e3, q4]
  try rfl
end Go.Proofs.Ytinlbiphjgpmmaa.P
end YtinlbiphjgpmmaaL27
section YtinlbiphjgpmmaaL63
namespace Go.Proofs.Ytinlbiphjgpmmaa.P
open Go Go.RowKit Go.Proofs.Ytinlbiphjgpmmaa.V
set_option linter.unusedVariables false
set_option linter.unusedSimpArgs false
set_option linter.all false
set_option maxRecDepth 100000
/-! ### laws_heldNodeS: function 63 -/
def laws_heldNodeS.l0 : Nat → (List S105) → Int → Int → Option Int
 | 0, _, _, _ => none
 | k + 1, l0, a1, x5 => if x5 < (l0.length : Int) then (if 0 ≤ x5 then (if ((rd_T105 l0 x5).f0) = a1 then (if ((rd_T105 l0 x5).f1) = (wrap64 (a1 + 1)) then (laws_heldNodeS.l0 k l0 (wrap64 ((wrap64 (a1 + 1)) + 1)) (wrap64 (x5 + 1))) else (some (-1))) else (some (-1))) else none) else (some a1)
def laws_heldNodeS.f (k : Nat) (l0 : List S105) (a1 : Int) : Option Int := laws_heldNodeS.l0 k l0 a1 0
def laws_heldNodeS.P0 (k : Nat) : Prop := ∀ (l0 : List S105) (a1 : Int) (x5 : Int) (r : Int), laws_heldNodeS.l0 k l0 a1 x5 = some r → ∀ st, canon 1 [0, 1, 5] st = ⟨tmOf [(0, .slc 0 [] 0 2 0 l0.length), (1, .i .i64 a1), (5, .i .i64 x5)], rsL [(0, some ⟨false, 2, 0, (l0.map e105)⟩)], 1⟩ → W env laws_heldNodeS.c1 st (Qb 0 (Qs env laws_heldNodeS.c0 (Qf [.t 4] [false] ([.i .i64 r], [none]))))
set_option maxHeartbeats 4000000 in
theorem laws_heldNodeS.s0 (k : Nat) (ih : laws_heldNodeS.P0 k) : laws_heldNodeS.P0 (k + 1) := by
  intro l0 a1 x5 r H st hst
  rw [laws_heldNodeS.l0] at H
  rw [W_loopc (show laws_heldNodeS.c1 = C.loop 1 [0, 1, 5] laws_heldNodeS.d1 from rfl), hst]
  unfold laws_heldNodeS.d1
  try simp only [TN, simprocAttr, laws_heldNodeS.c0]
  rcases ite_or H with ⟨h1, H⟩ | ⟨h1, H⟩
  · skip
    obtain ⟨h2, H⟩ := ite_no H
    try simp only [TN, simprocAttr, laws_heldNodeS.c0, h1, h2]
    rcases ite_or H with ⟨h3, H⟩ | ⟨h3, H⟩
    · skip
      try simp only [TN, simprocAttr, laws_heldNodeS.c0, h1, h2, eq_true h3]
      rcases ite_or H with ⟨h4, H⟩ | ⟨h4, H⟩
      · skip
        try simp only [TN, simprocAttr, laws_heldNodeS.c0, h1, h2, eq_true h3, eq_true h4]
        refine ih _ _ _ _ H _ ?_
        first | (rw [canon_eq]; done) | (rw [canon_eq]; rfl) | (rw [canon_eq]; simp only [List.length_set, List.length_append, List.length_replicate]; rfl)
      · skip
        injection H with H; subst H
        try simp only [TN, simprocAttr, laws_heldNodeS.c0, h1, h2, eq_true h3, h4]
        try rfl
    · skip
      injection H with H; subst H
      try simp only [TN, simprocAttr, laws_heldNodeS.c0, h1, h2, h3]
      try rfl
  · skip
    injection H with H; subst H
    try simp only [TN, simprocAttr, laws_heldNodeS.c0, h1]
    try rfl
theorem laws_heldNodeS.w : ∀ k, laws_heldNodeS.P0 k := by
  intro k
  induction k with
  | zero => exact by intro l0 a1 x5 r H; cases (show (none : Option Int) = some r from H)
  | succ k ih => exact laws_heldNodeS.s0 k ih
set_option maxHeartbeats 4000000 in
theorem laws_heldNodeS.link {k : Nat} {l0 : List S105} {a1 : Int} {r : Int} (H : laws_heldNodeS.f k l0 a1 = some r) : callW env 63 [.deep false true 2 (l0.map e105), .i .i64 a1] = some ([.i .i64 r], [none]) := by
  unfold laws_heldNodeS.f at H
  refine callW_fn' (F := laws_heldNodeS.F) (tm := tmOf [(0, .slc 0 [] 0 2 0 l0.length), (1, .i .i64 a1)]) (rs := rsL [(0, some ⟨false, 2, 0, (l0.map e105)⟩)]) (nx := 1) (ow := [false]) rfl (by rfl) (by simp only [SN]) (by simp only [SN]) (by decide) ?_
  show W env laws_heldNodeS.B _ (Qf [.t 4] [false] _)
  unfold laws_heldNodeS.B
  try simp only [TN, simprocAttr, laws_heldNodeS.c0]
  refine (laws_heldNodeS.w k) _ _ _ _ H _ ?_
  first | (rw [canon_eq]; done) | (rw [canon_eq]; rfl) | (rw [canon_eq]; simp only [List.length_set, List.length_append, List.length_replicate]; rfl)
end Go.Proofs.Ytinlbiphjgpmmaa.P
end YtinlbiphjgpmmaaL63
section YtinlbiphjgpmmaaL115
namespace Go.Proofs.Ytinlbiphjgpmmaa.P
open Go Go.RowKit Go.Proofs.Ytinlbiphjgpmmaa.V
set_option linter.unusedVariables false
set_option linter.unusedSimpArgs false
set_option linter.all false
set_option maxRecDepth 100000
/-! ### laws_heldIntS: function 115 -/
def laws_heldIntS.l0 : Nat → (List Int) → Int → Int → Option Int
 | 0, _, _, _ => none
 | k + 1, l0, a1, x5 => if x5 < (l0.length : Int) then (if 0 ≤ x5 then (if (rd l0 x5) = a1 then (laws_heldIntS.l0 k l0 (wrap64 (a1 + 1)) (wrap64 (x5 + 1))) else (some (-1))) else none) else (some a1)
def laws_heldIntS.f (k : Nat) (l0 : List Int) (a1 : Int) : Option Int := laws_heldIntS.l0 k l0 a1 0
def laws_heldIntS.P0 (k : Nat) : Prop := ∀ (l0 : List Int) (a1 : Int) (x5 : Int) (r : Int), laws_heldIntS.l0 k l0 a1 x5 = some r → ∀ st, canon 1 [0, 1, 5] st = ⟨tmOf [(0, .slc 0 [] 0 1 0 l0.length), (1, .i .i64 a1), (5, .i .i64 x5)], rsL [(0, some ⟨false, 1, 0, (l0.map eI)⟩)], 1⟩ → W env laws_heldIntS.c1 st (Qb 0 (Qs env laws_heldIntS.c0 (Qf [.t 4] [false] ([.i .i64 r], [none]))))
set_option maxHeartbeats 4000000 in
theorem laws_heldIntS.s0 (k : Nat) (ih : laws_heldIntS.P0 k) : laws_heldIntS.P0 (k + 1) := by
  intro l0 a1 x5 r H st hst
  rw [laws_heldIntS.l0] at H
  rw [W_loopc (show laws_heldIntS.c1 = C.loop 1 [0, 1, 5] laws_heldIntS.d1 from rfl), hst]
  unfold laws_heldIntS.d1
  try simp only [TN, simprocAttr, laws_heldIntS.c0]
  rcases ite_or H with ⟨h1, H⟩ | ⟨h1, H⟩
  · skip
    obtain ⟨h2, H⟩ := ite_no H
    try simp only [TN, simprocAttr, laws_heldIntS.c0, h1, h2]
    rcases ite_or H with ⟨h3, H⟩ | ⟨h3, H⟩
    · skip
      try simp only [TN, simprocAttr, laws_heldIntS.c0, h1, h2, eq_true h3]
      refine ih _ _ _ _ H _ ?_
      first | (rw [canon_eq]; done) | (rw [canon_eq]; rfl) | (rw [canon_eq]; simp only [List.length_set, List.length_append, List.length_replicate]; rfl)
    · skip
      injection H with H; subst H
      try simp only [TN, simprocAttr, laws_heldIntS.c0, h1, h2, h3]
      try rfl
  · skip
    injection H with H; subst H
    try simp only [TN, simprocAttr, laws_heldIntS.c0, h1]
    try rfl
theorem laws_heldIntS.w : ∀ k, laws_heldIntS.P0 k := by
  intro k
  induction k with
  | zero => exact by intro l0 a1 x5 r H; cases (show (none : Option Int) = some r from H)
  | succ k ih => exact laws_heldIntS.s0 k ih
set_option maxHeartbeats 4000000 in
theorem laws_heldIntS.link {k : Nat} {l0 : List Int} {a1 : Int} {r : Int} (H : laws_heldIntS.f k l0 a1 = some r) : callW env 115 [.deep false true 1 (l0.map eI), .i .i64 a1] = some ([.i .i64 r], [none]) := by
  unfold laws_heldIntS.f at H
  refine callW_fn' (F := laws_heldIntS.F) (tm := tmOf [(0, .slc 0 [] 0 1 0 l0.length), (1, .i .i64 a1)]) (rs := rsL [(0, some ⟨false, 1, 0, (l0.map eI)⟩)]) (nx := 1) (ow := [false]) rfl (by rfl) (by simp only [SN]) (by simp only [SN]) (by decide) ?_
  show W env laws_heldIntS.B _ (Qf [.t 4] [false] _)
  unfold laws_heldIntS.B
  try simp only [TN, simprocAttr, laws_heldIntS.c0]
  refine (laws_heldIntS.w k) _ _ _ _ H _ ?_
  first | (rw [canon_eq]; done) | (rw [canon_eq]; rfl) | (rw [canon_eq]; simp only [List.length_set, List.length_append, List.length_replicate]; rfl)
end Go.Proofs.Ytinlbiphjgpmmaa.P
end YtinlbiphjgpmmaaL115
section YtinlbiphjgpmmaaL96
namespace Go.Proofs.Ytinlbiphjgpmmaa.P
open Go Go.RowKit Go.Proofs.Ytinlbiphjgpmmaa.V
set_option linter.unusedVariables false
set_option linter.unusedSimpArgs false
set_option linter.all false
set_option maxRecDepth 100000
/-! ### laws_heldOpS: function 96 -/
def laws_heldOpS.l0 : Nat → (List S87) → Int → Int → Option Int
 | 0, _, _, _ => none
 | k + 1, l0, a1, x5 => if x5 < (l0.length : Int) then (if 0 ≤ x5 then (if ((rd_T87 l0 x5).f0) = a1 then ((laws_heldIntS.f k ((rd_T87 l0 x5).f1) (wrap64 (a1 + 1))).bind fun t1 => (if t1 < 0 then (some (-1)) else (if ((rd_T87 l0 x5).f2) = t1 then (if ((rd_T87 l0 x5).f3) = (wrap64 (t1 + 1)) then (if ((rd_T87 l0 x5).f4) = (wrap64 ((wrap64 (t1 + 1)) + 1)) then (laws_heldOpS.l0 k l0 (wrap64 ((wrap64 ((wrap64 (t1 + 1)) + 1)) + 1)) (wrap64 (x5 + 1))) else (some (-1))) else (some (-1))) else (some (-1))))) else (some (-1))) else none) else (some a1)
def laws_heldOpS.f (k : Nat) (l0 : List S87) (a1 : Int) : Option Int := laws_heldOpS.l0 k l0 a1 0
def laws_heldOpS.P0 (k : Nat) : Prop := ∀ (l0 : List S87) (a1 : Int) (x5 : Int) (r : Int), laws_heldOpS.l0 k l0 a1 x5 = some r → ∀ st, canon 1 [0, 1, 5] st = ⟨tmOf [(0, .slc 0 [] 0 5 0 l0.length), (1, .i .i64 a1), (5, .i .i64 x5)], rsL [(0, some ⟨false, 5, 0, (l0.map (e87 false))⟩)], 1⟩ → W env laws_heldOpS.c1 st (Qb 0 (Qs env laws_heldOpS.c0 (Qf [.t 4] [false] ([.i .i64 r], [none]))))
set_option maxHeartbeats 4000000 in
theorem laws_heldOpS.s0 (k : Nat) (ih : laws_heldOpS.P0 k) : laws_heldOpS.P0 (k + 1) := by
  intro l0 a1 x5 r H st hst
  rw [laws_heldOpS.l0] at H
  rw [W_loopc (show laws_heldOpS.c1 = C.loop 1 [0, 1, 5] laws_heldOpS.d1 from rfl), hst]
  unfold laws_heldOpS.d1
  try simp only [TN, simprocAttr, laws_heldOpS.c0]
  rcases ite_or H with ⟨h1, H⟩ | ⟨h1, H⟩
  · skip
    obtain ⟨h2, H⟩ := ite_no H
    try simp only [TN, simprocAttr, laws_heldOpS.c0, h1, h2]
    rcases ite_or H with ⟨h3, H⟩ | ⟨h3, H⟩
    · skip
      obtain ⟨t1, e4, H⟩ := bnd_some H
      have e4 := laws_heldIntS.link e4
      try simp only [TN, simprocAttr, laws_heldOpS.c0, h1, h2, eq_true h3, e4]
      rcases ite_or H with ⟨h5, H⟩ | ⟨h5, H⟩
      · skip
        injection H with H; subst H
        try simp only [TN, simprocAttr, laws_heldOpS.c0, h1, h2, eq_true h3, e4, h5]
        try rfl
      · skip
        try simp only [TN, simprocAttr, laws_heldOpS.c0, h1, h2, eq_true h3, e4, h5]
        rcases ite_or H with ⟨h6, H⟩ | ⟨h6, H⟩
        · skip
          try simp only [TN, simprocAttr, laws_heldOpS.c0, h1, h2, eq_true h3, e4, h5, eq_true h6]
          rcases ite_or H with ⟨h7, H⟩ | ⟨h7, H⟩
          · skip
            try simp only [TN, simprocAttr, laws_heldOpS.c0, h1, h2, eq_true h3, e4, h5, eq_true h6, eq_true h7]
            rcases ite_or H with ⟨h8, H⟩ | ⟨h8, H⟩
            · skip
              try simp only [TN, simprocAttr, laws_heldOpS.c0, h1, h2, eq_true h3, e4, h5, eq_true h6, eq_true h7, eq_true h8]
              refine ih _ _ _ _ H _ ?_
              first | (rw [canon_eq]; done) | (rw [canon_eq]; rfl) | (rw [canon_eq]; simp only [List.length_set, List.length_append, List.length_replicate]; rfl)
            · skip
              injection H with H; subst H
              try simp only [TN, simprocAttr, laws_heldOpS.c0, h1, h2, eq_true h3, e4, h5, eq_true h6, eq_true h7, h8]
              try rfl
          · skip
            injection H with H; subst H
            try simp only [TN, simprocAttr, laws_heldOpS.c0, h1, h2, eq_true h3, e4, h5, eq_true h6, h7]
            try rfl
        · skip
          injection H with H; subst H
          try simp only [TN, simprocAttr, laws_heldOpS.c0, h1, h2, eq_true h3, e4, h5, h6]
          try rfl
    · skip
      injection H with H; subst H
      try simp only [TN, simprocAttr, laws_heldOpS.c0, h1, h2, h3]
      try rfl
  · skip
    injection H with H; subst H
    try simp only [TN, simprocAttr, laws_heldOpS.c0, h1]
    try rfl
theorem laws_heldOpS.w : ∀ k, laws_heldOpS.P0 k := by
  intro k
  induction k with
  | zero => exact by intro l0 a1 x5 r H; cases (show (none : Option Int) = some r from H)
  | succ k ih => exact laws_heldOpS.s0 k ih
set_option maxHeartbeats 4000000 in
theorem laws_heldOpS.link {k : Nat} {l0 : List S87} {a1 : Int} {r : Int} (H : laws_heldOpS.f k l0 a1 = some r) : callW env 96 [.deep false true 5 (l0.map (e87 false)), .i .i64 a1] = some ([.i .i64 r], [none]) := by
  unfold laws_heldOpS.f at H
  refine callW_fn' (F := laws_heldOpS.F) (tm := tmOf [(0, .slc 0 [] 0 5 0 l0.length), (1, .i .i64 a1)]) (rs := rsL [(0, some ⟨false, 5, 0, (l0.map (e87 false))⟩)]) (nx := 1) (ow := [false]) rfl (by rfl) (by simp only [SN]) (by simp only [SN]) (by decide) ?_
  show W env laws_heldOpS.B _ (Qf [.t 4] [false] _)
  unfold laws_heldOpS.B
  try simp only [TN, simprocAttr, laws_heldOpS.c0]
  refine (laws_heldOpS.w k) _ _ _ _ H _ ?_
  first | (rw [canon_eq]; done) | (rw [canon_eq]; rfl) | (rw [canon_eq]; simp only [List.length_set, List.length_append, List.length_replicate]; rfl)
end Go.Proofs.Ytinlbiphjgpmmaa.P
end YtinlbiphjgpmmaaL96
section YtinlbiphjgpmmaaL64
namespace Go.Proofs.Ytinlbiphjgpmmaa.P
open Go Go.RowKit Go.Proofs.Ytinlbiphjgpmmaa.V
set_option linter.unusedVariables false
set_option linter.unusedSimpArgs false
set_option linter.all false
set_option maxRecDepth 100000
/-! ### laws_heldOpSS: function 64 -/
def laws_heldOpSS.l0 : Nat → (List (List S87)) → Int → Int → Option Int
 | 0, _, _, _ => none
 | k + 1, l0, a1, x5 => if x5 < (l0.length : Int) then (if 0 ≤ x5 then ((laws_heldOpS.f k (rdL l0 x5) a1).bind fun t1 => (if t1 < 0 then (some (-1)) else (laws_heldOpSS.l0 k l0 t1 (wrap64 (x5 + 1))))) else none) else (some a1)
def laws_heldOpSS.f (k : Nat) (l0 : List (List S87)) (a1 : Int) : Option Int := laws_heldOpSS.l0 k l0 a1 0
def laws_heldOpSS.P0 (k : Nat) : Prop := ∀ (l0 : List (List S87)) (a1 : Int) (x5 : Int) (r : Int), laws_heldOpSS.l0 k l0 a1 x5 = some r → ∀ st, canon 1 [0, 1, 5] st = ⟨tmOf [(0, .slc 0 [] 0 1 0 l0.length), (1, .i .i64 a1), (5, .i .i64 x5)], rsL [(0, some ⟨false, 1, 0, (l0.map (eL 5 false (e87 false)))⟩)], 1⟩ → W env laws_heldOpSS.c1 st (Qb 0 (Qs env laws_heldOpSS.c0 (Qf [.t 4] [false] ([.i .i64 r], [none]))))
set_option maxHeartbeats 4000000 in
theorem laws_heldOpSS.s0 (k : Nat) (ih : laws_heldOpSS.P0 k) : laws_heldOpSS.P0 (k + 1) := by
  intro l0 a1 x5 r H st hst
  rw [laws_heldOpSS.l0] at H
  rw [W_loopc (show laws_heldOpSS.c1 = C.loop 1 [0, 1, 5] laws_heldOpSS.d1 from rfl), hst]
  unfold laws_heldOpSS.d1
  try simp only [TN, simprocAttr, laws_heldOpSS.c0]
  rcases ite_or H with ⟨h1, H⟩ | ⟨h1, H⟩
  · skip
    obtain ⟨h2, H⟩ := ite_no H
    obtain ⟨t1, e3, H⟩ := bnd_some H
    have e3 := laws_heldOpS.link e3
    try simp only [TN, simprocAttr, laws_heldOpSS.c0, h1, h2, e3]
    rcases ite_or H with ⟨h4, H⟩ | ⟨h4, H⟩
    · skip
      injection H with H; subst H
      try simp only [TN, simprocAttr, laws_heldOpSS.c0, h1, h2, e3, h4]
      try rfl
    · skip
      try simp only [TN, simprocAttr, laws_heldOpSS.c0, h1, h2, e3, h4]
      refine ih _ _ _ _ H _ ?_
      first | (rw [canon_eq]; done) | (rw [canon_eq]; rfl) | (rw [canon_eq]; simp only [List.length_set, List.length_append, List.length_replicate]; rfl)
  · skip
    injection H with H; subst H
    try simp only [TN, simprocAttr, laws_heldOpSS.c0, h1]
    try rfl
theorem laws_heldOpSS.w : ∀ k, laws_heldOpSS.P0 k := by
  intro k
  induction k with
  | zero => exact by intro l0 a1 x5 r H; cases (show (none : Option Int) = some r from H)
  | succ k ih => exact laws_heldOpSS.s0 k ih
set_option maxHeartbeats 4000000 in
theorem laws_heldOpSS.link {k : Nat} {l0 : List (List S87)} {a1 : Int} {r : Int} (H : laws_heldOpSS.f k l0 a1 = some r) : callW env 64 [.deep false true 1 (l0.map (eL 5 false (e87 false))), .i .i64 a1] = some ([.i .i64 r], [none]) := by
  unfold laws_heldOpSS.f at H
  refine callW_fn' (F := laws_heldOpSS.F) (tm := tmOf [(0, .slc 0 [] 0 1 0 l0.length), (1, .i .i64 a1)]) (rs := rsL [(0, some ⟨false, 1, 0, (l0.map (eL 5 false (e87 false)))⟩)]) (nx := 1) (ow := [false]) rfl (by rfl) (by simp only [SN]) (by simp only [SN]) (by decide) ?_
  show W env laws_heldOpSS.B _ (Qf [.t 4] [false] _)
  unfold laws_heldOpSS.B
  try simp only [TN, simprocAttr, laws_heldOpSS.c0]
  refine (laws_heldOpSS.w k) _ _ _ _ H _ ?_
  first | (rw [canon_eq]; done) | (rw [canon_eq]; rfl) | (rw [canon_eq]; simp only [List.length_set, List.length_append, List.length_replicate]; rfl)
end Go.Proofs.Ytinlbiphjgpmmaa.P
end YtinlbiphjgpmmaaL64
section YtinlbiphjgpmmaaL29
namespace Go.Proofs.Ytinlbiphjgpmmaa.P
open Go Go.RowKit Go.Proofs.Ytinlbiphjgpmmaa.V
set_option linter.unusedVariables false
set_option linter.unusedSimpArgs false
set_option linter.all false
set_option maxRecDepth 100000
/-! ### laws_heldHist: function 29 -/
def laws_heldHist.f (k : Nat) (l0_0 : List S105) (l0_1 : List (List S87)) (a1 : Int) : Option Int := (laws_heldNodeS.f k l0_0 a1).bind fun t1 => (if t1 < 0 then (some (-1)) else ((laws_heldOpSS.f k l0_1 t1).bind fun t2 => (if t2 < 0 then (some (-1)) else (some t2))))
set_option maxHeartbeats 4000000 in
theorem laws_heldHist.link {k : Nat} {l0_0 : List S105} {l0_1 : List (List S87)} {a1 : Int} {r : Int} (H : laws_heldHist.f k l0_0 l0_1 a1 = some r) : callW env 29 [.agg [.deep false true 2 (l0_0.map e105), .deep false true 1 (l0_1.map (eL 5 false (e87 false)))], .i .i64 a1] = some ([.i .i64 r], [none, none]) := by
  unfold laws_heldHist.f at H
  refine callW_fn' (F := laws_heldHist.F) (tm := tmOf [(0, .agg [.slc 0 [] 0 2 0 l0_0.length, .slc 1 [] 0 1 0 l0_1.length]), (1, .i .i64 a1)]) (rs := rsL [(0, some ⟨false, 2, 0, (l0_0.map e105)⟩), (1, some ⟨false, 1, 0, (l0_1.map (eL 5 false (e87 false)))⟩)]) (nx := 2) (ow := [false, false]) rfl (by rfl) (by simp only [SN]) (by simp only [SN]) (by decide) ?_
  show W env laws_heldHist.B _ (Qf [.t 4] [false, false] _)
  unfold laws_heldHist.B
  obtain ⟨t1, e1, H⟩ := bnd_some H
  have e1 := laws_heldNodeS.link e1
  try simp only [TN, simprocAttr, e1]
  rcases ite_or H with ⟨h2, H⟩ | ⟨h2, H⟩
  · skip
    injection H with H; subst H
    try simp only [TN, simprocAttr, e1, h2]
    try rfl
  · skip
    obtain ⟨t2, e3, H⟩ := bnd_some H
    have e3 := laws_heldOpSS.link e3
    try simp only [TN, simprocAttr, e1, h2, e3]
    rcases ite_or H with ⟨h4, H⟩ | ⟨h4, H⟩
    · skip
      injection H with H; subst H
      try simp only [TN, simprocAttr, e1, h2, e3, h4]
      try rfl
    · skip
      injection H with H; subst H
      try simp only [TN, simprocAttr, e1, h2, e3, h4]
      try rfl
end Go.Proofs.Ytinlbiphjgpmmaa.P
end YtinlbiphjgpmmaaL29
section YtinlbiphjgpmmaaL6
namespace Go.Proofs.Ytinlbiphjgpmmaa.P
open Go Go.RowKit Go.Proofs.Ytinlbiphjgpmmaa.V
set_option linter.unusedVariables false
set_option linter.unusedSimpArgs false
set_option linter.all false
set_option maxRecDepth 100000
/-! ### laws_FnExactHistAdd: function 6 -/
def laws_FnExactHistAdd.f (k : Nat) (l0_0 : List S122) (l0_1 : List (List S81)) (l1 : List S81) : Option Bool := (laws_szHist.f k l0_0 l0_1 1048576).bind fun t1 => (if t1 < 0 then (some true) else ((laws_szOpS.f k l1 t1).bind fun t2 => (if t2 < 0 then (some true) else ((laws_toHist.f k l0_0 l0_1).bind fun bt3 => ((laws_toOpS.f k l1).bind fun t4 => ((spec_HistAdd.f k bt3.1 bt3.2 t4).bind fun bt5 => ((impl_HistAdd.f k bt3.1 bt3.2 t4).bind fun bt6 => ((laws_eqHist.f k bt6.1 bt6.2.1 bt5.1 bt5.2.1).bind fun t7 => (if t7 = true then (if bt6.2.2 = bt5.2.2 then ((laws_eqHist.f k bt3.1 bt3.2 bt3.1 bt3.2).bind fun t8 => (if t8 = true then ((laws_eqOpS.f k t4 t4).bind fun t9 => (if t9 = true then ((laws_markHist.f k bt3.1 bt3.2 1).bind fun bt10 => ((laws_markOpS.f k t4 bt10.1).bind fun bt11 => (if bt11.2.length = t4.length then (if bt11.1 < 0 then (some false) else ((laws_markHist.f k bt6.1 bt6.2.1 1).bind fun bt12 => ((laws_heldHist.f k bt12.2.1 bt12.2.2 1).bind fun t13 => (if t13 < 0 then (some false) else (if t13 = bt12.1 then (some true) else (some false)))))) else none))) else (some false))) else (some false))) else (some false)) else (some false))))))))))
set_option maxHeartbeats 4000000 in
theorem laws_FnExactHistAdd.link {k : Nat} {l0_0 : List S122} {l0_1 : List (List S81)} {l1 : List S81} {r : Bool} (H : laws_FnExactHistAdd.f k l0_0 l0_1 l1 = some r) : callW env 6 [.agg [.deep false true 2 (l0_0.map e122), .deep false true 1 (l0_1.map (eL 5 true (e81 true)))], .deep false true 5 (l1.map (e81 true))] = some ([.b r], [none, none, none]) := by
  unfold laws_FnExactHistAdd.f at H
  refine callW_fn' (F := laws_FnExactHistAdd.F) (tm := tmOf [(0, .agg [.slc 0 [] 0 2 0 l0_0.length, .slc 1 [] 0 1 0 l0_1.length]), (1, .slc 2 [] 0 5 0 l1.length)]) (rs := rsL [(0, some ⟨false, 2, 0, (l0_0.map e122)⟩), (1, some ⟨false, 1, 0, (l0_1.map (eL 5 true (e81 true)))⟩), (2, some ⟨false, 5, 0, (l1.map (e81 true))⟩)]) (nx := 3) (ow := [false, false, false]) rfl (by rfl) (by simp only [SN]) (by simp only [SN]) (by decide) ?_
  show W env laws_FnExactHistAdd.B _ (Qf [.t 4] [false, false, false] _)
  unfold laws_FnExactHistAdd.B
  obtain ⟨t1, e1, H⟩ := bnd_some H
  have e1 := laws_szHist.link e1
  try simp only [TN, simprocAttr, e1]
  rcases ite_or H with ⟨h2, H⟩ | ⟨h2, H⟩
  · skip
    injection H with H; subst H
    try simp only [TN, simprocAttr, e1, h2]
    try rfl
  · skip
    obtain ⟨t2, e3, H⟩ := bnd_some H
    have e3 := laws_szOpS.link e3
    try simp only [TN, simprocAttr, e1, h2, e3]
    rcases ite_or H with ⟨h4, H⟩ | ⟨h4, H⟩
    · skip
      injection H with H; subst H
      try simp only [TN, simprocAttr, e1, h2, e3, h4]
      try rfl
    · skip
      obtain ⟨bt3, e5, H⟩ := bnd_some H
      have e5 := laws_toHist.link e5
      obtain ⟨t4, e6, H⟩ := bnd_some H
      have e6 := laws_toOpS.link e6
      obtain ⟨bt5, e7, H⟩ := bnd_some H
      have e7 := spec_HistAdd.link e7
      obtain ⟨bt6, e8, H⟩ := bnd_some H
      have e8 := impl_HistAdd.link e8
      obtain ⟨t7, e9, H⟩ := bnd_some H
      have e9 := laws_eqHist.link e9
      try simp only [TN, simprocAttr, e1, h2, e3, h4, e5, e6, e7, e8, e9]
      rcases ite_b H with ⟨h10, H⟩ | ⟨h10, H⟩
      · skip
        try simp only [TN, simprocAttr, e1, h2, e3, h4, e5, e6, e7, e8, e9, h10]
        rcases ite_or H with ⟨h11, H⟩ | ⟨h11, H⟩
        · skip
          obtain ⟨t8, e12, H⟩ := bnd_some H
          have e12 := laws_eqHist.link e12
          try simp only [TN, simprocAttr, e1, h2, e3, h4, e5, e6, e7, e8, e9, h10, eq_true h11, e12]
          rcases ite_b H with ⟨h13, H⟩ | ⟨h13, H⟩
          · skip
            obtain ⟨t9, e14, H⟩ := bnd_some H
            have e14 := laws_eqOpS.link e14
            try simp only [TN, simprocAttr, e1, h2, e3, h4, e5, e6, e7, e8, e9, h10, eq_true h11, e12, h13, e14]
            rcases ite_b H with ⟨h15, H⟩ | ⟨h15, H⟩
            · skip
              obtain ⟨bt10, e16, H⟩ := bnd_some H
              have e16 := laws_markHist.link e16
              obtain ⟨bt11, e17, H⟩ := bnd_some H
              have e17 := laws_markOpS.link e17
              obtain ⟨q18, H⟩ := ite_no H
              try simp only [TN, simprocAttr, e1, h2, e3, h4, e5, e6, e7, e8, e9, h10, eq_true h11, e12, h13, e14, h15, e16, e17, q18]
              rcases ite_or H with ⟨h19, H⟩ | ⟨h19, H⟩
              · skip
                injection H with H; subst H
                try simp only [TN, simprocAttr, e1, h2, e3, h4, e5, e6, e7, e8, e9, h10, eq_true h11, e12, h13, e14, h15, e16, e17, q18, h19]
                try rfl
              · skip
                obtain ⟨bt12, e20, H⟩ := bnd_some H
                have e20 := laws_markHist.link e20
                obtain ⟨t13, e21, H⟩ := bnd_some H
                have e21 := laws_heldHist.link e21
                try simp only [TN, simprocAttr, e1, h2, e3, h4, e5, e6, e7, e8, e9, h10, eq_true h11, e12, h13, e14, h15, e16, e17, q18, h19, e20, e21]
                rcases ite_or H with ⟨h22, H⟩ | ⟨h22, H⟩
                · skip
                  injection H with H; subst H
                  try simp only [TN, simprocAttr, e1, h2, e3, h4, e5, e6, e7, e8, e9, h10, eq_true h11, e12, h13, e14, h15, e16, e17, q18, h19, e20, e21, h22]
                  try rfl
                · skip
                  try simp only [TN, simprocAttr, e1, h2, e3, h4, e5, e6, e7, e8, e9, h10, eq_true h11, e12, h13, e14, h15, e16, e17, q18, h19, e20, e21, h22]
                  rcases ite_or H with ⟨h23, H⟩ | ⟨h23, H⟩
                  · skip
                    injection H with H; subst H
                    try simp only [TN, simprocAttr, e1, h2, e3, h4, e5, e6, e7, e8, e9, h10, eq_true h11, e12, h13, e14, h15, e16, e17, q18, h19, e20, e21, h22, eq_true h23]
                    try rfl
                  · skip
                    injection H with H; subst H
                    try simp only [TN, simprocAttr, e1, h2, e3, h4, e5, e6, e7, e8, e9, h10, eq_true h11, e12, h13, e14, h15, e16, e17, q18, h19, e20, e21, h22, h23]
                    try rfl
            · skip
              injection H with H; subst H
              try simp only [TN, simprocAttr, e1, h2, e3, h4, e5, e6, e7, e8, e9, h10, eq_true h11, e12, h13, e14, h15]
              try rfl
          · skip
            injection H with H; subst H
            try simp only [TN, simprocAttr, e1, h2, e3, h4, e5, e6, e7, e8, e9, h10, eq_true h11, e12, h13]
            try rfl
        · skip
          injection H with H; subst H
          try simp only [TN, simprocAttr, e1, h2, e3, h4, e5, e6, e7, e8, e9, h10, h11]
          try rfl
      · skip
        injection H with H; subst H
        try simp only [TN, simprocAttr, e1, h2, e3, h4, e5, e6, e7, e8, e9, h10]
        try rfl
end Go.Proofs.Ytinlbiphjgpmmaa.P
end YtinlbiphjgpmmaaL6
section YtinlbiphjgpmmaaXBase
namespace Go.Proofs.Ytinlbiphjgpmmaa.B
open Go Go.RowKit Go.Proofs.Ytinlbiphjgpmmaa.V Go.Proofs.Ytinlbiphjgpmmaa.P

theorem wid {n : Int} (h0 : -9223372036854775808 ≤ n) (h1 : n ≤ 9223372036854775807) : wrap64 n = n := by unfold wrap64; omega
theorem wsucc {i : Nat} (h : i < 9223372036854775807) : wrap64 ((i : Int) + 1) = ((i + 1 : Nat) : Int) := by unfold wrap64; omega
theorem wsub {a : Int} {n : Nat} (h0 : 0 ≤ a) (h1 : a ≤ 9223372036854775807) (hn : n ≤ 9223372036854775807) : wrap64 (a - (n : Int)) = a - (n : Int) := by unfold wrap64; omega

/-- A counted loop: what it answers from i on, with enough rounds. -/
theorem loop {ρ : Type} (g : Nat → Nat → ρ) (n : Nat) (R : Nat → ρ) (last : ∀ k, g (k + 1) n = R n)
    (step : ∀ k i, i < n → (g k (i + 1) = R (i + 1)) → g (k + 1) i = R i) : ∀ k i, i ≤ n → n - i < k → g k i = R i := by
  intro k
  induction k with
  | zero => intro i _ h; omega
  | succ k ih =>
    intro i hi hk
    rcases Nat.lt_or_ge i n with hlt | hge
    · exact step k i hlt (ih (i + 1) hlt (by omega))
    · obtain rfl : i = n := by omega
      exact last k

/-- The same, where the rounds of what is called in the body are also bounded below. -/
theorem loopk {ρ : Type} (g : Nat → Nat → ρ) (n b : Nat) (R : Nat → ρ) (last : ∀ k, b ≤ k → g (k + 1) n = R n)
    (step : ∀ k i, b ≤ k → i < n → (g k (i + 1) = R (i + 1)) → g (k + 1) i = R i) : ∀ k i, i ≤ n → b + (n - i) < k → g k i = R i := by
  intro k
  induction k with
  | zero => intro i _ h; omega
  | succ k ih =>
    intro i hi hk
    rcases Nat.lt_or_ge i n with hlt | hge
    · exact step k i (by omega) hlt (ih (i + 1) hlt (by omega))
    · obtain rfl : i = n := by omega
      exact last k (by omega)

/-- With something that holds at the head of each round. -/
theorem loopI {ρ : Type} (g : Nat → Nat → ρ) (n b : Nat) (I : Nat → Prop) (R : Nat → ρ) (last : ∀ k, b ≤ k → I n → g (k + 1) n = R n)
    (step : ∀ k i, b ≤ k → i < n → I i → (I (i + 1) → g k (i + 1) = R (i + 1)) → g (k + 1) i = R i) : ∀ k i, i ≤ n → I i → b + (n - i) < k → g k i = R i := by
  intro k
  induction k with
  | zero => intro i _ _ h; omega
  | succ k ih =>
    intro i hi hI hk
    rcases Nat.lt_or_ge i n with hlt | hge
    · exact step k i (by omega) hlt hI (fun hI' => ih (i + 1) hlt hI' (by omega))
    · obtain rfl : i = n := by omega
      exact last k (by omega) hI

theorem getD_lt {α : Type} {xs : List α} {i : Nat} {z : α} (h : i < xs.length) : xs.getD i z = xs[i] := by
  rw [List.getD_eq_getElem?_getD, List.getElem?_eq_getElem h]; rfl

/-- A row that is filled from the front. -/
def filled {α β : Type} (l : List α) (f : α → β) (z : β) (i : Nat) : List β := (l.take i).map f ++ List.replicate (l.length - i) z
theorem filled_length {α β : Type} (l : List α) (f : α → β) (z : β) {i : Nat} (h : i ≤ l.length) : (filled l f z i).length = l.length := by
  unfold filled; simp; omega
theorem filled_zero {α β : Type} (l : List α) (f : α → β) (z : β) : filled l f z 0 = List.replicate l.length z := by simp [filled]
theorem filled_all {α β : Type} (l : List α) (f : α → β) (z : β) : filled l f z l.length = l.map f := by simp [filled]
theorem filled_set {α β : Type} (l : List α) (f : α → β) (z : β) {i : Nat} (h : i < l.length) : (filled l f z i).set i (f l[i]) = filled l f z (i + 1) := by
  unfold filled
  rw [List.set_append_right _ _ (by simp; omega)]
  have h1 : i - ((l.take i).map f).length = 0 := by simp; omega
  rw [h1]
  obtain ⟨m, hm⟩ : ∃ m, l.length - i = m + 1 := ⟨l.length - i - 1, by omega⟩
  rw [hm, show l.length - (i + 1) = m by omega, List.replicate_succ, List.set_cons_zero, List.take_succ_eq_append_getElem h, List.map_append, List.append_assoc]
  rfl

/-- Numbers one after the other. -/
def run (a : Int) (n : Nat) : List Int := (List.range n).map fun (i : Nat) => a + (i : Int)
theorem run_length (a : Int) (n : Nat) : (run a n).length = n := by simp [run]
theorem run_get (a : Int) (n : Nat) {i : Nat} (h : i < n) : (run a n).getD i 0 = a + (i : Int) := by
  rw [getD_lt (by simpa [run] using h)]
  simp [run]

theorem take_snoc {α β : Type} (l : List α) (f : α → β) {i : Nat} (h : i < l.length) : (l.take i).map f ++ [f l[i]] = (l.take (i + 1)).map f := by
  rw [List.take_succ_eq_append_getElem h, List.map_append]; rfl
theorem drop_eq_iff {α : Type} {a b : List α} {i : Nat} (ha : i < a.length) (hb : i < b.length) : a.drop i = b.drop i ↔ a[i] = b[i] ∧ a.drop (i + 1) = b.drop (i + 1) := by
  rw [List.drop_eq_getElem_cons ha, List.drop_eq_getElem_cons hb, List.cons.injEq]
theorem drop_eq_dec {α : Type} [DecidableEq α] {a b : List α} {i : Nat} (ha : i < a.length) (hb : i < b.length) : decide (a.drop i = b.drop i) = (decide (a[i] = b[i]) && decide (a.drop (i + 1) = b.drop (i + 1))) := by
  rw [Bool.eq_iff_iff]; simp only [Bool.and_eq_true, decide_eq_true_eq]; exact drop_eq_iff ha hb
theorem foldl_take {α β : Type} (f : β → α → β) (z : β) (l : List α) {i : Nat} (h : i < l.length) : (l.take (i + 1)).foldl f z = f ((l.take i).foldl f z) l[i] := by
  rw [List.take_succ_eq_append_getElem h, List.foldl_append]; rfl
/-- The first place from i on at which p holds, or -1. -/
def idxFrom {α : Type} (p : α → Bool) : List α → Nat → Int
  | [], _ => -1
  | x :: xs, i => if p x = true then (i : Int) else idxFrom p xs (i + 1)
theorem idxFrom_drop {α : Type} (p : α → Bool) (l : List α) {i : Nat} (h : i < l.length) : idxFrom p (l.drop i) i = if p l[i] = true then (i : Int) else idxFrom p (l.drop (i + 1)) (i + 1) := by
  rw [List.drop_eq_getElem_cons h]; rfl
theorem idxFrom_any {α : Type} (p : α → Bool) (l : List α) (i : Nat) : decide (idxFrom p l i ≥ 0) = l.any p := by
  induction l generalizing i with
  | nil => rfl
  | cons x xs ih =>
    unfold idxFrom
    rw [List.any_cons]
    cases hp : p x with
    | true => simp
    | false => rw [if_neg (by simp), ih]; simp
end Go.Proofs.Ytinlbiphjgpmmaa.B
end YtinlbiphjgpmmaaXBase
section YtinlbiphjgpmmaaXRd
namespace Go.Proofs.Ytinlbiphjgpmmaa.X
open Go Go.RowKit Go.Proofs.Ytinlbiphjgpmmaa.V Go.Proofs.Ytinlbiphjgpmmaa.P
theorem rdInt {xs : List Int} {i : Nat} : rd xs (i : Int) = xs.getD i 0 := by unfold rd; rw [Int.toNat_natCast]
end Go.Proofs.Ytinlbiphjgpmmaa.X
end YtinlbiphjgpmmaaXRd
section YtinlbiphjgpmmaaXIntsEq
namespace Go.Proofs.Ytinlbiphjgpmmaa.X
open Go Go.RowKit Go.Proofs.Ytinlbiphjgpmmaa.V Go.Proofs.Ytinlbiphjgpmmaa.P
theorem eqIntS (l : List Int) (hl : l.length ≤ 4194304) (k : Nat) (hk : l.length < k) : laws_eqIntS.f k l l = some true := by
  unfold laws_eqIntS.f
  rw [if_pos rfl]
  exact B.loop (fun k i => laws_eqIntS.l0 k l l (i : Int)) l.length (fun _ => some true)
    (fun k => by simp only [laws_eqIntS.l0]; rw [if_neg (by omega)])
    (fun k i hi ih => by
      have a1 : (i : Int) < (l.length : Int) := by omega
      have a3 : 0 ≤ (i : Int) := by omega
      simp only [laws_eqIntS.l0, a1, a3, ↓reduceIte, B.wsucc (show i < 9223372036854775807 by omega)]
      exact ih) k 0 (by omega) (by omega)
end Go.Proofs.Ytinlbiphjgpmmaa.X
end YtinlbiphjgpmmaaXIntsEq
section YtinlbiphjgpmmaaXInts
namespace Go.Proofs.Ytinlbiphjgpmmaa.X
open Go Go.RowKit Go.Proofs.Ytinlbiphjgpmmaa.V Go.Proofs.Ytinlbiphjgpmmaa.P


/-- l with its first i numbers turned to a, a + 1, .. -/
def marked (l : List Int) (a : Int) (i : Nat) : List Int := B.run a i ++ l.drop i
theorem marked_length (l : List Int) (a : Int) {i : Nat} (h : i ≤ l.length) : (marked l a i).length = l.length := by unfold marked; rw [List.length_append, B.run_length, List.length_drop]; omega
theorem run_succ (a : Int) (i : Nat) : B.run a (i + 1) = B.run a i ++ [a + (i : Int)] := by unfold B.run; rw [List.range_succ, List.map_append]; rfl
theorem marked_set (l : List Int) (a : Int) {i : Nat} (h : i < l.length) : (marked l a i).set i (a + (i : Int)) = marked l a (i + 1) := by
  unfold marked
  rw [List.set_append_right _ _ (by rw [B.run_length]; omega), B.run_length, Nat.sub_self, run_succ, List.append_assoc]
  congr 1
  rw [List.drop_eq_getElem_cons h, List.set_cons_zero]; rfl

theorem markIntS (l : List Int) (a : Int) (hl : l.length ≤ 4194304) (h0 : 0 ≤ a) (h1 : a ≤ 1000000000) (k : Nat) (hk : l.length < k) : laws_markIntS.f k l a = some (a + (l.length : Int), B.run a l.length) := by
  unfold laws_markIntS.f
  have h := B.loop (fun k i => laws_markIntS.l0 k (marked l a i) (a + (i : Int)) (i : Int)) l.length (fun _ => some (a + (l.length : Int), B.run a l.length))
    (fun k => by
      simp only [laws_markIntS.l0]
      rw [if_neg (by rw [marked_length _ _ (Nat.le_refl _)]; omega)]
      unfold marked; rw [List.drop_length, List.append_nil])
    (fun k i hi ih => by
      have a1 : (i : Int) < ((marked l a i).length : Int) := by rw [marked_length _ _ (by omega)]; omega
      have a3 : 0 ≤ (i : Int) := by omega
      have e : wrap64 (a + (i : Int) + 1) = a + ((i + 1 : Nat) : Int) := by unfold wrap64; omega
      simp only [laws_markIntS.l0, a1, a3, ↓reduceIte, B.wsucc (show i < 9223372036854775807 by omega), Int.toNat_natCast, e]
      rw [marked_set _ _ hi]
      exact ih) k 0 (by omega) (by omega)
  have e : marked l a 0 = l := by simp [marked, B.run]
  rw [e] at h
  simpa using h

theorem heldIntS (a : Int) (n : Nat) (hn : n ≤ 4194304) (h0 : 0 ≤ a) (h1 : a ≤ 1000000000) (k : Nat) (hk : n < k) : laws_heldIntS.f k (B.run a n) a = some (a + (n : Int)) := by
  unfold laws_heldIntS.f
  have h := B.loop (fun k i => laws_heldIntS.l0 k (B.run a n) (a + (i : Int)) (i : Int)) n (fun _ => some (a + (n : Int)))
    (fun k => by
      simp only [laws_heldIntS.l0]
      rw [if_neg (by rw [B.run_length]; omega)])
    (fun k i hi ih => by
      have a1 : (i : Int) < ((B.run a n).length : Int) := by rw [B.run_length]; omega
      have a3 : 0 ≤ (i : Int) := by omega
      have e : wrap64 (a + (i : Int) + 1) = a + ((i + 1 : Nat) : Int) := by unfold wrap64; omega
      simp only [laws_heldIntS.l0, a1, a3, ↓reduceIte, B.wsucc (show i < 9223372036854775807 by omega), e, rdInt]
      rw [B.run_get a n hi, if_pos rfl]
      exact ih) k 0 (by omega) (by omega)
  simpa using h

end Go.Proofs.Ytinlbiphjgpmmaa.X
end YtinlbiphjgpmmaaXInts
section YtinlbiphjgpmmaaXEv
namespace Go.Proofs.Ytinlbiphjgpmmaa.B
open Go Go.RowKit Go.Proofs.Ytinlbiphjgpmmaa.V Go.Proofs.Ytinlbiphjgpmmaa.P
def Ev {α : Type} (g : Nat → Option α) (v : α) : Prop := ∃ K, ∀ k, K ≤ k → g k = some v
theorem Ev.of {α : Type} {g : Nat → Option α} {v : α} (K : Nat) (h : ∀ k, K < k → g k = some v) : Ev g v := ⟨K + 1, fun k hk => h k hk⟩
theorem Ev.succ {α : Type} {g : Nat → Option α} {v : α} (h : Ev (fun k => g (k + 1)) v) : Ev g v := by
  obtain ⟨K, h⟩ := h
  refine ⟨K + 1, fun k hk => ?_⟩
  obtain ⟨m, rfl⟩ : ∃ m, k = m + 1 := ⟨k - 1, by omega⟩
  exact h m (by omega)
theorem Ev.pure {α : Type} (v : α) : Ev (fun _ => some v) v := ⟨0, fun _ _ => rfl⟩
theorem Ev.bind {α β : Type} {f : Nat → Option α} {g : Nat → α → Option β} {a : α} {v : β} (hf : Ev f a) (hg : Ev (fun k => g k a) v) : Ev (fun k => (f k).bind (g k)) v := by
  obtain ⟨K, hf⟩ := hf
  obtain ⟨L, hg⟩ := hg
  refine ⟨K + L, fun k hk => ?_⟩
  show (f k).bind (g k) = some v
  rw [hf k (by omega), Option.bind_some]
  exact hg k (by omega)
theorem Ev.ite {α : Type} {p : Prop} [Decidable p] {f g : Nat → Option α} {v : α} (hf : p → Ev f v) (hg : ¬p → Ev g v) : Ev (fun k => if p then f k else g k) v := by
  by_cases h : p
  · obtain ⟨K, hf⟩ := hf h; exact ⟨K, fun k hk => by show (if p then f k else g k) = some v; rw [if_pos h]; exact hf k hk⟩
  · obtain ⟨K, hg⟩ := hg h; exact ⟨K, fun k hk => by show (if p then f k else g k) = some v; rw [if_neg h]; exact hg k hk⟩
theorem Ev.eq {α : Type} {g : Nat → Option α} {v w : α} (h : Ev g v) (e : v = w) : Ev g w := e ▸ h
theorem Ev.ex {α : Type} {g : Nat → Option α} {v : α} (h : Ev g v) : ∃ k, g k = some v := by obtain ⟨K, h⟩ := h; exact ⟨K, h K (Nat.le_refl _)⟩
/-- A loop over i, i + 1, .., n, with what holds ahead of each round. -/
theorem Ev.loop {ρ : Type} {g : Nat → Nat → Option ρ} (n : Nat) (I : Nat → Prop) {v : ρ} (last : I n → Ev (fun k => g k n) v)
    (step : ∀ i, i < n → I i → (I (i + 1) → Ev (fun k => g k (i + 1)) v) → Ev (fun k => g k i) v) : ∀ i, i ≤ n → I i → Ev (fun k => g k i) v := by
  intro i hi
  obtain ⟨d, hd⟩ : ∃ d, n - i = d := ⟨_, rfl⟩
  induction d generalizing i with
  | zero => obtain rfl : i = n := by omega
            exact last
  | succ d ih => exact fun hI => step i (by omega) hI (ih (i + 1) (by omega) (by omega))
end Go.Proofs.Ytinlbiphjgpmmaa.B
end YtinlbiphjgpmmaaXEv
section YtinlbiphjgpmmaaXOpsM
namespace Go.Proofs.Ytinlbiphjgpmmaa.X
open Go Go.RowKit Go.Proofs.Ytinlbiphjgpmmaa.V Go.Proofs.Ytinlbiphjgpmmaa.P
set_option linter.all false
theorem rdOp_at (pre : List S87) (x : S87) (rest : List S87) : rd_T87 (pre ++ x :: rest) (pre.length : Int) = x := by
  unfold rd_T87; rw [Int.toNat_natCast, B.getD_lt (by simp)]
  simp
theorem rdNode_at (pre : List S105) (x : S105) (rest : List S105) : rd_T105 (pre ++ x :: rest) (pre.length : Int) = x := by
  unfold rd_T105; rw [Int.toNat_natCast, B.getD_lt (by simp)]
  simp
theorem rdL_at {α : Type} (pre : List (List α)) (x : List α) (rest : List (List α)) : rdL (pre ++ x :: rest) (pre.length : Int) = x := by
  unfold rdL; rw [Int.toNat_natCast, B.getD_lt (by simp)]
  simp
theorem set_at {α : Type} (pre : List α) (x z : α) (rest : List α) : (pre ++ x :: rest).set pre.length z = pre ++ z :: rest := by
  rw [List.set_append_right _ _ (Nat.le_refl _), Nat.sub_self, List.set_cons_zero]
theorem app1 {α : Type} (pre : List α) (x : α) (rest : List α) : (pre ++ [x]) ++ rest = pre ++ x :: rest := by simp
/-- The marked row, and the number behind the last mark. -/
def omark : List S87 → Int → List S87 × Int
  | [], a => ([], a)
  | x :: xs, a => let r := omark xs (a + 4 + (x.f1.length : Int)); (⟨a, B.run (a + 1) x.f1.length, a + 1 + (x.f1.length : Int), a + 2 + (x.f1.length : Int), a + 3 + (x.f1.length : Int)⟩ :: r.1, r.2)
def otot : List S87 → Nat
  | [] => 0
  | x :: xs => 4 + x.f1.length + otot xs
theorem omark_snd : ∀ (xs : List S87) (a : Int), (omark xs a).2 = a + (otot xs : Int)
  | [], a => by simp [omark, otot]
  | x :: xs, a => by simp only [omark, otot, omark_snd xs]; omega
theorem omark_len : ∀ (xs : List S87) (a : Int), (omark xs a).1.length = xs.length
  | [], a => rfl
  | x :: xs, a => by simp only [omark, List.length_cons, omark_len xs]
theorem otot_len : ∀ xs : List S87, xs.length ≤ otot xs
  | [] => Nat.le_refl _
  | x :: xs => by have := otot_len xs; simp only [List.length_cons, otot]; omega
theorem markOps : ∀ (rest pre : List S87) (a : Int), 0 ≤ a → a + (otot rest : Int) ≤ 1000000000 → pre.length + rest.length ≤ 4194304 → (∀ x ∈ rest, x.f1.length ≤ 4194304) → B.Ev (fun k => laws_markOpS.l0 k (pre ++ rest) a (pre.length : Int)) ((omark rest a).2, pre ++ (omark rest a).1) := by
  intro rest
  induction rest with
  | nil =>
    intro pre a _ _ _ _
    refine B.Ev.succ ?_
    simp only [laws_markOpS.l0, List.append_nil, Int.lt_irrefl, ↓reduceIte, omark]
    exact B.Ev.pure _
  | cons x rest ih =>
    intro pre a ha hb hl hx
    have h1 := hx x (List.mem_cons_self ..)
    simp only [otot] at hb
    refine B.Ev.succ ?_
    have hlt : (pre.length : Int) < ((pre ++ x :: rest).length : Int) := by rw [List.length_append, List.length_cons]; omega
    rw [List.length_cons] at hl
    simp only [laws_markOpS.l0, hlt, show 0 ≤ (pre.length : Int) by omega, ↓reduceIte, Option.bind_some, Int.toNat_natCast, rdOp_at, set_at, B.wid (show -9223372036854775808 ≤ a + 1 by omega) (show a + 1 ≤ 9223372036854775807 by omega)]
    refine B.Ev.bind (B.Ev.of _ (fun k hk => markIntS x.f1 (a + 1) (by omega) (by omega) (by omega) k hk)) ?_
    have e1 : wrap64 (a + 1 + (x.f1.length : Int) + 1) = a + 2 + (x.f1.length : Int) := by rw [B.wid (by omega) (by omega)]; omega
    have e2 : wrap64 (a + 2 + (x.f1.length : Int) + 1) = a + 3 + (x.f1.length : Int) := by rw [B.wid (by omega) (by omega)]; omega
    have e3 : wrap64 (a + 3 + (x.f1.length : Int) + 1) = a + 4 + (x.f1.length : Int) := by rw [B.wid (by omega) (by omega)]; omega
    simp only [set_at, rdOp_at, e1, e2, e3, B.wsucc (show pre.length < 9223372036854775807 by omega)]
    have ih := ih (pre ++ [⟨a, B.run (a + 1) x.f1.length, a + 1 + (x.f1.length : Int), a + 2 + (x.f1.length : Int), a + 3 + (x.f1.length : Int)⟩]) (a + 4 + (x.f1.length : Int)) (by omega) (by omega) (by rw [List.length_append, List.length_singleton]; omega) (fun y hy => hx y (List.mem_cons_of_mem _ hy))
    rw [List.length_append, List.length_singleton, app1, app1] at ih
    exact ih
theorem evMarkOps (xs : List S87) (a : Int) (h0 : 0 ≤ a) (h1 : a + (otot xs : Int) ≤ 1000000000) (hl : xs.length ≤ 4194304) (hx : ∀ x ∈ xs, x.f1.length ≤ 4194304) : B.Ev (fun k => laws_markOpS.f k xs a) (a + (otot xs : Int), (omark xs a).1) := by
  have := markOps xs [] a h0 h1 (by simpa using hl) hx
  rw [omark_snd] at this
  simpa [laws_markOpS.f] using this
theorem heldOps : ∀ (rest pre : List S87) (a : Int), 0 ≤ a → a + (otot rest : Int) ≤ 1000000000 → pre.length + rest.length ≤ 4194304 → (∀ x ∈ rest, x.f1.length ≤ 4194304) → B.Ev (fun k => laws_heldOpS.l0 k (pre ++ (omark rest a).1) a (pre.length : Int)) (omark rest a).2 := by
  intro rest
  induction rest with
  | nil =>
    intro pre a _ _ _ _
    refine B.Ev.succ ?_
    simp only [laws_heldOpS.l0, List.append_nil, Int.lt_irrefl, ↓reduceIte, omark]
    exact B.Ev.pure _
  | cons x rest ih =>
    intro pre a ha hb hl hx
    have h1 := hx x (List.mem_cons_self ..)
    simp only [otot] at hb
    refine B.Ev.succ ?_
    rw [List.length_cons] at hl
    simp only [omark]
    have ih := ih (pre ++ [⟨a, B.run (a + 1) x.f1.length, a + 1 + (x.f1.length : Int), a + 2 + (x.f1.length : Int), a + 3 + (x.f1.length : Int)⟩]) (a + 4 + (x.f1.length : Int)) (by omega) (by omega) (by rw [List.length_append, List.length_singleton]; omega) (fun y hy => hx y (List.mem_cons_of_mem _ hy))
    rw [List.length_append, List.length_singleton, app1] at ih
    have hlt : (pre.length : Int) < ((pre ++ (⟨a, B.run (a + 1) x.f1.length, a + 1 + (x.f1.length : Int), a + 2 + (x.f1.length : Int), a + 3 + (x.f1.length : Int)⟩ : S87) :: (omark rest (a + 4 + (x.f1.length : Int))).1).length : Int) := by rw [List.length_append, List.length_cons]; omega
    have e1 : wrap64 (a + 1 + (x.f1.length : Int) + 1) = a + 2 + (x.f1.length : Int) := by rw [B.wid (by omega) (by omega)]; omega
    have e2 : wrap64 (a + 2 + (x.f1.length : Int) + 1) = a + 3 + (x.f1.length : Int) := by rw [B.wid (by omega) (by omega)]; omega
    have e3 : wrap64 (a + 3 + (x.f1.length : Int) + 1) = a + 4 + (x.f1.length : Int) := by rw [B.wid (by omega) (by omega)]; omega
    simp only [laws_heldOpS.l0, hlt, show 0 ≤ (pre.length : Int) by omega, ↓reduceIte, rdOp_at, B.wid (show -9223372036854775808 ≤ a + 1 by omega) (show a + 1 ≤ 9223372036854775807 by omega)]
    refine B.Ev.bind (B.Ev.of _ (fun k hk => heldIntS (a + 1) x.f1.length (by omega) (by omega) (by omega) k hk)) ?_
    simp only [show ¬ (a + 1 + (x.f1.length : Int) < 0) by omega, e1, e2, e3, ↓reduceIte, B.wsucc (show pre.length < 9223372036854775807 by omega)]
    exact ih
theorem evHeldOps (xs : List S87) (a : Int) (h0 : 0 ≤ a) (h1 : a + (otot xs : Int) ≤ 1000000000) (hl : xs.length ≤ 4194304) (hx : ∀ x ∈ xs, x.f1.length ≤ 4194304) : B.Ev (fun k => laws_heldOpS.f k (omark xs a).1 a) (a + (otot xs : Int)) := by
  have := heldOps xs [] a h0 h1 (by simpa using hl) hx
  rw [omark_snd] at this
  simpa [laws_heldOpS.f] using this
/-- Rows of rows. -/
def smark : List (List S87) → Int → List (List S87)
  | [], _ => []
  | x :: xs, a => (omark x a).1 :: smark xs (a + (otot x : Int))
def stot : List (List S87) → Nat
  | [] => 0
  | x :: xs => otot x + stot xs
theorem smark_len : ∀ (xs : List (List S87)) (a : Int), (smark xs a).length = xs.length
  | [], a => rfl
  | x :: xs, a => by simp only [smark, List.length_cons, smark_len xs]
/-- Rows that are not too long. -/
def SIn (xs : List (List S87)) : Prop := ∀ x ∈ xs, x.length ≤ 4194304 ∧ ∀ o ∈ x, o.f1.length ≤ 4194304
theorem markSteps : ∀ (rest pre : List (List S87)) (a : Int), 0 ≤ a → a + (stot rest : Int) ≤ 1000000000 → pre.length + rest.length ≤ 4194304 → SIn rest → B.Ev (fun k => laws_markOpSS.l0 k (pre ++ rest) a (pre.length : Int)) (a + (stot rest : Int), pre ++ smark rest a) := by
  intro rest
  induction rest with
  | nil =>
    intro pre a _ _ _ _
    refine B.Ev.succ ?_
    simp only [laws_markOpSS.l0, List.append_nil, Int.lt_irrefl, ↓reduceIte, smark, stot, Int.natCast_zero, Int.add_zero]
    exact B.Ev.pure _
  | cons x rest ih =>
    intro pre a ha hb hl hx
    have h1 := hx x (List.mem_cons_self ..)
    simp only [stot] at hb
    refine B.Ev.succ ?_
    have hlt : (pre.length : Int) < ((pre ++ x :: rest).length : Int) := by rw [List.length_append, List.length_cons]; omega
    rw [List.length_cons] at hl
    simp only [laws_markOpSS.l0, hlt, show 0 ≤ (pre.length : Int) by omega, ↓reduceIte, Int.toNat_natCast, rdL_at]
    refine B.Ev.bind (evMarkOps x a ha (by omega) h1.1 h1.2) ?_
    simp only [set_at, B.wsucc (show pre.length < 9223372036854775807 by omega)]
    have ih := ih (pre ++ [(omark x a).1]) (a + (otot x : Int)) (by omega) (by omega) (by rw [List.length_append, List.length_singleton]; omega) (fun y hy => hx y (List.mem_cons_of_mem _ hy))
    rw [List.length_append, List.length_singleton, app1, app1, show a + (otot x : Int) + (stot rest : Int) = a + ((otot x + stot rest : Nat) : Int) by omega] at ih
    exact ih
theorem heldSteps : ∀ (rest pre : List (List S87)) (a : Int), 0 ≤ a → a + (stot rest : Int) ≤ 1000000000 → pre.length + rest.length ≤ 4194304 → SIn rest → B.Ev (fun k => laws_heldOpSS.l0 k (pre ++ smark rest a) a (pre.length : Int)) (a + (stot rest : Int)) := by
  intro rest
  induction rest with
  | nil =>
    intro pre a _ _ _ _
    refine B.Ev.succ ?_
    simp only [laws_heldOpSS.l0, List.append_nil, Int.lt_irrefl, ↓reduceIte, smark, stot, Int.natCast_zero, Int.add_zero]
    exact B.Ev.pure _
  | cons x rest ih =>
    intro pre a ha hb hl hx
    have h1 := hx x (List.mem_cons_self ..)
    simp only [stot] at hb
    refine B.Ev.succ ?_
    rw [List.length_cons] at hl
    simp only [smark]
    have hlt : (pre.length : Int) < ((pre ++ (omark x a).1 :: smark rest (a + (otot x : Int))).length : Int) := by rw [List.length_append, List.length_cons]; omega
    simp only [laws_heldOpSS.l0, hlt, show 0 ≤ (pre.length : Int) by omega, ↓reduceIte, rdL_at]
    refine B.Ev.bind (evHeldOps x a ha (by omega) h1.1 h1.2) ?_
    simp only [show ¬ (a + (otot x : Int) < 0) by omega, ↓reduceIte, B.wsucc (show pre.length < 9223372036854775807 by omega)]
    have ih := ih (pre ++ [(omark x a).1]) (a + (otot x : Int)) (by omega) (by omega) (by rw [List.length_append, List.length_singleton]; omega) (fun y hy => hx y (List.mem_cons_of_mem _ hy))
    rw [List.length_append, List.length_singleton, app1, show a + (otot x : Int) + (stot rest : Int) = a + ((otot x + stot rest : Nat) : Int) by omega] at ih
    exact ih
/-- A tree's marks. -/
def nmark : List S105 → Int → List S105
  | [], _ => []
  | _ :: xs, a => ⟨a, a + 1⟩ :: nmark xs (a + 2)
theorem nmark_len : ∀ (xs : List S105) (a : Int), (nmark xs a).length = xs.length
  | [], a => rfl
  | x :: xs, a => by simp only [nmark, List.length_cons, nmark_len xs]
theorem markNodes : ∀ (rest pre : List S105) (a : Int), 0 ≤ a → a + 2 * (rest.length : Int) ≤ 1000000000 → pre.length + rest.length ≤ 4194304 → B.Ev (fun k => laws_markNodeS.l0 k (pre ++ rest) a (pre.length : Int)) (a + 2 * (rest.length : Int), pre ++ nmark rest a) := by
  intro rest
  induction rest with
  | nil =>
    intro pre a _ _ _
    refine B.Ev.succ ?_
    simp only [laws_markNodeS.l0, List.append_nil, Int.lt_irrefl, ↓reduceIte, nmark, List.length_nil, Int.natCast_zero, Int.mul_zero, Int.add_zero]
    exact B.Ev.pure _
  | cons x rest ih =>
    intro pre a ha hb hl
    refine B.Ev.succ ?_
    have hlt : (pre.length : Int) < ((pre ++ x :: rest).length : Int) := by rw [List.length_append, List.length_cons]; omega
    rw [List.length_cons] at hl hb
    have e1 : wrap64 (a + 1) = a + 1 := B.wid (by omega) (by omega)
    have e2 : wrap64 (a + 1 + 1) = a + 2 := by rw [B.wid (by omega) (by omega)]; omega
    simp only [laws_markNodeS.l0, hlt, show 0 ≤ (pre.length : Int) by omega, ↓reduceIte, Option.bind_some, Int.toNat_natCast, rdNode_at, set_at, e1, e2, B.wsucc (show pre.length < 9223372036854775807 by omega), nmark]
    have ih := ih (pre ++ [⟨a, a + 1⟩]) (a + 2) (by omega) (by omega) (by rw [List.length_append, List.length_singleton]; omega)
    rw [List.length_append, List.length_singleton, app1, app1, show a + 2 + 2 * (rest.length : Int) = a + 2 * ((rest.length + 1 : Nat) : Int) by omega] at ih
    exact ih
theorem heldNodes : ∀ (rest pre : List S105) (a : Int), 0 ≤ a → a + 2 * (rest.length : Int) ≤ 1000000000 → pre.length + rest.length ≤ 4194304 → B.Ev (fun k => laws_heldNodeS.l0 k (pre ++ nmark rest a) a (pre.length : Int)) (a + 2 * (rest.length : Int)) := by
  intro rest
  induction rest with
  | nil =>
    intro pre a _ _ _
    refine B.Ev.succ ?_
    simp only [laws_heldNodeS.l0, List.append_nil, Int.lt_irrefl, ↓reduceIte, nmark, List.length_nil, Int.natCast_zero, Int.mul_zero, Int.add_zero]
    exact B.Ev.pure _
  | cons x rest ih =>
    intro pre a ha hb hl
    refine B.Ev.succ ?_
    simp only [nmark]
    have hlt : (pre.length : Int) < ((pre ++ (⟨a, a + 1⟩ : S105) :: nmark rest (a + 2)).length : Int) := by rw [List.length_append, List.length_cons]; omega
    rw [List.length_cons] at hl hb
    have e1 : wrap64 (a + 1) = a + 1 := B.wid (by omega) (by omega)
    have e2 : wrap64 (a + 1 + 1) = a + 2 := by rw [B.wid (by omega) (by omega)]; omega
    simp only [laws_heldNodeS.l0, hlt, show 0 ≤ (pre.length : Int) by omega, ↓reduceIte, rdNode_at, e1, e2, B.wsucc (show pre.length < 9223372036854775807 by omega)]
    have ih := ih (pre ++ [⟨a, a + 1⟩]) (a + 2) (by omega) (by omega) (by rw [List.length_append, List.length_singleton]; omega)
    rw [List.length_append, List.length_singleton, app1, show a + 2 + 2 * (rest.length : Int) = a + 2 * ((rest.length + 1 : Nat) : Int) by omega] at ih
    exact ih
end Go.Proofs.Ytinlbiphjgpmmaa.X
end YtinlbiphjgpmmaaXOpsM
section YtinlbiphjgpmmaaXEvP
namespace Go.Proofs.Ytinlbiphjgpmmaa.B
open Go Go.RowKit Go.Proofs.Ytinlbiphjgpmmaa.V Go.Proofs.Ytinlbiphjgpmmaa.P
def EvP {α : Type} (g : Nat → Option α) (P : α → Prop) : Prop := ∃ v, P v ∧ Ev g v
theorem EvP.of {α : Type} {g : Nat → Option α} {v : α} {P : α → Prop} (h : Ev g v) (p : P v) : EvP g P := ⟨v, p, h⟩
theorem EvP.pure {α : Type} {v : α} {P : α → Prop} (p : P v) : EvP (fun _ => some v) P := ⟨v, p, Ev.pure v⟩
theorem EvP.mono {α : Type} {g : Nat → Option α} {P Q : α → Prop} (h : EvP g P) (q : ∀ v, P v → Q v) : EvP g Q := by
  obtain ⟨v, p, h⟩ := h; exact ⟨v, q v p, h⟩
theorem EvP.succ {α : Type} {g : Nat → Option α} {P : α → Prop} (h : EvP (fun k => g (k + 1)) P) : EvP g P := by
  obtain ⟨v, p, h⟩ := h; exact ⟨v, p, Ev.succ h⟩
theorem EvP.bind {α β : Type} {f : Nat → Option α} {g : Nat → α → Option β} {P : α → Prop} {Q : β → Prop} (hf : EvP f P) (hg : ∀ v, P v → EvP (fun k => g k v) Q) : EvP (fun k => (f k).bind (g k)) Q := by
  obtain ⟨v, p, h⟩ := hf
  obtain ⟨u, q, h'⟩ := hg v p
  exact ⟨u, q, Ev.bind h h'⟩
theorem EvP.ite {α : Type} {p : Prop} [Decidable p] {f g : Nat → Option α} {P : α → Prop} (hf : p → EvP f P) (hg : ¬p → EvP g P) : EvP (fun k => if p then f k else g k) P := by
  by_cases h : p
  · obtain ⟨v, q, e⟩ := hf h; exact ⟨v, q, Ev.ite (fun _ => e) (fun c => absurd h c)⟩
  · obtain ⟨v, q, e⟩ := hg h; exact ⟨v, q, Ev.ite (fun c => absurd c h) (fun _ => e)⟩
/-- From a property of the answer to an answer: the part behind is told of the answer itself. -/
theorem EvP.ev {α : Type} {g : Nat → Option α} {P : α → Prop} (h : EvP g P) : ∃ v, P v ∧ Ev g v := h
theorem Ev.of_mono {α : Type} {g : Nat → Option α} {v : α} (m : ∀ k r, g k = some r → g (k + 1) = some r) {k : Nat} (h : g k = some v) : Ev g v := by
  refine ⟨k, fun j hj => ?_⟩
  obtain ⟨d, rfl⟩ : ∃ d, j = k + d := ⟨j - k, by omega⟩
  clear hj
  induction d with
  | zero => exact h
  | succ d ih => exact m _ _ ih
/-- A drawn answer: a property of what is drawn, and the cursor stays in the code. -/
def Cu (b : List Int) {α : Type} (Q : α → Prop) (t : α × Int × Int) : Prop := Q t.1 ∧ 0 ≤ t.2.1 ∧ t.2.1 ≤ (b.length : Int)
theorem Cu.mk_ {b : List Int} {α : Type} {Q : α → Prop} {v : α} {i h : Int} (q : Q v) (h0 : 0 ≤ i) (h1 : i ≤ (b.length : Int)) : Cu b Q (v, i, h) := ⟨q, h0, h1⟩
end Go.Proofs.Ytinlbiphjgpmmaa.B
end YtinlbiphjgpmmaaXEvP
section YtinlbiphjgpmmaaXOpsC
namespace Go.Proofs.Ytinlbiphjgpmmaa.X
open Go Go.RowKit Go.Proofs.Ytinlbiphjgpmmaa.V Go.Proofs.Ytinlbiphjgpmmaa.P
set_option linter.all false
/-- Operations of paths that are not too long. -/
def PIn (l : List S87) : Prop := l.length ≤ 4194304 ∧ ∀ o ∈ l, o.f1.length ≤ 4194304
theorem copyL : ∀ (rest pre : List S87), pre.length + rest.length ≤ 4194304 → (∀ o ∈ rest, o.f1.length ≤ 4194304) → B.Ev (fun k => spec_l19Copy.l0 k (pre ++ rest) pre (pre.length : Int)) (pre ++ rest) := by
  intro rest
  induction rest with
  | nil =>
    intro pre _ _
    refine B.Ev.succ ?_
    simp only [spec_l19Copy.l0, List.append_nil, Int.lt_irrefl, ↓reduceIte]
    exact B.Ev.pure _
  | cons x rest ih =>
    intro pre hl hx
    have h1 := hx x (List.mem_cons_self ..)
    have hlt : (pre.length : Int) < ((pre ++ x :: rest).length : Int) := by rw [List.length_append, List.length_cons]; omega
    rw [List.length_cons] at hl
    have ih := ih (pre ++ [x]) (by rw [List.length_append, List.length_singleton]; omega) (fun y hy => hx y (List.mem_cons_of_mem _ hy))
    rw [List.length_append, List.length_singleton, app1] at ih
    refine B.Ev.succ ?_
    simp only [spec_l19Copy.l0, hlt, show 0 ≤ (pre.length : Int) by omega, ↓reduceIte, rdOp_at, show x.f1.length * 8 ≤ 140737488355328 by omega, show pre.length < 2513169434916 by omega, B.wsucc (show pre.length < 9223372036854775807 by omega)]
    exact ih
theorem evCopy {l : List S87} (h : PIn l) : B.Ev (fun k => spec_l19Copy.f k l) l := copyL l [] (by simpa using h.1) h.2
theorem evGrow (n : Nat) (hn : n ≤ 4194304) : B.Ev (fun k => slices_Grow_impl_Op_impl_Op.f k (n : Int)) () := by
  have e0 : wrap64 0 = 0 := rfl
  have e1 : wrap64 ((n : Int) - 0) = (n : Int) := by rw [Int.sub_zero]; exact B.wid (by omega) (by omega)
  simp only [slices_Grow_impl_Op_impl_Op.f, show ¬ ((n : Int) < 0) by omega, ↓reduceIte]
  refine B.Ev.succ ?_
  simp only [slices_Grow_impl_Op_impl_Op.j0, e0, e1]
  by_cases c : (n : Int) > 0
  · simp only [c, show (0 : Int) < (n : Int) by omega, Int.toNat_natCast, show n * 56 ≤ 140737488355328 by omega, Int.natCast_nonneg, ↓reduceIte]
    exact B.Ev.pure _
  · simp only [c, ↓reduceIte]
    exact B.Ev.pure _
theorem evConcat {l : List S87} (hl : l.length ≤ 4194304) : B.Ev (fun k => slices_Concat_impl_Op_impl_Op.f k [l, []]) l := by
  have r0 : rdL [l, []] 0 = l := rfl
  have r1 : rdL [l, []] 1 = ([] : List S87) := rfl
  have w0 : wrap64 (0 + (l.length : Int)) = (l.length : Int) := by rw [Int.zero_add]; exact B.wid (by omega) (by omega)
  have w1 : wrap64 ((l.length : Int) + 0) = (l.length : Int) := by rw [Int.add_zero]; exact B.wid (by omega) (by omega)
  have i0 : wrap64 (0 + 1) = 1 := rfl
  have i1 : wrap64 (1 + 1) = 2 := rfl
  have n0 : ¬ ((l.length : Int) < 0) := by omega
  simp only [slices_Concat_impl_Op_impl_Op.f, List.length_cons, List.length_nil]
  refine B.Ev.succ (B.Ev.succ (B.Ev.succ ?_))
  simp only [slices_Concat_impl_Op_impl_Op.l0, List.length_cons, List.length_nil, r0, r1, w0, w1, i0, i1, n0, Int.natCast_zero, show (0 : Int) < ((0 + 1 + 1 : Nat) : Int) by decide, show (1 : Int) < ((0 + 1 + 1 : Nat) : Int) by decide, show ¬ ((2 : Int) < ((0 + 1 + 1 : Nat) : Int)) by decide, show (0 : Int) ≤ 0 by decide, show (0 : Int) ≤ 1 by decide, ↓reduceIte]
  refine B.Ev.bind (evGrow l.length hl) ?_
  refine B.Ev.succ (B.Ev.succ (B.Ev.succ ?_))
  simp only [slices_Concat_impl_Op_impl_Op.l1, slices_Concat_impl_Op_impl_Op.l2, List.length_cons, List.length_nil, r0, r1, i0, i1, Nat.add_zero, List.append_nil, show l.length * 56 ≤ 140737488355328 by omega, show (0 : Int) < ((0 + 1 + 1 : Nat) : Int) by decide, show (1 : Int) < ((0 + 1 + 1 : Nat) : Int) by decide, show ¬ ((2 : Int) < ((0 + 1 + 1 : Nat) : Int)) by decide, show (0 : Int) ≤ 0 by decide, show (0 : Int) ≤ 1 by decide, ↓reduceIte]
  exact B.Ev.pure _
theorem joinL (l0 l1 : List S87) : ∀ (rest pre : List S87), pre.length + rest.length ≤ 4194304 → (∀ o ∈ rest, o.f1.length ≤ 4194304) → B.Ev (fun k => impl_Joined.l0 k pre (pre ++ rest) ((pre ++ rest).length : Int) (pre.length : Int) l0 l1) (pre ++ rest) := by
  intro rest
  induction rest with
  | nil =>
    intro pre _ _
    refine B.Ev.succ ?_
    simp only [impl_Joined.l0, List.append_nil, Int.lt_irrefl, ↓reduceIte]
    exact B.Ev.pure _
  | cons x rest ih =>
    intro pre hl hx
    have h1 := hx x (List.mem_cons_self ..)
    have hlt : (pre.length : Int) < ((pre ++ x :: rest).length : Int) := by rw [List.length_append, List.length_cons]; omega
    rw [List.length_cons] at hl
    have ih := ih (pre ++ [x]) (by rw [List.length_append, List.length_singleton]; omega) (fun y hy => hx y (List.mem_cons_of_mem _ hy))
    rw [app1, show (pre ++ [x]).length = pre.length + 1 by simp] at ih
    refine B.Ev.succ ?_
    simp only [impl_Joined.l0, hlt, show 0 ≤ (pre.length : Int) by omega, ↓reduceIte, rdOp_at, impl_opCopy.f, slices_Clone_int_int.f, show x.f1.length * 8 ≤ 140737488355328 by omega, Option.bind_some, show pre.length < 2513169434916 by omega, B.wsucc (show pre.length < 9223372036854775807 by omega)]
    exact ih
theorem evJoined {l : List S87} (h : PIn l) : B.Ev (fun k => impl_Joined.f k l []) l := by
  simp only [impl_Joined.f]
  refine B.Ev.bind (evConcat h.1) ?_
  exact joinL l [] l [] (by simpa using h.1) h.2
/-- The steps of a history. -/
def HIn (s : List (List S87)) : Prop := s.length ≤ 4194304 ∧ ∀ l ∈ s, PIn l
theorem specStepsL (l0 : List S105) (c0 : List S105) (c1 : List (List S87)) (t : List S105) : ∀ (rest pre : List (List S87)), pre.length + rest.length ≤ 4194304 → (∀ l ∈ rest, PIn l) → B.Ev (fun k => spec_l24Copy.l0 k l0 (pre ++ rest) (pre.length : Int) c0 c1 t pre) (t, pre ++ rest) := by
  intro rest
  induction rest with
  | nil =>
    intro pre _ _
    refine B.Ev.succ ?_
    simp only [spec_l24Copy.l0, List.append_nil, Int.lt_irrefl, ↓reduceIte]
    exact B.Ev.pure _
  | cons x rest ih =>
    intro pre hl hx
    have hlt : (pre.length : Int) < ((pre ++ x :: rest).length : Int) := by rw [List.length_append, List.length_cons]; omega
    rw [List.length_cons] at hl
    have ih := ih (pre ++ [x]) (by rw [List.length_append, List.length_singleton]; omega) (fun y hy => hx y (List.mem_cons_of_mem _ hy))
    rw [List.length_append, List.length_singleton, app1] at ih
    refine B.Ev.succ ?_
    simp only [spec_l24Copy.l0, hlt, show 0 ≤ (pre.length : Int) by omega, ↓reduceIte, rdL_at]
    refine B.Ev.bind (evCopy (hx x (List.mem_cons_self ..))) ?_
    simp only [show pre.length < 5864062014805 by omega, ↓reduceIte, B.wsucc (show pre.length < 9223372036854775807 by omega)]
    exact ih
theorem evL24 {t : List S105} {s : List (List S87)} (ht : t.length ≤ 4194304) (hs : HIn s) : B.Ev (fun k => spec_l24Copy.f k t s) (t, s) := by
  simp only [spec_l24Copy.f, spec_l3Copy.f, show t.length * 16 ≤ 140737488355328 by omega, ↓reduceIte, Option.bind_some]
  exact specStepsL t [] [] t s [] (by simpa using hs.1) hs.2
theorem implStepsL (l0 : List S105) (c0 : List S105) (c1 : List (List S87)) (t : List S105) : ∀ (rest pre : List (List S87)), pre.length + rest.length ≤ 4194304 → (∀ l ∈ rest, PIn l) → B.Ev (fun k => impl_histCopy.l0 k (pre ++ rest) ((pre ++ rest).length : Int) (pre.length : Int) l0 c0 c1 t pre) (t, pre ++ rest) := by
  intro rest
  induction rest with
  | nil =>
    intro pre _ _
    refine B.Ev.succ ?_
    simp only [impl_histCopy.l0, List.append_nil, Int.lt_irrefl, ↓reduceIte]
    exact B.Ev.pure _
  | cons x rest ih =>
    intro pre hl hx
    have hlt : (pre.length : Int) < ((pre ++ x :: rest).length : Int) := by rw [List.length_append, List.length_cons]; omega
    rw [List.length_cons] at hl
    have ih := ih (pre ++ [x]) (by rw [List.length_append, List.length_singleton]; omega) (fun y hy => hx y (List.mem_cons_of_mem _ hy))
    rw [app1, show (pre ++ [x]).length = pre.length + 1 by simp] at ih
    refine B.Ev.succ ?_
    simp only [impl_histCopy.l0, hlt, show 0 ≤ (pre.length : Int) by omega, ↓reduceIte, rdL_at]
    refine B.Ev.bind (evJoined (hx x (List.mem_cons_self ..))) ?_
    simp only [show pre.length < 5864062014805 by omega, ↓reduceIte, B.wsucc (show pre.length < 9223372036854775807 by omega)]
    exact ih
theorem evHistCopy {t : List S105} {s : List (List S87)} (ht : t.length ≤ 4194304) (hs : HIn s) : B.Ev (fun k => impl_histCopy.f k t s) (t, s) := by
  simp only [impl_histCopy.f, slices_Clone_impl_Node_impl_Node.f, show t.length * 16 ≤ 140737488355328 by omega, ↓reduceIte, Option.bind_some]
  exact implStepsL t [] [] t s [] (by simpa using hs.1) hs.2
end Go.Proofs.Ytinlbiphjgpmmaa.X
end YtinlbiphjgpmmaaXOpsC
section YtinlbiphjgpmmaaXMark
namespace Go.Proofs.Ytinlbiphjgpmmaa.X
open Go Go.RowKit Go.Proofs.Ytinlbiphjgpmmaa.V Go.Proofs.Ytinlbiphjgpmmaa.P

theorem l1In (a b c : Int) : spec_l1In.f a b c = some (decide (b ≤ a ∧ a ≤ c)) := by
  unfold spec_l1In.f
  by_cases h : b ≤ a <;> simp [h]
theorem within (a b c : Int) : impl_within.f a b c = some (decide (b ≤ a ∧ a ≤ c)) := by
  unfold impl_within.f
  by_cases h : b ≤ a <;> simp [h]
theorem specLabelOk (a : Int) : spec_LabelOk.f a = some (decide (0 ≤ a ∧ a ≤ 5)) := by unfold spec_LabelOk.f; rw [l1In]; rfl
theorem implLabelOk (a : Int) : impl_LabelOk.f a = some (decide (0 ≤ a ∧ a ≤ 5)) := by unfold impl_LabelOk.f; rw [within]; rfl
end Go.Proofs.Ytinlbiphjgpmmaa.X
end YtinlbiphjgpmmaaXMark
section YtinlbiphjgpmmaaXScrOk
namespace Go.Proofs.Ytinlbiphjgpmmaa.X
open Go Go.RowKit Go.Proofs.Ytinlbiphjgpmmaa.V Go.Proofs.Ytinlbiphjgpmmaa.P
set_option linter.all false
def pathO (l : List Int) : Bool := l.all fun x => decide (0 ≤ x ∧ x ≤ 24)
theorem rd_at (pre : List Int) (x : Int) (rest : List Int) : rd (pre ++ x :: rest) (pre.length : Int) = x := by
  unfold rd; rw [Int.toNat_natCast, B.getD_lt (by simp)]
  simp
theorem specPathL : ∀ (rest pre : List Int), pre.length + rest.length ≤ 4194304 → B.Ev (fun k => spec_l15Path.l0 k (pre ++ rest) (pre.length : Int)) (pathO rest && decide ((pre ++ rest).length ≤ 12)) := by
  intro rest
  induction rest with
  | nil =>
    intro pre hl
    refine B.Ev.succ ?_
    simp only [spec_l15Path.l0, List.append_nil, Int.lt_irrefl, ↓reduceIte, pathO, List.all_nil, Bool.true_and, show ((pre.length : Int) ≤ 12) = (pre.length ≤ 12) from propext (by omega)]
    exact B.Ev.pure _
  | cons x rest ih =>
    intro pre hl
    have hlt : (pre.length : Int) < ((pre ++ x :: rest).length : Int) := by rw [List.length_append, List.length_cons]; omega
    rw [List.length_cons] at hl
    have ih := ih (pre ++ [x]) (by rw [List.length_append, List.length_singleton]; omega)
    rw [app1, show (pre ++ [x]).length = pre.length + 1 by simp] at ih
    refine B.Ev.succ ?_
    simp only [spec_l15Path.l0, hlt, show 0 ≤ (pre.length : Int) by omega, ↓reduceIte, rd_at, l1In, Option.bind_some, decide_eq_true_eq, B.wsucc (show pre.length < 9223372036854775807 by omega), pathO, List.all_cons]
    by_cases c : 0 ≤ x ∧ x ≤ 24
    · simp only [c, and_self, ↓reduceIte, decide_true, Bool.true_and]
      exact ih
    · simp only [c, ↓reduceIte, decide_false, Bool.false_and]
      exact B.Ev.pure _
theorem specPath (l : List Int) (hl : l.length ≤ 4194304) : B.Ev (fun k => spec_l15Path.f k l) (pathO l && decide (l.length ≤ 12)) := specPathL l [] (by simpa using hl)
theorem idxPathL : ∀ (rest pre : List Int), pre.length + rest.length ≤ 4194304 → ∃ r : Int, B.Ev (fun k => slices_IndexFunc_int_int.l0 k (pre ++ rest) ((pre ++ rest).length : Int) (pre.length : Int)) r ∧ decide (r ≥ 0) = !pathO rest := by
  intro rest
  induction rest with
  | nil =>
    intro pre hl
    refine ⟨-1, B.Ev.succ ?_, rfl⟩
    simp only [slices_IndexFunc_int_int.l0, List.append_nil, Int.lt_irrefl, ↓reduceIte]
    exact B.Ev.pure _
  | cons x rest ih =>
    intro pre hl
    have hlt : (pre.length : Int) < ((pre ++ x :: rest).length : Int) := by rw [List.length_append, List.length_cons]; omega
    rw [List.length_cons] at hl
    obtain ⟨r, ih, hr⟩ := ih (pre ++ [x]) (by rw [List.length_append, List.length_singleton]; omega)
    rw [app1, show (pre ++ [x]).length = pre.length + 1 by simp] at ih
    by_cases c : 0 ≤ x ∧ x ≤ 24
    · refine ⟨r, B.Ev.succ ?_, ?_⟩
      · simp only [slices_IndexFunc_int_int.l0, hlt, show 0 ≤ (pre.length : Int) by omega, ↓reduceIte, rd_at, impl_OpOk_lit1.f, within, Option.bind_some, B.wsucc (show pre.length < 9223372036854775807 by omega), c, and_self, decide_true, Bool.not_true, Bool.false_eq_true]
        exact ih
      · rw [hr]; simp only [pathO, List.all_cons, c, and_self, decide_true, Bool.true_and]
    · refine ⟨(pre.length : Int), B.Ev.succ ?_, ?_⟩
      · simp only [slices_IndexFunc_int_int.l0, hlt, show 0 ≤ (pre.length : Int) by omega, ↓reduceIte, rd_at, impl_OpOk_lit1.f, within, Option.bind_some, c, decide_false, Bool.not_false]
        exact B.Ev.pure _
      · simp only [pathO, List.all_cons, c, decide_false, Bool.false_and, Bool.not_false, ge_iff_le, Int.natCast_nonneg, decide_true]
theorem idxPath (l : List Int) (hl : l.length ≤ 4194304) : B.Ev (fun k => slices_ContainsFunc_int_int.f k l) (!pathO l) := by
  obtain ⟨r, h, hr⟩ := idxPathL l [] (by simpa using hl)
  simp only [slices_ContainsFunc_int_int.f, slices_IndexFunc_int_int.f]
  refine B.Ev.bind h ?_
  rw [hr]; exact B.Ev.pure _
/-- An operation is well formed. -/
def okO (o : S87) : Bool := (pathO o.f1 && decide (o.f1.length ≤ 12)) && (if o.f0 = 1 then (decide (0 ≤ o.f2 ∧ o.f2 ≤ 5) && (decide (o.f3 = 0) && (o.f4 == 0))) else if o.f0 = 2 then (decide (o.f2 = 0) && (decide (o.f3 = 0) && (o.f4 == 0))) else if o.f0 = 3 then (decide (0 ≤ o.f2 ∧ o.f2 ≤ 5) && (decide (0 ≤ o.f3 ∧ o.f3 ≤ 24) && decide (0 ≤ o.f4 ∧ o.f4 ≤ 24))) else false)
theorem specOpOk (o : S87) (hl : o.f1.length ≤ 4194304) : B.Ev (fun k => spec_OpOk.f k o.f0 o.f1 o.f2 o.f3 o.f4) (okO o) := by
  simp only [spec_OpOk.f, specLabelOk, l1In, Option.bind_some, decide_eq_true_eq]
  refine B.Ev.bind (specPath o.f1 hl) ?_
  refine B.Ev.of 0 (fun k _ => ?_)
  simp only [okO]
  generalize (pathO o.f1 && decide (o.f1.length ≤ 12)) = p
  cases p
  · simp
  · by_cases c1 : o.f0 = 1
    · by_cases c2 : 0 ≤ o.f2 ∧ o.f2 ≤ 5 <;> by_cases c3 : o.f3 = 0 <;> simp [c1, c2, c3]
    · by_cases c4 : o.f0 = 2
      · by_cases c2 : o.f2 = 0 <;> by_cases c3 : o.f3 = 0 <;> simp [c4, c2, c3]
      · by_cases c5 : o.f0 = 3
        · by_cases c2 : 0 ≤ o.f2 ∧ o.f2 ≤ 5 <;> by_cases c3 : 0 ≤ o.f3 ∧ o.f3 ≤ 24 <;> simp [c5, c2, c3]
        · simp [c1, c4, c5]
theorem implOpOk (o : S87) (hl : o.f1.length ≤ 4194304) : B.Ev (fun k => impl_OpOk.f k o.f0 o.f1 o.f2 o.f3 o.f4) (okO o) := by
  simp only [impl_OpOk.f, implLabelOk, within, Option.bind_some, decide_eq_true_eq]
  by_cases c : (o.f1.length : Int) > 12
  · rw [show okO o = false by simp only [okO, show ¬ (o.f1.length ≤ 12) by omega, decide_false, Bool.and_false, Bool.false_and]]
    simp only [c, ↓reduceIte]; exact B.Ev.pure _
  · simp only [c, ↓reduceIte]
    refine B.Ev.bind (idxPath o.f1 hl) ?_
    refine B.Ev.of 0 (fun k _ => ?_)
    simp only [okO, show o.f1.length ≤ 12 by omega, decide_true, Bool.and_true]
    generalize pathO o.f1 = p
    cases p
    · simp
    · by_cases c1 : o.f0 = 1
      · by_cases c2 : 0 ≤ o.f2 ∧ o.f2 ≤ 5 <;> by_cases c3 : o.f3 = 0 <;> simp [c1, c2, c3]
      · by_cases c4 : o.f0 = 2
        · by_cases c2 : o.f2 = 0 <;> by_cases c3 : o.f3 = 0 <;> simp [c4, c2, c3]
        · by_cases c5 : o.f0 = 3
          · by_cases c2 : 0 ≤ o.f2 ∧ o.f2 ≤ 5 <;> by_cases c3 : 0 ≤ o.f3 ∧ o.f3 ≤ 24 <;> simp [c5, c2, c3]
          · simp [c1, c4, c5]
theorem specScrL : ∀ (rest pre : List S87), pre.length + rest.length ≤ 4194304 → (∀ o ∈ rest, o.f1.length ≤ 4194304) → B.Ev (fun k => spec_ScriptOk.l0 k (pre ++ rest) (pre.length : Int)) (rest.all okO && decide ((pre ++ rest).length ≤ 60)) := by
  intro rest
  induction rest with
  | nil =>
    intro pre hl _
    refine B.Ev.succ ?_
    simp only [spec_ScriptOk.l0, List.append_nil, Int.lt_irrefl, ↓reduceIte, List.all_nil, Bool.true_and, show ((pre.length : Int) ≤ 60) = (pre.length ≤ 60) from propext (by omega)]
    exact B.Ev.pure _
  | cons x rest ih =>
    intro pre hl hx
    have hlt : (pre.length : Int) < ((pre ++ x :: rest).length : Int) := by rw [List.length_append, List.length_cons]; omega
    rw [List.length_cons] at hl
    have ih := ih (pre ++ [x]) (by rw [List.length_append, List.length_singleton]; omega) (fun y hy => hx y (List.mem_cons_of_mem _ hy))
    rw [app1, show (pre ++ [x]).length = pre.length + 1 by simp] at ih
    refine B.Ev.succ ?_
    simp only [spec_ScriptOk.l0, hlt, show 0 ≤ (pre.length : Int) by omega, ↓reduceIte, rdOp_at, B.wsucc (show pre.length < 9223372036854775807 by omega), List.all_cons]
    refine B.Ev.bind (specOpOk x (hx x (List.mem_cons_self ..))) ?_
    cases okO x
    · simp only [Bool.false_eq_true, ↓reduceIte, Bool.false_and]; exact B.Ev.pure _
    · simp only [↓reduceIte, Bool.true_and]; exact ih
theorem evScrOk {l : List S87} (h : PIn l) : B.Ev (fun k => spec_ScriptOk.f k l) (l.all okO && decide (l.length ≤ 60)) := specScrL l [] (by simpa using h.1) h.2
theorem idxScrL : ∀ (rest pre : List S87), pre.length + rest.length ≤ 4194304 → (∀ o ∈ rest, o.f1.length ≤ 4194304) → ∃ r : Int, B.Ev (fun k => slices_IndexFunc_impl_Op_impl_Op.l0 k (pre ++ rest) ((pre ++ rest).length : Int) (pre.length : Int)) r ∧ decide (r ≥ 0) = !rest.all okO := by
  intro rest
  induction rest with
  | nil =>
    intro pre hl _
    refine ⟨-1, B.Ev.succ ?_, rfl⟩
    simp only [slices_IndexFunc_impl_Op_impl_Op.l0, List.append_nil, Int.lt_irrefl, ↓reduceIte]
    exact B.Ev.pure _
  | cons x rest ih =>
    intro pre hl hx
    have hlt : (pre.length : Int) < ((pre ++ x :: rest).length : Int) := by rw [List.length_append, List.length_cons]; omega
    rw [List.length_cons] at hl
    obtain ⟨r, ih, hr⟩ := ih (pre ++ [x]) (by rw [List.length_append, List.length_singleton]; omega) (fun y hy => hx y (List.mem_cons_of_mem _ hy))
    rw [app1, show (pre ++ [x]).length = pre.length + 1 by simp] at ih
    have hok := implOpOk x (hx x (List.mem_cons_self ..))
    cases c : okO x
    · rw [c] at hok
      refine ⟨(pre.length : Int), B.Ev.succ ?_, ?_⟩
      · simp only [slices_IndexFunc_impl_Op_impl_Op.l0, hlt, show 0 ≤ (pre.length : Int) by omega, ↓reduceIte, rdOp_at, impl_ScriptOk_lit1.f]
        refine B.Ev.bind (B.Ev.bind hok (B.Ev.pure _)) ?_
        simp only [Bool.not_false, ↓reduceIte]
        exact B.Ev.pure _
      · simp only [List.all_cons, c, Bool.false_and, Bool.not_false, ge_iff_le, Int.natCast_nonneg, decide_true]
    · rw [c] at hok
      refine ⟨r, B.Ev.succ ?_, ?_⟩
      · simp only [slices_IndexFunc_impl_Op_impl_Op.l0, hlt, show 0 ≤ (pre.length : Int) by omega, ↓reduceIte, rdOp_at, impl_ScriptOk_lit1.f, B.wsucc (show pre.length < 9223372036854775807 by omega)]
        refine B.Ev.bind (B.Ev.bind hok (B.Ev.pure _)) ?_
        simp only [Bool.not_true, Bool.false_eq_true, ↓reduceIte]
        exact ih
      · rw [hr]; simp only [List.all_cons, c, Bool.true_and]
theorem evScrOk' {l : List S87} (h : PIn l) : B.Ev (fun k => impl_ScriptOk.f k l) (l.all okO && decide (l.length ≤ 60)) := by
  simp only [impl_ScriptOk.f, slices_ContainsFunc_impl_Op_impl_Op.f, slices_IndexFunc_impl_Op_impl_Op.f]
  by_cases c : (l.length : Int) ≤ 60
  · simp only [c, ↓reduceIte, show l.length ≤ 60 by omega, decide_true, Bool.and_true]
    obtain ⟨r, h1, hr⟩ := idxScrL l [] (by simpa using h.1) h.2
    refine B.Ev.bind (B.Ev.bind h1 (B.Ev.pure _)) ?_
    rw [hr, Bool.not_not]; exact B.Ev.pure _
  · simp only [c, ↓reduceIte, show ¬ (l.length ≤ 60) by omega, decide_false, Bool.and_false]
    exact B.Ev.pure _
end Go.Proofs.Ytinlbiphjgpmmaa.X
end YtinlbiphjgpmmaaXScrOk
section YtinlbiphjgpmmaaXTree
namespace Go.Proofs.Ytinlbiphjgpmmaa.X
open Go Go.RowKit Go.Proofs.Ytinlbiphjgpmmaa.V Go.Proofs.Ytinlbiphjgpmmaa.P

theorem rdNode {xs : List S105} {i : Nat} : rd_T105 xs (i : Int) = xs.getD i z105 := by unfold rd_T105; rw [Int.toNat_natCast]
/-- Label and depth of a node. -/
def lab (l : List S105) (i : Nat) : Int := (l.getD i z105).f0
def dep (l : List S105) (i : Nat) : Int := (l.getD i z105).f1
def okAt (l : List S105) (i : Nat) : Bool :=
  decide (0 ≤ lab l i ∧ lab l i ≤ 5) && decide (0 ≤ dep l i ∧ dep l i ≤ 12) && decide (dep l i = 0 ↔ i = 0) && (decide (i = 0) || decide (dep l i ≤ dep l (i - 1) + 1))
def okUpto (l : List S105) (n : Nat) : Bool := (List.range n).all (okAt l)
/-- The tree is valid. -/
def okT (l : List S105) : Bool := decide (1 ≤ l.length ∧ l.length ≤ 24) && okUpto l l.length

theorem okUpto_succ (l : List S105) (n : Nat) : okUpto l (n + 1) = (okUpto l n && okAt l n) := by unfold okUpto; rw [List.range_succ, List.all_append]; simp
theorem okUpto_at {l : List S105} {n i : Nat} (h : okUpto l n = true) (hi : i < n) : okAt l i = true := by
  unfold okUpto at h; exact List.all_eq_true.1 h i (List.mem_range.2 hi)
theorem okAt_iff {l : List S105} {i : Nat} : okAt l i = true ↔ (0 ≤ lab l i ∧ lab l i ≤ 5) ∧ (0 ≤ dep l i ∧ dep l i ≤ 12) ∧ (dep l i = 0 ↔ i = 0) ∧ (i = 0 ∨ dep l i ≤ dep l (i - 1) + 1) := by
  unfold okAt; simp [and_assoc]
theorem okUpto_mono {l : List S105} {n m : Nat} (h : okUpto l n = true) (hm : m ≤ n) : okUpto l m = true := by
  unfold okUpto at *; exact List.all_eq_true.2 fun i hi => List.all_eq_true.1 h i (List.mem_range.2 (by have := List.mem_range.1 hi; omega))
theorem okUpto_false {l : List S105} {n i : Nat} (h : okAt l i = false) (hi : i < n) : okUpto l n = false := by
  rw [Bool.eq_false_iff]; intro hc; rw [okUpto_at hc hi] at h; cases h
theorem okT_len {l : List S105} (h : okT l = true) : 1 ≤ l.length ∧ l.length ≤ 24 := by unfold okT at h; simp at h; exact h.1
theorem okT_upto {l : List S105} (h : okT l = true) : okUpto l l.length = true := by unfold okT at h; simp at h; exact h.2
theorem okT_at {l : List S105} (h : okT l = true) {i : Nat} (hi : i < l.length) : (0 ≤ lab l i ∧ lab l i ≤ 5) ∧ (0 ≤ dep l i ∧ dep l i ≤ 12) ∧ (dep l i = 0 ↔ i = 0) ∧ (i = 0 ∨ dep l i ≤ dep l (i - 1) + 1) :=
  okAt_iff.1 (okUpto_at (okT_upto h) hi)


theorem specTreeOk (l : List S105) (hl : l.length ≤ 4194304) (k : Nat) (hk : l.length < k) : spec_TreeOk.f k l = some (okT l) := by
  unfold spec_TreeOk.f
  refine B.loopI (fun k i => spec_TreeOk.l0 k l (i : Int)) l.length 0 (fun i => okUpto l i = true) (fun _ => some (okT l)) ?_ ?_ k 0 (by omega) (by simp [okUpto]) (by omega)
  · intro k _ hI
    simp only [spec_TreeOk.l0]
    rw [if_neg (by omega), l1In]
    unfold okT
    rw [hI]
    simp only [Option.bind_some, Bool.and_true, Option.some.injEq]
    congr 1
    apply propext
    omega
  · intro k i _ hi hI ih
    have a1 : (i : Int) < (l.length : Int) := by omega
    have a3 : 0 ≤ (i : Int) := by omega
    simp only [spec_TreeOk.l0, a1, a3, ↓reduceIte, B.wsucc (show i < 9223372036854775807 by omega), specLabelOk, l1In, Option.bind_some, rdNode]
    rw [okUpto_succ, hI, Bool.true_and] at ih
    have hno : okAt l i = false → some false = some (okT l) := fun h => by
      unfold okT; rw [okUpto_false h hi, Bool.and_false]
    have e0 : lab l i = (l.getD i z105).f0 := rfl
    have e1 : dep l i = (l.getD i z105).f1 := rfl
    rw [← e0, ← e1]
    by_cases h1 : 0 ≤ lab l i ∧ lab l i ≤ 5
    · rw [if_pos (by simpa using h1)]
      by_cases h2 : 0 ≤ dep l i ∧ dep l i ≤ 12
      · rw [if_pos (by simpa using h2)]
        by_cases h3 : (dep l i = 0 ↔ i = 0)
        · rw [if_pos (by rw [Bool.eq_iff_iff]; simp only [decide_eq_true_eq]; omega)]
          rcases Nat.eq_zero_or_pos i with h0 | h0
          · subst h0
            rw [if_neg (by simp)]
            exact ih (okAt_iff.2 ⟨h1, h2, h3, Or.inl rfl⟩)
          · have ew : wrap64 ((i : Int) - 1) = ((i - 1 : Nat) : Int) := by unfold wrap64; omega
            have hp := (okAt_iff.1 (okUpto_at hI (i := i - 1) (by omega))).2.1
            rw [if_pos (by omega), ew, if_pos (by omega), if_pos (by omega), rdNode]
            have e2 : dep l (i - 1) = (l.getD (i - 1) z105).f1 := rfl
            rw [← e2, B.wid (by omega) (by omega)]
            by_cases h4 : dep l i ≤ dep l (i - 1) + 1
            · rw [if_neg (by omega)]
              exact ih (okAt_iff.2 ⟨h1, h2, h3, Or.inr h4⟩)
            · rw [if_pos (by omega)]
              refine hno ?_
              rw [Bool.eq_false_iff]; intro hc
              rcases (okAt_iff.1 hc).2.2.2 with h | h <;> omega
        · rw [if_neg (by rw [Bool.eq_iff_iff]; simp only [decide_eq_true_eq]; omega)]
          refine hno ?_
          rw [Bool.eq_false_iff]; intro hc; exact h3 (okAt_iff.1 hc).2.2.1
      · rw [if_neg (by simpa using h2)]
        refine hno ?_
        rw [Bool.eq_false_iff]; intro hc; exact h2 (okAt_iff.1 hc).2.1
    · rw [if_neg (by simpa using h1)]
      refine hno ?_
      rw [Bool.eq_false_iff]; intro hc; exact h1 (okAt_iff.1 hc).1

theorem implTreeOk (l : List S105) (hl : l.length ≤ 4194304) (k : Nat) (hk : l.length < k) : impl_TreeOk.f k l = some (okT l) := by
  unfold impl_TreeOk.f
  rw [within]
  simp only [Option.bind_some]
  by_cases hn : 1 ≤ l.length ∧ l.length ≤ 24
  · rw [if_pos (by simp; omega)]
    refine B.loopI (fun k i => impl_TreeOk.l0 k l l (l.length : Int) (i : Int)) l.length 0 (fun i => okUpto l i = true) (fun _ => some (okT l)) ?_ ?_ k 0 (by omega) (by simp [okUpto]) (by omega)
    · intro k _ hI
      simp only [impl_TreeOk.l0]
      rw [if_neg (by omega)]
      unfold okT
      rw [hI, decide_eq_true hn]; rfl
    · intro k i _ hi hI ih
      have a1 : (i : Int) < (l.length : Int) := by omega
      have a3 : 0 ≤ (i : Int) := by omega
      simp only [impl_TreeOk.l0, a1, a3, ↓reduceIte, B.wsucc (show i < 9223372036854775807 by omega), implLabelOk, within, Option.bind_some, rdNode]
      rw [okUpto_succ, hI, Bool.true_and] at ih
      have hno : okAt l i = false → some false = some (okT l) := fun h => by
        unfold okT; rw [okUpto_false h hi, Bool.and_false]
      have e0 : lab l i = (l.getD i z105).f0 := rfl
      have e1 : dep l i = (l.getD i z105).f1 := rfl
      rw [← e0, ← e1]
      by_cases h1 : 0 ≤ lab l i ∧ lab l i ≤ 5
      · rw [if_pos (by simpa using h1)]
        by_cases h2 : 0 ≤ dep l i ∧ dep l i ≤ 12
        · rw [if_pos (by simpa using h2)]
          have hd : impl_depthOk.f l (i : Int) = some (decide ((dep l i = 0 ↔ i = 0) ∧ (i = 0 ∨ dep l i ≤ dep l (i - 1) + 1))) := by
            unfold impl_depthOk.f
            rcases Nat.eq_zero_or_pos i with h0 | h0
            · subst h0
              rw [if_pos (by simp), if_pos (by omega)]
              have := rdNode (xs := l) (i := 0)
              rw [show ((0 : Nat) : Int) = 0 from rfl] at this
              rw [this]
              show some (dep l 0 == 0) = _
              rw [Option.some.injEq, Bool.eq_iff_iff]; simp
            · have ew : wrap64 ((i : Int) - 1) = ((i - 1 : Nat) : Int) := by unfold wrap64; omega
              have hp := (okAt_iff.1 (okUpto_at hI (i := i - 1) (by omega))).2.1
              rw [if_neg (by omega), if_pos (by omega), if_pos a1, ew, if_pos (by omega), if_pos (by omega), rdNode, rdNode]
              have e2 : dep l (i - 1) = (l.getD (i - 1) z105).f1 := rfl
              rw [← e1, ← e2, within, B.wid (by omega) (by omega)]
              simp only [Option.bind_some, Option.some.injEq]
              congr 1
              apply propext
              omega
          rw [hd]
          simp only [Option.bind_some]
          by_cases h3 : (dep l i = 0 ↔ i = 0) ∧ (i = 0 ∨ dep l i ≤ dep l (i - 1) + 1)
          · rw [if_pos (by simpa using h3)]
            exact ih (okAt_iff.2 ⟨h1, h2, h3⟩)
          · rw [if_neg (by simpa using h3)]
            refine hno ?_
            rw [Bool.eq_false_iff]; intro hc; exact h3 (okAt_iff.1 hc).2.2
        · rw [if_neg (by simpa using h2)]
          refine hno ?_
          rw [Bool.eq_false_iff]; intro hc; exact h2 (okAt_iff.1 hc).2.1
      · rw [if_neg (by simpa using h1)]
        refine hno ?_
        rw [Bool.eq_false_iff]; intro hc; exact h1 (okAt_iff.1 hc).1
  · rw [if_neg (by simp; omega)]
    unfold okT
    rw [decide_eq_false hn]; rfl
end Go.Proofs.Ytinlbiphjgpmmaa.X
end YtinlbiphjgpmmaaXTree
section YtinlbiphjgpmmaaXEnd
namespace Go.Proofs.Ytinlbiphjgpmmaa.X
open Go Go.RowKit Go.Proofs.Ytinlbiphjgpmmaa.V Go.Proofs.Ytinlbiphjgpmmaa.P
set_option linter.all false

def isAt (l : List S105) (i : Int) : Bool := okT l && decide (0 ≤ i ∧ i ≤ (l.length : Int) - 1)
theorem isAt_okT {l : List S105} {i : Int} (h : isAt l i = true) : okT l = true := by unfold isAt at h; simp at h; exact h.1
theorem isAt_nat {l : List S105} {i : Int} (h : isAt l i = true) : ∃ n : Nat, i = (n : Int) ∧ n < l.length := by
  unfold isAt at h; simp at h
  exact ⟨i.toNat, by omega, by omega⟩
theorem isAt_of {l : List S105} {n : Nat} (h : okT l = true) (hn : n < l.length) : isAt l (n : Int) = true := by
  unfold isAt; simp [h]; omega

theorem evAt (l : List S105) (hl : l.length ≤ 4194304) (i : Int) : B.Ev (fun k => spec_l3At.f k l i) (isAt l i) := by
  simp only [spec_l3At.f]
  refine B.Ev.bind (B.Ev.of _ (fun k hk => specTreeOk l hl k hk)) ?_
  have e : wrap64 ((l.length : Int) - 1) = (l.length : Int) - 1 := B.wid (by omega) (by omega)
  simp only [l1In, e, Option.bind_some]
  refine B.Ev.ite (fun h => ?_) (fun h => ?_)
  · exact (B.Ev.pure _).eq (by simp [isAt, h])
  · exact (B.Ev.pure _).eq (by simp [isAt, h])

/-- The place behind the last node under i. -/
def endGo (l : List S105) (i : Nat) : Nat → Nat → Nat
  | 0, j => j
  | n + 1, j => if dep l j > dep l i then endGo l i n (j + 1) else j
def endN (l : List S105) (i : Nat) : Nat := endGo l i (l.length - (i + 1)) (i + 1)

theorem evEndLoop (l : List S105) (hl : l.length ≤ 4194304) (i : Nat) (hi : i < l.length) : ∀ n j : Nat, j + n = l.length → B.Ev (fun k => spec_EndOf.l0 k l (i : Int) (j : Int)) (endGo l i n j : Int) := by
  intro n
  have a3 : 0 ≤ (i : Int) := by omega
  have a4 : (i : Int) < (l.length : Int) := by omega
  induction n with
  | zero =>
    intro j hj
    refine B.Ev.succ ?_
    simp only [spec_EndOf.l0, endGo, show ¬ ((j : Int) < (l.length : Int)) by omega, ↓reduceIte]
    exact B.Ev.pure _
  | succ n ih =>
    intro j hj
    refine B.Ev.succ ?_
    have a1 : (j : Int) < (l.length : Int) := by omega
    have a2 : 0 ≤ (j : Int) := by omega
    simp only [spec_EndOf.l0, endGo, a1, a2, a3, a4, ↓reduceIte, rdNode, B.wsucc (show j < 9223372036854775807 by omega)]
    by_cases c : dep l j > dep l i
    · have c' : (l.getD j z105).f1 > (l.getD i z105).f1 := c
      simp only [c, c', ↓reduceIte]
      exact ih (j + 1) (by omega)
    · have c' : ¬ (l.getD j z105).f1 > (l.getD i z105).f1 := c
      simp only [c, c', ↓reduceIte]
      exact B.Ev.pure _
theorem evEndLoop' (l : List S105) (hl : l.length ≤ 4194304) (i : Nat) (hi : i < l.length) : ∀ n j : Nat, j + n = l.length → B.Ev (fun k => impl_endOf.l0 k l (i : Int) (j : Int)) (endGo l i n j : Int) := by
  intro n
  have a3 : 0 ≤ (i : Int) := by omega
  have a4 : (i : Int) < (l.length : Int) := by omega
  induction n with
  | zero =>
    intro j hj
    refine B.Ev.succ ?_
    simp only [impl_endOf.l0, endGo, show ¬ ((j : Int) < (l.length : Int)) by omega, ↓reduceIte]
    exact B.Ev.pure _
  | succ n ih =>
    intro j hj
    refine B.Ev.succ ?_
    have a1 : (j : Int) < (l.length : Int) := by omega
    have a2 : 0 ≤ (j : Int) := by omega
    simp only [impl_endOf.l0, endGo, a1, a2, a3, a4, ↓reduceIte, rdNode, B.wsucc (show j < 9223372036854775807 by omega)]
    by_cases c : dep l j > dep l i
    · have c' : (l.getD j z105).f1 > (l.getD i z105).f1 := c
      simp only [c, c', ↓reduceIte]
      exact ih (j + 1) (by omega)
    · have c' : ¬ (l.getD j z105).f1 > (l.getD i z105).f1 := c
      simp only [c, c', ↓reduceIte]
      exact B.Ev.pure _
theorem evEnd {l : List S105} (h : okT l = true) {i : Nat} (hi : i < l.length) : B.Ev (fun k => spec_EndOf.f k l (i : Int)) (endN l i : Int) := by
  have hl := (okT_len h).2
  simp only [spec_EndOf.f]
  refine B.Ev.bind (evAt l (by omega) _) ?_
  rw [isAt_of h hi]
  simp only [↓reduceIte, B.wsucc (show i < 9223372036854775807 by omega)]
  exact evEndLoop l (by omega) i hi _ (i + 1) (by omega)
theorem evEnd' {l : List S105} (h : okT l = true) {i : Nat} (hi : i < l.length) : B.Ev (fun k => impl_endOf.f k l (i : Int)) (endN l i : Int) := by
  have hl := (okT_len h).2
  simp only [impl_endOf.f, B.wsucc (show i < 9223372036854775807 by omega)]
  exact evEndLoop' l (by omega) i hi _ (i + 1) (by omega)
theorem endGo_spec (l : List S105) (i : Nat) : ∀ n j, j + n = l.length → j ≤ endGo l i n j ∧ endGo l i n j ≤ l.length ∧ (∀ g, j ≤ g → g < endGo l i n j → dep l g > dep l i) ∧ (endGo l i n j < l.length → dep l (endGo l i n j) ≤ dep l i) := by
  intro n
  induction n with
  | zero => intro j hj; simp only [endGo]; exact ⟨Nat.le_refl _, by omega, fun g h1 h2 => by omega, fun h => by omega⟩
  | succ n ih =>
    intro j hj
    simp only [endGo]
    split
    · next c =>
      obtain ⟨h1, h2, h3, h4⟩ := ih (j + 1) (by omega)
      refine ⟨by omega, h2, fun g g1 g2 => ?_, h4⟩
      rcases Nat.lt_or_ge j g with d | d
      · exact h3 g (by omega) g2
      · obtain rfl : g = j := by omega
        exact c
    · next c => exact ⟨Nat.le_refl _, by omega, fun g h1 h2 => by omega, fun _ => by omega⟩
theorem endN_spec (l : List S105) {i : Nat} (hi : i < l.length) : i < endN l i ∧ endN l i ≤ l.length ∧ (∀ g, i < g → g < endN l i → dep l g > dep l i) ∧ (endN l i < l.length → dep l (endN l i) ≤ dep l i) := by
  have := endGo_spec l i (l.length - (i + 1)) (i + 1) (by omega)
  unfold endN
  exact ⟨by omega, this.2.1, fun g h1 h2 => this.2.2.1 g (by omega) h2, this.2.2.2⟩
end Go.Proofs.Ytinlbiphjgpmmaa.X
end YtinlbiphjgpmmaaXEnd
section YtinlbiphjgpmmaaXKids
namespace Go.Proofs.Ytinlbiphjgpmmaa.X
open Go Go.RowKit Go.Proofs.Ytinlbiphjgpmmaa.V Go.Proofs.Ytinlbiphjgpmmaa.P
set_option linter.all false
/-- Subtrees lie one in the other or apart. -/
theorem endN_in (l : List S105) {x y : Nat} (hy : y < l.length) (h : x < y) (h2 : y < endN l x) : endN l y ≤ endN l x := by
  have a := endN_spec l (show x < l.length by omega)
  have b := endN_spec l hy
  rcases Nat.lt_or_ge (endN l x) (endN l y) with c | c
  · have d1 := a.2.2.2 (by omega)
    have d2 := b.2.2.1 (endN l x) h2 c
    have d3 := a.2.2.1 y h h2
    omega
  · exact c
/-- The children of i from place c on. -/
def kidF (l : List S105) (i a b : Nat) : List Nat := (List.range' a (b - a)).filter fun j => decide (dep l j = dep l i + 1)
def kids (l : List S105) (i : Nat) : List Nat := kidF l i (i + 1) (endN l i)
theorem kidF_snoc (l : List S105) (i a b : Nat) (h : a ≤ b) : kidF l i a (b + 1) = kidF l i a b ++ if dep l b = dep l i + 1 then [b] else [] := by
  unfold kidF
  rw [show b + 1 - a = (b - a) + 1 by omega, List.range'_concat, List.filter_append, show a + 1 * (b - a) = b by omega]
  split <;> rename_i c
  · rw [List.filter_cons_of_pos (by simp [c])]; rfl
  · rw [List.filter_cons_of_neg (by simp [c])]; rfl
theorem kidF_len (l : List S105) (i a b : Nat) : (kidF l i a b).length ≤ b - a := by
  unfold kidF
  exact Nat.le_trans (List.length_filter_le _ _) (by simp)
theorem kidF_end (l : List S105) (i b : Nat) : kidF l i b b = [] := by unfold kidF; simp
/-- A child, then the children behind its subtree. -/
theorem kidF_cons (l : List S105) {i c : Nat} (hi : i < c) (hc : c < endN l i) (hil : i < l.length) (hd : dep l c = dep l i + 1) :
    kidF l i c (endN l i) = c :: kidF l i (endN l c) (endN l i) := by
  have a := endN_spec l hil
  have b := endN_spec l (show c < l.length by omega)
  have e := endN_in l (show c < l.length by omega) hi hc
  unfold kidF
  rw [show endN l i - c = 1 + ((endN l c - (c + 1)) + (endN l i - endN l c)) by omega, ← List.range'_append_1, ← List.range'_append_1, List.filter_append, List.filter_append]
  rw [show c + 1 + (endN l c - (c + 1)) = endN l c by omega]
  have n1 : (List.range' (c + 1) (endN l c - (c + 1))).filter (fun j => decide (dep l j = dep l i + 1)) = [] := by
    rw [List.filter_eq_nil_iff]
    intro j hj
    rw [List.mem_range'_1] at hj
    have := b.2.2.1 j (by omega) (by omega)
    simp; omega
  rw [n1]
  simp [List.range'_succ, hd]

theorem evKids {l : List S105} (h : okT l = true) {i : Nat} (hi : i < l.length) : B.Ev (fun k => spec_KidsOf.f k l (i : Int)) ((kids l i).map fun (j : Nat) => (j : Int)) := by
  have hl := (okT_len h).2
  have a := endN_spec l hi
  simp only [spec_KidsOf.f, B.wsucc (show i < 9223372036854775807 by omega)]
  have e0 : ([] : List Int) = (kidF l i (i + 1) (i + 1)).map fun (j : Nat) => (j : Int) := by rw [kidF_end]; rfl
  rw [e0]
  have a3 : 0 ≤ (i : Int) := by omega
  have a4 : (i : Int) < (l.length : Int) := by omega
  refine B.Ev.loop (g := fun k j => spec_KidsOf.l0 k l (i : Int) ((kidF l i (i + 1) j).map fun (j : Nat) => (j : Int)) (j : Int)) (endN l i) (fun j => i + 1 ≤ j) ?_ ?_ (i + 1) (by omega) (Nat.le_refl _)
  · intro _
    refine B.Ev.succ ?_
    simp only [spec_KidsOf.l0]
    refine B.Ev.bind (evAt l (by omega) _) ?_
    rw [isAt_of h hi]
    simp only [↓reduceIte]
    refine B.Ev.bind (evEnd h hi) ?_
    simp only [Int.lt_irrefl, ↓reduceIte]
    exact B.Ev.pure _
  · intro j hj hI ih
    refine B.Ev.succ ?_
    simp only [spec_KidsOf.l0]
    refine B.Ev.bind (evAt l (by omega) _) ?_
    rw [isAt_of h hi]
    simp only [↓reduceIte]
    refine B.Ev.bind (evEnd h hi) ?_
    have a1 : (j : Int) < (l.length : Int) := by omega
    have a2 : 0 ≤ (j : Int) := by omega
    have a5 : (j : Int) < (endN l i : Int) := by omega
    have d := okT_at h hi
    have ew : wrap64 (dep l i + 1) = dep l i + 1 := B.wid (by omega) (by omega)
    have ew' : wrap64 ((l.getD i z105).f1 + 1) = (l.getD i z105).f1 + 1 := ew
    have hk := kidF_len l i (i + 1) j
    have lm : ((kidF l i (i + 1) j).map fun (j : Nat) => (j : Int)).length < 17592186044416 := by rw [List.length_map]; omega
    simp only [a1, a2, a3, a4, a5, lm, ↓reduceIte, rdNode, ew', B.wsucc (show j < 9223372036854775807 by omega)]
    have ih := ih (by omega)
    rw [kidF_snoc l i (i + 1) j hI] at ih
    by_cases c : dep l j = dep l i + 1
    · have c' : (l.getD j z105).f1 = (l.getD i z105).f1 + 1 := c
      simp only [c', ↓reduceIte]
      simp only [c, ↓reduceIte, List.map_append, List.map_cons, List.map_nil] at ih
      exact ih
    · have c' : ¬ (l.getD j z105).f1 = (l.getD i z105).f1 + 1 := c
      simp only [c', ↓reduceIte]
      simp only [c, ↓reduceIte, List.append_nil] at ih
      exact ih
end Go.Proofs.Ytinlbiphjgpmmaa.X
end YtinlbiphjgpmmaaXKids
section YtinlbiphjgpmmaaXHas
namespace Go.Proofs.Ytinlbiphjgpmmaa.X
open Go Go.RowKit Go.Proofs.Ytinlbiphjgpmmaa.V Go.Proofs.Ytinlbiphjgpmmaa.P
set_option linter.all false
theorem evHas (l : List S105) (hl : l.length ≤ 4194304) (i : Int) : B.Ev (fun k => impl_hasNode.f k l i) (isAt l i) := by
  simp only [impl_hasNode.f]
  refine B.Ev.bind (B.Ev.of _ (fun k hk => implTreeOk l hl k hk)) ?_
  have e : wrap64 ((l.length : Int) - 1) = (l.length : Int) - 1 := B.wid (by omega) (by omega)
  simp only [within, e, Option.bind_some]
  refine B.Ev.ite (fun h => ?_) (fun h => ?_)
  · exact (B.Ev.pure _).eq (by simp [isAt, h])
  · exact (B.Ev.pure _).eq (by simp [isAt, h])
end Go.Proofs.Ytinlbiphjgpmmaa.X
end YtinlbiphjgpmmaaXHas
section YtinlbiphjgpmmaaXKidsI
namespace Go.Proofs.Ytinlbiphjgpmmaa.X
open Go Go.RowKit Go.Proofs.Ytinlbiphjgpmmaa.V Go.Proofs.Ytinlbiphjgpmmaa.P
set_option linter.all false
theorem evKids' {l : List S105} (h : okT l = true) {i : Nat} (hi : i < l.length) : B.Ev (fun k => impl_KidsOf.f k l (i : Int)) ((kids l i).map fun (j : Nat) => (j : Int)) := by
  have hl := (okT_len h).2
  have a := endN_spec l hi
  simp only [impl_KidsOf.f, Option.bind_some, B.wsucc (show i < 9223372036854775807 by omega)]
  refine B.Ev.bind (evHas l (by omega) _) ?_
  rw [isAt_of h hi]
  simp only [↓reduceIte]
  have e0 : ([] : List Int) = (kidF l i (i + 1) (i + 1)).map fun (j : Nat) => (j : Int) := by rw [kidF_end]; rfl
  rw [e0]
  have a3 : 0 ≤ (i : Int) := by omega
  have a4 : (i : Int) < (l.length : Int) := by omega
  refine B.Ev.loop (g := fun k j => impl_KidsOf.l0 k l (i : Int) ((kidF l i (i + 1) j).map fun (j : Nat) => (j : Int)) (j : Int)) (endN l i) (fun j => i + 1 ≤ j) ?_ ?_ (i + 1) (by omega) (Nat.le_refl _)
  · intro _
    refine B.Ev.succ ?_
    simp only [impl_KidsOf.l0]
    refine B.Ev.bind (evEnd' h hi) ?_
    simp only [Int.lt_irrefl, ↓reduceIte]
    exact B.Ev.pure _
  · intro j hj hI ih
    refine B.Ev.succ ?_
    simp only [impl_KidsOf.l0]
    refine B.Ev.bind (evEnd' h hi) ?_
    have a1 : (j : Int) < (l.length : Int) := by omega
    have a2 : 0 ≤ (j : Int) := by omega
    have a5 : (j : Int) < (endN l i : Int) := by omega
    have d := okT_at h hi
    have ew : wrap64 (dep l i + 1) = dep l i + 1 := B.wid (by omega) (by omega)
    have ew' : wrap64 ((l.getD i z105).f1 + 1) = (l.getD i z105).f1 + 1 := ew
    have hk := kidF_len l i (i + 1) j
    have lm : ((kidF l i (i + 1) j).map fun (j : Nat) => (j : Int)).length < 17592186044416 := by rw [List.length_map]; omega
    simp only [a1, a2, a3, a4, a5, lm, ↓reduceIte, rdNode, ew', B.wsucc (show j < 9223372036854775807 by omega)]
    have ih := ih (by omega)
    rw [kidF_snoc l i (i + 1) j hI] at ih
    by_cases c : dep l j = dep l i + 1
    · have c' : (l.getD j z105).f1 = (l.getD i z105).f1 + 1 := c
      simp only [c', ↓reduceIte]
      simp only [c, ↓reduceIte, List.map_append, List.map_cons, List.map_nil] at ih
      exact ih
    · have c' : ¬ (l.getD j z105).f1 = (l.getD i z105).f1 + 1 := c
      simp only [c', ↓reduceIte]
      simp only [c, ↓reduceIte, List.append_nil] at ih
      exact ih

end Go.Proofs.Ytinlbiphjgpmmaa.X
end YtinlbiphjgpmmaaXKidsI
section YtinlbiphjgpmmaaXEvR
namespace Go.Proofs.Ytinlbiphjgpmmaa.B
open Go Go.RowKit Go.Proofs.Ytinlbiphjgpmmaa.V Go.Proofs.Ytinlbiphjgpmmaa.P
def EvR {α β : Type} (g : Nat → Option α) (h : Nat → Option β) (R : α → β → Prop) : Prop := ∃ u v, R u v ∧ Ev g u ∧ Ev h v
theorem EvR.of {α β : Type} {g : Nat → Option α} {h : Nat → Option β} {R : α → β → Prop} {u : α} {v : β} (r : R u v) (hg : Ev g u) (hh : Ev h v) : EvR g h R := ⟨u, v, r, hg, hh⟩
theorem EvR.pure {α β : Type} {R : α → β → Prop} {u : α} {v : β} (r : R u v) : EvR (fun _ => some u) (fun _ => some v) R := ⟨u, v, r, Ev.pure u, Ev.pure v⟩
theorem EvR.mono {α β : Type} {g : Nat → Option α} {h : Nat → Option β} {R S : α → β → Prop} (e : EvR g h R) (q : ∀ u v, R u v → S u v) : EvR g h S := by
  obtain ⟨u, v, r, e⟩ := e; exact ⟨u, v, q u v r, e⟩
theorem EvR.bind {α β γ δ : Type} {f : Nat → Option α} {f' : Nat → Option β} {g : Nat → α → Option γ} {g' : Nat → β → Option δ} {R : α → β → Prop} {S : γ → δ → Prop} (hf : EvR f f' R)
    (hg : ∀ u v, R u v → EvR (fun k => g k u) (fun k => g' k v) S) : EvR (fun k => (f k).bind (g k)) (fun k => (f' k).bind (g' k)) S := by
  obtain ⟨u, v, r, h1, h2⟩ := hf
  obtain ⟨x, y, s, h3, h4⟩ := hg u v r
  exact ⟨x, y, s, h1.bind h3, h2.bind h4⟩
theorem EvR.bindL {α γ δ : Type} {f : Nat → Option α} {g : Nat → α → Option γ} {h : Nat → Option δ} {a : α} {S : γ → δ → Prop} (hf : Ev f a) (hg : EvR (fun k => g k a) h S) : EvR (fun k => (f k).bind (g k)) h S := by
  obtain ⟨x, y, s, h3, h4⟩ := hg
  exact ⟨x, y, s, hf.bind h3, h4⟩
theorem EvR.bindR {α γ δ : Type} {f : Nat → Option α} {g : Nat → α → Option δ} {h : Nat → Option γ} {a : α} {S : γ → δ → Prop} (hf : Ev f a) (hg : EvR h (fun k => g k a) S) : EvR h (fun k => (f k).bind (g k)) S := by
  obtain ⟨x, y, s, h3, h4⟩ := hg
  exact ⟨x, y, s, h3, hf.bind h4⟩
theorem EvR.succL {α β : Type} {g : Nat → Option α} {h : Nat → Option β} {R : α → β → Prop} (e : EvR (fun k => g (k + 1)) h R) : EvR g h R := by
  obtain ⟨u, v, r, h1, h2⟩ := e; exact ⟨u, v, r, h1.succ, h2⟩
theorem EvR.succR {α β : Type} {g : Nat → Option α} {h : Nat → Option β} {R : α → β → Prop} (e : EvR g (fun k => h (k + 1)) R) : EvR g h R := by
  obtain ⟨u, v, r, h1, h2⟩ := e; exact ⟨u, v, r, h1, h2.succ⟩
theorem EvR.iteL {α β : Type} {p : Prop} [Decidable p] {f g : Nat → Option α} {h : Nat → Option β} {R : α → β → Prop} (hf : p → EvR f h R) (hg : ¬p → EvR g h R) : EvR (fun k => if p then f k else g k) h R := by
  by_cases c : p
  · obtain ⟨u, v, r, h1, h2⟩ := hf c; exact ⟨u, v, r, Ev.ite (fun _ => h1) (fun d => absurd c d), h2⟩
  · obtain ⟨u, v, r, h1, h2⟩ := hg c; exact ⟨u, v, r, Ev.ite (fun d => absurd d c) (fun _ => h1), h2⟩
theorem EvR.iteR {α β : Type} {p : Prop} [Decidable p] {f g : Nat → Option β} {h : Nat → Option α} {R : α → β → Prop} (hf : p → EvR h f R) (hg : ¬p → EvR h g R) : EvR h (fun k => if p then f k else g k) R := by
  by_cases c : p
  · obtain ⟨u, v, r, h1, h2⟩ := hf c; exact ⟨u, v, r, h1, Ev.ite (fun _ => h2) (fun d => absurd c d)⟩
  · obtain ⟨u, v, r, h1, h2⟩ := hg c; exact ⟨u, v, r, h1, Ev.ite (fun d => absurd d c) (fun _ => h2)⟩
/-- Both answer the same. -/
theorem EvR.same {α : Type} {g h : Nat → Option α} (e : EvR g h (fun u v => u = v)) : ∃ v, Ev g v ∧ Ev h v := by
  obtain ⟨u, v, rfl, h1, h2⟩ := e; exact ⟨u, h1, h2⟩
end Go.Proofs.Ytinlbiphjgpmmaa.B
end YtinlbiphjgpmmaaXEvR
section YtinlbiphjgpmmaaXNodeA
namespace Go.Proofs.Ytinlbiphjgpmmaa.X
open Go Go.RowKit Go.Proofs.Ytinlbiphjgpmmaa.V Go.Proofs.Ytinlbiphjgpmmaa.P
set_option linter.all false
theorem kids_in (l : List S105) {i : Nat} (hi : i < l.length) {j : Nat} (h : j ∈ kids l i) : i < j ∧ j < endN l i ∧ j < l.length := by
  have a := endN_spec l hi
  unfold kids kidF at h
  rw [List.mem_filter, List.mem_range'_1] at h
  omega
theorem kids_len (l : List S105) {i : Nat} (hi : i < l.length) : (kids l i).length ≤ l.length := by
  have := kidF_len l i (i + 1) (endN l i)
  have := endN_spec l hi
  unfold kids; omega
theorem rd_cast {K : List Nat} {p : Int} (h0 : 0 ≤ p) (h1 : p < (K.length : Int)) : rd (K.map fun (j : Nat) => (j : Int)) p = ((K.getD p.toNat 0 : Nat) : Int) := by
  unfold rd
  have : p.toNat < K.length := by omega
  rw [List.getD_eq_getElem?_getD, List.getElem?_map, List.getElem?_eq_getElem this, List.getD_eq_getElem?_getD, List.getElem?_eq_getElem this]
  rfl
theorem getD_mem {K : List Nat} {p : Nat} (h : p < K.length) : K.getD p 0 ∈ K := by
  rw [List.getD_eq_getElem?_getD, List.getElem?_eq_getElem h]; exact List.getElem_mem h
/-- The node that a path leads to, or -1. -/
def nodeN (l : List S105) : Nat → List Int → Int
  | i, [] => (i : Int)
  | i, p :: ps => if 0 ≤ p ∧ p < ((kids l i).length : Int) then nodeN l ((kids l i).getD p.toNat 0) ps else -1
theorem nodeN_in (l : List S105) : ∀ (ps : List Int) (i : Nat), i < l.length → nodeN l i ps = -1 ∨ ∃ j : Nat, nodeN l i ps = (j : Int) ∧ j < l.length
  | [], i, h => .inr ⟨i, rfl, h⟩
  | p :: ps, i, h => by
    simp only [nodeN]
    split
    · rename_i c
      exact nodeN_in l ps _ (kids_in l h (getD_mem (by omega))).2.2
    · exact .inl rfl
def nodeAt (l : List S105) (ps : List Int) : Int := if okT l = true then nodeN l 0 ps else -1
theorem nodeLoop {l : List S105} (h : okT l = true) (ps : List Int) (hp : ps.length ≤ 4611686018427387904) : ∀ (d t i : Nat), t + d = ps.length → i < l.length →
    B.Ev (fun k => spec_NodeAt.l0 k l ps (i : Int) (t : Int)) (nodeN l i (ps.drop t)) ∧ B.Ev (fun k => impl_NodeAt.l0 k l (i : Int) ps (ps.length : Int) (t : Int)) (nodeN l i (ps.drop t)) := by
  intro d
  have hl := okT_len h
  induction d with
  | zero =>
    intro t i ht hi
    rw [List.drop_eq_nil_of_le (by omega)]
    refine ⟨B.Ev.succ ?_, B.Ev.succ ?_⟩
    · simp only [spec_NodeAt.l0, show ¬ ((t : Int) < (ps.length : Int)) by omega, ↓reduceIte]
      exact B.Ev.pure _
    · simp only [impl_NodeAt.l0, show ¬ ((t : Int) < (ps.length : Int)) by omega, ↓reduceIte]
      exact B.Ev.pure _
  | succ d ih =>
    intro t i ht hi
    have hlt : t < ps.length := by omega
    have hk := kids_len l hi
    have a1 : (t : Int) < (ps.length : Int) := by omega
    have a2 : 0 ≤ (t : Int) := by omega
    have hw := B.wsucc (show t < 9223372036854775807 by omega)
    have hkl : ((kids l i).map fun (j : Nat) => (j : Int)).length = (kids l i).length := List.length_map _
    have e1 : wrap64 (((kids l i).length : Int) - 1) = ((kids l i).length : Int) - 1 := B.wid (by omega) (by omega)
    have er : rd ps (t : Int) = ps[t] := by unfold rd; rw [Int.toNat_natCast]; exact B.getD_lt hlt
    have hd : ps.drop t = ps[t] :: ps.drop (t + 1) := List.drop_eq_getElem_cons hlt
    rw [hd]
    generalize ps[t] = p at *
    by_cases c : 0 ≤ p ∧ p < ((kids l i).length : Int)
    · have hkid := kids_in l hi (getD_mem (K := kids l i) (p := p.toNat) (by omega))
      have ih := ih (t + 1) ((kids l i).getD p.toNat 0) (by omega) hkid.2.2
      have er2 := rd_cast (K := kids l i) c.1 c.2
      have c' : (0 ≤ p ∧ p ≤ ((kids l i).length : Int) - 1) := by omega
      refine ⟨B.Ev.succ ?_, B.Ev.succ ?_⟩
      · simp only [spec_NodeAt.l0, a1, ↓reduceIte]
        refine B.Ev.bind (evKids h hi) ?_
        simp only [a2, ↓reduceIte, hkl, e1, er, l1In, Option.bind_some, decide_eq_true_eq, c', c, and_self, er2, hw, nodeN]
        exact ih.1
      · simp only [impl_NodeAt.l0, a1, a2, ↓reduceIte]
        refine B.Ev.bind (evKids' h hi) ?_
        simp only [a2, ↓reduceIte, hkl, e1, er, within, Option.bind_some, decide_eq_true_eq, c', c, and_self, er2, hw, nodeN]
        exact ih.2
    · have c' : ¬ (0 ≤ p ∧ p ≤ ((kids l i).length : Int) - 1) := by omega
      refine ⟨B.Ev.succ ?_, B.Ev.succ ?_⟩
      · simp only [spec_NodeAt.l0, a1, ↓reduceIte]
        refine B.Ev.bind (evKids h hi) ?_
        simp only [a2, ↓reduceIte, hkl, e1, er, l1In, Option.bind_some, decide_eq_true_eq, c', c, nodeN]
        exact B.Ev.pure _
      · simp only [impl_NodeAt.l0, a1, a2, ↓reduceIte]
        refine B.Ev.bind (evKids' h hi) ?_
        simp only [a2, ↓reduceIte, hkl, e1, er, within, Option.bind_some, decide_eq_true_eq, c', c, nodeN]
        exact B.Ev.pure _
theorem evNodeAt (l : List S105) (hl : l.length ≤ 4194304) (ps : List Int) (hp : ps.length ≤ 4611686018427387904) : B.Ev (fun k => spec_NodeAt.f k l ps) (nodeAt l ps) ∧ B.Ev (fun k => impl_NodeAt.f k l ps) (nodeAt l ps) := by
  unfold nodeAt
  by_cases h : okT l = true
  · have := nodeLoop h ps hp ps.length 0 0 (by omega) (by have := okT_len h; omega)
    rw [List.drop_zero] at this
    constructor
    · simp only [spec_NodeAt.f, h, ↓reduceIte]
      refine B.Ev.bind (B.Ev.of _ (fun k hk => specTreeOk l hl k hk)) ?_
      simp only [h, ↓reduceIte]
      exact this.1
    · simp only [impl_NodeAt.f, h, ↓reduceIte]
      refine B.Ev.bind (B.Ev.of _ (fun k hk => implTreeOk l hl k hk)) ?_
      simp only [h, ↓reduceIte]
      exact this.2
  · constructor
    · simp only [spec_NodeAt.f, h, ↓reduceIte]
      refine B.Ev.bind (B.Ev.of _ (fun k hk => specTreeOk l hl k hk)) ?_
      simp only [h, ↓reduceIte]
      exact B.Ev.pure _
    · simp only [impl_NodeAt.f, h, ↓reduceIte]
      refine B.Ev.bind (B.Ev.of _ (fun k hk => implTreeOk l hl k hk)) ?_
      simp only [h, ↓reduceIte]
      exact B.Ev.pure _
end Go.Proofs.Ytinlbiphjgpmmaa.X
end YtinlbiphjgpmmaaXNodeA
section YtinlbiphjgpmmaaXCodeA
namespace Go.Proofs.Ytinlbiphjgpmmaa.X
open Go Go.RowKit Go.Proofs.Ytinlbiphjgpmmaa.V Go.Proofs.Ytinlbiphjgpmmaa.P
set_option linter.all false
theorem kids_sorted (l : List S105) (i : Nat) : (kids l i).Pairwise (· < ·) := by
  unfold kids kidF
  exact List.Pairwise.filter _ (List.pairwise_lt_range' 1 (by decide))
/-- The places at which a child can come: ahead of each child, and behind all. -/
def slots (l : List S105) (i : Nat) : List Nat := kids l i ++ [endN l i]
theorem slots_sorted (l : List S105) {i : Nat} (hi : i < l.length) : (slots l i).Pairwise (· < ·) := by
  unfold slots
  rw [List.pairwise_append]
  refine ⟨kids_sorted l i, by simp, fun a ha b hb => ?_⟩
  rw [List.mem_singleton] at hb
  have := kids_in l hi ha
  omega
theorem slots_in (l : List S105) {i : Nat} (hi : i < l.length) {p : Nat} (h : p < (slots l i).length) : i < (slots l i).getD p 0 ∧ (slots l i).getD p 0 ≤ l.length := by
  have hm : (slots l i).getD p 0 ∈ slots l i := getD_mem h
  have a := endN_spec l hi
  unfold slots at hm ⊢
  rw [List.mem_append, List.mem_singleton] at hm
  rcases hm with h | h
  · have := kids_in l hi h; omega
  · omega
theorem slots_le (l : List S105) {i : Nat} (hi : i < l.length) {p q : Nat} (h : p ≤ q) (hq : q < (slots l i).length) : (slots l i).getD p 0 ≤ (slots l i).getD q 0 := by
  rcases Nat.lt_or_ge p q with c | c
  · have := List.pairwise_iff_getElem.1 (slots_sorted l hi) p q (by omega) hq c
    rw [B.getD_lt (by omega), B.getD_lt hq]; omega
  · obtain rfl : p = q := by omega
    exact Nat.le_refl _
/-- The greatest depth from a place on, one deeper. -/
def deepN (l : List S105) : Nat → Nat → Int → Int
  | 0, _, d => d
  | n + 1, j, d => deepN l n (j + 1) (mx d (dep l j + 1))
def insR (l : List S105) (a b : Nat) (d : Int) : Int × Int × Int := if l.length = 24 then (6, 0, 0) else if d > 12 then (7, 0, 0) else (0, (a : Int), (b : Int))
theorem deepS {l : List S105} (h : okT l = true) {a b : Nat} (hb : b ≤ l.length) (path : List Int) (h24 : l.length ≠ 24) : ∀ (n j : Nat) (d : Int), j + n = b → B.Ev (fun k => spec_l13Code.l0 k l (a : Int) (b : Int) d (j : Int) path) (insR l a b (deepN l n j d)) := by
  intro n
  induction n with
  | zero =>
    intro j d hj
    refine B.Ev.succ ?_
    simp only [spec_l13Code.l0, show ¬ ((j : Int) < (b : Int)) by omega, ↓reduceIte, deepN, insR, h24]
    refine B.Ev.ite (fun c => ?_) (fun c => ?_)
    · simp only [c, ↓reduceIte]; exact B.Ev.pure _
    · simp only [c, ↓reduceIte]; exact B.Ev.pure _
  | succ n ih =>
    intro j d hj
    have hp := okT_at h (show j < l.length by omega)
    have hw := B.wsucc (show j < 9223372036854775807 by have := okT_len h; omega)
    have e1 : wrap64 ((l.getD j z105).f1 + 1) = dep l j + 1 := B.wid (show -9223372036854775808 ≤ dep l j + 1 by omega) (show dep l j + 1 ≤ 9223372036854775807 by omega)
    refine B.Ev.succ ?_
    simp only [spec_l13Code.l0, show ((j : Int) < (b : Int)) by omega, show (0 : Int) ≤ (j : Int) by omega, show (j : Int) < (l.length : Int) by omega, ↓reduceIte, rdNode, e1, hw, deepN]
    exact ih (j + 1) _ (by omega)
theorem deepI {l : List S105} (h : okT l = true) {a b : Nat} (hab : a ≤ b) (hb : b ≤ l.length) (path : List Int) : ∀ (n t : Nat) (d : Int), t + n = b - a → B.Ev (fun k => impl_opCode.l0 k l (a : Int) (b : Int) d ((l.take b).drop a) ((((l.take b).drop a).length : Nat) : Int) (t : Int) path) (insR l a b (deepN l n (a + t) d)) := by
  have hlen : ((l.take b).drop a).length = b - a := by rw [List.length_drop, List.length_take]; omega
  rw [hlen]
  intro n
  induction n with
  | zero =>
    intro t d ht
    refine B.Ev.succ ?_
    simp only [impl_opCode.l0, show ¬ ((t : Int) < ((b - a : Nat) : Int)) by omega, ↓reduceIte, deepN, insR]
    by_cases c24 : l.length = 24
    · simp only [c24, ↓reduceIte, show (((24 : Nat) : Int) = 24) from rfl]; exact B.Ev.pure _
    · simp only [c24, ↓reduceIte, show ¬ ((l.length : Int) = 24) by omega]
      refine B.Ev.ite (fun c => ?_) (fun c => ?_)
      · simp only [c, ↓reduceIte]; exact B.Ev.pure _
      · simp only [c, ↓reduceIte]; exact B.Ev.pure _
  | succ n ih =>
    intro t d ht
    have hp := okT_at h (show a + t < l.length by omega)
    have hw := B.wsucc (show t < 9223372036854775807 by have := okT_len h; omega)
    have e0 : ((l.take b).drop a).getD t z105 = l.getD (a + t) z105 := by
      rw [List.getD_eq_getElem?_getD, List.getD_eq_getElem?_getD, List.getElem?_drop, List.getElem?_take_of_lt (by omega)]
    have e1 : wrap64 ((l.getD (a + t) z105).f1 + 1) = dep l (a + t) + 1 := B.wid (show -9223372036854775808 ≤ dep l (a + t) + 1 by omega) (show dep l (a + t) + 1 ≤ 9223372036854775807 by omega)
    refine B.Ev.succ ?_
    simp only [impl_opCode.l0, show ((t : Int) < ((b - a : Nat) : Int)) by omega, show (0 : Int) ≤ (t : Int) by omega, hlen, ↓reduceIte, rdNode, e0, e1, hw, deepN]
    exact ih (t + 1) _ (by omega)
/-- What holds of an operation that can be done. -/
def CodeP (l : List S105) (kind i : Int) (u : Int × Int × Int) : Prop := u.1 = 0 → 0 ≤ i ∧ (kind = 1 ∨ (kind = 2 ∧ i ≠ 0) ∨ (kind = 3 ∧ l.length < 24 ∧ ∃ a b : Nat, u.2 = ((a : Int), (b : Int)) ∧ i < (a : Int) ∧ a ≤ b ∧ b ≤ l.length))
theorem evIns {l : List S105} (h : okT l = true) {i : Nat} (hi : i < l.length) (path : List Int) {from_ count : Int} (h1 : 0 ≤ from_) (h2 : from_ ≤ ((kids l i).length : Int)) (h3 : 0 ≤ count) (h4 : count ≤ ((kids l i).length : Int) - from_) :
    let y := (kids l i).map (fun (j : Nat) => (j : Int)) ++ [(endN l i : Int)]
    B.EvR (fun k => if 0 ≤ from_ then (if from_ < (y.length : Int) then (if 0 ≤ wrap64 (from_ + count) then (if wrap64 (from_ + count) < (y.length : Int) then (if (l.length : Int) = 24 then (some ((6 : Int), (0 : Int), (0 : Int))) else (if 0 ≤ (i : Int) then (if (i : Int) < (l.length : Int) then (spec_l13Code.l0 k l (rd y from_) (rd y (wrap64 (from_ + count))) (wrap64 (((rd_T105 l (i : Int)).f1) + 1)) (rd y from_) path) else none) else none)) else none) else none) else none) else none)
      (fun k => if 0 ≤ from_ then (if from_ < (y.length : Int) then (if 0 ≤ wrap64 (from_ + count) then (if wrap64 (from_ + count) < (y.length : Int) then (if 0 ≤ (i : Int) then (if (i : Int) < (l.length : Int) then (if rd y (wrap64 (from_ + count)) ≤ (l.length : Int) then (if 0 ≤ rd y from_ then (if rd y from_ ≤ rd y (wrap64 (from_ + count)) then ((some ((l.take (rd y (wrap64 (from_ + count)) : Int).toNat).drop (rd y from_ : Int).toNat : List S105)).bind fun y1 => (impl_opCode.l0 k l (rd y from_) (rd y (wrap64 (from_ + count))) (wrap64 (((rd_T105 l (i : Int)).f1) + 1)) y1 (y1.length : Int) 0 path)) else none) else none) else none) else none) else none) else none) else none) else none) else none)
      (fun u v => u = v ∧ CodeP l 3 (i : Int) u) := by
  intro y
  have hl := okT_len h
  have hk := kids_len l hi
  have ey : y = (slots l i).map (fun (j : Nat) => (j : Int)) := by simp only [y, slots, List.map_append, List.map_cons, List.map_nil]
  have hsl : (slots l i).length = (kids l i).length + 1 := by unfold slots; simp
  have hyl : (y.length : Int) = ((kids l i).length : Int) + 1 := by rw [ey, List.length_map, hsl]; omega
  obtain ⟨f, rfl⟩ : ∃ f : Nat, from_ = f := ⟨from_.toNat, by omega⟩
  obtain ⟨c, rfl⟩ : ∃ c : Nat, count = c := ⟨count.toNat, by omega⟩
  have ew : wrap64 ((f : Int) + (c : Int)) = ((f + c : Nat) : Int) := by rw [B.wid (by omega) (by omega)]; omega
  have r1 : rd y (f : Int) = (((slots l i).getD f 0 : Nat) : Int) := by
    have := rd_cast (K := slots l i) (p := (f : Int)) (by omega) (by omega)
    rw [← ey] at this; rw [this, Int.toNat_natCast]
  have r2 : rd y ((f + c : Nat) : Int) = (((slots l i).getD (f + c) 0 : Nat) : Int) := by
    have := rd_cast (K := slots l i) (p := ((f + c : Nat) : Int)) (by omega) (by omega)
    rw [← ey] at this; rw [this, Int.toNat_natCast]
  have s1 := slots_in l hi (p := f) (by omega)
  have s2 := slots_in l hi (p := f + c) (by omega)
  have s3 := slots_le l hi (p := f) (q := f + c) (by omega) (by omega)
  have hp := okT_at h hi
  have ed : wrap64 ((l.getD i z105).f1 + 1) = dep l i + 1 := B.wid (show -9223372036854775808 ≤ dep l i + 1 by omega) (show dep l i + 1 ≤ 9223372036854775807 by omega)
  have b1 : (f : Int) < ((kids l i).length : Int) + 1 := by omega
  have b2 : ((f + c : Nat) : Int) < ((kids l i).length : Int) + 1 := by omega
  clear_value y
  simp only [hyl, ew, r1, r2, rdNode, ed, Int.toNat_natCast, Option.bind_some, b1, b2, show (0 : Int) ≤ (f : Int) by omega, show (0 : Int) ≤ ((f + c : Nat) : Int) by omega, show (0 : Int) ≤ (i : Int) by omega, show (i : Int) < (l.length : Int) by omega, ↓reduceIte]
  generalize ha : (slots l i).getD f 0 = a at *
  generalize hb : (slots l i).getD (f + c) 0 = b at *
  simp only [show (b : Int) ≤ (l.length : Int) by omega, show (0 : Int) ≤ (a : Int) by omega, show (a : Int) ≤ (b : Int) by omega, ↓reduceIte]
  have gi := deepI h s3 s2.2 path (b - a) 0 (dep l i + 1) (by omega)
  rw [Nat.add_zero, show ((0 : Nat) : Int) = 0 from rfl] at gi
  have hP : CodeP l 3 (i : Int) (insR l a b (deepN l (b - a) a (dep l i + 1))) := by
    unfold CodeP insR
    split
    · intro h; cases h
    · split
      · intro h; cases h
      · intro _; exact ⟨by omega, .inr (.inr ⟨rfl, by omega, a, b, rfl, by omega, s3, s2.2⟩)⟩
  refine B.EvR.of ⟨rfl, hP⟩ ?_ gi
  by_cases c24 : l.length = 24
  · simp only [show ((l.length : Int) = 24) by omega, ↓reduceIte, insR, c24]
    exact B.Ev.pure _
  · simp only [show ¬ ((l.length : Int) = 24) by omega, ↓reduceIte]
    exact deepS h s2.2 path c24 (b - a) a _ (by omega)
theorem evCode {l : List S105} (h : okT l = true) (kind label from_ count : Int) (path : List Int) {i : Int} (hi : i = -1 ∨ ∃ n : Nat, i = (n : Int) ∧ n < l.length) (hf : -9223372036854775808 ≤ from_ ∧ from_ ≤ 9223372036854775807) :
    B.EvR (fun k => spec_l13Code.f k l kind path label from_ count i) (fun k => impl_opCode.f k l kind path label from_ count i) (fun u v => u = v ∧ CodeP l kind i u) := by
  have no : ∀ {c : Int}, c ≠ 0 → B.EvR (fun _ => some (c, (0 : Int), (0 : Int))) (fun _ => some (c, (0 : Int), (0 : Int))) (fun u v => u = v ∧ CodeP l kind i u) := fun {c} hc => B.EvR.pure ⟨rfl, fun h => absurd h hc⟩
  simp only [spec_l13Code.f, impl_opCode.f, l1In, within, Option.bind_some, decide_eq_true_eq, specLabelOk, implLabelOk]
  by_cases c1 : 1 ≤ kind ∧ kind ≤ 3
  · simp only [c1, and_self, ↓reduceIte]
    by_cases c2 : i < 0
    · simp only [c2, ↓reduceIte]; exact no (by decide)
    · obtain ⟨n, rfl, hn⟩ : ∃ n : Nat, i = (n : Int) ∧ n < l.length := by
        rcases hi with h | h
        · omega
        · exact h
      simp only [c2, ↓reduceIte]
      by_cases k2 : kind = 2
      · simp only [k2, ↓reduceIte, show ¬ ((2 : Int) = 3) by decide]
        by_cases c3 : (n : Int) = 0
        · simp only [c3, ↓reduceIte]; subst k2; rw [c3] at no; exact no (by decide)
        · simp only [c3, ↓reduceIte]
          exact B.EvR.pure ⟨rfl, fun _ => ⟨by omega, .inr (.inl ⟨rfl, c3⟩)⟩⟩
      · simp only [k2, ↓reduceIte]
        by_cases c4 : 0 ≤ label ∧ label ≤ 5
        · simp only [c4, and_self, ↓reduceIte]
          by_cases k3 : kind = 3
          · have hk := kids_len l hn
            have hl := okT_len h
            have hkl : ((kids l n).map fun (j : Nat) => (j : Int)).length = (kids l n).length := List.length_map _
            subst k3
            simp only [↓reduceIte]
            refine B.EvR.bindL (evKids h hn) ?_
            refine B.EvR.bindR (evKids' h hn) ?_
            simp only [hkl]
            by_cases c5 : 0 ≤ from_ ∧ from_ ≤ ((kids l n).length : Int)
            · have ew : wrap64 (((kids l n).length : Int) - from_) = ((kids l n).length : Int) - from_ := B.wid (by omega) (by omega)
              simp only [c5, and_self, ↓reduceIte, ew]
              by_cases c6 : 0 ≤ count ∧ count ≤ ((kids l n).length : Int) - from_
              · simp only [c6, and_self, ↓reduceIte]
                refine B.EvR.bindL (evEnd h hn) ?_
                refine B.EvR.bindR (evEnd' h hn) ?_
                simp only [show (kids l n).length < 17592186044416 by omega, ↓reduceIte, Option.bind_some]
                have := evIns h hn path c5.1 c5.2 c6.1 c6.2
                simp only [c5.1, ↓reduceIte] at this
                exact this
              · simp only [c6, ↓reduceIte]; exact no (by decide)
            · simp only [c5, ↓reduceIte]; exact no (by decide)
          · simp only [k3, ↓reduceIte]
            exact B.EvR.pure ⟨rfl, fun _ => ⟨by omega, .inl (by omega)⟩⟩
        · simp only [c4, ↓reduceIte]; exact no (by decide)
  · simp only [c1, ↓reduceIte]; exact no (by decide)
end Go.Proofs.Ytinlbiphjgpmmaa.X
end YtinlbiphjgpmmaaXCodeA
section YtinlbiphjgpmmaaXApply
namespace Go.Proofs.Ytinlbiphjgpmmaa.X
open Go Go.RowKit Go.Proofs.Ytinlbiphjgpmmaa.V Go.Proofs.Ytinlbiphjgpmmaa.P
set_option linter.all false
def deeper (d : Int) (x : S105) : S105 := ⟨x.f0, x.f1 + d⟩
def shiftN (l : List S105) (a b : Nat) (d : Int) : List S105 := ((l.drop a).take (b - a)).map (deeper d)
theorem shiftN_snoc (l : List S105) {a b : Nat} (d : Int) (h : a ≤ b) (hb : b < l.length) : shiftN l a (b + 1) d = shiftN l a b d ++ [deeper d (l.getD b z105)] := by
  unfold shiftN
  have h1 : (l.drop a)[b - a]? = some (l.getD b z105) := by
    rw [List.getElem?_drop, show a + (b - a) = b by omega, List.getElem?_eq_getElem hb, B.getD_lt hb]
  rw [show b + 1 - a = (b - a) + 1 by omega, List.take_add_one, h1, Option.toList_some, List.map_append]
  rfl
theorem shiftN_end (l : List S105) (a : Nat) (d : Int) : shiftN l a a d = [] := by unfold shiftN; simp
theorem shiftN_len (l : List S105) {a b : Nat} (d : Int) (h : a ≤ b) (hb : b ≤ l.length) : (shiftN l a b d).length = b - a := by unfold shiftN; simp; omega
theorem deeper_zero : deeper 0 = id := by funext x; unfold deeper; rw [Int.add_zero]; rfl
theorem shiftN_take (l : List S105) (b : Nat) : shiftN l 0 b 0 = l.take b := by unfold shiftN; rw [deeper_zero, List.map_id, List.drop_zero, Nat.sub_zero]
theorem shiftN_drop (l : List S105) (a : Nat) : shiftN l a l.length 0 = l.drop a := by unfold shiftN; rw [deeper_zero, List.map_id]; exact List.take_of_length_le (by rw [List.length_drop]; omega)

theorem shiftLoop {l : List S105} (h : okT l = true) {a b : Nat} (hb : b ≤ l.length) {d : Int} (hd : -1 ≤ d ∧ d ≤ 1) : ∀ (n j : Nat), j + n = b → a ≤ j → B.Ev (fun k => spec_l13Shift.l0 k l (b : Int) d (shiftN l a j d) (j : Int)) (shiftN l a b d) := by
  intro n
  have hl := okT_len h
  induction n with
  | zero =>
    intro j hj ha
    refine B.Ev.succ ?_
    have : j = b := by omega
    subst this
    simp only [spec_l13Shift.l0, Int.lt_irrefl, ↓reduceIte]
    exact B.Ev.pure _
  | succ n ih =>
    intro j hj ha
    refine B.Ev.succ ?_
    have hp := okT_at h (show j < l.length by omega)
    have hw := B.wsucc (show j < 9223372036854775807 by omega)
    have hs := shiftN_len l (a := a) (b := j) d ha (by omega)
    have e1 : wrap64 ((l.getD j z105).f1 + d) = (l.getD j z105).f1 + d := B.wid (show -9223372036854775808 ≤ dep l j + d by omega) (show dep l j + d ≤ 9223372036854775807 by omega)
    simp only [spec_l13Shift.l0, show ((j : Int) < (b : Int)) by omega, show (0 : Int) ≤ (j : Int) by omega, show (j : Int) < (l.length : Int) by omega, ↓reduceIte, rdNode, e1, hw, show (shiftN l a j d).length < 8796093022208 by omega]
    have := ih (j + 1) (by omega) (by omega)
    rw [shiftN_snoc l d ha (by omega)] at this
    exact this
theorem evShift {l : List S105} (h : okT l = true) {a b : Nat} (hab : a ≤ b) (hb : b ≤ l.length) {d : Int} (hd : -1 ≤ d ∧ d ≤ 1) : B.Ev (fun k => spec_l13Shift.f k l (a : Int) (b : Int) d) (shiftN l a b d) := by
  have := shiftLoop h (a := a) hb hd (b - a) a (by omega) (Nat.le_refl _)
  rw [shiftN_end] at this
  exact this

/-- With the nodes from a up to b so much deeper. -/
def mid (l : List S105) (a b : Nat) (d : Int) : List S105 := l.take a ++ (shiftN l a b d ++ l.drop b)
theorem mid_end (l : List S105) (a : Nat) (d : Int) : mid l a a d = l := by unfold mid; rw [shiftN_end, List.nil_append, List.take_append_drop]
theorem mid_len (l : List S105) {a b : Nat} (d : Int) (h : a ≤ b) (hb : b ≤ l.length) : (mid l a b d).length = l.length := by
  unfold mid
  rw [List.length_append, List.length_append, shiftN_len l d h hb, List.length_take, List.length_drop]; omega
theorem mid_get (l : List S105) {a b : Nat} (d : Int) (h : a ≤ b) (hb : b < l.length) : (mid l a b d).getD b z105 = l.getD b z105 := by
  unfold mid
  have h1 : (l.take a).length = a := by rw [List.length_take]; omega
  have h2 := shiftN_len l (a := a) (b := b) d h (by omega)
  rw [List.getD_eq_getElem?_getD, List.getD_eq_getElem?_getD, List.getElem?_append_right (by omega), List.getElem?_append_right (by omega), List.getElem?_drop, h1, h2]
  congr 2; omega
theorem mid_set (l : List S105) {a b : Nat} (d : Int) (h : a ≤ b) (hb : b < l.length) : (mid l a b d).set b (deeper d (l.getD b z105)) = mid l a (b + 1) d := by
  unfold mid
  have h1 : (l.take a).length = a := by rw [List.length_take]; omega
  have h2 := shiftN_len l (a := a) (b := b) d h (by omega)
  rw [List.set_append_right _ _ (by omega), List.set_append_right _ _ (by omega), h1, h2, show b - a - (b - a) = 0 by omega, List.drop_eq_getElem_cons hb, List.set_cons_zero, shiftN_snoc l d h hb, List.append_assoc]
  rfl
theorem mid_del (l : List S105) {i e : Nat} (hi : i + 1 ≤ e) (he : e ≤ l.length) (d : Int) : (mid l (i + 1) e d).take i ++ (mid l (i + 1) e d).drop (i + 1) = l.take i ++ (shiftN l (i + 1) e d ++ l.drop e) := by
  unfold mid
  have h1 : (l.take (i + 1)).length = i + 1 := by rw [List.length_take]; omega
  rw [List.take_append_of_le_length (by omega), List.take_take, Nat.min_eq_left (by omega), List.drop_append, List.drop_of_length_le (by omega), h1, Nat.sub_self, List.drop_zero, List.nil_append]
theorem mid_ins (l : List S105) {a b : Nat} (ha : a ≤ l.length) (d : Int) (xs : List S105) : (mid l a b d).take a ++ xs ++ (mid l a b d).drop a = l.take a ++ xs ++ (shiftN l a b d ++ l.drop b) := by
  unfold mid
  have h1 : (l.take a).length = a := by rw [List.length_take]; omega
  rw [List.take_append_of_le_length (by omega), List.take_take, Nat.min_self, List.drop_append, List.drop_of_length_le (by omega), h1, Nat.sub_self, List.drop_zero, List.nil_append]

theorem delLoop {l : List S105} (h : okT l = true) {i : Nat} (hi : i < l.length) (path : List Int) : ∀ (n j : Nat), j + n = endN l i → i + 1 ≤ j → B.Ev (fun k => impl_ApplyOp.l0 k l (mid l (i + 1) j (-1)) (i : Int) (j : Int) path) (l.take i ++ (shiftN l (i + 1) (endN l i) (-1) ++ l.drop (endN l i)), 0) := by
  intro n
  have hl := okT_len h
  have he := endN_spec l hi
  have hwi := B.wsucc (show i < 9223372036854775807 by omega)
  induction n with
  | zero =>
    intro j hj hij
    have : j = endN l i := by omega
    subst this
    have hm := mid_len l (a := i + 1) (b := endN l i) (-1) hij he.2.1
    refine B.Ev.succ ?_
    simp only [impl_ApplyOp.l0]
    refine B.Ev.bind (evEnd' h hi) ?_
    simp only [Int.lt_irrefl, ↓reduceIte, hwi, slices_Delete_impl_Node_impl_Node.f, show (0 : Int) ≤ (i : Int) by omega, show (i : Int) ≤ ((i + 1 : Nat) : Int) by omega, hm, show ((i + 1 : Nat) : Int) ≤ (l.length : Int) by omega, show l.length * 16 ≤ 140737488355328 by omega, Option.bind_some, Int.toNat_natCast, mid_del l hij he.2.1]
    exact B.Ev.pure _
  | succ n ih =>
    intro j hj hij
    have hjl : j < l.length := by omega
    have hm := mid_len l (a := i + 1) (b := j) (-1) hij (by omega)
    have hp := okT_at h hjl
    have hw := B.wsucc (show j < 9223372036854775807 by omega)
    have e1 : wrap64 ((l.getD j z105).f1 - 1) = (l.getD j z105).f1 + -1 := B.wid (show -9223372036854775808 ≤ dep l j - 1 by omega) (show dep l j - 1 ≤ 9223372036854775807 by omega)
    have ms := mid_set l (a := i + 1) (b := j) (-1) hij hjl
    unfold deeper at ms
    refine B.Ev.succ ?_
    simp only [impl_ApplyOp.l0]
    refine B.Ev.bind (evEnd' h hi) ?_
    simp only [show ((j : Int) < (endN l i : Int)) by omega, show (0 : Int) ≤ (j : Int) by omega, hm, show (j : Int) < (l.length : Int) by omega, ↓reduceIte, rdNode, mid_get l (-1) hij hjl, e1, hw, Int.toNat_natCast, ms]
    exact ih (j + 1) (by omega) (by omega)
theorem insLoop {l : List S105} (h : okT l = true) {i : Nat} (hi : i < l.length) {a b : Nat} (hab : a ≤ b) (hb : b ≤ l.length) (path : List Int) (kind label from_ count : Int) : ∀ (n j : Nat), j + n = b → a ≤ j →
    B.Ev (fun k => impl_ApplyOp.l1 k l kind path label from_ count (mid l a j 1) (i : Int) (a : Int) (b : Int) (j : Int)) (l.take a ++ [(⟨label, dep l i + 1⟩ : S105)] ++ (shiftN l a b 1 ++ l.drop b), 0) := by
  intro n
  have hl := okT_len h
  induction n with
  | zero =>
    intro j hj hij
    have : j = b := by omega
    subst this
    have hm := mid_len l (a := a) (b := j) 1 hij hb
    have hp := okT_at h hi
    have e1 : wrap64 ((l.getD i z105).f1 + 1) = dep l i + 1 := B.wid (show -9223372036854775808 ≤ dep l i + 1 by omega) (show dep l i + 1 ≤ 9223372036854775807 by omega)
    refine B.Ev.succ ?_
    simp only [impl_ApplyOp.l1, Int.lt_irrefl, ↓reduceIte, rdNode, e1, slices_Insert_impl_Node_impl_Node.f, show (0 : Int) ≤ (i : Int) by omega, show (i : Int) < (l.length : Int) by omega, show (0 : Int) ≤ (a : Int) by omega, hm, show (a : Int) ≤ (l.length : Int) by omega, List.length_singleton, show 0 < 1 by decide, show (l.length + 1) * 16 ≤ 140737488355328 by omega, Option.bind_some, Int.toNat_natCast, mid_ins l (show a ≤ l.length by omega)]
    exact B.Ev.pure _
  | succ n ih =>
    intro j hj hij
    have hjl : j < l.length := by omega
    have hm := mid_len l (a := a) (b := j) 1 hij (by omega)
    have hp := okT_at h hjl
    have hw := B.wsucc (show j < 9223372036854775807 by omega)
    have e1 : wrap64 ((l.getD j z105).f1 + 1) = (l.getD j z105).f1 + 1 := B.wid (show -9223372036854775808 ≤ dep l j + 1 by omega) (show dep l j + 1 ≤ 9223372036854775807 by omega)
    have ms := mid_set l (a := a) (b := j) 1 hij hjl
    unfold deeper at ms
    refine B.Ev.succ ?_
    simp only [impl_ApplyOp.l1, show ((j : Int) < (b : Int)) by omega, show (0 : Int) ≤ (j : Int) by omega, hm, show (j : Int) < (l.length : Int) by omega, ↓reduceIte, rdNode, mid_get l 1 hij hjl, e1, hw, Int.toNat_natCast, ms]
    exact ih (j + 1) (by omega) (by omega)

theorem evApplyOp {l : List S105} (hl : l.length ≤ 4194304) (kind label from_ count : Int) (path : List Int) (hp : path.length ≤ 4611686018427387904) (hf : -9223372036854775808 ≤ from_ ∧ from_ ≤ 9223372036854775807) :
    B.EvR (fun k => spec_ApplyOp.f k l kind path label from_ count) (fun k => impl_ApplyOp.f k l kind path label from_ count) (fun u v => u = v ∧ u.1.length ≤ 24) := by
  simp only [spec_ApplyOp.f, impl_ApplyOp.f]
  refine B.EvR.bindL (B.Ev.of _ (fun k hk => specTreeOk l hl k hk)) ?_
  refine B.EvR.bindR (B.Ev.of _ (fun k hk => implTreeOk l hl k hk)) ?_
  by_cases h : okT l = true
  · have h24 := okT_len h
    simp only [h, ↓reduceIte, spec_l3Copy.f, slices_Clone_impl_Node_impl_Node.f, show l.length * 16 ≤ 140737488355328 by omega, Option.bind_some]
    obtain ⟨n1, n2⟩ := evNodeAt l hl path hp
    refine B.EvR.bindL n1 ?_
    refine B.EvR.bindR n2 ?_
    have hi : nodeAt l path = -1 ∨ ∃ n : Nat, nodeAt l path = (n : Int) ∧ n < l.length := by
      unfold nodeAt
      rw [if_pos h]
      exact nodeN_in l path 0 (by omega)
    generalize nodeAt l path = i at *
    obtain ⟨u, v, ⟨rfl, hc⟩, g1, g2⟩ := evCode h kind label from_ count path hi hf
    refine B.EvR.bindL g1 ?_
    refine B.EvR.bindR g2 ?_
    by_cases c0 : u.1 = 0
    · obtain ⟨hi0, hk⟩ := hc c0
      obtain ⟨n, rfl, hn⟩ : ∃ n : Nat, i = (n : Int) ∧ n < l.length := by
        rcases hi with h | h
        · omega
        · exact h
      have a1 : (0 : Int) ≤ (n : Int) := by omega
      have a2 : (n : Int) < (l.length : Int) := by omega
      simp only [c0, ↓reduceIte, a1, a2]
      by_cases k1 : kind = 1
      · simp only [k1, ↓reduceIte]
        exact B.EvR.pure ⟨rfl, by simp only [List.length_set]; omega⟩
      · by_cases k2 : kind = 2
        · simp only [k2, ↓reduceIte, show ¬ ((2 : Int) = 1) by decide]
          have he := endN_spec l hn
          have hw := B.wsucc (show n < 9223372036854775807 by omega)
          have s1 := evShift h (a := 0) (b := n) (Nat.zero_le _) (by omega) (d := 0) (by decide)
          have s2 := evShift h (a := n + 1) (b := endN l n) (by omega) he.2.1 (d := -1) (by decide)
          have s3 := evShift h (a := endN l n) (b := l.length) he.2.1 (Nat.le_refl _) (d := 0) (by decide)
          have t1 := shiftN_len l (a := 0) (b := n) 0 (Nat.zero_le _) (by omega)
          have t2 := shiftN_len l (a := n + 1) (b := endN l n) (-1) (by omega) he.2.1
          have t3 := shiftN_len l (a := endN l n) (b := l.length) 0 he.2.1 (Nat.le_refl _)
          refine B.EvR.bindL (evEnd h hn) ?_
          refine B.EvR.bindL s1 ?_
          simp only [hw]
          refine B.EvR.bindL s2 ?_
          simp only [show ((shiftN l 0 n 0).length + (shiftN l (n + 1) (endN l n) (-1)).length) * 16 ≤ 140737488355328 by omega, ↓reduceIte, Option.bind_some]
          refine B.EvR.bindL s3 ?_
          simp only [List.length_append, show ((shiftN l 0 n 0).length + (shiftN l (n + 1) (endN l n) (-1)).length + (shiftN l (endN l n) l.length 0).length) * 16 ≤ 140737488355328 by omega, ↓reduceIte]
          have hd := delLoop h hn path (endN l n - (n + 1)) (n + 1) (by omega) (Nat.le_refl _)
          rw [mid_end] at hd
          refine B.EvR.of ⟨?_, ?_⟩ (B.Ev.pure _) hd
          · rw [shiftN_take, shiftN_drop, List.append_assoc]
          · simp only [List.length_append, t1, t2, t3]; omega
        · simp only [k1, k2, ↓reduceIte]
          obtain ⟨k3, hlt, a, b, hab, h1, h2, h3⟩ := (hk.resolve_left k1).resolve_left (fun hh => k2 hh.1)
          have s1 := evShift h (a := 0) (b := a) (Nat.zero_le _) (by omega) (d := 0) (by decide)
          have s2 := evShift h (a := a) (b := b) h2 h3 (d := 1) (by decide)
          have s3 := evShift h (a := b) (b := l.length) h3 (Nat.le_refl _) (d := 0) (by decide)
          have t1 := shiftN_len l (a := 0) (b := a) 0 (Nat.zero_le _) (by omega)
          have t2 := shiftN_len l (a := a) (b := b) 1 h2 h3
          have t3 := shiftN_len l (a := b) (b := l.length) 0 h3 (Nat.le_refl _)
          have hpn := okT_at h hn
          have e1 : wrap64 ((l.getD n z105).f1 + 1) = dep l n + 1 := B.wid (show -9223372036854775808 ≤ dep l n + 1 by omega) (show dep l n + 1 ≤ 9223372036854775807 by omega)
          have ha : u.2.1 = (a : Int) := by rw [hab]
          have hb : u.2.2 = (b : Int) := by rw [hab]
          simp only [ha, hb, rdNode, e1]
          refine B.EvR.bindL s1 ?_
          simp only [show (shiftN l 0 a 0).length < 8796093022208 by omega, ↓reduceIte, Option.bind_some]
          refine B.EvR.bindL s2 ?_
          simp only [List.length_append, List.length_singleton, show ((shiftN l 0 a 0).length + 1 + (shiftN l a b 1).length) * 16 ≤ 140737488355328 by omega, ↓reduceIte, Option.bind_some]
          refine B.EvR.bindL s3 ?_
          simp only [show ((shiftN l 0 a 0).length + 1 + (shiftN l a b 1).length + (shiftN l b l.length 0).length) * 16 ≤ 140737488355328 by omega, ↓reduceIte]
          have hd := insLoop h hn h2 h3 path kind label from_ count (b - a) a (by omega) (Nat.le_refl _)
          rw [mid_end] at hd
          refine B.EvR.of ⟨?_, ?_⟩ (B.Ev.pure _) hd
          · rw [shiftN_take, shiftN_drop, List.append_assoc]
          · simp only [List.length_append, List.length_singleton, t1, t2, t3]; omega
    · simp only [c0, ↓reduceIte]
      exact B.EvR.pure ⟨rfl, h24.2⟩
  · simp only [h, ↓reduceIte]
    exact B.EvR.pure ⟨rfl, Nat.zero_le _⟩
end Go.Proofs.Ytinlbiphjgpmmaa.X
end YtinlbiphjgpmmaaXApply
section YtinlbiphjgpmmaaXApplyA
namespace Go.Proofs.Ytinlbiphjgpmmaa.X
open Go Go.RowKit Go.Proofs.Ytinlbiphjgpmmaa.V Go.Proofs.Ytinlbiphjgpmmaa.P
set_option linter.all false
theorem rdOp {xs : List S87} {i : Nat} (h : i < xs.length) : rd_T87 xs (i : Int) = xs[i] := by unfold rd_T87; rw [Int.toNat_natCast]; exact B.getD_lt h
/-- An operation whose path and place are not beyond all bounds. -/
def opW (o : S87) : Prop := o.f1.length ≤ 4611686018427387904 ∧ -9223372036854775808 ≤ o.f3 ∧ o.f3 ≤ 9223372036854775807
theorem allLoop {ops : List S87} (ho : ∀ o ∈ ops, opW o) (hn : ops.length ≤ 4611686018427387904) (l : List S105) : ∀ (d t : Nat) (x : List S105), t + d = ops.length → x.length ≤ 4194304 →
    B.EvR (fun k => spec_ApplyAll.l0 k ops x (t : Int) l) (fun k => impl_ApplyAll.l0 k ops x ops (ops.length : Int) (t : Int) l) (fun u v => u = v ∧ u.1.length ≤ 4194304) := by
  intro d
  induction d with
  | zero =>
    intro t x ht hx
    refine B.EvR.succL (B.EvR.succR ?_)
    simp only [spec_ApplyAll.l0, impl_ApplyAll.l0, show ¬ ((t : Int) < (ops.length : Int)) by omega, ↓reduceIte]
    exact B.EvR.pure ⟨rfl, hx⟩
  | succ d ih =>
    intro t x ht hx
    have hlt : t < ops.length := by omega
    have hw := B.wsucc (show t < 9223372036854775807 by omega)
    obtain ⟨w1, w2, w3⟩ := ho _ (List.getElem_mem hlt)
    refine B.EvR.succL (B.EvR.succR ?_)
    simp only [spec_ApplyAll.l0, impl_ApplyAll.l0, show ((t : Int) < (ops.length : Int)) by omega, show (0 : Int) ≤ (t : Int) by omega, ↓reduceIte, rdOp hlt, hw]
    refine B.EvR.bind (evApplyOp hx _ _ _ _ _ w1 ⟨w2, w3⟩) ?_
    rintro u v ⟨rfl, hu⟩
    refine B.EvR.iteL (fun c => ?_) (fun c => ?_)
    · simp only [c, ↓reduceIte]
      exact ih (t + 1) _ (by omega) (by omega)
    · simp only [c, ↓reduceIte]
      exact B.EvR.pure ⟨rfl, hx⟩
theorem evApplyAll {l : List S105} (hl : l.length ≤ 4194304) {ops : List S87} (ho : ∀ o ∈ ops, opW o) (hn : ops.length ≤ 4611686018427387904) :
    B.EvR (fun k => spec_ApplyAll.f k l ops) (fun k => impl_ApplyAll.f k l ops) (fun u v => u = v ∧ u.1.length ≤ 4194304) := by
  simp only [spec_ApplyAll.f, impl_ApplyAll.f]
  refine B.EvR.bindL (B.Ev.of _ (fun k hk => specTreeOk l hl k hk)) ?_
  refine B.EvR.bindR (B.Ev.of _ (fun k hk => implTreeOk l hl k hk)) ?_
  by_cases h : okT l = true
  · simp only [h, ↓reduceIte, spec_l3Copy.f, slices_Clone_impl_Node_impl_Node.f, show l.length * 16 ≤ 140737488355328 by omega, Option.bind_some]
    exact allLoop ho hn l ops.length 0 l (by omega) hl
  · simp only [h, ↓reduceIte]
    exact B.EvR.pure ⟨rfl, Nat.zero_le _⟩
end Go.Proofs.Ytinlbiphjgpmmaa.X
end YtinlbiphjgpmmaaXApplyA
section YtinlbiphjgpmmaaXHistT
namespace Go.Proofs.Ytinlbiphjgpmmaa.X
open Go Go.RowKit Go.Proofs.Ytinlbiphjgpmmaa.V Go.Proofs.Ytinlbiphjgpmmaa.P
set_option linter.all false
theorem rdL_last (pre : List (List S105)) (x : List S105) : rdL (pre ++ [x]) (pre.length : Int) = x := rdL_at pre x []
/-- Steps that are not too long, with places that are numbers of the machine. -/
def SOk (s : List (List S87)) : Prop := HIn s ∧ ∀ l ∈ s, ∀ o ∈ l, opW o
theorem histL (t0 : List S105) : ∀ (rest pre : List (List S87)) (ts : List (List S105)) (x : List S105), ts.length = pre.length → pre.length + rest.length ≤ 4194304 → x.length ≤ 4194304 → (∀ l ∈ rest, PIn l ∧ ∀ o ∈ l, opW o) →
    B.EvR (fun k => spec_HistOk.l0 k t0 (pre ++ rest) x (pre.length : Int)) (fun k => impl_Hist_trees.l0 k (ts ++ [x]) (pre ++ rest) ((pre ++ rest).length : Int) (pre.length : Int) t0) (fun u v => u = v.2) := by
  intro rest
  induction rest with
  | nil =>
    intro pre ts x _ _ _ _
    refine B.EvR.succL (B.EvR.succR ?_)
    simp only [spec_HistOk.l0, impl_Hist_trees.l0, List.append_nil, Int.lt_irrefl, ↓reduceIte]
    exact B.EvR.pure rfl
  | cons y rest ih =>
    intro pre ts x ht hl hx hs
    have hlt : (pre.length : Int) < ((pre ++ y :: rest).length : Int) := by rw [List.length_append, List.length_cons]; omega
    have hlt2 : (pre.length : Int) < ((ts ++ [x]).length : Int) := by rw [List.length_append, List.length_singleton]; omega
    rw [List.length_cons] at hl
    obtain ⟨p1, p2⟩ := hs y (List.mem_cons_self ..)
    have p1' := p1.1
    have e1 : rdL (ts ++ [x]) (pre.length : Int) = x := by rw [← ht]; exact rdL_last ts x
    refine B.EvR.succL (B.EvR.succR ?_)
    simp only [spec_HistOk.l0, impl_Hist_trees.l0, hlt, hlt2, show 0 ≤ (pre.length : Int) by omega, ↓reduceIte, rdL_at, e1, B.wsucc (show pre.length < 9223372036854775807 by omega)]
    refine B.EvR.bind (evApplyAll hx p2 (by omega)) ?_
    rintro u v ⟨rfl, hu⟩
    refine B.EvR.iteL (fun c => ?_) (fun c => ?_)
    · simp only [c, ↓reduceIte]
      refine B.EvR.bindL (evScrOk p1) ?_
      refine B.EvR.bindR (evScrOk' p1) ?_
      refine B.EvR.iteL (fun c2 => ?_) (fun c2 => ?_)
      · simp only [c2, ↓reduceIte, show (ts ++ [x]).length < 5864062014805 by rw [List.length_append, List.length_singleton]; omega]
        have := ih (pre ++ [y]) (ts ++ [x]) u.1 (by simp [ht]) (by rw [List.length_append, List.length_singleton]; omega) hu (fun z hz => hs z (List.mem_cons_of_mem _ hz))
        rw [app1, show (pre ++ [y]).length = pre.length + 1 by simp] at this
        exact this
      · simp only [c2, ↓reduceIte]; exact B.EvR.pure rfl
    · simp only [c, ↓reduceIte]; exact B.EvR.pure rfl
theorem evHistOk {t : List S105} {s : List (List S87)} (ht : t.length ≤ 4194304) (hs : SOk s) : B.EvR (fun k => spec_HistOk.f k t s) (fun k => impl_HistOk.f k t s) (fun u v => u = v) := by
  simp only [spec_HistOk.f, impl_HistOk.f, impl_Hist_trees.f]
  refine B.EvR.bindL (B.Ev.of _ (fun k hk => specTreeOk t ht k hk)) ?_
  have key : B.EvR (fun k => if okT t = true then (if (s.length : Int) > 6 then some false else (spec_l3Copy.f t).bind fun t2 => spec_HistOk.l0 k t s t2 0) else some false)
      (fun k => if okT t = true then (if (s.length : Int) > 6 then some (([] : List (List S105)), false) else (slices_Clone_impl_Node_impl_Node.f t).bind fun t2 => impl_Hist_trees.l0 k [t2] s (s.length : Int) 0 t) else some ([], false)) (fun u v => u = v.2) := by
    refine B.EvR.iteL (fun c => ?_) (fun c => ?_)
    · simp only [c, ↓reduceIte]
      refine B.EvR.iteL (fun c2 => ?_) (fun c2 => ?_)
      · simp only [c2, ↓reduceIte]; exact B.EvR.pure rfl
      · simp only [c2, ↓reduceIte, spec_l3Copy.f, slices_Clone_impl_Node_impl_Node.f, show t.length * 16 ≤ 140737488355328 by omega, Option.bind_some]
        exact histL t s [] [] t rfl (by simpa using hs.1.1) ht (fun l hl => ⟨hs.1.2 l hl, hs.2 l hl⟩)
    · simp only [c, ↓reduceIte]; exact B.EvR.pure rfl
  obtain ⟨u, v, r, h1, h2⟩ := key
  refine ⟨u, v.2, r, h1, ?_⟩
  refine B.Ev.bind (B.Ev.bind (B.Ev.of _ (fun k hk => implTreeOk t ht k hk)) h2) (B.Ev.pure _)
/-- A history that may be asked about. -/
theorem evHistAdd {t : List S105} {s : List (List S87)} {o : List S87} (ht : t.length ≤ 4194304) (hs : SOk s) (hn : s.length < 4194304) (ho : PIn o) (ho' : ∀ x ∈ o, opW x) :
    B.EvR (fun k => spec_HistAdd.f k t s o) (fun k => impl_HistAdd.f k t s o) (fun u v => u = v ∧ u.1 = t ∧ (u.2.1 = s ∨ u.2.1 = s ++ [o])) := by
  simp only [spec_HistAdd.f, impl_HistAdd.f]
  refine B.EvR.bindL (evL24 ht hs.1) ?_
  refine B.EvR.bindR (evHistCopy ht hs.1) ?_
  refine B.EvR.bindL (evCopy ho) ?_
  refine B.EvR.bindR (evJoined ho) ?_
  have hl := hs.1.1
  simp only [show s.length < 5864062014805 by omega, ↓reduceIte, Option.bind_some]
  have hs' : SOk (s ++ [o]) := ⟨⟨by rw [List.length_append, List.length_singleton]; omega, fun l hl => by
    rcases List.mem_append.1 hl with h | h
    · exact hs.1.2 l h
    · rw [List.mem_singleton] at h; rw [h]; exact ho⟩, fun l hl => by
    rcases List.mem_append.1 hl with h | h
    · exact hs.2 l h
    · rw [List.mem_singleton] at h; rw [h]; exact ho'⟩
  refine B.EvR.bind (evHistOk ht hs') ?_
  rintro u v rfl
  refine B.EvR.iteL (fun c => ?_) (fun c => ?_)
  · simp only [c, ↓reduceIte]; exact B.EvR.pure ⟨rfl, rfl, .inr rfl⟩
  · simp only [c, ↓reduceIte]; exact B.EvR.pure ⟨rfl, rfl, .inl rfl⟩
end Go.Proofs.Ytinlbiphjgpmmaa.X
end YtinlbiphjgpmmaaXHistT
section YtinlbiphjgpmmaaXIntsTo
namespace Go.Proofs.Ytinlbiphjgpmmaa.X
open Go Go.RowKit Go.Proofs.Ytinlbiphjgpmmaa.V Go.Proofs.Ytinlbiphjgpmmaa.P

theorem toIntS (l : List Int) (hl : l.length ≤ 4194304) (k : Nat) (hk : l.length < k) : laws_toIntS.f k l = some l := by
  unfold laws_toIntS.f
  rw [if_pos (by omega), if_pos (by omega), Int.toNat_natCast]
  have h := B.loop (fun k i => laws_toIntS.l0 k l (B.filled l id 0 i) (i : Int)) l.length (fun _ => some l)
    (fun k => by simp only [laws_toIntS.l0]; rw [if_neg (by omega), B.filled_all, List.map_id])
    (fun k i hi ih => by
      have a1 : (i : Int) < (l.length : Int) := by omega
      have a2 : (i : Int) < ((B.filled l id 0 i).length : Int) := by rw [B.filled_length _ _ _ (by omega)]; omega
      have a3 : 0 ≤ (i : Int) := by omega
      simp only [laws_toIntS.l0, a1, a2, a3, ↓reduceIte, B.wsucc (show i < 9223372036854775807 by omega), Int.toNat_natCast, rdInt]
      rw [← B.filled_set l id 0 hi] at ih
      rw [B.getD_lt hi]
      exact ih) k 0 (by omega) (by omega)
  rw [B.filled_zero] at h
  exact h
end Go.Proofs.Ytinlbiphjgpmmaa.X
end YtinlbiphjgpmmaaXIntsTo
