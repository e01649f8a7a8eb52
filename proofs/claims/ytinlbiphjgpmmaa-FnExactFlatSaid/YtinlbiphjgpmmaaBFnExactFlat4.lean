/- FnExactFlat: L107 L108 L77 L38 L109 L78 L90 L99 L123 L134 L126 L121 L122 L124 L125 L100 L79 L110 L80 L39 L11 L14 L82 L42 L16 L83 L43 L17 L44 L18 L5 XBase XMark XTree XEv XEnd XKids XHas XKidsI XRd XEvP XEvR XNodeA XCodeA XApply XVarT XReadV XGetT XGetS XPatch XRepoG XRepoK XRepoL XMarkT XRevM PureFnExactFlat. -/
import Derived.Test.YtinlbiphjgpmmaaBFnExactFlat3
section YtinlbiphjgpmmaaL107
namespace Go.Proofs.Ytinlbiphjgpmmaa.P
open Go Go.RowKit Go.Proofs.Ytinlbiphjgpmmaa.V
set_option linter.unusedVariables false
set_option linter.unusedSimpArgs false
set_option linter.all false
set_option maxRecDepth 100000
/-! ### impl_LabelOk: function 107 -/
def impl_LabelOk.f (a0 : Int) : Option Bool := (impl_within.f a0 0 5).bind fun t1 => (some t1)
set_option maxHeartbeats 4000000 in
theorem impl_LabelOk.link {a0 : Int} {r : Bool} (H : impl_LabelOk.f a0 = some r) : callW env 107 [.i .i64 a0] = some ([.b r], []) := by
  unfold impl_LabelOk.f at H
  refine callW_fn' (F := impl_LabelOk.F) (tm := tmOf [(0, .i .i64 a0)]) (rs := rsL []) (nx := 0) (ow := []) rfl (by rfl) (by simp only [SN]) (by simp only [SN]) (by decide) ?_
  show W env impl_LabelOk.B _ (Qf [.t 2] [] _)
  unfold impl_LabelOk.B
  obtain ⟨t1, e1, H⟩ := bnd_some H
  have e1 := impl_within.link e1
  injection H with H; subst H
  try simp only [TN, simprocAttr, e1]
  try rfl
end Go.Proofs.Ytinlbiphjgpmmaa.P
end YtinlbiphjgpmmaaL107
section YtinlbiphjgpmmaaL108
namespace Go.Proofs.Ytinlbiphjgpmmaa.P
open Go Go.RowKit Go.Proofs.Ytinlbiphjgpmmaa.V
set_option linter.unusedVariables false
set_option linter.unusedSimpArgs false
set_option linter.all false
set_option maxRecDepth 100000
/-! ### impl_depthOk: function 108 -/
def impl_depthOk.f (l0 : List S105) (a1 : Int) : Option Bool := if a1 = 0 then (if 0 < (l0.length : Int) then (some (((rd_T105 l0 0).f1) == 0)) else none) else (if 0 ≤ a1 then (if a1 < (l0.length : Int) then (if 0 ≤ wrap64 (a1 - 1) then (if wrap64 (a1 - 1) < (l0.length : Int) then ((impl_within.f ((rd_T105 l0 a1).f1) 1 (wrap64 (((rd_T105 l0 (wrap64 (a1 - 1))).f1) + 1))).bind fun t1 => (some t1)) else none) else none) else none) else none)
set_option maxHeartbeats 4000000 in
theorem impl_depthOk.link {l0 : List S105} {a1 : Int} {r : Bool} (H : impl_depthOk.f l0 a1 = some r) : callW env 108 [.deep false true 2 (l0.map e105), .i .i64 a1] = some ([.b r], [none]) := by
  unfold impl_depthOk.f at H
  refine callW_fn' (F := impl_depthOk.F) (tm := tmOf [(0, .slc 0 [] 0 2 0 l0.length), (1, .i .i64 a1)]) (rs := rsL [(0, some ⟨false, 2, 0, (l0.map e105)⟩)]) (nx := 1) (ow := [false]) rfl (by rfl) (by simp only [SN]) (by simp only [SN]) (by decide) ?_
  show W env impl_depthOk.B _ (Qf [.t 4] [false] _)
  unfold impl_depthOk.B
  try simp only [TN, simprocAttr]
  rcases ite_or H with ⟨h1, H⟩ | ⟨h1, H⟩
  · skip
    obtain ⟨h2, H⟩ := ite_no H
    injection H with H; subst H
    try simp only [TN, simprocAttr, eq_true h1, h2]
    try rfl
  · skip
    obtain ⟨h3, H⟩ := ite_no H
    obtain ⟨h4, H⟩ := ite_no H
    obtain ⟨h5, H⟩ := ite_no H
    obtain ⟨h6, H⟩ := ite_no H
    obtain ⟨t1, e7, H⟩ := bnd_some H
    have e7 := impl_within.link e7
    injection H with H; subst H
    try simp only [TN, simprocAttr, h1, h3, h4, h5, h6, e7]
    try rfl
end Go.Proofs.Ytinlbiphjgpmmaa.P
end YtinlbiphjgpmmaaL108
section YtinlbiphjgpmmaaL77
namespace Go.Proofs.Ytinlbiphjgpmmaa.P
open Go Go.RowKit Go.Proofs.Ytinlbiphjgpmmaa.V
set_option linter.unusedVariables false
set_option linter.unusedSimpArgs false
set_option linter.all false
set_option maxRecDepth 100000
/-! ### impl_getNode: function 77 -/
def impl_getNode.f (k : Nat) (l0 : List S105) (a1 : ByteArray) : Option ((List S105) × ByteArray × Int) := (impl_ReadVar.f k a1).bind fun bt1 => (if bt1.2 = 0 then (some (l0, a1, 1)) else ((impl_LabelOk.f bt1.1).bind fun t2 => (if t2 = true then (if 0 ≤ bt1.2 then (if bt1.2 ≤ (a1.size : Int) then ((impl_ReadVar.f k (a1.extract (bt1.2 : Int).toNat a1.size)).bind fun bt3 => (if l0.length < 8796093022208 then ((some (l0 ++ ([(⟨bt1.1, bt3.1⟩ : S105)]) : List S105)).bind fun y0 => (if bt3.2 = 0 then (some (y0, a1.extract (bt1.2 : Int).toNat a1.size, 1)) else (if bt3.1 > 12 then (some (y0, a1.extract (bt1.2 : Int).toNat a1.size, 4)) else ((impl_depthOk.f y0 (wrap64 ((y0.length : Int) - 1))).bind fun t4 => (if t4 = true then (if 0 ≤ bt3.2 then (if bt3.2 ≤ ((a1.extract (bt1.2 : Int).toNat a1.size).size : Int) then (some (y0, (a1.extract (bt1.2 : Int).toNat a1.size).extract (bt3.2 : Int).toNat (a1.extract (bt1.2 : Int).toNat a1.size).size, 0)) else none) else none) else (some (y0, a1.extract (bt1.2 : Int).toNat a1.size, 5))))))) else none)) else none) else none) else (some (l0, a1, 3)))))
set_option maxHeartbeats 4000000 in
theorem impl_getNode.link {k : Nat} {l0 : List S105} {a1 : ByteArray} {r : (List S105) × ByteArray × Int} (H : impl_getNode.f k l0 a1 = some r) : callW env 77 [.deep false false 2 (l0.map e105), .s a1] = some ([.deep false false 2 (r.1.map e105), .s r.2.1, .i .i64 r.2.2], [none]) := by
  unfold impl_getNode.f at H
  refine callW_fn' (F := impl_getNode.F) (tm := tmOf [(0, .slc 0 [] 0 2 0 l0.length), (1, .s a1)]) (rs := rsL [(0, some ⟨true, 2, 0, (l0.map e105)⟩)]) (nx := 1) (ow := [true]) rfl (by rfl) (by simp only [SN]) (by simp only [SN]) (by decide) ?_
  show W env impl_getNode.B _ (Qf [.t 4, .t 5, .t 6] [true] _)
  unfold impl_getNode.B
  obtain ⟨bt1, e1, H⟩ := bnd_some H
  have e1 := impl_ReadVar.link e1
  try simp only [TN, simprocAttr, e1]
  rcases ite_or H with ⟨h2, H⟩ | ⟨h2, H⟩
  · skip
    injection H with H; subst H
    try simp only [TN, simprocAttr, e1, eq_true h2]
    try rfl
  · skip
    obtain ⟨t2, e3, H⟩ := bnd_some H
    have e3 := impl_LabelOk.link e3
    try simp only [TN, simprocAttr, e1, h2, e3]
    rcases ite_b H with ⟨h4, H⟩ | ⟨h4, H⟩
    · skip
      obtain ⟨h5, H⟩ := ite_no H
      obtain ⟨h6, H⟩ := ite_no H
      obtain ⟨bt3, e7, H⟩ := bnd_some H
      have e7 := impl_ReadVar.link e7
      obtain ⟨h8, H⟩ := ite_no H
      have h9 : (l0.length + 1) * 16 ≤ 140737488355328 := by omega
      obtain ⟨_, hy10, H⟩ := some_bnd H; subst hy10
      try simp only [TN, simprocAttr, e1, h2, e3, h4, h5, h6, e7, @litX_105_1, h8, h9]
      rcases ite_or H with ⟨h11, H⟩ | ⟨h11, H⟩
      · skip
        injection H with H; subst H
        try simp only [TN, simprocAttr, e1, h2, e3, h4, h5, h6, e7, @litX_105_1, h8, h9, eq_true h11]
        try rfl
      · skip
        try simp only [TN, simprocAttr, e1, h2, e3, h4, h5, h6, e7, @litX_105_1, h8, h9, h11]
        rcases ite_or H with ⟨h12, H⟩ | ⟨h12, H⟩
        · skip
          injection H with H; subst H
          try simp only [TN, simprocAttr, e1, h2, e3, h4, h5, h6, e7, @litX_105_1, h8, h9, h11, h12]
          try rfl
        · skip
          obtain ⟨t4, e13, H⟩ := bnd_some H
          have e13 := impl_depthOk.link e13
          try simp only [TN, simprocAttr, e1, h2, e3, h4, h5, h6, e7, @litX_105_1, h8, h9, h11, h12, e13]
          rcases ite_b H with ⟨h14, H⟩ | ⟨h14, H⟩
          · skip
            obtain ⟨h15, H⟩ := ite_no H
            obtain ⟨h16, H⟩ := ite_no H
            injection H with H; subst H
            try simp only [TN, simprocAttr, e1, h2, e3, h4, h5, h6, e7, @litX_105_1, h8, h9, h11, h12, e13, h14, h15, h16]
            try rfl
          · skip
            injection H with H; subst H
            try simp only [TN, simprocAttr, e1, h2, e3, h4, h5, h6, e7, @litX_105_1, h8, h9, h11, h12, e13, h14]
            try rfl
    · skip
      injection H with H; subst H
      try simp only [TN, simprocAttr, e1, h2, e3, h4]
      try rfl
end Go.Proofs.Ytinlbiphjgpmmaa.P
end YtinlbiphjgpmmaaL77
section YtinlbiphjgpmmaaL38
namespace Go.Proofs.Ytinlbiphjgpmmaa.P
open Go Go.RowKit Go.Proofs.Ytinlbiphjgpmmaa.V
set_option linter.unusedVariables false
set_option linter.unusedSimpArgs false
set_option linter.all false
set_option maxRecDepth 100000
/-! ### impl_GetTree: function 38 -/
def impl_GetTree.l0 : Nat → (List S105) → ByteArray → Int → Int → Option ((List S105) × Int)
 | 0, _, _, _, _ => none
 | k + 1, x6, x7, x27, x28 => if x28 < x27 then ((impl_getNode.f k x6 x7).bind fun bt3 => (if bt3.2.2 = 0 then (impl_GetTree.l0 k bt3.1 bt3.2.1 x27 (wrap64 (x28 + 1))) else (some (([] : List S105), bt3.2.2)))) else (if x7 = (⟨#[]⟩ : ByteArray) then (some (x6, 0)) else (some (([] : List S105), 6)))
def impl_GetTree.f (k : Nat) (a0 : ByteArray) : Option ((List S105) × Int) := (impl_ReadVar.f k a0).bind fun bt1 => (if bt1.2 = 0 then (some (([] : List S105), 1)) else ((impl_within.f bt1.1 1 24).bind fun t2 => (if t2 = true then (if 0 ≤ bt1.2 then (if bt1.2 ≤ (a0.size : Int) then (impl_GetTree.l0 k ([] : List S105) (a0.extract (bt1.2 : Int).toNat a0.size) bt1.1 0) else none) else none) else (some (([] : List S105), 2)))))
def impl_GetTree.P0 (k : Nat) : Prop := ∀ (x6 : List S105) (x7 : ByteArray) (x27 : Int) (x28 : Int) (r : (List S105) × Int), impl_GetTree.l0 k x6 x7 x27 x28 = some r → ∀ st, canon 0 [6, 7, 27, 28] st = ⟨tmOf [(6, .slc 0 [] 0 2 0 x6.length), (7, .s x7), (27, .i .i64 x27), (28, .i .i64 x28)], rsL [(0, some ⟨true, 2, 0, (x6.map e105)⟩)], 1⟩ → W env impl_GetTree.c1 st (Qb 1 (Qs env impl_GetTree.c0 (Qf [.t 2, .t 3] [] ([.deep false false 2 (r.1.map e105), .i .i64 r.2], []))))
set_option maxHeartbeats 4000000 in
theorem impl_GetTree.s0 (k : Nat) (ih : impl_GetTree.P0 k) : impl_GetTree.P0 (k + 1) := by
  intro x6 x7 x27 x28 r H st hst
  rw [impl_GetTree.l0] at H
  rw [W_loopc (show impl_GetTree.c1 = C.loop 0 [6, 7, 27, 28] impl_GetTree.d1 from rfl), hst]
  unfold impl_GetTree.d1
  try simp only [TN, simprocAttr, impl_GetTree.c0]
  rcases ite_or H with ⟨h1, H⟩ | ⟨h1, H⟩
  · skip
    obtain ⟨bt3, e2, H⟩ := bnd_some H
    have e2 := impl_getNode.link e2
    try simp only [TN, simprocAttr, impl_GetTree.c0, h1, e2]
    rcases ite_or H with ⟨h3, H⟩ | ⟨h3, H⟩
    · skip
      try simp only [TN, simprocAttr, impl_GetTree.c0, h1, e2, eq_true h3]
      refine ih _ _ _ _ _ H _ ?_
      first | (rw [canon_eq]; done) | (rw [canon_eq]; rfl) | (rw [canon_eq]; simp only [List.length_set, List.length_append, List.length_replicate]; rfl)
    · skip
      injection H with H; subst H
      try simp only [TN, simprocAttr, impl_GetTree.c0, h1, e2, h3]
      try rfl
  · skip
    try simp only [TN, simprocAttr, impl_GetTree.c0, h1]
    rcases ite_or H with ⟨h4, H⟩ | ⟨h4, H⟩
    · skip
      injection H with H; subst H
      try simp only [TN, simprocAttr, impl_GetTree.c0, h1, eq_true h4]
      try rfl
    · skip
      injection H with H; subst H
      try simp only [TN, simprocAttr, impl_GetTree.c0, h1, h4]
      try rfl
theorem impl_GetTree.w : ∀ k, impl_GetTree.P0 k := by
  intro k
  induction k with
  | zero => exact by intro x6 x7 x27 x28 r H; cases (show (none : Option ((List S105) × Int)) = some r from H)
  | succ k ih => exact impl_GetTree.s0 k ih
set_option maxHeartbeats 4000000 in
theorem impl_GetTree.link {k : Nat} {a0 : ByteArray} {r : (List S105) × Int} (H : impl_GetTree.f k a0 = some r) : callW env 38 [.s a0] = some ([.deep false false 2 (r.1.map e105), .i .i64 r.2], []) := by
  unfold impl_GetTree.f at H
  refine callW_fn' (F := impl_GetTree.F) (tm := tmOf [(0, .s a0)]) (rs := rsL []) (nx := 0) (ow := []) rfl (by rfl) (by simp only [SN]) (by simp only [SN]) (by decide) ?_
  show W env impl_GetTree.B _ (Qf [.t 2, .t 3] [] _)
  unfold impl_GetTree.B
  obtain ⟨bt1, e1, H⟩ := bnd_some H
  have e1 := impl_ReadVar.link e1
  try simp only [TN, simprocAttr, impl_GetTree.c0, e1]
  rcases ite_or H with ⟨h2, H⟩ | ⟨h2, H⟩
  · skip
    injection H with H; subst H
    try simp only [TN, simprocAttr, impl_GetTree.c0, e1, eq_true h2]
    try rfl
  · skip
    obtain ⟨t2, e3, H⟩ := bnd_some H
    have e3 := impl_within.link e3
    try simp only [TN, simprocAttr, impl_GetTree.c0, e1, h2, e3]
    rcases ite_b H with ⟨h4, H⟩ | ⟨h4, H⟩
    · skip
      obtain ⟨h5, H⟩ := ite_no H
      obtain ⟨h6, H⟩ := ite_no H
      try simp only [TN, simprocAttr, impl_GetTree.c0, e1, h2, e3, h4, h5, h6]
      refine (impl_GetTree.w k) _ _ _ _ _ H _ ?_
      first | (rw [canon_eq]; done) | (rw [canon_eq]; rfl) | (rw [canon_eq]; simp only [List.length_set, List.length_append, List.length_replicate]; rfl)
    · skip
      injection H with H; subst H
      try simp only [TN, simprocAttr, impl_GetTree.c0, e1, h2, e3, h4]
      try rfl
end Go.Proofs.Ytinlbiphjgpmmaa.P
end YtinlbiphjgpmmaaL38
section YtinlbiphjgpmmaaL109
namespace Go.Proofs.Ytinlbiphjgpmmaa.P
open Go Go.RowKit Go.Proofs.Ytinlbiphjgpmmaa.V
set_option linter.unusedVariables false
set_option linter.unusedSimpArgs false
set_option linter.all false
set_option maxRecDepth 100000
/-! ### impl_script_number: function 109 -/
def impl_script_number.f (k : Nat) (p0_0 : ByteArray) (p0_1 : Int) (a1 : Int) (a2 : Int) (a3 : Int) : Option (Int × ByteArray × Int) := if p0_1 = 0 then ((impl_ReadVar.f k p0_0).bind fun bt1 => (if bt1.2 = 0 then (some (0, p0_0, 1)) else ((impl_within.f bt1.1 a1 a2).bind fun t2 => (if t2 = true then (if 0 ≤ bt1.2 then (if bt1.2 ≤ (p0_0.size : Int) then (some (bt1.1, p0_0.extract (bt1.2 : Int).toNat p0_0.size, p0_1)) else none) else none) else (some (0, p0_0, a3)))))) else (some (0, p0_0, p0_1))
set_option maxHeartbeats 4000000 in
theorem impl_script_number.link {k : Nat} {p0_0 : ByteArray} {p0_1 : Int} {a1 : Int} {a2 : Int} {a3 : Int} {r : Int × ByteArray × Int} (H : impl_script_number.f k p0_0 p0_1 a1 a2 a3 = some r) : callW env 109 [.deep true false 2 [[.s p0_0, .i .i64 p0_1]], .i .i64 a1, .i .i64 a2, .i .i64 a3] = some ([.i .i64 r.1], [some [[.s r.2.1, .i .i64 r.2.2]]]) := by
  unfold impl_script_number.f at H
  refine callW_fn' (F := impl_script_number.F) (tm := tmOf [(0, .ptr 0 [] 0 0 0), (1, .i .i64 a1), (2, .i .i64 a2), (3, .i .i64 a3)]) (rs := rsL [(0, some ⟨true, 2, 0, [[.s p0_0, .i .i64 p0_1]]⟩)]) (nx := 1) (ow := [true]) rfl (by rfl) (by simp only [SN]) (by simp only [SN]) (by decide) ?_
  show W env impl_script_number.B _ (Qf [.t 8] [true] _)
  unfold impl_script_number.B
  try simp only [TN, simprocAttr]
  rcases ite_or H with ⟨h1, H⟩ | ⟨h1, H⟩
  · skip
    obtain ⟨bt1, e2, H⟩ := bnd_some H
    have e2 := impl_ReadVar.link e2
    try simp only [TN, simprocAttr, eq_true h1, e2]
    rcases ite_or H with ⟨h3, H⟩ | ⟨h3, H⟩
    · skip
      injection H with H; subst H
      try simp only [TN, simprocAttr, eq_true h1, e2, eq_true h3]
      try rfl
    · skip
      obtain ⟨t2, e4, H⟩ := bnd_some H
      have e4 := impl_within.link e4
      try simp only [TN, simprocAttr, eq_true h1, e2, h3, e4]
      rcases ite_b H with ⟨h5, H⟩ | ⟨h5, H⟩
      · skip
        obtain ⟨h6, H⟩ := ite_no H
        obtain ⟨h7, H⟩ := ite_no H
        injection H with H; subst H
        try simp only [TN, simprocAttr, eq_true h1, e2, h3, e4, h5, h6, h7]
        try rfl
      · skip
        injection H with H; subst H
        try simp only [TN, simprocAttr, eq_true h1, e2, h3, e4, h5]
        try rfl
  · skip
    injection H with H; subst H
    try simp only [TN, simprocAttr, h1]
    try rfl
end Go.Proofs.Ytinlbiphjgpmmaa.P
end YtinlbiphjgpmmaaL109
section YtinlbiphjgpmmaaL78
namespace Go.Proofs.Ytinlbiphjgpmmaa.P
open Go Go.RowKit Go.Proofs.Ytinlbiphjgpmmaa.V
set_option linter.unusedVariables false
set_option linter.unusedSimpArgs false
set_option linter.all false
set_option maxRecDepth 100000
/-! ### impl_GetScript: function 78 -/
mutual
def impl_GetScript.l0 : Nat → (List S87) → Int → Int → ByteArray → Int → Option ((List S87) × Int)
 | 0, _, _, _, _, _ => none
 | k + 1, x5, x12, x13, c0_0, c0_1 => if x13 < x12 then ((impl_script_number.f k c0_0 c0_1 1 3 3).bind fun bt2 => ((impl_script_number.f k bt2.2.1 bt2.2.2 0 12 4).bind fun bt3 => (impl_GetScript.l1 k x5 x12 x13 bt3.1 0 bt3.2.1 bt3.2.2 bt2.1 [] 0 0 0))) else (if c0_1 = 0 then (if c0_0 = (⟨#[]⟩ : ByteArray) then (some (x5, 0)) else (some (([] : List S87), 7))) else (some (([] : List S87), c0_1)))
def impl_GetScript.l1 : Nat → (List S87) → Int → Int → Int → Int → ByteArray → Int → Int → (List Int) → Int → Int → Int → Option ((List S87) × Int)
 | 0, _, _, _, _, _, _, _, _, _, _, _, _ => none
 | k + 1, x5, x12, x13, x19, x20, c0_0, c0_1, c2_0, c2_1, c2_2, c2_3, c2_4 => if x20 < x19 then ((impl_script_number.f k c0_0 c0_1 0 24 4).bind fun bt4 => (if c2_1.length < 17592186044416 then (impl_GetScript.l1 k x5 x12 x13 x19 (wrap64 (x20 + 1)) bt4.2.1 bt4.2.2 c2_0 (c2_1 ++ ([bt4.1])) c2_2 c2_3 c2_4) else none)) else (if c2_0 = 2 then (if c2_0 = 3 then ((impl_script_number.f k c0_0 c0_1 0 24 6).bind fun bt5 => ((impl_script_number.f k bt5.2.1 bt5.2.2 0 24 6).bind fun bt6 => (if x5.length < 2513169434916 then (impl_GetScript.l0 k (x5 ++ ([(⟨c2_0, c2_1, c2_2, bt5.1, bt6.1⟩ : S87)])) x12 (wrap64 (x13 + 1)) bt6.2.1 bt6.2.2) else none))) else (if x5.length < 2513169434916 then (impl_GetScript.l0 k (x5 ++ ([(⟨c2_0, c2_1, c2_2, c2_3, c2_4⟩ : S87)])) x12 (wrap64 (x13 + 1)) c0_0 c0_1) else none)) else ((impl_script_number.f k c0_0 c0_1 0 5 5).bind fun bt7 => (if c2_0 = 3 then ((impl_script_number.f k bt7.2.1 bt7.2.2 0 24 6).bind fun bt8 => ((impl_script_number.f k bt8.2.1 bt8.2.2 0 24 6).bind fun bt9 => (if x5.length < 2513169434916 then (impl_GetScript.l0 k (x5 ++ ([(⟨c2_0, c2_1, bt7.1, bt8.1, bt9.1⟩ : S87)])) x12 (wrap64 (x13 + 1)) bt9.2.1 bt9.2.2) else none))) else (if x5.length < 2513169434916 then (impl_GetScript.l0 k (x5 ++ ([(⟨c2_0, c2_1, bt7.1, c2_3, c2_4⟩ : S87)])) x12 (wrap64 (x13 + 1)) bt7.2.1 bt7.2.2) else none))))
end
def impl_GetScript.f (k : Nat) (a0 : ByteArray) : Option ((List S87) × Int) := (impl_script_number.f k a0 0 0 60 2).bind fun bt1 => (impl_GetScript.l0 k ([] : List S87) bt1.1 0 bt1.2.1 bt1.2.2)
def impl_GetScript.P0 (k : Nat) : Prop := ∀ (x5 : List S87) (x12 : Int) (x13 : Int) (c0_0 : ByteArray) (c0_1 : Int) (r : (List S87) × Int), impl_GetScript.l0 k x5 x12 x13 c0_0 c0_1 = some r → ∀ st, canon 0 [4, 5, 12, 13] st = ⟨tmOf [(4, .ptr 0 [] 0 0 0), (5, .slc 1 [] 0 5 0 x5.length), (12, .i .i64 x12), (13, .i .i64 x13)], rsL [(0, some ⟨true, 2, 0, [[.s c0_0, .i .i64 c0_1]]⟩), (1, some ⟨true, 5, 0, (x5.map (e87 false))⟩)], 2⟩ → W env impl_GetScript.c1 st (Qb 0 (Qs env impl_GetScript.c0 (Qf [.t 2, .t 3] [] ([.deep false false 5 (r.1.map (e87 false)), .i .i64 r.2], []))))
def impl_GetScript.P1 (k : Nat) : Prop := ∀ (x5 : List S87) (x12 : Int) (x13 : Int) (x19 : Int) (x20 : Int) (c0_0 : ByteArray) (c0_1 : Int) (c2_0 : Int) (c2_1 : List Int) (c2_2 : Int) (c2_3 : Int) (c2_4 : Int) (r : (List S87) × Int), impl_GetScript.l1 k x5 x12 x13 x19 x20 c0_0 c0_1 c2_0 c2_1 c2_2 c2_3 c2_4 = some r → ∀ st, canon 0 [4, 5, 6, 12, 13, 19, 20] st = ⟨tmOf [(4, .ptr 0 [] 0 0 0), (5, .slc 1 [] 0 5 0 x5.length), (6, .ptr 2 [] 0 0 0), (12, .i .i64 x12), (13, .i .i64 x13), (19, .i .i64 x19), (20, .i .i64 x20)], rsL [(0, some ⟨true, 2, 0, [[.s c0_0, .i .i64 c0_1]]⟩), (1, some ⟨true, 5, 0, (x5.map (e87 false))⟩), (2, some ⟨true, 5, 0, [[.i .i64 c2_0, .deep false false 1 (c2_1.map eI), .i .i64 c2_2, .i .i64 c2_3, .i .i64 c2_4]]⟩)], 3⟩ → W env impl_GetScript.c4 st (Qb 2 (Qs env impl_GetScript.c3 (Qb 1 (Qs env impl_GetScript.c2 (Ql env impl_GetScript.c1 (Qb 0 (Qs env impl_GetScript.c0 (Qf [.t 2, .t 3] [] ([.deep false false 5 (r.1.map (e87 false)), .i .i64 r.2], [])))))))))
set_option maxHeartbeats 4000000 in
theorem impl_GetScript.s0 (k : Nat) (ih : impl_GetScript.P0 k ∧ impl_GetScript.P1 k) : impl_GetScript.P0 (k + 1) := by
  intro x5 x12 x13 c0_0 c0_1 r H st hst
  rw [impl_GetScript.l0] at H
  rw [W_loopc (show impl_GetScript.c1 = C.loop 0 [4, 5, 12, 13] impl_GetScript.d1 from rfl), hst]
  unfold impl_GetScript.d1
  try simp only [TN, simprocAttr, impl_GetScript.c0, impl_GetScript.c2, impl_GetScript.c3]
  rcases ite_or H with ⟨h1, H⟩ | ⟨h1, H⟩
  · skip
    obtain ⟨bt2, e2, H⟩ := bnd_some H
    have e2 := impl_script_number.link e2
    obtain ⟨bt3, e3, H⟩ := bnd_some H
    have e3 := impl_script_number.link e3
    try simp only [TN, simprocAttr, impl_GetScript.c0, impl_GetScript.c2, impl_GetScript.c3, h1, e2, e3]
    refine ih.2 _ _ _ _ _ _ _ _ _ _ _ _ _ H _ ?_
    first | (rw [canon_eq]; done) | (rw [canon_eq]; rfl) | (rw [canon_eq]; simp only [List.length_set, List.length_append, List.length_replicate]; rfl)
  · skip
    try simp only [TN, simprocAttr, impl_GetScript.c0, impl_GetScript.c2, impl_GetScript.c3, h1]
    rcases ite_or H with ⟨h4, H⟩ | ⟨h4, H⟩
    · skip
      try simp only [TN, simprocAttr, impl_GetScript.c0, impl_GetScript.c2, impl_GetScript.c3, h1, eq_true h4]
      rcases ite_or H with ⟨h5, H⟩ | ⟨h5, H⟩
      · skip
        injection H with H; subst H
        try simp only [TN, simprocAttr, impl_GetScript.c0, impl_GetScript.c2, impl_GetScript.c3, h1, eq_true h4, eq_true h5]
        try rfl
      · skip
        injection H with H; subst H
        try simp only [TN, simprocAttr, impl_GetScript.c0, impl_GetScript.c2, impl_GetScript.c3, h1, eq_true h4, h5]
        try rfl
    · skip
      injection H with H; subst H
      try simp only [TN, simprocAttr, impl_GetScript.c0, impl_GetScript.c2, impl_GetScript.c3, h1, h4]
      try rfl
set_option maxHeartbeats 4000000 in
theorem impl_GetScript.s1 (k : Nat) (ih : impl_GetScript.P0 k ∧ impl_GetScript.P1 k) : impl_GetScript.P1 (k + 1) := by
  intro x5 x12 x13 x19 x20 c0_0 c0_1 c2_0 c2_1 c2_2 c2_3 c2_4 r H st hst
  rw [impl_GetScript.l1] at H
  rw [W_loopc (show impl_GetScript.c4 = C.loop 0 [4, 5, 6, 12, 13, 19, 20] impl_GetScript.d4 from rfl), hst]
  unfold impl_GetScript.d4
  try simp only [TN, simprocAttr, impl_GetScript.c0, impl_GetScript.c2, impl_GetScript.c3]
  rcases ite_or H with ⟨h1, H⟩ | ⟨h1, H⟩
  · skip
    obtain ⟨bt4, e2, H⟩ := bnd_some H
    have e2 := impl_script_number.link e2
    obtain ⟨h3, H⟩ := ite_no H
    have h4 : (c2_1.length + 1) * 8 ≤ 140737488355328 := by omega
    try simp only [TN, simprocAttr, impl_GetScript.c0, impl_GetScript.c2, impl_GetScript.c3, h1, e2, h3, h4]
    refine ih.2 _ _ _ _ _ _ _ _ _ _ _ _ _ H _ ?_
    first | (rw [canon_eq]; done) | (rw [canon_eq]; rfl) | (rw [canon_eq]; simp only [List.length_set, List.length_append, List.length_replicate]; rfl)
  · skip
    try simp only [TN, simprocAttr, impl_GetScript.c0, impl_GetScript.c2, impl_GetScript.c3, h1]
    rcases ite_or H with ⟨h5, H⟩ | ⟨h5, H⟩
    · skip
      try simp only [TN, simprocAttr, impl_GetScript.c0, impl_GetScript.c2, impl_GetScript.c3, h1, eq_true h5]
      rcases ite_or H with ⟨h6, H⟩ | ⟨h6, H⟩
      · skip
        obtain ⟨bt5, e7, H⟩ := bnd_some H
        have e7 := impl_script_number.link e7
        obtain ⟨bt6, e8, H⟩ := bnd_some H
        have e8 := impl_script_number.link e8
        obtain ⟨h9, H⟩ := ite_no H
        have h10 : (x5.length + 1) * 56 ≤ 140737488355328 := by omega
        try simp only [TN, simprocAttr, impl_GetScript.c0, impl_GetScript.c2, impl_GetScript.c3, h1, eq_true h5, eq_true h6, e7, e8, @litX_87_1, h9, h10]
        refine ih.1 _ _ _ _ _ _ H _ ?_
        first | (rw [canon_eq]; done) | (rw [canon_eq]; rfl) | (rw [canon_eq]; simp only [List.length_set, List.length_append, List.length_replicate]; rfl)
      · skip
        obtain ⟨h11, H⟩ := ite_no H
        have h12 : (x5.length + 1) * 56 ≤ 140737488355328 := by omega
        try simp only [TN, simprocAttr, impl_GetScript.c0, impl_GetScript.c2, impl_GetScript.c3, h1, eq_true h5, h6, @litX_87_1, h11, h12]
        refine ih.1 _ _ _ _ _ _ H _ ?_
        first | (rw [canon_eq]; done) | (rw [canon_eq]; rfl) | (rw [canon_eq]; simp only [List.length_set, List.length_append, List.length_replicate]; rfl)
    · skip
      obtain ⟨bt7, e13, H⟩ := bnd_some H
      have e13 := impl_script_number.link e13
      try simp only [TN, simprocAttr, impl_GetScript.c0, impl_GetScript.c2, impl_GetScript.c3, h1, h5, e13]
      rcases ite_or H with ⟨h14, H⟩ | ⟨h14, H⟩
      · skip
        obtain ⟨bt8, e15, H⟩ := bnd_some H
        have e15 := impl_script_number.link e15
        obtain ⟨bt9, e16, H⟩ := bnd_some H
        have e16 := impl_script_number.link e16
        obtain ⟨h17, H⟩ := ite_no H
        have h18 : (x5.length + 1) * 56 ≤ 140737488355328 := by omega
        try simp only [TN, simprocAttr, impl_GetScript.c0, impl_GetScript.c2, impl_GetScript.c3, h1, h5, e13, eq_true h14, e15, e16, @litX_87_1, h17, h18]
        refine ih.1 _ _ _ _ _ _ H _ ?_
        first | (rw [canon_eq]; done) | (rw [canon_eq]; rfl) | (rw [canon_eq]; simp only [List.length_set, List.length_append, List.length_replicate]; rfl)
      · skip
        obtain ⟨h19, H⟩ := ite_no H
        have h20 : (x5.length + 1) * 56 ≤ 140737488355328 := by omega
        try simp only [TN, simprocAttr, impl_GetScript.c0, impl_GetScript.c2, impl_GetScript.c3, h1, h5, e13, h14, @litX_87_1, h19, h20]
        refine ih.1 _ _ _ _ _ _ H _ ?_
        first | (rw [canon_eq]; done) | (rw [canon_eq]; rfl) | (rw [canon_eq]; simp only [List.length_set, List.length_append, List.length_replicate]; rfl)
theorem impl_GetScript.w : ∀ k, impl_GetScript.P0 k ∧ impl_GetScript.P1 k := by
  intro k
  induction k with
  | zero => exact ⟨(by intro x5 x12 x13 c0_0 c0_1 r H; cases (show (none : Option ((List S87) × Int)) = some r from H)), (by intro x5 x12 x13 x19 x20 c0_0 c0_1 c2_0 c2_1 c2_2 c2_3 c2_4 r H; cases (show (none : Option ((List S87) × Int)) = some r from H))⟩
  | succ k ih => exact ⟨(impl_GetScript.s0 k ih), (impl_GetScript.s1 k ih)⟩
set_option maxHeartbeats 4000000 in
theorem impl_GetScript.link {k : Nat} {a0 : ByteArray} {r : (List S87) × Int} (H : impl_GetScript.f k a0 = some r) : callW env 78 [.s a0] = some ([.deep false false 5 (r.1.map (e87 false)), .i .i64 r.2], []) := by
  unfold impl_GetScript.f at H
  refine callW_fn' (F := impl_GetScript.F) (tm := tmOf [(0, .s a0)]) (rs := rsL []) (nx := 0) (ow := []) rfl (by rfl) (by simp only [SN]) (by simp only [SN]) (by decide) ?_
  show W env impl_GetScript.B _ (Qf [.t 2, .t 3] [] _)
  unfold impl_GetScript.B
  obtain ⟨bt1, e1, H⟩ := bnd_some H
  have e1 := impl_script_number.link e1
  try simp only [TN, simprocAttr, impl_GetScript.c0, impl_GetScript.c2, impl_GetScript.c3, e1]
  refine (impl_GetScript.w k).1 _ _ _ _ _ _ H _ ?_
  first | (rw [canon_eq]; done) | (rw [canon_eq]; rfl) | (rw [canon_eq]; simp only [List.length_set, List.length_append, List.length_replicate]; rfl)
end Go.Proofs.Ytinlbiphjgpmmaa.P
end YtinlbiphjgpmmaaL78
section YtinlbiphjgpmmaaL90
namespace Go.Proofs.Ytinlbiphjgpmmaa.P
open Go Go.RowKit Go.Proofs.Ytinlbiphjgpmmaa.V
set_option linter.unusedVariables false
set_option linter.unusedSimpArgs false
set_option linter.all false
set_option maxRecDepth 100000
/-! ### slices_Clone_impl_Node_impl_Node: function 90 -/
def slices_Clone_impl_Node_impl_Node.f (l0 : List S105) : Option (List S105) := if l0.length * 16 ≤ 140737488355328 then some l0 else none
set_option maxHeartbeats 4000000 in
theorem slices_Clone_impl_Node_impl_Node.link {l0 : List S105} {r : List S105} (H : slices_Clone_impl_Node_impl_Node.f l0 = some r) : callW env 90 [.deep false true 2 (l0.map e105)] = some ([.deep false false 2 (r.map e105)], [none]) := by
  unfold slices_Clone_impl_Node_impl_Node.f at H
  obtain ⟨h, H⟩ := ite_no H
  injection H with H; subst H
  refine callW_fn' (F := slices_Clone_impl_Node_impl_Node.F) (tm := tmOf [(0, .slc 0 [] 0 2 0 l0.length)]) (rs := rsL [(0, some ⟨false, 2, 0, (l0.map e105)⟩)]) (nx := 1) (ow := [false]) rfl (by rfl) (by simp only [SN]) (by simp only [SN]) (by decide) ?_
  show W env slices_Clone_impl_Node_impl_Node.B _ (Qf [.t 2] [false] _)
  unfold slices_Clone_impl_Node_impl_Node.B
  by_cases hz : l0 = []
  · subst hz
    have hn : isNil 0 = .mb := rfl
    try simp only [TN, simprocAttr, List.length_nil, List.map_nil, hn]
    try exact ⟨rfl, rfl⟩
  · have hn : isNil l0.length = .b false := by
      cases l0 with
      | nil => exact absurd rfl hz
      | cons x l => rfl
    try simp only [TN, simprocAttr, h, hn]
    try rfl
end Go.Proofs.Ytinlbiphjgpmmaa.P
end YtinlbiphjgpmmaaL90
section YtinlbiphjgpmmaaL99
namespace Go.Proofs.Ytinlbiphjgpmmaa.P
open Go Go.RowKit Go.Proofs.Ytinlbiphjgpmmaa.V
set_option linter.unusedVariables false
set_option linter.unusedSimpArgs false
set_option linter.all false
set_option maxRecDepth 100000
/-! ### impl_TreeOk: function 99 -/
def impl_TreeOk.l0 : Nat → (List S105) → (List S105) → Int → Int → Option Bool
 | 0, _, _, _, _ => none
 | k + 1, l0, x9, x10, x11 => if x11 < x10 then (if 0 ≤ x11 then (if x11 < (l0.length : Int) then ((impl_LabelOk.f ((rd_T105 l0 x11).f0)).bind fun t2 => (if t2 = true then ((impl_within.f ((rd_T105 l0 x11).f1) 0 12).bind fun t3 => (if t3 = true then ((impl_depthOk.f l0 x11).bind fun t4 => (if t4 = true then (impl_TreeOk.l0 k l0 l0 x10 (wrap64 (x11 + 1))) else (some false))) else (some false))) else (some false))) else none) else none) else (some true)
def impl_TreeOk.f (k : Nat) (l0 : List S105) : Option Bool := (impl_within.f (l0.length : Int) 1 24).bind fun t1 => (if t1 = true then (impl_TreeOk.l0 k l0 l0 (l0.length : Int) 0) else (some false))
def impl_TreeOk.P0 (k : Nat) : Prop := ∀ (l0 : List S105) (x9 : List S105) (x10 : Int) (x11 : Int) (r : Bool), x9 = l0 → impl_TreeOk.l0 k l0 x9 x10 x11 = some r → ∀ st, canon 1 [0, 9, 10, 11] st = ⟨tmOf [(0, .slc 0 [] 0 2 0 l0.length), (9, .slc 0 [] 0 2 0 l0.length), (10, .i .i64 x10), (11, .i .i64 x11)], rsL [(0, some ⟨false, 2, 0, (l0.map e105)⟩)], 1⟩ → W env impl_TreeOk.c1 st (Qb 0 (Qs env impl_TreeOk.c0 (Qf [.t 2] [false] ([.b r], [none]))))
set_option maxHeartbeats 4000000 in
theorem impl_TreeOk.s0 (k : Nat) (ih : impl_TreeOk.P0 k) : impl_TreeOk.P0 (k + 1) := by
  intro l0 x9 x10 x11 r a0 H st hst
  subst a0
  rw [impl_TreeOk.l0] at H
  rw [W_loopc (show impl_TreeOk.c1 = C.loop 1 [0, 9, 10, 11] impl_TreeOk.d1 from rfl), hst]
  unfold impl_TreeOk.d1
  try simp only [TN, simprocAttr, impl_TreeOk.c0]
  rcases ite_or H with ⟨h1, H⟩ | ⟨h1, H⟩
  · skip
    obtain ⟨h2, H⟩ := ite_no H
    obtain ⟨h3, H⟩ := ite_no H
    obtain ⟨t2, e4, H⟩ := bnd_some H
    have e4 := impl_LabelOk.link e4
    try simp only [TN, simprocAttr, impl_TreeOk.c0, h1, h2, h3, e4]
    rcases ite_b H with ⟨h5, H⟩ | ⟨h5, H⟩
    · skip
      obtain ⟨t3, e6, H⟩ := bnd_some H
      have e6 := impl_within.link e6
      try simp only [TN, simprocAttr, impl_TreeOk.c0, h1, h2, h3, e4, h5, e6]
      rcases ite_b H with ⟨h7, H⟩ | ⟨h7, H⟩
      · skip
        obtain ⟨t4, e8, H⟩ := bnd_some H
        have e8 := impl_depthOk.link e8
        try simp only [TN, simprocAttr, impl_TreeOk.c0, h1, h2, h3, e4, h5, e6, h7, e8]
        rcases ite_b H with ⟨h9, H⟩ | ⟨h9, H⟩
        · skip
          try simp only [TN, simprocAttr, impl_TreeOk.c0, h1, h2, h3, e4, h5, e6, h7, e8, h9]
          refine ih _ _ _ _ _ rfl H _ ?_
          first | (rw [canon_eq]; done) | (rw [canon_eq]; rfl) | (rw [canon_eq]; simp only [List.length_set, List.length_append, List.length_replicate]; rfl)
        · skip
          injection H with H; subst H
          try simp only [TN, simprocAttr, impl_TreeOk.c0, h1, h2, h3, e4, h5, e6, h7, e8, h9]
          try rfl
      · skip
        injection H with H; subst H
        try simp only [TN, simprocAttr, impl_TreeOk.c0, h1, h2, h3, e4, h5, e6, h7]
        try rfl
    · skip
      injection H with H; subst H
      try simp only [TN, simprocAttr, impl_TreeOk.c0, h1, h2, h3, e4, h5]
      try rfl
  · skip
    injection H with H; subst H
    try simp only [TN, simprocAttr, impl_TreeOk.c0, h1]
    try rfl
theorem impl_TreeOk.w : ∀ k, impl_TreeOk.P0 k := by
  intro k
  induction k with
  | zero => exact by intro l0 x9 x10 x11 r _ H; cases (show (none : Option Bool) = some r from H)
  | succ k ih => exact impl_TreeOk.s0 k ih
set_option maxHeartbeats 4000000 in
theorem impl_TreeOk.link {k : Nat} {l0 : List S105} {r : Bool} (H : impl_TreeOk.f k l0 = some r) : callW env 99 [.deep false true 2 (l0.map e105)] = some ([.b r], [none]) := by
  unfold impl_TreeOk.f at H
  refine callW_fn' (F := impl_TreeOk.F) (tm := tmOf [(0, .slc 0 [] 0 2 0 l0.length)]) (rs := rsL [(0, some ⟨false, 2, 0, (l0.map e105)⟩)]) (nx := 1) (ow := [false]) rfl (by rfl) (by simp only [SN]) (by simp only [SN]) (by decide) ?_
  show W env impl_TreeOk.B _ (Qf [.t 2] [false] _)
  unfold impl_TreeOk.B
  obtain ⟨t1, e1, H⟩ := bnd_some H
  have e1 := impl_within.link e1
  try simp only [TN, simprocAttr, impl_TreeOk.c0, e1]
  rcases ite_b H with ⟨h2, H⟩ | ⟨h2, H⟩
  · skip
    try simp only [TN, simprocAttr, impl_TreeOk.c0, e1, h2]
    refine (impl_TreeOk.w k) _ _ _ _ _ rfl H _ ?_
    first | (rw [canon_eq]; done) | (rw [canon_eq]; rfl) | (rw [canon_eq]; simp only [List.length_set, List.length_append, List.length_replicate]; rfl)
  · skip
    injection H with H; subst H
    try simp only [TN, simprocAttr, impl_TreeOk.c0, e1, h2]
    try rfl
end Go.Proofs.Ytinlbiphjgpmmaa.P
end YtinlbiphjgpmmaaL99
section YtinlbiphjgpmmaaL123
namespace Go.Proofs.Ytinlbiphjgpmmaa.P
open Go Go.RowKit Go.Proofs.Ytinlbiphjgpmmaa.V
set_option linter.unusedVariables false
set_option linter.unusedSimpArgs false
set_option linter.all false
set_option maxRecDepth 100000
/-! ### impl_endOf: function 123 -/
def impl_endOf.l0 : Nat → (List S105) → Int → Int → Option Int
 | 0, _, _, _ => none
 | k + 1, l0, a1, x5 => if x5 < (l0.length : Int) then (if 0 ≤ x5 then (if 0 ≤ a1 then (if a1 < (l0.length : Int) then (if ((rd_T105 l0 x5).f1) > ((rd_T105 l0 a1).f1) then (impl_endOf.l0 k l0 a1 (wrap64 (x5 + 1))) else (some x5)) else none) else none) else none) else (some x5)
def impl_endOf.f (k : Nat) (l0 : List S105) (a1 : Int) : Option Int := impl_endOf.l0 k l0 a1 (wrap64 (a1 + 1))
def impl_endOf.P0 (k : Nat) : Prop := ∀ (l0 : List S105) (a1 : Int) (x5 : Int) (r : Int), impl_endOf.l0 k l0 a1 x5 = some r → ∀ st, canon 1 [0, 1, 5] st = ⟨tmOf [(0, .slc 0 [] 0 2 0 l0.length), (1, .i .i64 a1), (5, .i .i64 x5)], rsL [(0, some ⟨false, 2, 0, (l0.map e105)⟩)], 1⟩ → W env impl_endOf.c1 st (Qb 0 (Qs env impl_endOf.c0 (Qf [.t 4] [false] ([.i .i64 r], [none]))))
set_option maxHeartbeats 4000000 in
theorem impl_endOf.s0 (k : Nat) (ih : impl_endOf.P0 k) : impl_endOf.P0 (k + 1) := by
  intro l0 a1 x5 r H st hst
  rw [impl_endOf.l0] at H
  rw [W_loopc (show impl_endOf.c1 = C.loop 1 [0, 1, 5] impl_endOf.d1 from rfl), hst]
  unfold impl_endOf.d1
  try simp only [TN, simprocAttr, impl_endOf.c0]
  rcases ite_or H with ⟨h1, H⟩ | ⟨h1, H⟩
  · skip
    obtain ⟨h2, H⟩ := ite_no H
    obtain ⟨h3, H⟩ := ite_no H
    obtain ⟨h4, H⟩ := ite_no H
    try simp only [TN, simprocAttr, impl_endOf.c0, h1, h2, h3, h4]
    rcases ite_or H with ⟨h5, H⟩ | ⟨h5, H⟩
    · skip
      try simp only [TN, simprocAttr, impl_endOf.c0, h1, h2, h3, h4, h5]
      refine ih _ _ _ _ H _ ?_
      first | (rw [canon_eq]; done) | (rw [canon_eq]; rfl) | (rw [canon_eq]; simp only [List.length_set, List.length_append, List.length_replicate]; rfl)
    · skip
      injection H with H; subst H
      try simp only [TN, simprocAttr, impl_endOf.c0, h1, h2, h3, h4, h5]
      try rfl
  · skip
    injection H with H; subst H
    try simp only [TN, simprocAttr, impl_endOf.c0, h1]
    try rfl
theorem impl_endOf.w : ∀ k, impl_endOf.P0 k := by
  intro k
  induction k with
  | zero => exact by intro l0 a1 x5 r H; cases (show (none : Option Int) = some r from H)
  | succ k ih => exact impl_endOf.s0 k ih
set_option maxHeartbeats 4000000 in
theorem impl_endOf.link {k : Nat} {l0 : List S105} {a1 : Int} {r : Int} (H : impl_endOf.f k l0 a1 = some r) : callW env 123 [.deep false true 2 (l0.map e105), .i .i64 a1] = some ([.i .i64 r], [none]) := by
  unfold impl_endOf.f at H
  refine callW_fn' (F := impl_endOf.F) (tm := tmOf [(0, .slc 0 [] 0 2 0 l0.length), (1, .i .i64 a1)]) (rs := rsL [(0, some ⟨false, 2, 0, (l0.map e105)⟩)]) (nx := 1) (ow := [false]) rfl (by rfl) (by simp only [SN]) (by simp only [SN]) (by decide) ?_
  show W env impl_endOf.B _ (Qf [.t 4] [false] _)
  unfold impl_endOf.B
  try simp only [TN, simprocAttr, impl_endOf.c0]
  refine (impl_endOf.w k) _ _ _ _ H _ ?_
  first | (rw [canon_eq]; done) | (rw [canon_eq]; rfl) | (rw [canon_eq]; simp only [List.length_set, List.length_append, List.length_replicate]; rfl)
end Go.Proofs.Ytinlbiphjgpmmaa.P
end YtinlbiphjgpmmaaL123
section YtinlbiphjgpmmaaL134
namespace Go.Proofs.Ytinlbiphjgpmmaa.P
open Go Go.RowKit Go.Proofs.Ytinlbiphjgpmmaa.V
set_option linter.unusedVariables false
set_option linter.unusedSimpArgs false
set_option linter.all false
set_option maxRecDepth 100000
/-! ### impl_hasNode: function 134 -/
def impl_hasNode.f (k : Nat) (l0 : List S105) (a1 : Int) : Option Bool := (impl_TreeOk.f k l0).bind fun t1 => (if t1 = true then ((impl_within.f a1 0 (wrap64 ((l0.length : Int) - 1))).bind fun t2 => (some t2)) else (some false))
set_option maxHeartbeats 4000000 in
theorem impl_hasNode.link {k : Nat} {l0 : List S105} {a1 : Int} {r : Bool} (H : impl_hasNode.f k l0 a1 = some r) : callW env 134 [.deep false true 2 (l0.map e105), .i .i64 a1] = some ([.b r], [none]) := by
  unfold impl_hasNode.f at H
  refine callW_fn' (F := impl_hasNode.F) (tm := tmOf [(0, .slc 0 [] 0 2 0 l0.length), (1, .i .i64 a1)]) (rs := rsL [(0, some ⟨false, 2, 0, (l0.map e105)⟩)]) (nx := 1) (ow := [false]) rfl (by rfl) (by simp only [SN]) (by simp only [SN]) (by decide) ?_
  show W env impl_hasNode.B _ (Qf [.t 4] [false] _)
  unfold impl_hasNode.B
  obtain ⟨t1, e1, H⟩ := bnd_some H
  have e1 := impl_TreeOk.link e1
  try simp only [TN, simprocAttr, e1]
  rcases ite_b H with ⟨h2, H⟩ | ⟨h2, H⟩
  · skip
    obtain ⟨t2, e3, H⟩ := bnd_some H
    have e3 := impl_within.link e3
    injection H with H; subst H
    try simp only [TN, simprocAttr, e1, h2, e3]
    try rfl
  · skip
    injection H with H; subst H
    try simp only [TN, simprocAttr, e1, h2]
    try rfl
end Go.Proofs.Ytinlbiphjgpmmaa.P
end YtinlbiphjgpmmaaL134
section YtinlbiphjgpmmaaL126
namespace Go.Proofs.Ytinlbiphjgpmmaa.P
open Go Go.RowKit Go.Proofs.Ytinlbiphjgpmmaa.V
set_option linter.unusedVariables false
set_option linter.unusedSimpArgs false
set_option linter.all false
set_option maxRecDepth 100000
/-! ### impl_KidsOf: function 126 -/
def impl_KidsOf.l0 : Nat → (List S105) → Int → (List Int) → Int → Option (List Int)
 | 0, _, _, _, _ => none
 | k + 1, l0, a1, x5, x6 => (impl_endOf.f k l0 a1).bind fun t2 => (if x6 < t2 then (if 0 ≤ x6 then (if x6 < (l0.length : Int) then (if 0 ≤ a1 then (if a1 < (l0.length : Int) then (if ((rd_T105 l0 x6).f1) = (wrap64 (((rd_T105 l0 a1).f1) + 1)) then (if x5.length < 17592186044416 then (impl_KidsOf.l0 k l0 a1 (x5 ++ ([x6])) (wrap64 (x6 + 1))) else none) else (impl_KidsOf.l0 k l0 a1 x5 (wrap64 (x6 + 1)))) else none) else none) else none) else none) else (some x5))
def impl_KidsOf.f (k : Nat) (l0 : List S105) (a1 : Int) : Option (List Int) := (impl_hasNode.f k l0 a1).bind fun t1 => (if t1 = true then (impl_KidsOf.l0 k l0 a1 ([] : List Int) (wrap64 (a1 + 1))) else (some ([] : List Int)))
def impl_KidsOf.P0 (k : Nat) : Prop := ∀ (l0 : List S105) (a1 : Int) (x5 : List Int) (x6 : Int) (r : (List Int)), impl_KidsOf.l0 k l0 a1 x5 x6 = some r → ∀ st, canon 1 [0, 1, 5, 6] st = ⟨tmOf [(0, .slc 0 [] 0 2 0 l0.length), (1, .i .i64 a1), (5, .slc 1 [] 0 1 0 x5.length), (6, .i .i64 x6)], rsL [(0, some ⟨false, 2, 0, (l0.map e105)⟩), (1, some ⟨true, 1, 0, (x5.map eI)⟩)], 2⟩ → W env impl_KidsOf.c1 st (Qb 0 (Qs env impl_KidsOf.c0 (Qf [.t 4] [false] ([.deep false false 1 (r.map eI)], [none]))))
set_option maxHeartbeats 4000000 in
theorem impl_KidsOf.s0 (k : Nat) (ih : impl_KidsOf.P0 k) : impl_KidsOf.P0 (k + 1) := by
  intro l0 a1 x5 x6 r H st hst
  rw [impl_KidsOf.l0] at H
  rw [W_loopc (show impl_KidsOf.c1 = C.loop 1 [0, 1, 5, 6] impl_KidsOf.d1 from rfl), hst]
  unfold impl_KidsOf.d1
  obtain ⟨t2, e1, H⟩ := bnd_some H
  have e1 := impl_endOf.link e1
  try simp only [TN, simprocAttr, impl_KidsOf.c0, e1]
  rcases ite_or H with ⟨h2, H⟩ | ⟨h2, H⟩
  · skip
    obtain ⟨h3, H⟩ := ite_no H
    obtain ⟨h4, H⟩ := ite_no H
    obtain ⟨h5, H⟩ := ite_no H
    obtain ⟨h6, H⟩ := ite_no H
    try simp only [TN, simprocAttr, impl_KidsOf.c0, e1, h2, h3, h4, h5, h6]
    rcases ite_or H with ⟨h7, H⟩ | ⟨h7, H⟩
    · skip
      obtain ⟨h8, H⟩ := ite_no H
      have h9 : (x5.length + 1) * 8 ≤ 140737488355328 := by omega
      try simp only [TN, simprocAttr, impl_KidsOf.c0, e1, h2, h3, h4, h5, h6, eq_true h7, h8, h9]
      refine ih _ _ _ _ _ H _ ?_
      first | (rw [canon_eq]; done) | (rw [canon_eq]; rfl) | (rw [canon_eq]; simp only [List.length_set, List.length_append, List.length_replicate]; rfl)
    · skip
      try simp only [TN, simprocAttr, impl_KidsOf.c0, e1, h2, h3, h4, h5, h6, h7]
      refine ih _ _ _ _ _ H _ ?_
      first | (rw [canon_eq]; done) | (rw [canon_eq]; rfl) | (rw [canon_eq]; simp only [List.length_set, List.length_append, List.length_replicate]; rfl)
  · skip
    injection H with H; subst H
    try simp only [TN, simprocAttr, impl_KidsOf.c0, e1, h2]
    try rfl
theorem impl_KidsOf.w : ∀ k, impl_KidsOf.P0 k := by
  intro k
  induction k with
  | zero => exact by intro l0 a1 x5 x6 r H; cases (show (none : Option (List Int)) = some r from H)
  | succ k ih => exact impl_KidsOf.s0 k ih
set_option maxHeartbeats 4000000 in
theorem impl_KidsOf.link {k : Nat} {l0 : List S105} {a1 : Int} {r : (List Int)} (H : impl_KidsOf.f k l0 a1 = some r) : callW env 126 [.deep false true 2 (l0.map e105), .i .i64 a1] = some ([.deep false false 1 (r.map eI)], [none]) := by
  unfold impl_KidsOf.f at H
  refine callW_fn' (F := impl_KidsOf.F) (tm := tmOf [(0, .slc 0 [] 0 2 0 l0.length), (1, .i .i64 a1)]) (rs := rsL [(0, some ⟨false, 2, 0, (l0.map e105)⟩)]) (nx := 1) (ow := [false]) rfl (by rfl) (by simp only [SN]) (by simp only [SN]) (by decide) ?_
  show W env impl_KidsOf.B _ (Qf [.t 4] [false] _)
  unfold impl_KidsOf.B
  obtain ⟨t1, e1, H⟩ := bnd_some H
  have e1 := impl_hasNode.link e1
  try simp only [TN, simprocAttr, impl_KidsOf.c0, e1]
  rcases ite_b H with ⟨h2, H⟩ | ⟨h2, H⟩
  · skip
    try simp only [TN, simprocAttr, impl_KidsOf.c0, e1, h2]
    refine (impl_KidsOf.w k) _ _ _ _ _ H _ ?_
    first | (rw [canon_eq]; done) | (rw [canon_eq]; rfl) | (rw [canon_eq]; simp only [List.length_set, List.length_append, List.length_replicate]; rfl)
  · skip
    injection H with H; subst H
    try simp only [TN, simprocAttr, impl_KidsOf.c0, e1, h2]
    try rfl
end Go.Proofs.Ytinlbiphjgpmmaa.P
end YtinlbiphjgpmmaaL126
section YtinlbiphjgpmmaaL121
namespace Go.Proofs.Ytinlbiphjgpmmaa.P
open Go Go.RowKit Go.Proofs.Ytinlbiphjgpmmaa.V
set_option linter.unusedVariables false
set_option linter.unusedSimpArgs false
set_option linter.all false
set_option maxRecDepth 100000
/-! ### impl_NodeAt: function 121 -/
def impl_NodeAt.l0 : Nat → (List S105) → Int → (List Int) → Int → Int → Option Int
 | 0, _, _, _, _, _ => none
 | k + 1, l0, x5, l1, x13, x14 => if x14 < x13 then (if 0 ≤ x14 then (if x14 < (l1.length : Int) then ((impl_KidsOf.f k l0 x5).bind fun t2 => ((impl_within.f (rd l1 x14) 0 (wrap64 ((t2.length : Int) - 1))).bind fun t3 => (if t3 = true then (if 0 ≤ rd l1 x14 then (if rd l1 x14 < (t2.length : Int) then (impl_NodeAt.l0 k l0 (rd t2 (rd l1 x14)) l1 x13 (wrap64 (x14 + 1))) else none) else none) else (some (-1))))) else none) else none) else (some x5)
def impl_NodeAt.f (k : Nat) (l0 : List S105) (l1 : List Int) : Option Int := (impl_TreeOk.f k l0).bind fun t1 => (if t1 = true then (impl_NodeAt.l0 k l0 0 l1 (l1.length : Int) 0) else (some (-1)))
def impl_NodeAt.P0 (k : Nat) : Prop := ∀ (l0 : List S105) (x5 : Int) (l1 : List Int) (x13 : Int) (x14 : Int) (r : Int), impl_NodeAt.l0 k l0 x5 l1 x13 x14 = some r → ∀ st, canon 2 [0, 5, 12, 13, 14] st = ⟨tmOf [(0, .slc 0 [] 0 2 0 l0.length), (5, .i .i64 x5), (12, .slc 1 [] 0 1 0 l1.length), (13, .i .i64 x13), (14, .i .i64 x14)], rsL [(0, some ⟨false, 2, 0, (l0.map e105)⟩), (1, some ⟨false, 1, 0, (l1.map eI)⟩)], 2⟩ → W env impl_NodeAt.c1 st (Qb 0 (Qs env impl_NodeAt.c0 (Qf [.t 4] [false, false] ([.i .i64 r], [none, none]))))
set_option maxHeartbeats 4000000 in
theorem impl_NodeAt.s0 (k : Nat) (ih : impl_NodeAt.P0 k) : impl_NodeAt.P0 (k + 1) := by
  intro l0 x5 l1 x13 x14 r H st hst
  rw [impl_NodeAt.l0] at H
  rw [W_loopc (show impl_NodeAt.c1 = C.loop 2 [0, 5, 12, 13, 14] impl_NodeAt.d1 from rfl), hst]
  unfold impl_NodeAt.d1
  try simp only [TN, simprocAttr, impl_NodeAt.c0]
  rcases ite_or H with ⟨h1, H⟩ | ⟨h1, H⟩
  · skip
    obtain ⟨h2, H⟩ := ite_no H
    obtain ⟨h3, H⟩ := ite_no H
    obtain ⟨t2, e4, H⟩ := bnd_some H
    have e4 := impl_KidsOf.link e4
    obtain ⟨t3, e5, H⟩ := bnd_some H
    have e5 := impl_within.link e5
    try simp only [TN, simprocAttr, impl_NodeAt.c0, h1, h2, h3, e4, e5]
    rcases ite_b H with ⟨h6, H⟩ | ⟨h6, H⟩
    · skip
      obtain ⟨h7, H⟩ := ite_no H
      obtain ⟨h8, H⟩ := ite_no H
      try simp only [TN, simprocAttr, impl_NodeAt.c0, h1, h2, h3, e4, e5, h6, h7, h8]
      refine ih _ _ _ _ _ _ H _ ?_
      first | (rw [canon_eq]; done) | (rw [canon_eq]; rfl) | (rw [canon_eq]; simp only [List.length_set, List.length_append, List.length_replicate]; rfl)
    · skip
      injection H with H; subst H
      try simp only [TN, simprocAttr, impl_NodeAt.c0, h1, h2, h3, e4, e5, h6]
      try rfl
  · skip
    injection H with H; subst H
    try simp only [TN, simprocAttr, impl_NodeAt.c0, h1]
    try rfl
theorem impl_NodeAt.w : ∀ k, impl_NodeAt.P0 k := by
  intro k
  induction k with
  | zero => exact by intro l0 x5 l1 x13 x14 r H; cases (show (none : Option Int) = some r from H)
  | succ k ih => exact impl_NodeAt.s0 k ih
set_option maxHeartbeats 4000000 in
theorem impl_NodeAt.link {k : Nat} {l0 : List S105} {l1 : List Int} {r : Int} (H : impl_NodeAt.f k l0 l1 = some r) : callW env 121 [.deep false true 2 (l0.map e105), .deep false true 1 (l1.map eI)] = some ([.i .i64 r], [none, none]) := by
  unfold impl_NodeAt.f at H
  refine callW_fn' (F := impl_NodeAt.F) (tm := tmOf [(0, .slc 0 [] 0 2 0 l0.length), (1, .slc 1 [] 0 1 0 l1.length)]) (rs := rsL [(0, some ⟨false, 2, 0, (l0.map e105)⟩), (1, some ⟨false, 1, 0, (l1.map eI)⟩)]) (nx := 2) (ow := [false, false]) rfl (by rfl) (by simp only [SN]) (by simp only [SN]) (by decide) ?_
  show W env impl_NodeAt.B _ (Qf [.t 4] [false, false] _)
  unfold impl_NodeAt.B
  obtain ⟨t1, e1, H⟩ := bnd_some H
  have e1 := impl_TreeOk.link e1
  try simp only [TN, simprocAttr, impl_NodeAt.c0, e1]
  rcases ite_b H with ⟨h2, H⟩ | ⟨h2, H⟩
  · skip
    try simp only [TN, simprocAttr, impl_NodeAt.c0, e1, h2]
    refine (impl_NodeAt.w k) _ _ _ _ _ _ H _ ?_
    first | (rw [canon_eq]; done) | (rw [canon_eq]; rfl) | (rw [canon_eq]; simp only [List.length_set, List.length_append, List.length_replicate]; rfl)
  · skip
    injection H with H; subst H
    try simp only [TN, simprocAttr, impl_NodeAt.c0, e1, h2]
    try rfl
end Go.Proofs.Ytinlbiphjgpmmaa.P
end YtinlbiphjgpmmaaL121
section YtinlbiphjgpmmaaL122
namespace Go.Proofs.Ytinlbiphjgpmmaa.P
open Go Go.RowKit Go.Proofs.Ytinlbiphjgpmmaa.V
set_option linter.unusedVariables false
set_option linter.unusedSimpArgs false
set_option linter.all false
set_option maxRecDepth 100000
/-! ### impl_opCode: function 122 -/
def impl_opCode.l0 : Nat → (List S105) → Int → Int → Int → (List S105) → Int → Int → (List Int) → Option (Int × Int × Int)
 | 0, _, _, _, _, _, _, _, _ => none
 | k + 1, l0, x7, x8, x11, x92, x93, x94, l1_1 => if x94 < x93 then (if 0 ≤ x94 then (if x94 < (x92.length : Int) then (impl_opCode.l0 k l0 x7 x8 (mx x11 (wrap64 (((rd_T105 x92 x94).f1) + 1))) x92 x93 (wrap64 (x94 + 1)) l1_1) else none) else none) else (if (l0.length : Int) = 24 then (some (6, 0, 0)) else (if x11 > 12 then (some (7, 0, 0)) else (some (0, x7, x8))))
def impl_opCode.f (k : Nat) (l0 : List S105) (a1_0 : Int) (l1_1 : List Int) (a1_2 : Int) (a1_3 : Int) (a1_4 : Int) (a2 : Int) : Option (Int × Int × Int) := (impl_within.f a1_0 1 3).bind fun t1 => (if t1 = true then (if a2 < 0 then (some (2, 0, 0)) else (if a1_0 = 2 then (if a2 = 0 then (some (4, 0, 0)) else (if a1_0 = 3 then ((impl_KidsOf.f k l0 a2).bind fun t2 => ((impl_within.f a1_3 0 (t2.length : Int)).bind fun t3 => (if t3 = true then ((impl_within.f a1_4 0 (wrap64 ((t2.length : Int) - a1_3))).bind fun t4 => (if t4 = true then ((impl_endOf.f k l0 a2).bind fun t5 => (if t2.length < 17592186044416 then ((some (t2 ++ ([t5]) : List Int)).bind fun y0 => (if 0 ≤ a1_3 then (if a1_3 < (y0.length : Int) then (if 0 ≤ wrap64 (a1_3 + a1_4) then (if wrap64 (a1_3 + a1_4) < (y0.length : Int) then (if 0 ≤ a2 then (if a2 < (l0.length : Int) then (if rd y0 (wrap64 (a1_3 + a1_4)) ≤ (l0.length : Int) then (if 0 ≤ rd y0 a1_3 then (if rd y0 a1_3 ≤ rd y0 (wrap64 (a1_3 + a1_4)) then ((some ((l0.take (rd y0 (wrap64 (a1_3 + a1_4)) : Int).toNat).drop (rd y0 a1_3 : Int).toNat : List S105)).bind fun y1 => (impl_opCode.l0 k l0 (rd y0 a1_3) (rd y0 (wrap64 (a1_3 + a1_4))) (wrap64 (((rd_T105 l0 a2).f1) + 1)) y1 (y1.length : Int) 0 l1_1)) else none) else none) else none) else none) else none) else none) else none) else none) else none)) else none)) else (some (5, 0, 0)))) else (some (5, 0, 0))))) else (some (0, 0, 0)))) else ((impl_LabelOk.f a1_2).bind fun t6 => (if t6 = true then (if a1_0 = 3 then ((impl_KidsOf.f k l0 a2).bind fun t7 => ((impl_within.f a1_3 0 (t7.length : Int)).bind fun t8 => (if t8 = true then ((impl_within.f a1_4 0 (wrap64 ((t7.length : Int) - a1_3))).bind fun t9 => (if t9 = true then ((impl_endOf.f k l0 a2).bind fun t10 => (if t7.length < 17592186044416 then ((some (t7 ++ ([t10]) : List Int)).bind fun y2 => (if 0 ≤ a1_3 then (if a1_3 < (y2.length : Int) then (if 0 ≤ wrap64 (a1_3 + a1_4) then (if wrap64 (a1_3 + a1_4) < (y2.length : Int) then (if 0 ≤ a2 then (if a2 < (l0.length : Int) then (if rd y2 (wrap64 (a1_3 + a1_4)) ≤ (l0.length : Int) then (if 0 ≤ rd y2 a1_3 then (if rd y2 a1_3 ≤ rd y2 (wrap64 (a1_3 + a1_4)) then ((some ((l0.take (rd y2 (wrap64 (a1_3 + a1_4)) : Int).toNat).drop (rd y2 a1_3 : Int).toNat : List S105)).bind fun y3 => (impl_opCode.l0 k l0 (rd y2 a1_3) (rd y2 (wrap64 (a1_3 + a1_4))) (wrap64 (((rd_T105 l0 a2).f1) + 1)) y3 (y3.length : Int) 0 l1_1)) else none) else none) else none) else none) else none) else none) else none) else none) else none)) else none)) else (some (5, 0, 0)))) else (some (5, 0, 0))))) else (some (0, 0, 0))) else (some (3, 0, 0)))))) else (some (1, 0, 0)))
def impl_opCode.P0 (k : Nat) : Prop := ∀ (l0 : List S105) (x7 : Int) (x8 : Int) (x11 : Int) (x92 : List S105) (x93 : Int) (x94 : Int) (l1_1 : List Int) (ox92 : Nat) (r : Int × Int × Int), (List.drop ox92 l0).take (List.length x92) = x92 → impl_opCode.l0 k l0 x7 x8 x11 x92 x93 x94 l1_1 = some r → ∀ st, canon 2 [0, 7, 8, 11, 92, 93, 94] st = ⟨tmOf [(0, .slc 0 [] 0 2 0 l0.length), (7, .i .i64 x7), (8, .i .i64 x8), (11, .i .i64 x11), (92, .slc 0 [] 0 2 ox92 x92.length), (93, .i .i64 x93), (94, .i .i64 x94)], rsL [(0, some ⟨false, 2, 0, (l0.map e105)⟩), (1, some ⟨false, 1, 0, (l1_1.map eI)⟩)], 2⟩ → W env impl_opCode.c1 st (Qb 1 (Qs env impl_opCode.c0 (Qf [.t 6, .t 7, .t 8] [false, false] ([.i .i64 r.1, .i .i64 r.2.1, .i .i64 r.2.2], [none, none]))))
set_option maxHeartbeats 4000000 in
theorem impl_opCode.s0 (k : Nat) (ih : impl_opCode.P0 k) : impl_opCode.P0 (k + 1) := by
  intro l0 x7 x8 x11 x92 x93 x94 l1_1 ox92 r v0 H st hst
  have vg0 : ∀ {j : Int}, 0 ≤ j → j < (List.length x92 : Int) → (l0.map e105)[ox92 + j.toNat]? = some (e105 (rd_T105 x92 j)) := fun h1 h2 => get_w v0 h1 h2
  have vw0 := wnd_cut (e := e105) v0
  rw [impl_opCode.l0] at H
  rw [W_loopc (show impl_opCode.c1 = C.loop 2 [0, 7, 8, 11, 92, 93, 94] impl_opCode.d1 from rfl), hst]
  unfold impl_opCode.d1
  try simp only [TN, simprocAttr, impl_opCode.c0, vg0, vw0]
  rcases ite_or H with ⟨h1, H⟩ | ⟨h1, H⟩
  · skip
    obtain ⟨h2, H⟩ := ite_no H
    obtain ⟨h3, H⟩ := ite_no H
    try simp only [TN, simprocAttr, impl_opCode.c0, vg0, vw0, h1, h2, h3]
    refine ih _ _ _ _ _ _ _ _ (ox92) _ (by assumption) H _ ?_
    first | (rw [canon_eq]; done) | (rw [canon_eq]; rfl) | (rw [canon_eq]; simp only [List.length_set, List.length_append, List.length_replicate]; rfl)
  · skip
    try simp only [TN, simprocAttr, impl_opCode.c0, vg0, vw0, h1]
    rcases ite_or H with ⟨h4, H⟩ | ⟨h4, H⟩
    · skip
      injection H with H; subst H
      try simp only [TN, simprocAttr, impl_opCode.c0, vg0, vw0, h1, eq_true h4]
      try rfl
    · skip
      try simp only [TN, simprocAttr, impl_opCode.c0, vg0, vw0, h1, h4]
      rcases ite_or H with ⟨h5, H⟩ | ⟨h5, H⟩
      · skip
        injection H with H; subst H
        try simp only [TN, simprocAttr, impl_opCode.c0, vg0, vw0, h1, h4, h5]
        try rfl
      · skip
        injection H with H; subst H
        try simp only [TN, simprocAttr, impl_opCode.c0, vg0, vw0, h1, h4, h5]
        try rfl
theorem impl_opCode.w : ∀ k, impl_opCode.P0 k := by
  intro k
  induction k with
  | zero => exact by intro l0 x7 x8 x11 x92 x93 x94 l1_1 _ r _ H; cases (show (none : Option (Int × Int × Int)) = some r from H)
  | succ k ih => exact impl_opCode.s0 k ih
set_option maxHeartbeats 4000000 in
theorem impl_opCode.link {k : Nat} {l0 : List S105} {a1_0 : Int} {l1_1 : List Int} {a1_2 : Int} {a1_3 : Int} {a1_4 : Int} {a2 : Int} {r : Int × Int × Int} (H : impl_opCode.f k l0 a1_0 l1_1 a1_2 a1_3 a1_4 a2 = some r) : callW env 122 [.deep false true 2 (l0.map e105), .agg [.i .i64 a1_0, .deep false true 1 (l1_1.map eI), .i .i64 a1_2, .i .i64 a1_3, .i .i64 a1_4], .i .i64 a2] = some ([.i .i64 r.1, .i .i64 r.2.1, .i .i64 r.2.2], [none, none]) := by
  unfold impl_opCode.f at H
  refine callW_fn' (F := impl_opCode.F) (tm := tmOf [(0, .slc 0 [] 0 2 0 l0.length), (1, .agg [.i .i64 a1_0, .slc 1 [] 0 1 0 l1_1.length, .i .i64 a1_2, .i .i64 a1_3, .i .i64 a1_4]), (2, .i .i64 a2)]) (rs := rsL [(0, some ⟨false, 2, 0, (l0.map e105)⟩), (1, some ⟨false, 1, 0, (l1_1.map eI)⟩)]) (nx := 2) (ow := [false, false]) rfl (by rfl) (by simp only [SN]) (by simp only [SN]) (by decide) ?_
  show W env impl_opCode.B _ (Qf [.t 6, .t 7, .t 8] [false, false] _)
  unfold impl_opCode.B
  obtain ⟨t1, e1, H⟩ := bnd_some H
  have e1 := impl_within.link e1
  try simp only [TN, simprocAttr, impl_opCode.c0, e1]
  rcases ite_b H with ⟨h2, H⟩ | ⟨h2, H⟩
  · skip
    try simp only [TN, simprocAttr, impl_opCode.c0, e1, h2]
    rcases ite_or H with ⟨h3, H⟩ | ⟨h3, H⟩
    · skip
      injection H with H; subst H
      try simp only [TN, simprocAttr, impl_opCode.c0, e1, h2, h3]
      try rfl
    · skip
      try simp only [TN, simprocAttr, impl_opCode.c0, e1, h2, h3]
      rcases ite_or H with ⟨h4, H⟩ | ⟨h4, H⟩
      · skip
        try simp only [TN, simprocAttr, impl_opCode.c0, e1, h2, h3, eq_true h4]
        rcases ite_or H with ⟨h5, H⟩ | ⟨h5, H⟩
        · skip
          injection H with H; subst H
          try simp only [TN, simprocAttr, impl_opCode.c0, e1, h2, h3, eq_true h4, eq_true h5]
          try rfl
        · skip
          try simp only [TN, simprocAttr, impl_opCode.c0, e1, h2, h3, eq_true h4, h5]
          rcases ite_or H with ⟨h6, H⟩ | ⟨h6, H⟩
          · skip
            obtain ⟨t2, e7, H⟩ := bnd_some H
            have e7 := impl_KidsOf.link e7
            obtain ⟨t3, e8, H⟩ := bnd_some H
            have e8 := impl_within.link e8
            try simp only [TN, simprocAttr, impl_opCode.c0, e1, h2, h3, eq_true h4, h5, eq_true h6, e7, e8]
            rcases ite_b H with ⟨h9, H⟩ | ⟨h9, H⟩
            · skip
              obtain ⟨t4, e10, H⟩ := bnd_some H
              have e10 := impl_within.link e10
              try simp only [TN, simprocAttr, impl_opCode.c0, e1, h2, h3, eq_true h4, h5, eq_true h6, e7, e8, h9, e10]
              rcases ite_b H with ⟨h11, H⟩ | ⟨h11, H⟩
              · skip
                obtain ⟨t5, e12, H⟩ := bnd_some H
                have e12 := impl_endOf.link e12
                obtain ⟨h13, H⟩ := ite_no H
                have h14 : (t2.length + 1) * 8 ≤ 140737488355328 := by omega
                obtain ⟨_, hy15, H⟩ := some_bnd H; subst hy15
                obtain ⟨h16, H⟩ := ite_no H
                obtain ⟨h17, H⟩ := ite_no H
                obtain ⟨h18, H⟩ := ite_no H
                obtain ⟨h19, H⟩ := ite_no H
                obtain ⟨h20, H⟩ := ite_no H
                obtain ⟨h21, H⟩ := ite_no H
                obtain ⟨h22, H⟩ := ite_no H
                obtain ⟨h23, H⟩ := ite_no H
                obtain ⟨h24, H⟩ := ite_no H
                obtain ⟨y1, hy1, H⟩ := some_bnd H
                have h25 : (rd (t2 ++ ([t5])) (wrap64 (a1_3 + a1_4)) : Int).toNat - (rd (t2 ++ ([t5])) a1_3 : Int).toNat = List.length y1 := by rw [← hy1]; simp only [List.length_drop, List.length_take] <;> omega
                have cw25 : (List.drop (0 + (rd (t2 ++ ([t5])) a1_3 : Int).toNat) l0).take (List.length y1) = y1 := by rw [← h25, Nat.zero_add, ← List.drop_take]; exact hy1
                have g25 : ∀ {j : Int}, 0 ≤ j → j < (List.length y1 : Int) → (l0.map e105)[0 + (rd (t2 ++ ([t5])) a1_3 : Int).toNat + j.toNat]? = some (e105 (rd_T105 y1 j)) := fun h1 h2 => get_w cw25 h1 h2
                have w25 := wnd_cut (e := e105) cw25
                try simp only [TN, simprocAttr, impl_opCode.c0, e1, h2, h3, eq_true h4, h5, eq_true h6, e7, e8, h9, e10, h11, e12, h13, h14, h16, h17, h18, h19, h20, h21, h22, h23, h24, h25, g25, w25]
                refine (impl_opCode.w k) _ _ _ _ _ _ _ _ ((0 + (rd (t2 ++ ([t5])) a1_3 : Int).toNat)) _ (by assumption) H _ ?_
                first | (rw [canon_eq]; done) | (rw [canon_eq]; rfl) | (rw [canon_eq]; simp only [List.length_set, List.length_append, List.length_replicate]; rfl)
              · skip
                injection H with H; subst H
                try simp only [TN, simprocAttr, impl_opCode.c0, e1, h2, h3, eq_true h4, h5, eq_true h6, e7, e8, h9, e10, h11]
                try rfl
            · skip
              injection H with H; subst H
              try simp only [TN, simprocAttr, impl_opCode.c0, e1, h2, h3, eq_true h4, h5, eq_true h6, e7, e8, h9]
              try rfl
          · skip
            injection H with H; subst H
            try simp only [TN, simprocAttr, impl_opCode.c0, e1, h2, h3, eq_true h4, h5, h6]
            try rfl
      · skip
        obtain ⟨t6, e26, H⟩ := bnd_some H
        have e26 := impl_LabelOk.link e26
        try simp only [TN, simprocAttr, impl_opCode.c0, e1, h2, h3, h4, e26]
        rcases ite_b H with ⟨h27, H⟩ | ⟨h27, H⟩
        · skip
          try simp only [TN, simprocAttr, impl_opCode.c0, e1, h2, h3, h4, e26, h27]
          rcases ite_or H with ⟨h28, H⟩ | ⟨h28, H⟩
          · skip
            obtain ⟨t7, e29, H⟩ := bnd_some H
            have e29 := impl_KidsOf.link e29
            obtain ⟨t8, e30, H⟩ := bnd_some H
            have e30 := impl_within.link e30
            try simp only [TN, simprocAttr, impl_opCode.c0, e1, h2, h3, h4, e26, h27, eq_true h28, e29, e30]
            rcases ite_b H with ⟨h31, H⟩ | ⟨h31, H⟩
            · skip
              obtain ⟨t9, e32, H⟩ := bnd_some H
              have e32 := impl_within.link e32
              try simp only [TN, simprocAttr, impl_opCode.c0, e1, h2, h3, h4, e26, h27, eq_true h28, e29, e30, h31, e32]
              rcases ite_b H with ⟨h33, H⟩ | ⟨h33, H⟩
              · skip
                obtain ⟨t10, e34, H⟩ := bnd_some H
                have e34 := impl_endOf.link e34
                obtain ⟨h35, H⟩ := ite_no H
                have h36 : (t7.length + 1) * 8 ≤ 140737488355328 := by omega
                obtain ⟨_, hy37, H⟩ := some_bnd H; subst hy37
                obtain ⟨h38, H⟩ := ite_no H
                obtain ⟨h39, H⟩ := ite_no H
                obtain ⟨h40, H⟩ := ite_no H
                obtain ⟨h41, H⟩ := ite_no H
                obtain ⟨h42, H⟩ := ite_no H
                obtain ⟨h43, H⟩ := ite_no H
                obtain ⟨h44, H⟩ := ite_no H
                obtain ⟨h45, H⟩ := ite_no H
                obtain ⟨h46, H⟩ := ite_no H
                obtain ⟨y3, hy3, H⟩ := some_bnd H
                have h47 : (rd (t7 ++ ([t10])) (wrap64 (a1_3 + a1_4)) : Int).toNat - (rd (t7 ++ ([t10])) a1_3 : Int).toNat = List.length y3 := by rw [← hy3]; simp only [List.length_drop, List.length_take] <;> omega
                have cw47 : (List.drop (0 + (rd (t7 ++ ([t10])) a1_3 : Int).toNat) l0).take (List.length y3) = y3 := by rw [← h47, Nat.zero_add, ← List.drop_take]; exact hy3
                have g47 : ∀ {j : Int}, 0 ≤ j → j < (List.length y3 : Int) → (l0.map e105)[0 + (rd (t7 ++ ([t10])) a1_3 : Int).toNat + j.toNat]? = some (e105 (rd_T105 y3 j)) := fun h1 h2 => get_w cw47 h1 h2
                have w47 := wnd_cut (e := e105) cw47
                try simp only [TN, simprocAttr, impl_opCode.c0, e1, h2, h3, h4, e26, h27, eq_true h28, e29, e30, h31, e32, h33, e34, h35, h36, h38, h39, h40, h41, h42, h43, h44, h45, h46, h47, g47, w47]
                refine (impl_opCode.w k) _ _ _ _ _ _ _ _ ((0 + (rd (t7 ++ ([t10])) a1_3 : Int).toNat)) _ (by assumption) H _ ?_
                first | (rw [canon_eq]; done) | (rw [canon_eq]; rfl) | (rw [canon_eq]; simp only [List.length_set, List.length_append, List.length_replicate]; rfl)
              · skip
                injection H with H; subst H
                try simp only [TN, simprocAttr, impl_opCode.c0, e1, h2, h3, h4, e26, h27, eq_true h28, e29, e30, h31, e32, h33]
                try rfl
            · skip
              injection H with H; subst H
              try simp only [TN, simprocAttr, impl_opCode.c0, e1, h2, h3, h4, e26, h27, eq_true h28, e29, e30, h31]
              try rfl
          · skip
            injection H with H; subst H
            try simp only [TN, simprocAttr, impl_opCode.c0, e1, h2, h3, h4, e26, h27, h28]
            try rfl
        · skip
          injection H with H; subst H
          try simp only [TN, simprocAttr, impl_opCode.c0, e1, h2, h3, h4, e26, h27]
          try rfl
  · skip
    injection H with H; subst H
    try simp only [TN, simprocAttr, impl_opCode.c0, e1, h2]
    try rfl
end Go.Proofs.Ytinlbiphjgpmmaa.P
end YtinlbiphjgpmmaaL122
section YtinlbiphjgpmmaaL124
namespace Go.Proofs.Ytinlbiphjgpmmaa.P
open Go Go.RowKit Go.Proofs.Ytinlbiphjgpmmaa.V
set_option linter.unusedVariables false
set_option linter.unusedSimpArgs false
set_option linter.all false
set_option maxRecDepth 100000
/-! ### slices_Delete_impl_Node_impl_Node: function 124 -/
def slices_Delete_impl_Node_impl_Node.f (l0 : List S105) (a1 : Int) (a2 : Int) : Option (List S105) := if 0 ≤ a1 then (if a1 ≤ a2 then (if a2 ≤ (l0.length : Int) then (if l0.length * 16 ≤ 140737488355328 then some (l0.take a1.toNat ++ l0.drop a2.toNat) else none) else none) else none) else none
theorem slices_Delete_impl_Node_impl_Node.link {l0 : List S105} {a1 a2 : Int} {r : List S105} (H : slices_Delete_impl_Node_impl_Node.f l0 a1 a2 = some r) : callW env 124 [.deep false false 2 (l0.map e105), .i .i64 a1, .i .i64 a2] = some ([.deep false false 2 (r.map e105)], [none]) := by
  unfold slices_Delete_impl_Node_impl_Node.f at H
  obtain ⟨h1, H⟩ := ite_no H
  obtain ⟨h2, H⟩ := ite_no H
  obtain ⟨h3, H⟩ := ite_no H
  obtain ⟨h4, H⟩ := ite_no H
  injection H with H; subst H
  rw [List.map_append, List.map_take, List.map_drop]
  exact del_link (zero := [.i .i64 0, .i .i64 0]) (by' := 16) rfl rfl rfl rfl dps105 h1 h2 (by rw [List.length_map]; exact h3) (by rw [List.length_map]; exact h4)
end Go.Proofs.Ytinlbiphjgpmmaa.P
end YtinlbiphjgpmmaaL124
section YtinlbiphjgpmmaaL125
namespace Go.Proofs.Ytinlbiphjgpmmaa.P
open Go Go.RowKit Go.Proofs.Ytinlbiphjgpmmaa.V
set_option linter.unusedVariables false
set_option linter.unusedSimpArgs false
set_option linter.all false
set_option maxRecDepth 100000
/-! ### slices_Insert_impl_Node_impl_Node: function 125 -/
def slices_Insert_impl_Node_impl_Node.f (l0 : List S105) (a1 : Int) (l2 : List S105) : Option (List S105) := if 0 ≤ a1 then (if a1 ≤ (l0.length : Int) then (if 0 < l2.length then (if (l0.length + l2.length) * 16 ≤ 140737488355328 then some (l0.take a1.toNat ++ l2 ++ l0.drop a1.toNat) else none) else none) else none) else none
theorem slices_Insert_impl_Node_impl_Node.link {l0 : List S105} {a1 : Int} {l2 : List S105} {r : List S105} (H : slices_Insert_impl_Node_impl_Node.f l0 a1 l2 = some r) : callW env 125 [.deep false false 2 (l0.map e105), .i .i64 a1, .deep false false 2 (l2.map e105)] = some ([.deep false false 2 (r.map e105)], [none, some (l2.map e105)]) := by
  unfold slices_Insert_impl_Node_impl_Node.f at H
  obtain ⟨h1, H⟩ := ite_no H
  obtain ⟨h2, H⟩ := ite_no H
  obtain ⟨h3, H⟩ := ite_no H
  obtain ⟨h4, H⟩ := ite_no H
  injection H with H; subst H
  rw [List.map_append, List.map_append, List.map_take, List.map_drop]
  exact ins_link (zero := [.i .i64 0, .i .i64 0]) (by' := 16) (rot := 133) rfl rfl rfl rfl (by decide) dps105 dps105 (by rw [List.length_map]; exact h3) h1 (by rw [List.length_map]; exact h2) (by rw [List.length_map, List.length_map]; exact h4)
end Go.Proofs.Ytinlbiphjgpmmaa.P
end YtinlbiphjgpmmaaL125
section YtinlbiphjgpmmaaL100
namespace Go.Proofs.Ytinlbiphjgpmmaa.P
open Go Go.RowKit Go.Proofs.Ytinlbiphjgpmmaa.V
set_option linter.unusedVariables false
set_option linter.unusedSimpArgs false
set_option linter.all false
set_option maxRecDepth 100000
/-! ### impl_ApplyOp: function 100 -/
mutual
def impl_ApplyOp.l0 : Nat → (List S105) → (List S105) → Int → Int → (List Int) → Option ((List S105) × Int)
 | 0, _, _, _, _, _ => none
 | k + 1, l0, x6, x7, x11, l1_1 => (impl_endOf.f k l0 x7).bind fun t5 => (if x11 < t5 then (if 0 ≤ x11 then (if x11 < (x6.length : Int) then (impl_ApplyOp.l0 k l0 (x6.set (x11 : Int).toNat (⟨(rd_T105 x6 x11).f0, wrap64 (((rd_T105 x6 x11).f1) - 1)⟩ : S105)) x7 (wrap64 (x11 + 1)) l1_1) else none) else none) else ((slices_Delete_impl_Node_impl_Node.f x6 x7 (wrap64 (x7 + 1))).bind fun t6 => (some (t6, 0))))
def impl_ApplyOp.l1 : Nat → (List S105) → Int → (List Int) → Int → Int → Int → (List S105) → Int → Int → Int → Int → Option ((List S105) × Int)
 | 0, _, _, _, _, _, _, _, _, _, _, _ => none
 | k + 1, l0, a1_0, l1_1, a1_2, a1_3, a1_4, x6, x7, x9, x10, x12 => if x12 < x10 then (if 0 ≤ x12 then (if x12 < (x6.length : Int) then (impl_ApplyOp.l1 k l0 a1_0 l1_1 a1_2 a1_3 a1_4 (x6.set (x12 : Int).toNat (⟨(rd_T105 x6 x12).f0, wrap64 (((rd_T105 x6 x12).f1) + 1)⟩ : S105)) x7 x9 x10 (wrap64 (x12 + 1))) else none) else none) else (if 0 ≤ x7 then (if x7 < (l0.length : Int) then ((slices_Insert_impl_Node_impl_Node.f x6 x9 ([(⟨a1_2, wrap64 (((rd_T105 l0 x7).f1) + 1)⟩ : S105)])).bind fun t7 => (some (t7, 0))) else none) else none)
end
def impl_ApplyOp.f (k : Nat) (l0 : List S105) (a1_0 : Int) (l1_1 : List Int) (a1_2 : Int) (a1_3 : Int) (a1_4 : Int) : Option ((List S105) × Int) := (impl_TreeOk.f k l0).bind fun t1 => (if t1 = true then ((slices_Clone_impl_Node_impl_Node.f l0).bind fun t2 => ((impl_NodeAt.f k l0 l1_1).bind fun t3 => ((impl_opCode.f k l0 a1_0 l1_1 a1_2 a1_3 a1_4 t3).bind fun bt4 => (if bt4.1 = 0 then (if a1_0 = 1 then (if 0 ≤ t3 then (if t3 < (t2.length : Int) then (some ((t2.set (t3 : Int).toNat (⟨a1_2, (rd_T105 t2 t3).f1⟩ : S105)), 0)) else none) else none) else (if a1_0 = 2 then (impl_ApplyOp.l0 k l0 t2 t3 (wrap64 (t3 + 1)) l1_1) else (impl_ApplyOp.l1 k l0 a1_0 l1_1 a1_2 a1_3 a1_4 t2 t3 bt4.2.1 bt4.2.2 bt4.2.1))) else (some (t2, bt4.1)))))) else (some (([] : List S105), 2)))
def impl_ApplyOp.P0 (k : Nat) : Prop := ∀ (l0 : List S105) (x6 : List S105) (x7 : Int) (x11 : Int) (l1_1 : List Int) (r : (List S105) × Int), impl_ApplyOp.l0 k l0 x6 x7 x11 l1_1 = some r → ∀ st, canon 2 [0, 6, 7, 11] st = ⟨tmOf [(0, .slc 0 [] 0 2 0 l0.length), (6, .slc 2 [] 0 2 0 x6.length), (7, .i .i64 x7), (11, .i .i64 x11)], rsL [(0, some ⟨false, 2, 0, (l0.map e105)⟩), (1, some ⟨false, 1, 0, (l1_1.map eI)⟩), (2, some ⟨true, 2, 0, (x6.map e105)⟩)], 3⟩ → W env impl_ApplyOp.c2 st (Qb 3 (Qs env impl_ApplyOp.c1 (Qb 0 (Qs env impl_ApplyOp.c0 (Qf [.t 4, .t 5] [false, false] ([.deep false false 2 (r.1.map e105), .i .i64 r.2], [none, none]))))))
def impl_ApplyOp.P1 (k : Nat) : Prop := ∀ (l0 : List S105) (a1_0 : Int) (l1_1 : List Int) (a1_2 : Int) (a1_3 : Int) (a1_4 : Int) (x6 : List S105) (x7 : Int) (x9 : Int) (x10 : Int) (x12 : Int) (r : (List S105) × Int), impl_ApplyOp.l1 k l0 a1_0 l1_1 a1_2 a1_3 a1_4 x6 x7 x9 x10 x12 = some r → ∀ st, canon 2 [0, 3, 6, 7, 9, 10, 12] st = ⟨tmOf [(0, .slc 0 [] 0 2 0 l0.length), (3, .bx [.i .i64 a1_0, .slc 1 [] 0 1 0 l1_1.length, .i .i64 a1_2, .i .i64 a1_3, .i .i64 a1_4] 0), (6, .slc 2 [] 0 2 0 x6.length), (7, .i .i64 x7), (9, .i .i64 x9), (10, .i .i64 x10), (12, .i .i64 x12)], rsL [(0, some ⟨false, 2, 0, (l0.map e105)⟩), (1, some ⟨false, 1, 0, (l1_1.map eI)⟩), (2, some ⟨true, 2, 0, (x6.map e105)⟩)], 3⟩ → W env impl_ApplyOp.c4 st (Qb 1 (Qs env impl_ApplyOp.c3 (Qb 0 (Qs env impl_ApplyOp.c0 (Qf [.t 4, .t 5] [false, false] ([.deep false false 2 (r.1.map e105), .i .i64 r.2], [none, none]))))))
set_option maxHeartbeats 4000000 in
theorem impl_ApplyOp.s0 (k : Nat) (ih : impl_ApplyOp.P0 k ∧ impl_ApplyOp.P1 k) : impl_ApplyOp.P0 (k + 1) := by
  intro l0 x6 x7 x11 l1_1 r H st hst
  rw [impl_ApplyOp.l0] at H
  rw [W_loopc (show impl_ApplyOp.c2 = C.loop 2 [0, 6, 7, 11] impl_ApplyOp.d2 from rfl), hst]
  unfold impl_ApplyOp.d2
  obtain ⟨t5, e1, H⟩ := bnd_some H
  have e1 := impl_endOf.link e1
  try simp only [TN, simprocAttr, impl_ApplyOp.c0, impl_ApplyOp.c1, impl_ApplyOp.c3, e1]
  rcases ite_or H with ⟨h2, H⟩ | ⟨h2, H⟩
  · skip
    obtain ⟨h3, H⟩ := ite_no H
    obtain ⟨h4, H⟩ := ite_no H
    try simp only [TN, simprocAttr, impl_ApplyOp.c0, impl_ApplyOp.c1, impl_ApplyOp.c3, e1, h2, h3, h4]
    refine ih.1 _ _ _ _ _ _ H _ ?_
    first | (rw [canon_eq]; done) | (rw [canon_eq]; rfl) | (rw [canon_eq]; simp only [List.length_set, List.length_append, List.length_replicate]; rfl)
  · skip
    obtain ⟨t6, e5, H⟩ := bnd_some H
    have e5 := slices_Delete_impl_Node_impl_Node.link e5
    injection H with H; subst H
    try simp only [TN, simprocAttr, impl_ApplyOp.c0, impl_ApplyOp.c1, impl_ApplyOp.c3, e1, h2, e5]
    try rfl
set_option maxHeartbeats 4000000 in
theorem impl_ApplyOp.s1 (k : Nat) (ih : impl_ApplyOp.P0 k ∧ impl_ApplyOp.P1 k) : impl_ApplyOp.P1 (k + 1) := by
  intro l0 a1_0 l1_1 a1_2 a1_3 a1_4 x6 x7 x9 x10 x12 r H st hst
  rw [impl_ApplyOp.l1] at H
  rw [W_loopc (show impl_ApplyOp.c4 = C.loop 2 [0, 3, 6, 7, 9, 10, 12] impl_ApplyOp.d4 from rfl), hst]
  unfold impl_ApplyOp.d4
  try simp only [TN, simprocAttr, impl_ApplyOp.c0, impl_ApplyOp.c1, impl_ApplyOp.c3]
  rcases ite_or H with ⟨h1, H⟩ | ⟨h1, H⟩
  · skip
    obtain ⟨h2, H⟩ := ite_no H
    obtain ⟨h3, H⟩ := ite_no H
    try simp only [TN, simprocAttr, impl_ApplyOp.c0, impl_ApplyOp.c1, impl_ApplyOp.c3, h1, h2, h3]
    refine ih.2 _ _ _ _ _ _ _ _ _ _ _ _ H _ ?_
    first | (rw [canon_eq]; done) | (rw [canon_eq]; rfl) | (rw [canon_eq]; simp only [List.length_set, List.length_append, List.length_replicate]; rfl)
  · skip
    obtain ⟨h4, H⟩ := ite_no H
    obtain ⟨h5, H⟩ := ite_no H
    obtain ⟨t7, e6, H⟩ := bnd_some H
    have e6 := slices_Insert_impl_Node_impl_Node.link e6
    injection H with H; subst H
    try simp only [TN, simprocAttr, impl_ApplyOp.c0, impl_ApplyOp.c1, impl_ApplyOp.c3, h1, h4, h5, @litX_105_1, e6]
    try rfl
theorem impl_ApplyOp.w : ∀ k, impl_ApplyOp.P0 k ∧ impl_ApplyOp.P1 k := by
  intro k
  induction k with
  | zero => exact ⟨(by intro l0 x6 x7 x11 l1_1 r H; cases (show (none : Option ((List S105) × Int)) = some r from H)), (by intro l0 a1_0 l1_1 a1_2 a1_3 a1_4 x6 x7 x9 x10 x12 r H; cases (show (none : Option ((List S105) × Int)) = some r from H))⟩
  | succ k ih => exact ⟨(impl_ApplyOp.s0 k ih), (impl_ApplyOp.s1 k ih)⟩
set_option maxHeartbeats 4000000 in
theorem impl_ApplyOp.link {k : Nat} {l0 : List S105} {a1_0 : Int} {l1_1 : List Int} {a1_2 : Int} {a1_3 : Int} {a1_4 : Int} {r : (List S105) × Int} (H : impl_ApplyOp.f k l0 a1_0 l1_1 a1_2 a1_3 a1_4 = some r) : callW env 100 [.deep false true 2 (l0.map e105), .agg [.i .i64 a1_0, .deep false true 1 (l1_1.map eI), .i .i64 a1_2, .i .i64 a1_3, .i .i64 a1_4]] = some ([.deep false false 2 (r.1.map e105), .i .i64 r.2], [none, none]) := by
  unfold impl_ApplyOp.f at H
  refine callW_fn' (F := impl_ApplyOp.F) (tm := tmOf [(0, .slc 0 [] 0 2 0 l0.length), (1, .agg [.i .i64 a1_0, .slc 1 [] 0 1 0 l1_1.length, .i .i64 a1_2, .i .i64 a1_3, .i .i64 a1_4])]) (rs := rsL [(0, some ⟨false, 2, 0, (l0.map e105)⟩), (1, some ⟨false, 1, 0, (l1_1.map eI)⟩)]) (nx := 2) (ow := [false, false]) rfl (by rfl) (by simp only [SN]) (by simp only [SN]) (by decide) ?_
  show W env impl_ApplyOp.B _ (Qf [.t 4, .t 5] [false, false] _)
  unfold impl_ApplyOp.B
  obtain ⟨t1, e1, H⟩ := bnd_some H
  have e1 := impl_TreeOk.link e1
  try simp only [TN, simprocAttr, impl_ApplyOp.c0, impl_ApplyOp.c1, impl_ApplyOp.c3, e1]
  rcases ite_b H with ⟨h2, H⟩ | ⟨h2, H⟩
  · skip
    obtain ⟨t2, e3, H⟩ := bnd_some H
    have e3 := slices_Clone_impl_Node_impl_Node.link e3
    obtain ⟨t3, e4, H⟩ := bnd_some H
    have e4 := impl_NodeAt.link e4
    obtain ⟨bt4, e5, H⟩ := bnd_some H
    have e5 := impl_opCode.link e5
    try simp only [TN, simprocAttr, impl_ApplyOp.c0, impl_ApplyOp.c1, impl_ApplyOp.c3, e1, h2, e3, e4, e5]
    rcases ite_or H with ⟨h6, H⟩ | ⟨h6, H⟩
    · skip
      try simp only [TN, simprocAttr, impl_ApplyOp.c0, impl_ApplyOp.c1, impl_ApplyOp.c3, e1, h2, e3, e4, e5, eq_true h6]
      rcases ite_or H with ⟨h7, H⟩ | ⟨h7, H⟩
      · skip
        obtain ⟨h8, H⟩ := ite_no H
        obtain ⟨h9, H⟩ := ite_no H
        injection H with H; subst H
        try simp only [TN, simprocAttr, impl_ApplyOp.c0, impl_ApplyOp.c1, impl_ApplyOp.c3, e1, h2, e3, e4, e5, eq_true h6, eq_true h7, h8, h9]
        try rfl
      · skip
        try simp only [TN, simprocAttr, impl_ApplyOp.c0, impl_ApplyOp.c1, impl_ApplyOp.c3, e1, h2, e3, e4, e5, eq_true h6, h7]
        rcases ite_or H with ⟨h10, H⟩ | ⟨h10, H⟩
        · skip
          try simp only [TN, simprocAttr, impl_ApplyOp.c0, impl_ApplyOp.c1, impl_ApplyOp.c3, e1, h2, e3, e4, e5, eq_true h6, h7, eq_true h10]
          refine (impl_ApplyOp.w k).1 _ _ _ _ _ _ H _ ?_
          first | (rw [canon_eq]; done) | (rw [canon_eq]; rfl) | (rw [canon_eq]; simp only [List.length_set, List.length_append, List.length_replicate]; rfl)
        · skip
          try simp only [TN, simprocAttr, impl_ApplyOp.c0, impl_ApplyOp.c1, impl_ApplyOp.c3, e1, h2, e3, e4, e5, eq_true h6, h7, h10]
          refine (impl_ApplyOp.w k).2 _ _ _ _ _ _ _ _ _ _ _ _ H _ ?_
          first | (rw [canon_eq]; done) | (rw [canon_eq]; rfl) | (rw [canon_eq]; simp only [List.length_set, List.length_append, List.length_replicate]; rfl)
    · skip
      injection H with H; subst H
      try simp only [TN, simprocAttr, impl_ApplyOp.c0, impl_ApplyOp.c1, impl_ApplyOp.c3, e1, h2, e3, e4, e5, h6]
      try rfl
  · skip
    injection H with H; subst H
    try simp only [TN, simprocAttr, impl_ApplyOp.c0, impl_ApplyOp.c1, impl_ApplyOp.c3, e1, h2]
    try rfl
end Go.Proofs.Ytinlbiphjgpmmaa.P
end YtinlbiphjgpmmaaL100
section YtinlbiphjgpmmaaL79
namespace Go.Proofs.Ytinlbiphjgpmmaa.P
open Go Go.RowKit Go.Proofs.Ytinlbiphjgpmmaa.V
set_option linter.unusedVariables false
set_option linter.unusedSimpArgs false
set_option linter.all false
set_option maxRecDepth 100000
/-! ### impl_ApplyAll: function 79 -/
def impl_ApplyAll.l0 : Nat → (List S87) → (List S105) → (List S87) → Int → Int → (List S105) → Option ((List S105) × Int × Int)
 | 0, _, _, _, _, _, _ => none
 | k + 1, l1, x7, x18, x19, x20, l0 => if x20 < x19 then (if 0 ≤ x20 then (if x20 < (l1.length : Int) then ((impl_ApplyOp.f k x7 ((rd_T87 l1 x20).f0) ((rd_T87 l1 x20).f1) ((rd_T87 l1 x20).f2) ((rd_T87 l1 x20).f3) ((rd_T87 l1 x20).f4)).bind fun bt3 => (if bt3.2 = 0 then (impl_ApplyAll.l0 k l1 bt3.1 l1 x19 (wrap64 (x20 + 1)) l0) else (some (x7, x20, bt3.2)))) else none) else none) else (some (x7, (l1.length : Int), 0))
def impl_ApplyAll.f (k : Nat) (l0 : List S105) (l1 : List S87) : Option ((List S105) × Int × Int) := (impl_TreeOk.f k l0).bind fun t1 => (if t1 = true then ((slices_Clone_impl_Node_impl_Node.f l0).bind fun t2 => (impl_ApplyAll.l0 k l1 t2 l1 (l1.length : Int) 0 l0)) else (some (([] : List S105), 0, 2)))
def impl_ApplyAll.P0 (k : Nat) : Prop := ∀ (l1 : List S87) (x7 : List S105) (x18 : List S87) (x19 : Int) (x20 : Int) (l0 : List S105) (r : (List S105) × Int × Int), x18 = l1 → impl_ApplyAll.l0 k l1 x7 x18 x19 x20 l0 = some r → ∀ st, canon 2 [1, 7, 18, 19, 20] st = ⟨tmOf [(1, .slc 1 [] 0 5 0 l1.length), (7, .slc 2 [] 0 2 0 x7.length), (18, .slc 1 [] 0 5 0 l1.length), (19, .i .i64 x19), (20, .i .i64 x20)], rsL [(0, some ⟨false, 2, 0, (l0.map e105)⟩), (1, some ⟨false, 5, 0, (l1.map (e87 false))⟩), (2, some ⟨true, 2, 0, (x7.map e105)⟩)], 3⟩ → W env impl_ApplyAll.c1 st (Qb 0 (Qs env impl_ApplyAll.c0 (Qf [.t 4, .t 5, .t 6] [false, false] ([.deep false false 2 (r.1.map e105), .i .i64 r.2.1, .i .i64 r.2.2], [none, none]))))
set_option maxHeartbeats 4000000 in
theorem impl_ApplyAll.s0 (k : Nat) (ih : impl_ApplyAll.P0 k) : impl_ApplyAll.P0 (k + 1) := by
  intro l1 x7 x18 x19 x20 l0 r a0 H st hst
  subst a0
  rw [impl_ApplyAll.l0] at H
  rw [W_loopc (show impl_ApplyAll.c1 = C.loop 2 [1, 7, 18, 19, 20] impl_ApplyAll.d1 from rfl), hst]
  unfold impl_ApplyAll.d1
  try simp only [TN, simprocAttr, impl_ApplyAll.c0]
  rcases ite_or H with ⟨h1, H⟩ | ⟨h1, H⟩
  · skip
    obtain ⟨h2, H⟩ := ite_no H
    obtain ⟨h3, H⟩ := ite_no H
    obtain ⟨bt3, e4, H⟩ := bnd_some H
    have e4 := impl_ApplyOp.link e4
    try simp only [TN, simprocAttr, impl_ApplyAll.c0, h1, h2, h3, e4]
    rcases ite_or H with ⟨h5, H⟩ | ⟨h5, H⟩
    · skip
      try simp only [TN, simprocAttr, impl_ApplyAll.c0, h1, h2, h3, e4, eq_true h5]
      refine ih _ _ _ _ _ _ _ rfl H _ ?_
      first | (rw [canon_eq]; done) | (rw [canon_eq]; rfl) | (rw [canon_eq]; simp only [List.length_set, List.length_append, List.length_replicate]; rfl)
    · skip
      injection H with H; subst H
      try simp only [TN, simprocAttr, impl_ApplyAll.c0, h1, h2, h3, e4, h5]
      try rfl
  · skip
    injection H with H; subst H
    try simp only [TN, simprocAttr, impl_ApplyAll.c0, h1]
    try rfl
theorem impl_ApplyAll.w : ∀ k, impl_ApplyAll.P0 k := by
  intro k
  induction k with
  | zero => exact by intro l1 x7 x18 x19 x20 l0 r _ H; cases (show (none : Option ((List S105) × Int × Int)) = some r from H)
  | succ k ih => exact impl_ApplyAll.s0 k ih
set_option maxHeartbeats 4000000 in
theorem impl_ApplyAll.link {k : Nat} {l0 : List S105} {l1 : List S87} {r : (List S105) × Int × Int} (H : impl_ApplyAll.f k l0 l1 = some r) : callW env 79 [.deep false true 2 (l0.map e105), .deep false true 5 (l1.map (e87 false))] = some ([.deep false false 2 (r.1.map e105), .i .i64 r.2.1, .i .i64 r.2.2], [none, none]) := by
  unfold impl_ApplyAll.f at H
  refine callW_fn' (F := impl_ApplyAll.F) (tm := tmOf [(0, .slc 0 [] 0 2 0 l0.length), (1, .slc 1 [] 0 5 0 l1.length)]) (rs := rsL [(0, some ⟨false, 2, 0, (l0.map e105)⟩), (1, some ⟨false, 5, 0, (l1.map (e87 false))⟩)]) (nx := 2) (ow := [false, false]) rfl (by rfl) (by simp only [SN]) (by simp only [SN]) (by decide) ?_
  show W env impl_ApplyAll.B _ (Qf [.t 4, .t 5, .t 6] [false, false] _)
  unfold impl_ApplyAll.B
  obtain ⟨t1, e1, H⟩ := bnd_some H
  have e1 := impl_TreeOk.link e1
  try simp only [TN, simprocAttr, impl_ApplyAll.c0, e1]
  rcases ite_b H with ⟨h2, H⟩ | ⟨h2, H⟩
  · skip
    obtain ⟨t2, e3, H⟩ := bnd_some H
    have e3 := slices_Clone_impl_Node_impl_Node.link e3
    try simp only [TN, simprocAttr, impl_ApplyAll.c0, e1, h2, e3]
    refine (impl_ApplyAll.w k) _ _ _ _ _ _ _ rfl H _ ?_
    first | (rw [canon_eq]; done) | (rw [canon_eq]; rfl) | (rw [canon_eq]; simp only [List.length_set, List.length_append, List.length_replicate]; rfl)
  · skip
    injection H with H; subst H
    try simp only [TN, simprocAttr, impl_ApplyAll.c0, e1, h2]
    try rfl
end Go.Proofs.Ytinlbiphjgpmmaa.P
end YtinlbiphjgpmmaaL79
section YtinlbiphjgpmmaaL110
namespace Go.Proofs.Ytinlbiphjgpmmaa.P
open Go Go.RowKit Go.Proofs.Ytinlbiphjgpmmaa.V
set_option linter.unusedVariables false
set_option linter.unusedSimpArgs false
set_option linter.all false
set_option maxRecDepth 100000
/-! ### impl_Var: function 110 -/
def impl_Var.l0 : Nat → Int → (List Int) → Option ByteArray
 | 0, _, _ => none
 | k + 1, a0, x3 => if a0 > 127 then (if x3.length < 140737488355328 then (impl_Var.l0 k (shr .i64 a0 7) (x3 ++ ([Go.bits .or .u8 ((Go.bits .and .i64 a0 127) % 256) 128]))) else none) else (if x3.length < 140737488355328 then (some (bytesOf (x3 ++ ([(a0) % 256])))) else none)
def impl_Var.f (k : Nat) (a0 : Int) : Option ByteArray := (impl_within.f a0 0 562949953421311).bind fun t1 => (if t1 = true then (impl_Var.l0 k a0 ([] : List Int)) else (some (⟨#[]⟩ : ByteArray)))
def impl_Var.P0 (k : Nat) : Prop := ∀ (a0 : Int) (x3 : List Int) (r : ByteArray), impl_Var.l0 k a0 x3 = some r → ∀ st, canon 0 [0, 3] st = ⟨tmOf [(0, .i .i64 a0), (3, .slc 0 [] 0 1 0 x3.length)], rsL [(0, some ⟨true, 1, 0, (x3.map e8)⟩)], 1⟩ → W env impl_Var.c1 st (Qb 0 (Qs env impl_Var.c0 (Qf [.t 2] [] ([.s r], []))))
set_option maxHeartbeats 4000000 in
theorem impl_Var.s0 (k : Nat) (ih : impl_Var.P0 k) : impl_Var.P0 (k + 1) := by
  intro a0 x3 r H st hst
  rw [impl_Var.l0] at H
  rw [W_loopc (show impl_Var.c1 = C.loop 0 [0, 3] impl_Var.d1 from rfl), hst]
  unfold impl_Var.d1
  try simp only [TN, simprocAttr, impl_Var.c0]
  rcases ite_or H with ⟨h1, H⟩ | ⟨h1, H⟩
  · skip
    obtain ⟨h2, H⟩ := ite_no H
    have h3 : (x3.length + 1) * 1 ≤ 140737488355328 := by omega
    try simp only [TN, simprocAttr, impl_Var.c0, h1, h2, h3]
    refine ih _ _ _ H _ ?_
    first | (rw [canon_eq]; done) | (rw [canon_eq]; rfl) | (rw [canon_eq]; simp only [List.length_set, List.length_append, List.length_replicate]; rfl)
  · skip
    obtain ⟨h4, H⟩ := ite_no H
    have h5 : (x3.length + 1) * 1 ≤ 140737488355328 := by omega
    injection H with H; subst H
    try simp only [TN, simprocAttr, impl_Var.c0, h1, h4, h5]
    try rfl
theorem impl_Var.w : ∀ k, impl_Var.P0 k := by
  intro k
  induction k with
  | zero => exact by intro a0 x3 r H; cases (show (none : Option ByteArray) = some r from H)
  | succ k ih => exact impl_Var.s0 k ih
set_option maxHeartbeats 4000000 in
theorem impl_Var.link {k : Nat} {a0 : Int} {r : ByteArray} (H : impl_Var.f k a0 = some r) : callW env 110 [.i .i64 a0] = some ([.s r], []) := by
  unfold impl_Var.f at H
  refine callW_fn' (F := impl_Var.F) (tm := tmOf [(0, .i .i64 a0)]) (rs := rsL []) (nx := 0) (ow := []) rfl (by rfl) (by simp only [SN]) (by simp only [SN]) (by decide) ?_
  show W env impl_Var.B _ (Qf [.t 2] [] _)
  unfold impl_Var.B
  obtain ⟨t1, e1, H⟩ := bnd_some H
  have e1 := impl_within.link e1
  try simp only [TN, simprocAttr, impl_Var.c0, e1]
  rcases ite_b H with ⟨h2, H⟩ | ⟨h2, H⟩
  · skip
    try simp only [TN, simprocAttr, impl_Var.c0, e1, h2]
    refine (impl_Var.w k) _ _ _ H _ ?_
    first | (rw [canon_eq]; done) | (rw [canon_eq]; rfl) | (rw [canon_eq]; simp only [List.length_set, List.length_append, List.length_replicate]; rfl)
  · skip
    injection H with H; subst H
    try simp only [TN, simprocAttr, impl_Var.c0, e1, h2]
    try rfl
end Go.Proofs.Ytinlbiphjgpmmaa.P
end YtinlbiphjgpmmaaL110
section YtinlbiphjgpmmaaL80
namespace Go.Proofs.Ytinlbiphjgpmmaa.P
open Go Go.RowKit Go.Proofs.Ytinlbiphjgpmmaa.V
set_option linter.unusedVariables false
set_option linter.unusedSimpArgs false
set_option linter.all false
set_option maxRecDepth 100000
/-! ### impl_PutTree: function 80 -/
def impl_PutTree.l0 : Nat → ByteArray → (List S105) → Int → Int → Option ByteArray
 | 0, _, _, _, _ => none
 | k + 1, x3, l0, x13, x14 => if x14 < x13 then (if 0 ≤ x14 then (if x14 < (l0.length : Int) then ((impl_Var.f k ((rd_T105 l0 x14).f0)).bind fun t3 => ((impl_Var.f k ((rd_T105 l0 x14).f1)).bind fun t4 => (if t3.size + t4.size ≤ 9223372036854775807 then (if x3.size + (t3 ++ t4).size ≤ 9223372036854775807 then (impl_PutTree.l0 k (x3 ++ (t3 ++ t4)) l0 x13 (wrap64 (x14 + 1))) else none) else none))) else none) else none) else (some x3)
def impl_PutTree.f (k : Nat) (l0 : List S105) : Option ByteArray := (impl_TreeOk.f k l0).bind fun t1 => (if t1 = true then ((impl_Var.f k (l0.length : Int)).bind fun t2 => (impl_PutTree.l0 k t2 l0 (l0.length : Int) 0)) else (some (⟨#[]⟩ : ByteArray)))
def impl_PutTree.P0 (k : Nat) : Prop := ∀ (x3 : ByteArray) (l0 : List S105) (x13 : Int) (x14 : Int) (r : ByteArray), impl_PutTree.l0 k x3 l0 x13 x14 = some r → ∀ st, canon 1 [3, 12, 13, 14] st = ⟨tmOf [(3, .s x3), (12, .slc 0 [] 0 2 0 l0.length), (13, .i .i64 x13), (14, .i .i64 x14)], rsL [(0, some ⟨false, 2, 0, (l0.map e105)⟩)], 1⟩ → W env impl_PutTree.c1 st (Qb 0 (Qs env impl_PutTree.c0 (Qf [.t 2] [false] ([.s r], [none]))))
set_option maxHeartbeats 4000000 in
theorem impl_PutTree.s0 (k : Nat) (ih : impl_PutTree.P0 k) : impl_PutTree.P0 (k + 1) := by
  intro x3 l0 x13 x14 r H st hst
  rw [impl_PutTree.l0] at H
  rw [W_loopc (show impl_PutTree.c1 = C.loop 1 [3, 12, 13, 14] impl_PutTree.d1 from rfl), hst]
  unfold impl_PutTree.d1
  try simp only [TN, simprocAttr, impl_PutTree.c0]
  rcases ite_or H with ⟨h1, H⟩ | ⟨h1, H⟩
  · skip
    obtain ⟨h2, H⟩ := ite_no H
    obtain ⟨h3, H⟩ := ite_no H
    obtain ⟨t3, e4, H⟩ := bnd_some H
    have e4 := impl_Var.link e4
    obtain ⟨t4, e5, H⟩ := bnd_some H
    have e5 := impl_Var.link e5
    obtain ⟨h6, H⟩ := ite_no H
    obtain ⟨h7, H⟩ := ite_no H
    try simp only [TN, simprocAttr, impl_PutTree.c0, h1, h2, h3, e4, e5, h6, h7]
    refine ih _ _ _ _ _ H _ ?_
    first | (rw [canon_eq]; done) | (rw [canon_eq]; rfl) | (rw [canon_eq]; simp only [List.length_set, List.length_append, List.length_replicate]; rfl)
  · skip
    injection H with H; subst H
    try simp only [TN, simprocAttr, impl_PutTree.c0, h1]
    try rfl
theorem impl_PutTree.w : ∀ k, impl_PutTree.P0 k := by
  intro k
  induction k with
  | zero => exact by intro x3 l0 x13 x14 r H; cases (show (none : Option ByteArray) = some r from H)
  | succ k ih => exact impl_PutTree.s0 k ih
set_option maxHeartbeats 4000000 in
theorem impl_PutTree.link {k : Nat} {l0 : List S105} {r : ByteArray} (H : impl_PutTree.f k l0 = some r) : callW env 80 [.deep false true 2 (l0.map e105)] = some ([.s r], [none]) := by
  unfold impl_PutTree.f at H
  refine callW_fn' (F := impl_PutTree.F) (tm := tmOf [(0, .slc 0 [] 0 2 0 l0.length)]) (rs := rsL [(0, some ⟨false, 2, 0, (l0.map e105)⟩)]) (nx := 1) (ow := [false]) rfl (by rfl) (by simp only [SN]) (by simp only [SN]) (by decide) ?_
  show W env impl_PutTree.B _ (Qf [.t 2] [false] _)
  unfold impl_PutTree.B
  obtain ⟨t1, e1, H⟩ := bnd_some H
  have e1 := impl_TreeOk.link e1
  try simp only [TN, simprocAttr, impl_PutTree.c0, e1]
  rcases ite_b H with ⟨h2, H⟩ | ⟨h2, H⟩
  · skip
    obtain ⟨t2, e3, H⟩ := bnd_some H
    have e3 := impl_Var.link e3
    try simp only [TN, simprocAttr, impl_PutTree.c0, e1, h2, e3]
    refine (impl_PutTree.w k) _ _ _ _ _ H _ ?_
    first | (rw [canon_eq]; done) | (rw [canon_eq]; rfl) | (rw [canon_eq]; simp only [List.length_set, List.length_append, List.length_replicate]; rfl)
  · skip
    injection H with H; subst H
    try simp only [TN, simprocAttr, impl_PutTree.c0, e1, h2]
    try rfl
end Go.Proofs.Ytinlbiphjgpmmaa.P
end YtinlbiphjgpmmaaL80
section YtinlbiphjgpmmaaL39
namespace Go.Proofs.Ytinlbiphjgpmmaa.P
open Go Go.RowKit Go.Proofs.Ytinlbiphjgpmmaa.V
set_option linter.unusedVariables false
set_option linter.unusedSimpArgs false
set_option linter.all false
set_option maxRecDepth 100000
/-! ### impl_Patch: function 39 -/
def impl_Patch.f (k : Nat) (a0 : ByteArray) (a1 : ByteArray) : Option (ByteArray × Int × Int × Int) := (impl_GetTree.f k a0).bind fun bt1 => ((impl_GetScript.f k a1).bind fun bt2 => (if bt1.2 = 0 then (if bt2.2 = 0 then ((impl_ApplyAll.f k bt1.1 bt2.1).bind fun bt3 => (if bt3.2.2 = 0 then ((impl_PutTree.f k bt3.1).bind fun t4 => (some (t4, 0, 0, 0))) else (some ((⟨#[]⟩ : ByteArray), 5, bt3.2.2, bt3.2.1)))) else (some ((⟨#[]⟩ : ByteArray), 4, bt2.2, 0))) else (some ((⟨#[]⟩ : ByteArray), 1, bt1.2, 0))))
set_option maxHeartbeats 4000000 in
theorem impl_Patch.link {k : Nat} {a0 : ByteArray} {a1 : ByteArray} {r : ByteArray × Int × Int × Int} (H : impl_Patch.f k a0 a1 = some r) : callW env 39 [.s a0, .s a1] = some ([.s r.1, .agg [.i .i64 r.2.1, .i .i64 r.2.2.1, .i .i64 r.2.2.2]], []) := by
  unfold impl_Patch.f at H
  refine callW_fn' (F := impl_Patch.F) (tm := tmOf [(0, .s a0), (1, .s a1)]) (rs := rsL []) (nx := 0) (ow := []) rfl (by rfl) (by simp only [SN]) (by simp only [SN]) (by decide) ?_
  show W env impl_Patch.B _ (Qf [.t 4, .cell 5 (some 3)] [] _)
  unfold impl_Patch.B
  obtain ⟨bt1, e1, H⟩ := bnd_some H
  have e1 := impl_GetTree.link e1
  obtain ⟨bt2, e2, H⟩ := bnd_some H
  have e2 := impl_GetScript.link e2
  try simp only [TN, simprocAttr, e1, e2]
  rcases ite_or H with ⟨h3, H⟩ | ⟨h3, H⟩
  · skip
    try simp only [TN, simprocAttr, e1, e2, eq_true h3]
    rcases ite_or H with ⟨h4, H⟩ | ⟨h4, H⟩
    · skip
      obtain ⟨bt3, e5, H⟩ := bnd_some H
      have e5 := impl_ApplyAll.link e5
      try simp only [TN, simprocAttr, e1, e2, eq_true h3, eq_true h4, e5]
      rcases ite_or H with ⟨h6, H⟩ | ⟨h6, H⟩
      · skip
        obtain ⟨t4, e7, H⟩ := bnd_some H
        have e7 := impl_PutTree.link e7
        injection H with H; subst H
        try simp only [TN, simprocAttr, e1, e2, eq_true h3, eq_true h4, e5, eq_true h6, e7]
        try rfl
      · skip
        injection H with H; subst H
        try simp only [TN, simprocAttr, e1, e2, eq_true h3, eq_true h4, e5, h6]
        try rfl
    · skip
      injection H with H; subst H
      try simp only [TN, simprocAttr, e1, e2, eq_true h3, h4]
      try rfl
  · skip
    injection H with H; subst H
    try simp only [TN, simprocAttr, e1, e2, h3]
    try rfl
end Go.Proofs.Ytinlbiphjgpmmaa.P
end YtinlbiphjgpmmaaL39
section YtinlbiphjgpmmaaL11
namespace Go.Proofs.Ytinlbiphjgpmmaa.P
open Go Go.RowKit Go.Proofs.Ytinlbiphjgpmmaa.V
set_option linter.unusedVariables false
set_option linter.unusedSimpArgs false
set_option linter.all false
set_option maxRecDepth 100000
/-! ### impl_RepoGet: function 11 -/
def impl_RepoGet.f : Nat → (List S65) → Int → Option (ByteArray × Bool)
 | 0, _, _ => none
 | k + 1, l0_0, a1 => if (l0_0.length : Int) > 6 then (some ((⟨#[]⟩ : ByteArray), false)) else ((impl_within.f a1 0 (wrap64 ((l0_0.length : Int) - 1))).bind fun t1 => (if t1 = true then (if 0 ≤ a1 then (if a1 < (l0_0.length : Int) then ((impl_within.f ((rd_T65 l0_0 a1).f0) (-1) (wrap64 (a1 - 1))).bind fun t2 => (if t2 = true then (if ((rd_T65 l0_0 a1).f0) = (-1) then ((impl_GetTree.f k ((rd_T65 l0_0 a1).f1)).bind fun bt3 => (if bt3.2 = 0 then (some ((rd_T65 l0_0 a1).f1, true)) else (some ((⟨#[]⟩ : ByteArray), false)))) else ((impl_RepoGet.f k l0_0 ((rd_T65 l0_0 a1).f0)).bind fun bt4 => ((impl_Patch.f k bt4.1 ((rd_T65 l0_0 a1).f1)).bind fun bt5 => (if bt4.2 = true then (if (decide (bt5.2.1 = 0) && (decide (bt5.2.2.1 = 0) && decide (bt5.2.2.2 = 0))) = true then (some (bt5.1, true)) else (some ((⟨#[]⟩ : ByteArray), false))) else (some ((⟨#[]⟩ : ByteArray), false)))))) else (some ((⟨#[]⟩ : ByteArray), false)))) else none) else none) else (some ((⟨#[]⟩ : ByteArray), false))))
set_option maxHeartbeats 4000000 in
theorem impl_RepoGet.link_ : ∀ (k : Nat) (l0_0 : List S65) (a1 : Int) (r : ByteArray × Bool), impl_RepoGet.f k l0_0 a1 = some r → callW env 11 [.agg [.deep false true 2 (l0_0.map e65)], .i .i64 a1] = some ([.s r.1, .b r.2], [none]) := by
  intro k
  induction k with
  | zero => intro l0_0 a1 r H; cases (show (none : Option (ByteArray × Bool)) = some r from H)
  | succ k ih =>
    intro l0_0 a1 r H
    rw [impl_RepoGet.f] at H
    refine callW_fn' (F := impl_RepoGet.F) (tm := tmOf [(0, .agg [.slc 0 [] 0 2 0 l0_0.length]), (1, .i .i64 a1)]) (rs := rsL [(0, some ⟨false, 2, 0, (l0_0.map e65)⟩)]) (nx := 1) (ow := [false]) rfl (by rfl) (by simp only [SN]) (by simp only [SN]) (by decide) ?_
    show W env impl_RepoGet.B _ (Qf [.t 4, .t 5] [false] _)
    unfold impl_RepoGet.B
    try simp only [TN, simprocAttr]
    rcases ite_or H with ⟨h1, H⟩ | ⟨h1, H⟩
    · skip
      injection H with H; subst H
      try simp only [TN, simprocAttr, h1]
      try rfl
    · skip
      obtain ⟨t1, e2, H⟩ := bnd_some H
      have e2 := impl_within.link e2
      try simp only [TN, simprocAttr, h1, e2]
      rcases ite_b H with ⟨h3, H⟩ | ⟨h3, H⟩
      · skip
        obtain ⟨h4, H⟩ := ite_no H
        obtain ⟨h5, H⟩ := ite_no H
        obtain ⟨t2, e6, H⟩ := bnd_some H
        have e6 := impl_within.link e6
        try simp only [TN, simprocAttr, h1, e2, h3, h4, h5, e6]
        rcases ite_b H with ⟨h7, H⟩ | ⟨h7, H⟩
        · skip
          try simp only [TN, simprocAttr, h1, e2, h3, h4, h5, e6, h7]
          rcases ite_or H with ⟨h8, H⟩ | ⟨h8, H⟩
          · skip
            obtain ⟨bt3, e9, H⟩ := bnd_some H
            have e9 := impl_GetTree.link e9
            try simp only [TN, simprocAttr, h1, e2, h3, h4, h5, e6, h7, eq_true h8, e9]
            rcases ite_or H with ⟨h10, H⟩ | ⟨h10, H⟩
            · skip
              injection H with H; subst H
              try simp only [TN, simprocAttr, h1, e2, h3, h4, h5, e6, h7, eq_true h8, e9, eq_true h10]
              try rfl
            · skip
              injection H with H; subst H
              try simp only [TN, simprocAttr, h1, e2, h3, h4, h5, e6, h7, eq_true h8, e9, h10]
              try rfl
          · skip
            obtain ⟨bt4, e11, H⟩ := bnd_some H
            have e11 := ih _ _ _ e11
            obtain ⟨bt5, e12, H⟩ := bnd_some H
            have e12 := impl_Patch.link e12
            try simp only [TN, simprocAttr, h1, e2, h3, h4, h5, e6, h7, h8, e11, e12]
            rcases ite_b H with ⟨h13, H⟩ | ⟨h13, H⟩
            · skip
              try simp only [TN, simprocAttr, h1, e2, h3, h4, h5, e6, h7, h8, e11, e12, h13]
              rcases ite_b H with ⟨h14, H⟩ | ⟨h14, H⟩
              · skip
                injection H with H; subst H
                try simp only [TN, simprocAttr, h1, e2, h3, h4, h5, e6, h7, h8, e11, e12, h13, h14]
                try rfl
              · skip
                injection H with H; subst H
                try simp only [TN, simprocAttr, h1, e2, h3, h4, h5, e6, h7, h8, e11, e12, h13, h14]
                try rfl
            · skip
              injection H with H; subst H
              try simp only [TN, simprocAttr, h1, e2, h3, h4, h5, e6, h7, h8, e11, e12, h13]
              try rfl
        · skip
          injection H with H; subst H
          try simp only [TN, simprocAttr, h1, e2, h3, h4, h5, e6, h7]
          try rfl
      · skip
        injection H with H; subst H
        try simp only [TN, simprocAttr, h1, e2, h3]
        try rfl
theorem impl_RepoGet.link {k : Nat} {l0_0 : List S65} {a1 : Int} {r : ByteArray × Bool} (H : impl_RepoGet.f k l0_0 a1 = some r) : callW env 11 [.agg [.deep false true 2 (l0_0.map e65)], .i .i64 a1] = some ([.s r.1, .b r.2], [none]) := impl_RepoGet.link_ k _ _ _ H
end Go.Proofs.Ytinlbiphjgpmmaa.P
end YtinlbiphjgpmmaaL11
section YtinlbiphjgpmmaaL14
namespace Go.Proofs.Ytinlbiphjgpmmaa.P
open Go Go.RowKit Go.Proofs.Ytinlbiphjgpmmaa.V
set_option linter.unusedVariables false
set_option linter.unusedSimpArgs false
set_option linter.all false
set_option maxRecDepth 100000
/-! ### impl_RepoOk: function 14 -/
def impl_RepoOk.l0 : Nat → (List S65) → Int → Int → Option Bool
 | 0, _, _, _ => none
 | k + 1, l0_0, x8, x9 => if x9 < x8 then ((impl_RepoGet.f k l0_0 x9).bind fun bt1 => (if bt1.2 = true then (impl_RepoOk.l0 k l0_0 x8 (wrap64 (x9 + 1))) else (some false))) else (some (decide ((l0_0.length : Int) ≤ 6)))
def impl_RepoOk.f (k : Nat) (l0_0 : List S65) : Option Bool := impl_RepoOk.l0 k l0_0 (l0_0.length : Int) 0
def impl_RepoOk.P0 (k : Nat) : Prop := ∀ (l0_0 : List S65) (x8 : Int) (x9 : Int) (r : Bool), impl_RepoOk.l0 k l0_0 x8 x9 = some r → ∀ st, canon 1 [1, 8, 9] st = ⟨tmOf [(1, .bx [.slc 0 [] 0 2 0 l0_0.length] 0), (8, .i .i64 x8), (9, .i .i64 x9)], rsL [(0, some ⟨false, 2, 0, (l0_0.map e65)⟩)], 1⟩ → W env impl_RepoOk.c1 st (Qb 0 (Qs env impl_RepoOk.c0 (Qf [.t 2] [false] ([.b r], [none]))))
set_option maxHeartbeats 4000000 in
theorem impl_RepoOk.s0 (k : Nat) (ih : impl_RepoOk.P0 k) : impl_RepoOk.P0 (k + 1) := by
  intro l0_0 x8 x9 r H st hst
  rw [impl_RepoOk.l0] at H
  rw [W_loopc (show impl_RepoOk.c1 = C.loop 1 [1, 8, 9] impl_RepoOk.d1 from rfl), hst]
  unfold impl_RepoOk.d1
  try simp only [TN, simprocAttr, impl_RepoOk.c0]
  rcases ite_or H with ⟨h1, H⟩ | ⟨h1, H⟩
  · skip
    obtain ⟨bt1, e2, H⟩ := bnd_some H
    have e2 := impl_RepoGet.link e2
    try simp only [TN, simprocAttr, impl_RepoOk.c0, h1, e2]
    rcases ite_b H with ⟨h3, H⟩ | ⟨h3, H⟩
    · skip
      try simp only [TN, simprocAttr, impl_RepoOk.c0, h1, e2, h3]
      refine ih _ _ _ _ H _ ?_
      first | (rw [canon_eq]; done) | (rw [canon_eq]; rfl) | (rw [canon_eq]; simp only [List.length_set, List.length_append, List.length_replicate]; rfl)
    · skip
      injection H with H; subst H
      try simp only [TN, simprocAttr, impl_RepoOk.c0, h1, e2, h3]
      try rfl
  · skip
    injection H with H; subst H
    try simp only [TN, simprocAttr, impl_RepoOk.c0, h1]
    try rfl
theorem impl_RepoOk.w : ∀ k, impl_RepoOk.P0 k := by
  intro k
  induction k with
  | zero => exact by intro l0_0 x8 x9 r H; cases (show (none : Option Bool) = some r from H)
  | succ k ih => exact impl_RepoOk.s0 k ih
set_option maxHeartbeats 4000000 in
theorem impl_RepoOk.link {k : Nat} {l0_0 : List S65} {r : Bool} (H : impl_RepoOk.f k l0_0 = some r) : callW env 14 [.agg [.deep false true 2 (l0_0.map e65)]] = some ([.b r], [none]) := by
  unfold impl_RepoOk.f at H
  refine callW_fn' (F := impl_RepoOk.F) (tm := tmOf [(0, .agg [.slc 0 [] 0 2 0 l0_0.length])]) (rs := rsL [(0, some ⟨false, 2, 0, (l0_0.map e65)⟩)]) (nx := 1) (ow := [false]) rfl (by rfl) (by simp only [SN]) (by simp only [SN]) (by decide) ?_
  show W env impl_RepoOk.B _ (Qf [.t 2] [false] _)
  unfold impl_RepoOk.B
  try simp only [TN, simprocAttr, impl_RepoOk.c0]
  refine (impl_RepoOk.w k) _ _ _ _ H _ ?_
  first | (rw [canon_eq]; done) | (rw [canon_eq]; rfl) | (rw [canon_eq]; simp only [List.length_set, List.length_append, List.length_replicate]; rfl)
end Go.Proofs.Ytinlbiphjgpmmaa.P
end YtinlbiphjgpmmaaL14
section YtinlbiphjgpmmaaL82
namespace Go.Proofs.Ytinlbiphjgpmmaa.P
open Go Go.RowKit Go.Proofs.Ytinlbiphjgpmmaa.V
set_option linter.unusedVariables false
set_option linter.unusedSimpArgs false
set_option linter.all false
set_option maxRecDepth 100000
/-! ### slices_Clone_impl_Rev_impl_Rev: function 82 -/
def slices_Clone_impl_Rev_impl_Rev.f (l0 : List S65) : Option (List S65) := if l0.length * 24 ≤ 140737488355328 then some l0 else none
set_option maxHeartbeats 4000000 in
theorem slices_Clone_impl_Rev_impl_Rev.link {l0 : List S65} {r : List S65} (H : slices_Clone_impl_Rev_impl_Rev.f l0 = some r) : callW env 82 [.deep false true 2 (l0.map e65)] = some ([.deep false false 2 (r.map e65)], [none]) := by
  unfold slices_Clone_impl_Rev_impl_Rev.f at H
  obtain ⟨h, H⟩ := ite_no H
  injection H with H; subst H
  refine callW_fn' (F := slices_Clone_impl_Rev_impl_Rev.F) (tm := tmOf [(0, .slc 0 [] 0 2 0 l0.length)]) (rs := rsL [(0, some ⟨false, 2, 0, (l0.map e65)⟩)]) (nx := 1) (ow := [false]) rfl (by rfl) (by simp only [SN]) (by simp only [SN]) (by decide) ?_
  show W env slices_Clone_impl_Rev_impl_Rev.B _ (Qf [.t 2] [false] _)
  unfold slices_Clone_impl_Rev_impl_Rev.B
  by_cases hz : l0 = []
  · subst hz
    have hn : isNil 0 = .mb := rfl
    try simp only [TN, simprocAttr, List.length_nil, List.map_nil, hn]
    try exact ⟨rfl, rfl⟩
  · have hn : isNil l0.length = .b false := by
      cases l0 with
      | nil => exact absurd rfl hz
      | cons x l => rfl
    try simp only [TN, simprocAttr, h, hn]
    try rfl
end Go.Proofs.Ytinlbiphjgpmmaa.P
end YtinlbiphjgpmmaaL82
section YtinlbiphjgpmmaaL42
namespace Go.Proofs.Ytinlbiphjgpmmaa.P
open Go Go.RowKit Go.Proofs.Ytinlbiphjgpmmaa.V
set_option linter.unusedVariables false
set_option linter.unusedSimpArgs false
set_option linter.all false
set_option maxRecDepth 100000
/-! ### impl_repoCopy: function 42 -/
def impl_repoCopy.f (l0_0 : List S65) : Option (List S65) := (slices_Clone_impl_Rev_impl_Rev.f l0_0).bind fun t1 => (some t1)
set_option maxHeartbeats 4000000 in
theorem impl_repoCopy.link {l0_0 : List S65} {r : (List S65)} (H : impl_repoCopy.f l0_0 = some r) : callW env 42 [.agg [.deep false true 2 (l0_0.map e65)]] = some ([.agg [.deep false false 2 (r.map e65)]], [none]) := by
  unfold impl_repoCopy.f at H
  refine callW_fn' (F := impl_repoCopy.F) (tm := tmOf [(0, .agg [.slc 0 [] 0 2 0 l0_0.length])]) (rs := rsL [(0, some ⟨false, 2, 0, (l0_0.map e65)⟩)]) (nx := 1) (ow := [false]) rfl (by rfl) (by simp only [SN]) (by simp only [SN]) (by decide) ?_
  show W env impl_repoCopy.B _ (Qf [.cell 2 (some 1)] [false] _)
  unfold impl_repoCopy.B
  obtain ⟨t1, e1, H⟩ := bnd_some H
  have e1 := slices_Clone_impl_Rev_impl_Rev.link e1
  injection H with H; subst H
  try simp only [TN, simprocAttr, e1]
  try rfl
end Go.Proofs.Ytinlbiphjgpmmaa.P
end YtinlbiphjgpmmaaL42
section YtinlbiphjgpmmaaL16
namespace Go.Proofs.Ytinlbiphjgpmmaa.P
open Go Go.RowKit Go.Proofs.Ytinlbiphjgpmmaa.V
set_option linter.unusedVariables false
set_option linter.unusedSimpArgs false
set_option linter.all false
set_option maxRecDepth 100000
/-! ### impl_Flat: function 16 -/
def impl_Flat.f (k : Nat) (l0_0 : List S65) (a1 : Int) : Option ((List S65) × Bool) := (impl_repoCopy.f l0_0).bind fun t1 => ((impl_RepoGet.f k l0_0 a1).bind fun bt2 => (if bt2.2 = true then ((impl_RepoOk.f k l0_0).bind fun t3 => (if t3 = true then (if 0 ≤ a1 then (if a1 < (t1.length : Int) then (some ((t1.set (a1 : Int).toNat (⟨(-1), bt2.1⟩ : S65)), true)) else none) else none) else (some (t1, false)))) else (some (t1, false))))
set_option maxHeartbeats 4000000 in
theorem impl_Flat.link {k : Nat} {l0_0 : List S65} {a1 : Int} {r : (List S65) × Bool} (H : impl_Flat.f k l0_0 a1 = some r) : callW env 16 [.agg [.deep false true 2 (l0_0.map e65)], .i .i64 a1] = some ([.agg [.deep false false 2 (r.1.map e65)], .b r.2], [none]) := by
  unfold impl_Flat.f at H
  refine callW_fn' (F := impl_Flat.F) (tm := tmOf [(0, .agg [.slc 0 [] 0 2 0 l0_0.length]), (1, .i .i64 a1)]) (rs := rsL [(0, some ⟨false, 2, 0, (l0_0.map e65)⟩)]) (nx := 1) (ow := [false]) rfl (by rfl) (by simp only [SN]) (by simp only [SN]) (by decide) ?_
  show W env impl_Flat.B _ (Qf [.cell 4 (some 1), .t 5] [false] _)
  unfold impl_Flat.B
  obtain ⟨t1, e1, H⟩ := bnd_some H
  have e1 := impl_repoCopy.link e1
  obtain ⟨bt2, e2, H⟩ := bnd_some H
  have e2 := impl_RepoGet.link e2
  try simp only [TN, simprocAttr, e1, e2]
  rcases ite_b H with ⟨h3, H⟩ | ⟨h3, H⟩
  · skip
    obtain ⟨t3, e4, H⟩ := bnd_some H
    have e4 := impl_RepoOk.link e4
    try simp only [TN, simprocAttr, e1, e2, h3, e4]
    rcases ite_b H with ⟨h5, H⟩ | ⟨h5, H⟩
    · skip
      obtain ⟨h6, H⟩ := ite_no H
      obtain ⟨h7, H⟩ := ite_no H
      injection H with H; subst H
      try simp only [TN, simprocAttr, e1, e2, h3, e4, h5, h6, h7]
      try rfl
    · skip
      injection H with H; subst H
      try simp only [TN, simprocAttr, e1, e2, h3, e4, h5]
      try rfl
  · skip
    injection H with H; subst H
    try simp only [TN, simprocAttr, e1, e2, h3]
    try rfl
end Go.Proofs.Ytinlbiphjgpmmaa.P
end YtinlbiphjgpmmaaL16
section YtinlbiphjgpmmaaL83
namespace Go.Proofs.Ytinlbiphjgpmmaa.P
open Go Go.RowKit Go.Proofs.Ytinlbiphjgpmmaa.V
set_option linter.unusedVariables false
set_option linter.unusedSimpArgs false
set_option linter.all false
set_option maxRecDepth 100000
/-! ### laws_markText: function 83 -/
def laws_markText.l0 : Nat → Int → ByteArray → Option ByteArray
 | 0, _, _ => none
 | k + 1, a0, x3 => if a0 > 0 then (if (bytesOf ([(wrap64 (48 + (Int.tmod a0 10))) % 256])).size + x3.size ≤ 9223372036854775807 then (laws_markText.l0 k (wrap64 (Int.tdiv a0 10)) ((bytesOf ([(wrap64 (48 + (Int.tmod a0 10))) % 256])) ++ x3)) else none) else (if (⟨#[109]⟩ : ByteArray).size + x3.size ≤ 9223372036854775807 then (some ((⟨#[109]⟩ : ByteArray) ++ x3)) else none)
def laws_markText.f (k : Nat) (a0 : Int) : Option ByteArray := if a0 ≤ 0 then (some (⟨#[109, 48]⟩ : ByteArray)) else (laws_markText.l0 k a0 (⟨#[]⟩ : ByteArray))
def laws_markText.P0 (k : Nat) : Prop := ∀ (a0 : Int) (x3 : ByteArray) (r : ByteArray), laws_markText.l0 k a0 x3 = some r → ∀ st, canon 0 [0, 3] st = ⟨tmOf [(0, .i .i64 a0), (3, .s x3)], rsL [], 0⟩ → W env laws_markText.c1 st (Qb 0 (Qs env laws_markText.c0 (Qf [.t 2] [] ([.s r], []))))
set_option maxHeartbeats 4000000 in
theorem laws_markText.s0 (k : Nat) (ih : laws_markText.P0 k) : laws_markText.P0 (k + 1) := by
  intro a0 x3 r H st hst
  rw [laws_markText.l0] at H
  rw [W_loopc (show laws_markText.c1 = C.loop 0 [0, 3] laws_markText.d1 from rfl), hst]
  unfold laws_markText.d1
  try simp only [TN, simprocAttr, laws_markText.c0]
  rcases ite_or H with ⟨h1, H⟩ | ⟨h1, H⟩
  · skip
    obtain ⟨h2, H⟩ := ite_no H
    try simp only [TN, simprocAttr, laws_markText.c0, h1, h2]
    refine ih _ _ _ H _ ?_
    first | (rw [canon_eq]; done) | (rw [canon_eq]; rfl) | (rw [canon_eq]; simp only [List.length_set, List.length_append, List.length_replicate]; rfl)
  · skip
    obtain ⟨h3, H⟩ := ite_no H
    injection H with H; subst H
    try simp only [TN, simprocAttr, laws_markText.c0, h1, h3]
    try rfl
theorem laws_markText.w : ∀ k, laws_markText.P0 k := by
  intro k
  induction k with
  | zero => exact by intro a0 x3 r H; cases (show (none : Option ByteArray) = some r from H)
  | succ k ih => exact laws_markText.s0 k ih
set_option maxHeartbeats 4000000 in
theorem laws_markText.link {k : Nat} {a0 : Int} {r : ByteArray} (H : laws_markText.f k a0 = some r) : callW env 83 [.i .i64 a0] = some ([.s r], []) := by
  unfold laws_markText.f at H
  refine callW_fn' (F := laws_markText.F) (tm := tmOf [(0, .i .i64 a0)]) (rs := rsL []) (nx := 0) (ow := []) rfl (by rfl) (by simp only [SN]) (by simp only [SN]) (by decide) ?_
  show W env laws_markText.B _ (Qf [.t 2] [] _)
  unfold laws_markText.B
  try simp only [TN, simprocAttr, laws_markText.c0]
  rcases ite_or H with ⟨h1, H⟩ | ⟨h1, H⟩
  · skip
    injection H with H; subst H
    try simp only [TN, simprocAttr, laws_markText.c0, h1]
    try rfl
  · skip
    try simp only [TN, simprocAttr, laws_markText.c0, h1]
    refine (laws_markText.w k) _ _ _ H _ ?_
    first | (rw [canon_eq]; done) | (rw [canon_eq]; rfl) | (rw [canon_eq]; simp only [List.length_set, List.length_append, List.length_replicate]; rfl)
end Go.Proofs.Ytinlbiphjgpmmaa.P
end YtinlbiphjgpmmaaL83
section YtinlbiphjgpmmaaL43
namespace Go.Proofs.Ytinlbiphjgpmmaa.P
open Go Go.RowKit Go.Proofs.Ytinlbiphjgpmmaa.V
set_option linter.unusedVariables false
set_option linter.unusedSimpArgs false
set_option linter.all false
set_option maxRecDepth 100000
/-! ### laws_markRevS: function 43 -/
def laws_markRevS.l0 : Nat → (List S65) → Int → Int → Option (Int × (List S65))
 | 0, _, _, _ => none
 | k + 1, l0, a1, x5 => if x5 < (l0.length : Int) then (if 0 ≤ x5 then ((some (l0.set (x5 : Int).toNat (⟨a1, (rd_T65 l0 x5).f1⟩ : S65) : List S65)).bind fun y0 => ((laws_markText.f k (wrap64 (a1 + 1))).bind fun t1 => (laws_markRevS.l0 k (y0.set (x5 : Int).toNat (⟨(rd_T65 y0 x5).f0, t1⟩ : S65)) (wrap64 ((wrap64 (a1 + 1)) + 1)) (wrap64 (x5 + 1))))) else none) else (some (a1, l0))
def laws_markRevS.f (k : Nat) (l0 : List S65) (a1 : Int) : Option (Int × (List S65)) := laws_markRevS.l0 k l0 a1 0
def laws_markRevS.P0 (k : Nat) : Prop := ∀ (l0 : List S65) (a1 : Int) (x5 : Int) (r : Int × (List S65)), laws_markRevS.l0 k l0 a1 x5 = some r → ∀ st, canon 1 [0, 1, 5] st = ⟨tmOf [(0, .slc 0 [] 0 2 0 l0.length), (1, .i .i64 a1), (5, .i .i64 x5)], rsL [(0, some ⟨true, 2, 0, (l0.map e65)⟩)], 1⟩ → W env laws_markRevS.c1 st (Qb 0 (Qs env laws_markRevS.c0 (Qf [.t 4] [true] ([.i .i64 r.1], [some (r.2.map e65)]))))
set_option maxHeartbeats 4000000 in
theorem laws_markRevS.s0 (k : Nat) (ih : laws_markRevS.P0 k) : laws_markRevS.P0 (k + 1) := by
  intro l0 a1 x5 r H st hst
  rw [laws_markRevS.l0] at H
  rw [W_loopc (show laws_markRevS.c1 = C.loop 1 [0, 1, 5] laws_markRevS.d1 from rfl), hst]
  unfold laws_markRevS.d1
  try simp only [TN, simprocAttr, laws_markRevS.c0]
  rcases ite_or H with ⟨h1, H⟩ | ⟨h1, H⟩
  · skip
    obtain ⟨h2, H⟩ := ite_no H
    obtain ⟨_, hy3, H⟩ := some_bnd H; subst hy3
    obtain ⟨t1, e4, H⟩ := bnd_some H
    have e4 := laws_markText.link e4
    try simp only [TN, simprocAttr, laws_markRevS.c0, h1, h2, e4]
    refine ih _ _ _ _ H _ ?_
    first | (rw [canon_eq]; done) | (rw [canon_eq]; rfl) | (rw [canon_eq]; simp only [List.length_set, List.length_append, List.length_replicate]; rfl)
  · skip
    injection H with H; subst H
    try simp only [TN, simprocAttr, laws_markRevS.c0, h1]
    try rfl
theorem laws_markRevS.w : ∀ k, laws_markRevS.P0 k := by
  intro k
  induction k with
  | zero => exact by intro l0 a1 x5 r H; cases (show (none : Option (Int × (List S65))) = some r from H)
  | succ k ih => exact laws_markRevS.s0 k ih
set_option maxHeartbeats 4000000 in
theorem laws_markRevS.link {k : Nat} {l0 : List S65} {a1 : Int} {r : Int × (List S65)} (H : laws_markRevS.f k l0 a1 = some r) : callW env 43 [.deep false false 2 (l0.map e65), .i .i64 a1] = some ([.i .i64 r.1], [some (r.2.map e65)]) := by
  unfold laws_markRevS.f at H
  refine callW_fn' (F := laws_markRevS.F) (tm := tmOf [(0, .slc 0 [] 0 2 0 l0.length), (1, .i .i64 a1)]) (rs := rsL [(0, some ⟨true, 2, 0, (l0.map e65)⟩)]) (nx := 1) (ow := [true]) rfl (by rfl) (by simp only [SN]) (by simp only [SN]) (by decide) ?_
  show W env laws_markRevS.B _ (Qf [.t 4] [true] _)
  unfold laws_markRevS.B
  try simp only [TN, simprocAttr, laws_markRevS.c0]
  refine (laws_markRevS.w k) _ _ _ _ H _ ?_
  first | (rw [canon_eq]; done) | (rw [canon_eq]; rfl) | (rw [canon_eq]; simp only [List.length_set, List.length_append, List.length_replicate]; rfl)
end Go.Proofs.Ytinlbiphjgpmmaa.P
end YtinlbiphjgpmmaaL43
section YtinlbiphjgpmmaaL17
namespace Go.Proofs.Ytinlbiphjgpmmaa.P
open Go Go.RowKit Go.Proofs.Ytinlbiphjgpmmaa.V
set_option linter.unusedVariables false
set_option linter.unusedSimpArgs false
set_option linter.all false
set_option maxRecDepth 100000
/-! ### laws_markRepo: function 17 -/
def laws_markRepo.f (k : Nat) (l0_0 : List S65) (a1 : Int) : Option (Int × (List S65)) := (laws_markRevS.f k l0_0 a1).bind fun bt1 => (if bt1.2.length = l0_0.length then (some (bt1.1, bt1.2)) else none)
set_option maxHeartbeats 4000000 in
theorem laws_markRepo.link {k : Nat} {l0_0 : List S65} {a1 : Int} {r : Int × (List S65)} (H : laws_markRepo.f k l0_0 a1 = some r) : callW env 17 [.agg [.deep false false 2 (l0_0.map e65)], .i .i64 a1] = some ([.i .i64 r.1], [some (r.2.map e65)]) := by
  unfold laws_markRepo.f at H
  refine callW_fn' (F := laws_markRepo.F) (tm := tmOf [(0, .agg [.slc 0 [] 0 2 0 l0_0.length]), (1, .i .i64 a1)]) (rs := rsL [(0, some ⟨true, 2, 0, (l0_0.map e65)⟩)]) (nx := 1) (ow := [true]) rfl (by rfl) (by simp only [SN]) (by simp only [SN]) (by decide) ?_
  show W env laws_markRepo.B _ (Qf [.t 4] [true] _)
  unfold laws_markRepo.B
  obtain ⟨bt1, e1, H⟩ := bnd_some H
  have e1 := laws_markRevS.link e1
  obtain ⟨q2, H⟩ := ite_no H
  injection H with H; subst H
  try simp only [TN, simprocAttr, e1, q2]
  try rfl
end Go.Proofs.Ytinlbiphjgpmmaa.P
end YtinlbiphjgpmmaaL17
section YtinlbiphjgpmmaaL44
namespace Go.Proofs.Ytinlbiphjgpmmaa.P
open Go Go.RowKit Go.Proofs.Ytinlbiphjgpmmaa.V
set_option linter.unusedVariables false
set_option linter.unusedSimpArgs false
set_option linter.all false
set_option maxRecDepth 100000
/-! ### laws_heldRevS: function 44 -/
def laws_heldRevS.l0 : Nat → (List S65) → Int → Int → Option Int
 | 0, _, _, _ => none
 | k + 1, l0, a1, x5 => if x5 < (l0.length : Int) then (if 0 ≤ x5 then (if ((rd_T65 l0 x5).f0) = a1 then ((laws_markText.f k (wrap64 (a1 + 1))).bind fun t1 => (if ((rd_T65 l0 x5).f1) = t1 then (laws_heldRevS.l0 k l0 (wrap64 ((wrap64 (a1 + 1)) + 1)) (wrap64 (x5 + 1))) else (some (-1)))) else (some (-1))) else none) else (some a1)
def laws_heldRevS.f (k : Nat) (l0 : List S65) (a1 : Int) : Option Int := laws_heldRevS.l0 k l0 a1 0
def laws_heldRevS.P0 (k : Nat) : Prop := ∀ (l0 : List S65) (a1 : Int) (x5 : Int) (r : Int), laws_heldRevS.l0 k l0 a1 x5 = some r → ∀ st, canon 1 [0, 1, 5] st = ⟨tmOf [(0, .slc 0 [] 0 2 0 l0.length), (1, .i .i64 a1), (5, .i .i64 x5)], rsL [(0, some ⟨false, 2, 0, (l0.map e65)⟩)], 1⟩ → W env laws_heldRevS.c1 st (Qb 0 (Qs env laws_heldRevS.c0 (Qf [.t 4] [false] ([.i .i64 r], [none]))))
set_option maxHeartbeats 4000000 in
theorem laws_heldRevS.s0 (k : Nat) (ih : laws_heldRevS.P0 k) : laws_heldRevS.P0 (k + 1) := by
  intro l0 a1 x5 r H st hst
  rw [laws_heldRevS.l0] at H
  rw [W_loopc (show laws_heldRevS.c1 = C.loop 1 [0, 1, 5] laws_heldRevS.d1 from rfl), hst]
  unfold laws_heldRevS.d1
  try simp only [TN, simprocAttr, laws_heldRevS.c0]
  rcases ite_or H with ⟨h1, H⟩ | ⟨h1, H⟩
  · skip
    obtain ⟨h2, H⟩ := ite_no H
    try simp only [TN, simprocAttr, laws_heldRevS.c0, h1, h2]
    rcases ite_or H with ⟨h3, H⟩ | ⟨h3, H⟩
    · skip
      obtain ⟨t1, e4, H⟩ := bnd_some H
      have e4 := laws_markText.link e4
      try simp only [TN, simprocAttr, laws_heldRevS.c0, h1, h2, eq_true h3, e4]
      rcases ite_or H with ⟨h5, H⟩ | ⟨h5, H⟩
      · skip
        try simp only [TN, simprocAttr, laws_heldRevS.c0, h1, h2, eq_true h3, e4, eq_true h5]
        refine ih _ _ _ _ H _ ?_
        first | (rw [canon_eq]; done) | (rw [canon_eq]; rfl) | (rw [canon_eq]; simp only [List.length_set, List.length_append, List.length_replicate]; rfl)
      · skip
        injection H with H; subst H
        try simp only [TN, simprocAttr, laws_heldRevS.c0, h1, h2, eq_true h3, e4, h5]
        try rfl
    · skip
      injection H with H; subst H
      try simp only [TN, simprocAttr, laws_heldRevS.c0, h1, h2, h3]
      try rfl
  · skip
    injection H with H; subst H
    try simp only [TN, simprocAttr, laws_heldRevS.c0, h1]
    try rfl
theorem laws_heldRevS.w : ∀ k, laws_heldRevS.P0 k := by
  intro k
  induction k with
  | zero => exact by intro l0 a1 x5 r H; cases (show (none : Option Int) = some r from H)
  | succ k ih => exact laws_heldRevS.s0 k ih
set_option maxHeartbeats 4000000 in
theorem laws_heldRevS.link {k : Nat} {l0 : List S65} {a1 : Int} {r : Int} (H : laws_heldRevS.f k l0 a1 = some r) : callW env 44 [.deep false true 2 (l0.map e65), .i .i64 a1] = some ([.i .i64 r], [none]) := by
  unfold laws_heldRevS.f at H
  refine callW_fn' (F := laws_heldRevS.F) (tm := tmOf [(0, .slc 0 [] 0 2 0 l0.length), (1, .i .i64 a1)]) (rs := rsL [(0, some ⟨false, 2, 0, (l0.map e65)⟩)]) (nx := 1) (ow := [false]) rfl (by rfl) (by simp only [SN]) (by simp only [SN]) (by decide) ?_
  show W env laws_heldRevS.B _ (Qf [.t 4] [false] _)
  unfold laws_heldRevS.B
  try simp only [TN, simprocAttr, laws_heldRevS.c0]
  refine (laws_heldRevS.w k) _ _ _ _ H _ ?_
  first | (rw [canon_eq]; done) | (rw [canon_eq]; rfl) | (rw [canon_eq]; simp only [List.length_set, List.length_append, List.length_replicate]; rfl)
end Go.Proofs.Ytinlbiphjgpmmaa.P
end YtinlbiphjgpmmaaL44
section YtinlbiphjgpmmaaL18
namespace Go.Proofs.Ytinlbiphjgpmmaa.P
open Go Go.RowKit Go.Proofs.Ytinlbiphjgpmmaa.V
set_option linter.unusedVariables false
set_option linter.unusedSimpArgs false
set_option linter.all false
set_option maxRecDepth 100000
/-! ### laws_heldRepo: function 18 -/
def laws_heldRepo.f (k : Nat) (l0_0 : List S65) (a1 : Int) : Option Int := (laws_heldRevS.f k l0_0 a1).bind fun t1 => (if t1 < 0 then (some (-1)) else (some t1))
set_option maxHeartbeats 4000000 in
theorem laws_heldRepo.link {k : Nat} {l0_0 : List S65} {a1 : Int} {r : Int} (H : laws_heldRepo.f k l0_0 a1 = some r) : callW env 18 [.agg [.deep false true 2 (l0_0.map e65)], .i .i64 a1] = some ([.i .i64 r], [none]) := by
  unfold laws_heldRepo.f at H
  refine callW_fn' (F := laws_heldRepo.F) (tm := tmOf [(0, .agg [.slc 0 [] 0 2 0 l0_0.length]), (1, .i .i64 a1)]) (rs := rsL [(0, some ⟨false, 2, 0, (l0_0.map e65)⟩)]) (nx := 1) (ow := [false]) rfl (by rfl) (by simp only [SN]) (by simp only [SN]) (by decide) ?_
  show W env laws_heldRepo.B _ (Qf [.t 4] [false] _)
  unfold laws_heldRepo.B
  obtain ⟨t1, e1, H⟩ := bnd_some H
  have e1 := laws_heldRevS.link e1
  try simp only [TN, simprocAttr, e1]
  rcases ite_or H with ⟨h2, H⟩ | ⟨h2, H⟩
  · skip
    injection H with H; subst H
    try simp only [TN, simprocAttr, e1, h2]
    try rfl
  · skip
    injection H with H; subst H
    try simp only [TN, simprocAttr, e1, h2]
    try rfl
end Go.Proofs.Ytinlbiphjgpmmaa.P
end YtinlbiphjgpmmaaL18
section YtinlbiphjgpmmaaL5
namespace Go.Proofs.Ytinlbiphjgpmmaa.P
open Go Go.RowKit Go.Proofs.Ytinlbiphjgpmmaa.V
set_option linter.unusedVariables false
set_option linter.unusedSimpArgs false
set_option linter.all false
set_option maxRecDepth 100000
/-! ### laws_FnExactFlat: function 5 -/
def laws_FnExactFlat.f (k : Nat) (l0_0 : List S100) (a1 : Int) : Option Bool := (laws_szRepo.f k l0_0 1048576).bind fun t1 => (if t1 < 0 then (some true) else ((laws_toRepo.f k l0_0).bind fun t2 => ((spec_Flat.f k t2 a1).bind fun bt3 => ((impl_Flat.f k t2 a1).bind fun bt4 => ((laws_eqRepo.f k bt4.1 bt3.1).bind fun t5 => (if t5 = true then (if bt4.2 = bt3.2 then ((laws_eqRepo.f k t2 t2).bind fun t6 => (if t6 = true then ((laws_markRepo.f k t2 1).bind fun bt7 => (if bt7.1 < 0 then (some false) else ((laws_markRepo.f k bt4.1 1).bind fun bt8 => ((laws_heldRepo.f k bt8.2 1).bind fun t9 => (if t9 < 0 then (some false) else (if t9 = bt8.1 then (some true) else (some false))))))) else (some false))) else (some false)) else (some false)))))))
set_option maxHeartbeats 4000000 in
theorem laws_FnExactFlat.link {k : Nat} {l0_0 : List S100} {a1 : Int} {r : Bool} (H : laws_FnExactFlat.f k l0_0 a1 = some r) : callW env 5 [.agg [.deep false true 2 (l0_0.map e100)], .i .i64 a1] = some ([.b r], [none]) := by
  unfold laws_FnExactFlat.f at H
  refine callW_fn' (F := laws_FnExactFlat.F) (tm := tmOf [(0, .agg [.slc 0 [] 0 2 0 l0_0.length]), (1, .i .i64 a1)]) (rs := rsL [(0, some ⟨false, 2, 0, (l0_0.map e100)⟩)]) (nx := 1) (ow := [false]) rfl (by rfl) (by simp only [SN]) (by simp only [SN]) (by decide) ?_
  show W env laws_FnExactFlat.B _ (Qf [.t 4] [false] _)
  unfold laws_FnExactFlat.B
  obtain ⟨t1, e1, H⟩ := bnd_some H
  have e1 := laws_szRepo.link e1
  try simp only [TN, simprocAttr, e1]
  rcases ite_or H with ⟨h2, H⟩ | ⟨h2, H⟩
  · skip
    injection H with H; subst H
    try simp only [TN, simprocAttr, e1, h2]
    try rfl
  · skip
    obtain ⟨t2, e3, H⟩ := bnd_some H
    have e3 := laws_toRepo.link e3
    obtain ⟨bt3, e4, H⟩ := bnd_some H
    have e4 := spec_Flat.link e4
    obtain ⟨bt4, e5, H⟩ := bnd_some H
    have e5 := impl_Flat.link e5
    obtain ⟨t5, e6, H⟩ := bnd_some H
    have e6 := laws_eqRepo.link e6
    try simp only [TN, simprocAttr, e1, h2, e3, e4, e5, e6]
    rcases ite_b H with ⟨h7, H⟩ | ⟨h7, H⟩
    · skip
      try simp only [TN, simprocAttr, e1, h2, e3, e4, e5, e6, h7]
      rcases ite_or H with ⟨h8, H⟩ | ⟨h8, H⟩
      · skip
        obtain ⟨t6, e9, H⟩ := bnd_some H
        have e9 := laws_eqRepo.link e9
        try simp only [TN, simprocAttr, e1, h2, e3, e4, e5, e6, h7, eq_true h8, e9]
        rcases ite_b H with ⟨h10, H⟩ | ⟨h10, H⟩
        · skip
          obtain ⟨bt7, e11, H⟩ := bnd_some H
          have e11 := laws_markRepo.link e11
          try simp only [TN, simprocAttr, e1, h2, e3, e4, e5, e6, h7, eq_true h8, e9, h10, e11]
          rcases ite_or H with ⟨h12, H⟩ | ⟨h12, H⟩
          · skip
            injection H with H; subst H
            try simp only [TN, simprocAttr, e1, h2, e3, e4, e5, e6, h7, eq_true h8, e9, h10, e11, h12]
            try rfl
          · skip
            obtain ⟨bt8, e13, H⟩ := bnd_some H
            have e13 := laws_markRepo.link e13
            obtain ⟨t9, e14, H⟩ := bnd_some H
            have e14 := laws_heldRepo.link e14
            try simp only [TN, simprocAttr, e1, h2, e3, e4, e5, e6, h7, eq_true h8, e9, h10, e11, h12, e13, e14]
            rcases ite_or H with ⟨h15, H⟩ | ⟨h15, H⟩
            · skip
              injection H with H; subst H
              try simp only [TN, simprocAttr, e1, h2, e3, e4, e5, e6, h7, eq_true h8, e9, h10, e11, h12, e13, e14, h15]
              try rfl
            · skip
              try simp only [TN, simprocAttr, e1, h2, e3, e4, e5, e6, h7, eq_true h8, e9, h10, e11, h12, e13, e14, h15]
              rcases ite_or H with ⟨h16, H⟩ | ⟨h16, H⟩
              · skip
                injection H with H; subst H
                try simp only [TN, simprocAttr, e1, h2, e3, e4, e5, e6, h7, eq_true h8, e9, h10, e11, h12, e13, e14, h15, eq_true h16]
                try rfl
              · skip
                injection H with H; subst H
                try simp only [TN, simprocAttr, e1, h2, e3, e4, e5, e6, h7, eq_true h8, e9, h10, e11, h12, e13, e14, h15, h16]
                try rfl
        · skip
          injection H with H; subst H
          try simp only [TN, simprocAttr, e1, h2, e3, e4, e5, e6, h7, eq_true h8, e9, h10]
          try rfl
      · skip
        injection H with H; subst H
        try simp only [TN, simprocAttr, e1, h2, e3, e4, e5, e6, h7, h8]
        try rfl
    · skip
      injection H with H; subst H
      try simp only [TN, simprocAttr, e1, h2, e3, e4, e5, e6, h7]
      try rfl
end Go.Proofs.Ytinlbiphjgpmmaa.P
end YtinlbiphjgpmmaaL5
section YtinlbiphjgpmmaaXBase
namespace Go.Proofs.Ytinlbiphjgpmmaa.B
open Go Go.RowKit Go.Proofs.Ytinlbiphjgpmmaa.V Go.Proofs.Ytinlbiphjgpmmaa.P

theorem wid {n : Int} (h0 : -9223372036854775808 ≤ n) (h1 : n ≤ 9223372036854775807) : wrap64 n = n := by unfold wrap64; omega
theorem wsucc {i : Nat} (h : i < 9223372036854775807) : wrap64 ((i : Int) + 1) = ((i + 1 : Nat) : Int) := by unfold wrap64; omega
theorem wsub {a : Int} {n : Nat} (h0 : 0 ≤ a) (h1 : a ≤ 9223372036854775807) (hn : n ≤ 9223372036854775807) : wrap64 (a - (n : Int)) = a - (n : Int) := by unfold wrap64; omega

/-- A counted loop: what it answers from i on, with enough rounds. -/
theorem loop {ρ : Type} (g : Nat → Nat → ρ) (n : Nat) (R : Nat → ρ) (last : ∀ k, g (k + 1) n = R n)
    (step : ∀ k i, i < n → (g k (i + 1) = R (i + 1)) → g (k + 1) i = R i) : ∀ k i, i ≤ n → n - i < k → g k i = R i := by
  intro k
  induction k with
  | zero => intro i _ h; omega
  | succ k ih =>
    intro i hi hk
    rcases Nat.lt_or_ge i n with hlt | hge
    · exact step k i hlt (ih (i + 1) hlt (by omega))
    · obtain rfl : i = n := by omega
      exact last k

/-- The same, where the rounds of what is called in the body are also bounded below. -/
theorem loopk {ρ : Type} (g : Nat → Nat → ρ) (n b : Nat) (R : Nat → ρ) (last : ∀ k, b ≤ k → g (k + 1) n = R n)
    (step : ∀ k i, b ≤ k → i < n → (g k (i + 1) = R (i + 1)) → g (k + 1) i = R i) : ∀ k i, i ≤ n → b + (n - i) < k → g k i = R i := by
  intro k
  induction k with
  | zero => intro i _ h; omega
  | succ k ih =>
    intro i hi hk
    rcases Nat.lt_or_ge i n with hlt | hge
    · exact step k i (by omega) hlt (ih (i + 1) hlt (by omega))
    · obtain rfl : i = n := by omega
      exact last k (by omega)

/-- With something that holds at the head of each round. -/
theorem loopI {ρ : Type} (g : Nat → Nat → ρ) (n b : Nat) (I : Nat → Prop) (R : Nat → ρ) (last : ∀ k, b ≤ k → I n → g (k + 1) n = R n)
    (step : ∀ k i, b ≤ k → i < n → I i → (I (i + 1) → g k (i + 1) = R (i + 1)) → g (k + 1) i = R i) : ∀ k i, i ≤ n → I i → b + (n - i) < k → g k i = R i := by
  intro k
  induction k with
  | zero => intro i _ _ h; omega
  | succ k ih =>
    intro i hi hI hk
    rcases Nat.lt_or_ge i n with hlt | hge
    · exact step k i (by omega) hlt hI (fun hI' => ih (i + 1) hlt hI' (by omega))
    · obtain rfl : i = n := by omega
      exact last k (by omega) hI

theorem getD_lt {α : Type} {xs : List α} {i : Nat} {z : α} (h : i < xs.length) : xs.getD i z = xs[i] := by
  rw [List.getD_eq_getElem?_getD, List.getElem?_eq_getElem h]; rfl

/-- A row that is filled from the front. -/
def filled {α β : Type} (l : List α) (f : α → β) (z : β) (i : Nat) : List β := (l.take i).map f ++ List.replicate (l.length - i) z
theorem filled_length {α β : Type} (l : List α) (f : α → β) (z : β) {i : Nat} (h : i ≤ l.length) : (filled l f z i).length = l.length := by
  unfold filled; simp; omega
theorem filled_zero {α β : Type} (l : List α) (f : α → β) (z : β) : filled l f z 0 = List.replicate l.length z := by simp [filled]
theorem filled_all {α β : Type} (l : List α) (f : α → β) (z : β) : filled l f z l.length = l.map f := by simp [filled]
theorem filled_set {α β : Type} (l : List α) (f : α → β) (z : β) {i : Nat} (h : i < l.length) : (filled l f z i).set i (f l[i]) = filled l f z (i + 1) := by
  unfold filled
  rw [List.set_append_right _ _ (by simp; omega)]
  have h1 : i - ((l.take i).map f).length = 0 := by simp; omega
  rw [h1]
  obtain ⟨m, hm⟩ : ∃ m, l.length - i = m + 1 := ⟨l.length - i - 1, by omega⟩
  rw [hm, show l.length - (i + 1) = m by omega, List.replicate_succ, List.set_cons_zero, List.take_succ_eq_append_getElem h, List.map_append, List.append_assoc]
  rfl

/-- Numbers one after the other. -/
def run (a : Int) (n : Nat) : List Int := (List.range n).map fun (i : Nat) => a + (i : Int)
theorem run_length (a : Int) (n : Nat) : (run a n).length = n := by simp [run]
theorem run_get (a : Int) (n : Nat) {i : Nat} (h : i < n) : (run a n).getD i 0 = a + (i : Int) := by
  rw [getD_lt (by simpa [run] using h)]
  simp [run]

theorem take_snoc {α β : Type} (l : List α) (f : α → β) {i : Nat} (h : i < l.length) : (l.take i).map f ++ [f l[i]] = (l.take (i + 1)).map f := by
  rw [List.take_succ_eq_append_getElem h, List.map_append]; rfl
theorem drop_eq_iff {α : Type} {a b : List α} {i : Nat} (ha : i < a.length) (hb : i < b.length) : a.drop i = b.drop i ↔ a[i] = b[i] ∧ a.drop (i + 1) = b.drop (i + 1) := by
  rw [List.drop_eq_getElem_cons ha, List.drop_eq_getElem_cons hb, List.cons.injEq]
theorem drop_eq_dec {α : Type} [DecidableEq α] {a b : List α} {i : Nat} (ha : i < a.length) (hb : i < b.length) : decide (a.drop i = b.drop i) = (decide (a[i] = b[i]) && decide (a.drop (i + 1) = b.drop (i + 1))) := by
  rw [Bool.eq_iff_iff]; simp only [Bool.and_eq_true, decide_eq_true_eq]; exact drop_eq_iff ha hb
theorem foldl_take {α β : Type} (f : β → α → β) (z : β) (l : List α) {i : Nat} (h : i < l.length) : (l.take (i + 1)).foldl f z = f ((l.take i).foldl f z) l[i] := by
  rw [List.take_succ_eq_append_getElem h, List.foldl_append]; rfl
/-- The first place from i on at which p holds, or -1. -/
def idxFrom {α : Type} (p : α → Bool) : List α → Nat → Int
  | [], _ => -1
  | x :: xs, i => if p x = true then (i : Int) else idxFrom p xs (i + 1)
theorem idxFrom_drop {α : Type} (p : α → Bool) (l : List α) {i : Nat} (h : i < l.length) : idxFrom p (l.drop i) i = if p l[i] = true then (i : Int) else idxFrom p (l.drop (i + 1)) (i + 1) := by
  rw [List.drop_eq_getElem_cons h]; rfl
theorem idxFrom_any {α : Type} (p : α → Bool) (l : List α) (i : Nat) : decide (idxFrom p l i ≥ 0) = l.any p := by
  induction l generalizing i with
  | nil => rfl
  | cons x xs ih =>
    unfold idxFrom
    rw [List.any_cons]
    cases hp : p x with
    | true => simp
    | false => rw [if_neg (by simp), ih]; simp
end Go.Proofs.Ytinlbiphjgpmmaa.B
end YtinlbiphjgpmmaaXBase
section YtinlbiphjgpmmaaXMark
namespace Go.Proofs.Ytinlbiphjgpmmaa.X
open Go Go.RowKit Go.Proofs.Ytinlbiphjgpmmaa.V Go.Proofs.Ytinlbiphjgpmmaa.P

theorem l1In (a b c : Int) : spec_l1In.f a b c = some (decide (b ≤ a ∧ a ≤ c)) := by
  unfold spec_l1In.f
  by_cases h : b ≤ a <;> simp [h]
theorem within (a b c : Int) : impl_within.f a b c = some (decide (b ≤ a ∧ a ≤ c)) := by
  unfold impl_within.f
  by_cases h : b ≤ a <;> simp [h]
theorem specLabelOk (a : Int) : spec_LabelOk.f a = some (decide (0 ≤ a ∧ a ≤ 5)) := by unfold spec_LabelOk.f; rw [l1In]; rfl
theorem implLabelOk (a : Int) : impl_LabelOk.f a = some (decide (0 ≤ a ∧ a ≤ 5)) := by unfold impl_LabelOk.f; rw [within]; rfl
end Go.Proofs.Ytinlbiphjgpmmaa.X
end YtinlbiphjgpmmaaXMark
section YtinlbiphjgpmmaaXTree
namespace Go.Proofs.Ytinlbiphjgpmmaa.X
open Go Go.RowKit Go.Proofs.Ytinlbiphjgpmmaa.V Go.Proofs.Ytinlbiphjgpmmaa.P

theorem rdNode {xs : List S105} {i : Nat} : rd_T105 xs (i : Int) = xs.getD i z105 := by unfold rd_T105; rw [Int.toNat_natCast]
/-- Label and depth of a node. -/
def lab (l : List S105) (i : Nat) : Int := (l.getD i z105).f0
def dep (l : List S105) (i : Nat) : Int := (l.getD i z105).f1
def okAt (l : List S105) (i : Nat) : Bool :=
  decide (0 ≤ lab l i ∧ lab l i ≤ 5) && decide (0 ≤ dep l i ∧ dep l i ≤ 12) && decide (dep l i = 0 ↔ i = 0) && (decide (i = 0) || decide (dep l i ≤ dep l (i - 1) + 1))
def okUpto (l : List S105) (n : Nat) : Bool := (List.range n).all (okAt l)
/-- The tree is valid. -/
def okT (l : List S105) : Bool := decide (1 ≤ l.length ∧ l.length ≤ 24) && okUpto l l.length

theorem okUpto_succ (l : List S105) (n : Nat) : okUpto l (n + 1) = (okUpto l n && okAt l n) := by unfold okUpto; rw [List.range_succ, List.all_append]; simp
theorem okUpto_at {l : List S105} {n i : Nat} (h : okUpto l n = true) (hi : i < n) : okAt l i = true := by
  unfold okUpto at h; exact List.all_eq_true.1 h i (List.mem_range.2 hi)
theorem okAt_iff {l : List S105} {i : Nat} : okAt l i = true ↔ (0 ≤ lab l i ∧ lab l i ≤ 5) ∧ (0 ≤ dep l i ∧ dep l i ≤ 12) ∧ (dep l i = 0 ↔ i = 0) ∧ (i = 0 ∨ dep l i ≤ dep l (i - 1) + 1) := by
  unfold okAt; simp [and_assoc]
theorem okUpto_mono {l : List S105} {n m : Nat} (h : okUpto l n = true) (hm : m ≤ n) : okUpto l m = true := by
  unfold okUpto at *; exact List.all_eq_true.2 fun i hi => List.all_eq_true.1 h i (List.mem_range.2 (by have := List.mem_range.1 hi; omega))
theorem okUpto_false {l : List S105} {n i : Nat} (h : okAt l i = false) (hi : i < n) : okUpto l n = false := by
  rw [Bool.eq_false_iff]; intro hc; rw [okUpto_at hc hi] at h; cases h
theorem okT_len {l : List S105} (h : okT l = true) : 1 ≤ l.length ∧ l.length ≤ 24 := by unfold okT at h; simp at h; exact h.1
theorem okT_upto {l : List S105} (h : okT l = true) : okUpto l l.length = true := by unfold okT at h; simp at h; exact h.2
theorem okT_at {l : List S105} (h : okT l = true) {i : Nat} (hi : i < l.length) : (0 ≤ lab l i ∧ lab l i ≤ 5) ∧ (0 ≤ dep l i ∧ dep l i ≤ 12) ∧ (dep l i = 0 ↔ i = 0) ∧ (i = 0 ∨ dep l i ≤ dep l (i - 1) + 1) :=
  okAt_iff.1 (okUpto_at (okT_upto h) hi)


theorem specTreeOk (l : List S105) (hl : l.length ≤ 4194304) (k : Nat) (hk : l.length < k) : spec_TreeOk.f k l = some (okT l) := by
  unfold spec_TreeOk.f
  refine B.loopI (fun k i => spec_TreeOk.l0 k l (i : Int)) l.length 0 (fun i => okUpto l i = true) (fun _ => some (okT l)) ?_ ?_ k 0 (by omega) (by simp [okUpto]) (by omega)
  · intro k _ hI
    simp only [spec_TreeOk.l0]
    rw [if_neg (by omega), l1In]
    unfold okT
    rw [hI]
    simp only [Option.bind_some, Bool.and_true, Option.some.injEq]
    congr 1
    apply propext
    omega
  · intro k i _ hi hI ih
    have a1 : (i : Int) < (l.length : Int) := by omega
    have a3 : 0 ≤ (i : Int) := by omega
    simp only [spec_TreeOk.l0, a1, a3, ↓reduceIte, B.wsucc (show i < 9223372036854775807 by omega), specLabelOk, l1In, Option.bind_some, rdNode]
    rw [okUpto_succ, hI, Bool.true_and] at ih
    have hno : okAt l i = false → some false = some (okT l) := fun h => by
      unfold okT; rw [okUpto_false h hi, Bool.and_false]
    have e0 : lab l i = (l.getD i z105).f0 := rfl
    have e1 : dep l i = (l.getD i z105).f1 := rfl
    rw [← e0, ← e1]
    by_cases h1 : 0 ≤ lab l i ∧ lab l i ≤ 5
    · rw [if_pos (by simpa using h1)]
      by_cases h2 : 0 ≤ dep l i ∧ dep l i ≤ 12
      · rw [if_pos (by simpa using h2)]
        by_cases h3 : (dep l i = 0 ↔ i = 0)
        · rw [if_pos (by rw [Bool.eq_iff_iff]; simp only [decide_eq_true_eq]; omega)]
          rcases Nat.eq_zero_or_pos i with h0 | h0
          · subst h0
            rw [if_neg (by simp)]
            exact ih (okAt_iff.2 ⟨h1, h2, h3, Or.inl rfl⟩)
          · have ew : wrap64 ((i : Int) - 1) = ((i - 1 : Nat) : Int) := by unfold wrap64; omega
            have hp := (okAt_iff.1 (okUpto_at hI (i := i - 1) (by omega))).2.1
            rw [if_pos (by omega), ew, if_pos (by omega), if_pos (by omega), rdNode]
            have e2 : dep l (i - 1) = (l.getD (i - 1) z105).f1 := rfl
            rw [← e2, B.wid (by omega) (by omega)]
            by_cases h4 : dep l i ≤ dep l (i - 1) + 1
            · rw [if_neg (by omega)]
              exact ih (okAt_iff.2 ⟨h1, h2, h3, Or.inr h4⟩)
            · rw [if_pos (by omega)]
              refine hno ?_
              rw [Bool.eq_false_iff]; intro hc
              rcases (okAt_iff.1 hc).2.2.2 with h | h <;> omega
        · rw [if_neg (by rw [Bool.eq_iff_iff]; simp only [decide_eq_true_eq]; omega)]
          refine hno ?_
          rw [Bool.eq_false_iff]; intro hc; exact h3 (okAt_iff.1 hc).2.2.1
      · rw [if_neg (by simpa using h2)]
        refine hno ?_
        rw [Bool.eq_false_iff]; intro hc; exact h2 (okAt_iff.1 hc).2.1
    · rw [if_neg (by simpa using h1)]
      refine hno ?_
      rw [Bool.eq_false_iff]; intro hc; exact h1 (okAt_iff.1 hc).1

theorem implTreeOk (l : List S105) (hl : l.length ≤ 4194304) (k : Nat) (hk : l.length < k) : impl_TreeOk.f k l = some (okT l) := by
  unfold impl_TreeOk.f
  rw [within]
  simp only [Option.bind_some]
  by_cases hn : 1 ≤ l.length ∧ l.length ≤ 24
  · rw [if_pos (by simp; omega)]
    refine B.loopI (fun k i => impl_TreeOk.l0 k l l (l.length : Int) (i : Int)) l.length 0 (fun i => okUpto l i = true) (fun _ => some (okT l)) ?_ ?_ k 0 (by omega) (by simp [okUpto]) (by omega)
    · intro k _ hI
      simp only [impl_TreeOk.l0]
      rw [if_neg (by omega)]
      unfold okT
      rw [hI, decide_eq_true hn]; rfl
    · intro k i _ hi hI ih
      have a1 : (i : Int) < (l.length : Int) := by omega
      have a3 : 0 ≤ (i : Int) := by omega
      simp only [impl_TreeOk.l0, a1, a3, ↓reduceIte, B.wsucc (show i < 9223372036854775807 by omega), implLabelOk, within, Option.bind_some, rdNode]
      rw [okUpto_succ, hI, Bool.true_and] at ih
      have hno : okAt l i = false → some false = some (okT l) := fun h => by
        unfold okT; rw [okUpto_false h hi, Bool.and_false]
      have e0 : lab l i = (l.getD i z105).f0 := rfl
      have e1 : dep l i = (l.getD i z105).f1 := rfl
      rw [← e0, ← e1]
      by_cases h1 : 0 ≤ lab l i ∧ lab l i ≤ 5
      · rw [if_pos (by simpa using h1)]
        by_cases h2 : 0 ≤ dep l i ∧ dep l i ≤ 12
        · rw [if_pos (by simpa using h2)]
          have hd : impl_depthOk.f l (i : Int) = some (decide ((dep l i = 0 ↔ i = 0) ∧ (i = 0 ∨ dep l i ≤ dep l (i - 1) + 1))) := by
            unfold impl_depthOk.f
            rcases Nat.eq_zero_or_pos i with h0 | h0
            · subst h0
              rw [if_pos (by simp), if_pos (by omega)]
              have := rdNode (xs := l) (i := 0)
              rw [show ((0 : Nat) : Int) = 0 from rfl] at this
              rw [this]
              show some (dep l 0 == 0) = _
              rw [Option.some.injEq, Bool.eq_iff_iff]; simp
            · have ew : wrap64 ((i : Int) - 1) = ((i - 1 : Nat) : Int) := by unfold wrap64; omega
              have hp := (okAt_iff.1 (okUpto_at hI (i := i - 1) (by omega))).2.1
              rw [if_neg (by omega), if_pos (by omega), if_pos a1, ew, if_pos (by omega), if_pos (by omega), rdNode, rdNode]
              have e2 : dep l (i - 1) = (l.getD (i - 1) z105).f1 := rfl
              rw [← e1, ← e2, within, B.wid (by omega) (by omega)]
              simp only [Option.bind_some, Option.some.injEq]
              congr 1
              apply propext
              omega
          rw [hd]
          simp only [Option.bind_some]
          by_cases h3 : (dep l i = 0 ↔ i = 0) ∧ (i = 0 ∨ dep l i ≤ dep l (i - 1) + 1)
          · rw [if_pos (by simpa using h3)]
            exact ih (okAt_iff.2 ⟨h1, h2, h3⟩)
          · rw [if_neg (by simpa using h3)]
            refine hno ?_
            rw [Bool.eq_false_iff]; intro hc; exact h3 (okAt_iff.1 hc).2.2
        · rw [if_neg (by simpa using h2)]
          refine hno ?_
          rw [Bool.eq_false_iff]; intro hc; exact h2 (okAt_iff.1 hc).2.1
      · rw [if_neg (by simpa using h1)]
        refine hno ?_
        rw [Bool.eq_false_iff]; intro hc; exact h1 (okAt_iff.1 hc).1
  · rw [if_neg (by simp; omega)]
    unfold okT
    rw [decide_eq_false hn]; rfl
end Go.Proofs.Ytinlbiphjgpmmaa.X
end YtinlbiphjgpmmaaXTree
section YtinlbiphjgpmmaaXEv
namespace Go.Proofs.Ytinlbiphjgpmmaa.B
open Go Go.RowKit Go.Proofs.Ytinlbiphjgpmmaa.V Go.Proofs.Ytinlbiphjgpmmaa.P
def Ev {α : Type} (g : Nat → Option α) (v : α) : Prop := ∃ K, ∀ k, K ≤ k → g k = some v
theorem Ev.of {α : Type} {g : Nat → Option α} {v : α} (K : Nat) (h : ∀ k, K < k → g k = some v) : Ev g v := ⟨K + 1, fun k hk => h k hk⟩
theorem Ev.succ {α : Type} {g : Nat → Option α} {v : α} (h : Ev (fun k => g (k + 1)) v) : Ev g v := by
  obtain ⟨K, h⟩ := h
  refine ⟨K + 1, fun k hk => ?_⟩
  obtain ⟨m, rfl⟩ : ∃ m, k = m + 1 := ⟨k - 1, by omega⟩
  exact h m (by omega)
theorem Ev.pure {α : Type} (v : α) : Ev (fun _ => some v) v := ⟨0, fun _ _ => rfl⟩
theorem Ev.bind {α β : Type} {f : Nat → Option α} {g : Nat → α → Option β} {a : α} {v : β} (hf : Ev f a) (hg : Ev (fun k => g k a) v) : Ev (fun k => (f k).bind (g k)) v := by
  obtain ⟨K, hf⟩ := hf
  obtain ⟨L, hg⟩ := hg
  refine ⟨K + L, fun k hk => ?_⟩
  show (f k).bind (g k) = some v
  rw [hf k (by omega), Option.bind_some]
  exact hg k (by omega)
theorem Ev.ite {α : Type} {p : Prop} [Decidable p] {f g : Nat → Option α} {v : α} (hf : p → Ev f v) (hg : ¬p → Ev g v) : Ev (fun k => if p then f k else g k) v := by
  by_cases h : p
  · obtain ⟨K, hf⟩ := hf h; exact ⟨K, fun k hk => by show (if p then f k else g k) = some v; rw [if_pos h]; exact hf k hk⟩
  · obtain ⟨K, hg⟩ := hg h; exact ⟨K, fun k hk => by show (if p then f k else g k) = some v; rw [if_neg h]; exact hg k hk⟩
theorem Ev.eq {α : Type} {g : Nat → Option α} {v w : α} (h : Ev g v) (e : v = w) : Ev g w := e ▸ h
theorem Ev.ex {α : Type} {g : Nat → Option α} {v : α} (h : Ev g v) : ∃ k, g k = some v := by obtain ⟨K, h⟩ := h; exact ⟨K, h K (Nat.le_refl _)⟩
/-- A loop over i, i + 1, .., n, with what holds ahead of each round. -/
theorem Ev.loop {ρ : Type} {g : Nat → Nat → Option ρ} (n : Nat) (I : Nat → Prop) {v : ρ} (last : I n → Ev (fun k => g k n) v)
    (step : ∀ i, i < n → I i → (I (i + 1) → Ev (fun k => g k (i + 1)) v) → Ev (fun k => g k i) v) : ∀ i, i ≤ n → I i → Ev (fun k => g k i) v := by
  intro i hi
  obtain ⟨d, hd⟩ : ∃ d, n - i = d := ⟨_, rfl⟩
  induction d generalizing i with
  | zero => obtain rfl : i = n := by omega
            exact last
  | succ d ih => exact fun hI => step i (by omega) hI (ih (i + 1) (by omega) (by omega))
end Go.Proofs.Ytinlbiphjgpmmaa.B
end YtinlbiphjgpmmaaXEv
section YtinlbiphjgpmmaaXEnd
namespace Go.Proofs.Ytinlbiphjgpmmaa.X
open Go Go.RowKit Go.Proofs.Ytinlbiphjgpmmaa.V Go.Proofs.Ytinlbiphjgpmmaa.P
set_option linter.all false

def isAt (l : List S105) (i : Int) : Bool := okT l && decide (0 ≤ i ∧ i ≤ (l.length : Int) - 1)
theorem isAt_okT {l : List S105} {i : Int} (h : isAt l i = true) : okT l = true := by unfold isAt at h; simp at h; exact h.1
theorem isAt_nat {l : List S105} {i : Int} (h : isAt l i = true) : ∃ n : Nat, i = (n : Int) ∧ n < l.length := by
  unfold isAt at h; simp at h
  exact ⟨i.toNat, by omega, by omega⟩
theorem isAt_of {l : List S105} {n : Nat} (h : okT l = true) (hn : n < l.length) : isAt l (n : Int) = true := by
  unfold isAt; simp [h]; omega

theorem evAt (l : List S105) (hl : l.length ≤ 4194304) (i : Int) : B.Ev (fun k => spec_l3At.f k l i) (isAt l i) := by
  simp only [spec_l3At.f]
  refine B.Ev.bind (B.Ev.of _ (fun k hk => specTreeOk l hl k hk)) ?_
  have e : wrap64 ((l.length : Int) - 1) = (l.length : Int) - 1 := B.wid (by omega) (by omega)
  simp only [l1In, e, Option.bind_some]
  refine B.Ev.ite (fun h => ?_) (fun h => ?_)
  · exact (B.Ev.pure _).eq (by simp [isAt, h])
  · exact (B.Ev.pure _).eq (by simp [isAt, h])

/-- The place behind the last node under i. -/
def endGo (l : List S105) (i : Nat) : Nat → Nat → Nat
  | 0, j => j
  | n + 1, j => if dep l j > dep l i then endGo l i n (j + 1) else j
def endN (l : List S105) (i : Nat) : Nat := endGo l i (l.length - (i + 1)) (i + 1)

theorem evEndLoop (l : List S105) (hl : l.length ≤ 4194304) (i : Nat) (hi : i < l.length) : ∀ n j : Nat, j + n = l.length → B.Ev (fun k => spec_EndOf.l0 k l (i : Int) (j : Int)) (endGo l i n j : Int) := by
  intro n
  have a3 : 0 ≤ (i : Int) := by omega
  have a4 : (i : Int) < (l.length : Int) := by omega
  induction n with
  | zero =>
    intro j hj
    refine B.Ev.succ ?_
    simp only [spec_EndOf.l0, endGo, show ¬ ((j : Int) < (l.length : Int)) by omega, ↓reduceIte]
    exact B.Ev.pure _
  | succ n ih =>
    intro j hj
    refine B.Ev.succ ?_
    have a1 : (j : Int) < (l.length : Int) := by omega
    have a2 : 0 ≤ (j : Int) := by omega
    simp only [spec_EndOf.l0, endGo, a1, a2, a3, a4, ↓reduceIte, rdNode, B.wsucc (show j < 9223372036854775807 by omega)]
    by_cases c : dep l j > dep l i
    · have c' : (l.getD j z105).f1 > (l.getD i z105).f1 := c
      simp only [c, c', ↓reduceIte]
      exact ih (j + 1) (by omega)
    · have c' : ¬ (l.getD j z105).f1 > (l.getD i z105).f1 := c
      simp only [c, c', ↓reduceIte]
      exact B.Ev.pure _
theorem evEndLoop' (l : List S105) (hl : l.length ≤ 4194304) (i : Nat) (hi : i < l.length) : ∀ n j : Nat, j + n = l.length → B.Ev (fun k => impl_endOf.l0 k l (i : Int) (j : Int)) (endGo l i n j : Int) := by
  intro n
  have a3 : 0 ≤ (i : Int) := by omega
  have a4 : (i : Int) < (l.length : Int) := by omega
  induction n with
  | zero =>
    intro j hj
    refine B.Ev.succ ?_
    simp only [impl_endOf.l0, endGo, show ¬ ((j : Int) < (l.length : Int)) by omega, ↓reduceIte]
    exact B.Ev.pure _
  | succ n ih =>
    intro j hj
    refine B.Ev.succ ?_
    have a1 : (j : Int) < (l.length : Int) := by omega
    have a2 : 0 ≤ (j : Int) := by omega
    simp only [impl_endOf.l0, endGo, a1, a2, a3, a4, ↓reduceIte, rdNode, B.wsucc (show j < 9223372036854775807 by omega)]
    by_cases c : dep l j > dep l i
    · have c' : (l.getD j z105).f1 > (l.getD i z105).f1 := c
      simp only [c, c', ↓reduceIte]
      exact ih (j + 1) (by omega)
    · have c' : ¬ (l.getD j z105).f1 > (l.getD i z105).f1 := c
      simp only [c, c', ↓reduceIte]
      exact B.Ev.pure _
theorem evEnd {l : List S105} (h : okT l = true) {i : Nat} (hi : i < l.length) : B.Ev (fun k => spec_EndOf.f k l (i : Int)) (endN l i : Int) := by
  have hl := (okT_len h).2
  simp only [spec_EndOf.f]
  refine B.Ev.bind (evAt l (by omega) _) ?_
  rw [isAt_of h hi]
  simp only [↓reduceIte, B.wsucc (show i < 9223372036854775807 by omega)]
  exact evEndLoop l (by omega) i hi _ (i + 1) (by omega)
theorem evEnd' {l : List S105} (h : okT l = true) {i : Nat} (hi : i < l.length) : B.Ev (fun k => impl_endOf.f k l (i : Int)) (endN l i : Int) := by
  have hl := (okT_len h).2
  simp only [impl_endOf.f, B.wsucc (show i < 9223372036854775807 by omega)]
  exact evEndLoop' l (by omega) i hi _ (i + 1) (by omega)
theorem endGo_spec (l : List S105) (i : Nat) : ∀ n j, j + n = l.length → j ≤ endGo l i n j ∧ endGo l i n j ≤ l.length ∧ (∀ g, j ≤ g → g < endGo l i n j → dep l g > dep l i) ∧ (endGo l i n j < l.length → dep l (endGo l i n j) ≤ dep l i) := by
  intro n
  induction n with
  | zero => intro j hj; simp only [endGo]; exact ⟨Nat.le_refl _, by omega, fun g h1 h2 => by omega, fun h => by omega⟩
  | succ n ih =>
    intro j hj
    simp only [endGo]
    split
    · next c =>
      obtain ⟨h1, h2, h3, h4⟩ := ih (j + 1) (by omega)
      refine ⟨by omega, h2, fun g g1 g2 => ?_, h4⟩
      rcases Nat.lt_or_ge j g with d | d
      · exact h3 g (by omega) g2
      · obtain rfl : g = j := by omega
        exact c
    · next c => exact ⟨Nat.le_refl _, by omega, fun g h1 h2 => by omega, fun _ => by omega⟩
theorem endN_spec (l : List S105) {i : Nat} (hi : i < l.length) : i < endN l i ∧ endN l i ≤ l.length ∧ (∀ g, i < g → g < endN l i → dep l g > dep l i) ∧ (endN l i < l.length → dep l (endN l i) ≤ dep l i) := by
  have := endGo_spec l i (l.length - (i + 1)) (i + 1) (by omega)
  unfold endN
  exact ⟨by omega, this.2.1, fun g h1 h2 => this.2.2.1 g (by omega) h2, this.2.2.2⟩
end Go.Proofs.Ytinlbiphjgpmmaa.X
end YtinlbiphjgpmmaaXEnd
section YtinlbiphjgpmmaaXKids
namespace Go.Proofs.Ytinlbiphjgpmmaa.X
open Go Go.RowKit Go.Proofs.Ytinlbiphjgpmmaa.V Go.Proofs.Ytinlbiphjgpmmaa.P
set_option linter.all false
/-- Subtrees lie one in the other or apart. -/
theorem endN_in (l : List S105) {x y : Nat} (hy : y < l.length) (h : x < y) (h2 : y < endN l x) : endN l y ≤ endN l x := by
  have a := endN_spec l (show x < l.length by omega)
  have b := endN_spec l hy
  rcases Nat.lt_or_ge (endN l x) (endN l y) with c | c
  · have d1 := a.2.2.2 (by omega)
    have d2 := b.2.2.1 (endN l x) h2 c
    have d3 := a.2.2.1 y h h2
    omega
  · exact c
/-- The children of i from place c on. -/
def kidF (l : List S105) (i a b : Nat) : List Nat := (List.range' a (b - a)).filter fun j => decide (dep l j = dep l i + 1)
def kids (l : List S105) (i : Nat) : List Nat := kidF l i (i + 1) (endN l i)
theorem kidF_snoc (l : List S105) (i a b : Nat) (h : a ≤ b) : kidF l i a (b + 1) = kidF l i a b ++ if dep l b = dep l i + 1 then [b] else [] := by
  unfold kidF
  rw [show b + 1 - a = (b - a) + 1 by omega, List.range'_concat, List.filter_append, show a + 1 * (b - a) = b by omega]
  split <;> rename_i c
  · rw [List.filter_cons_of_pos (by simp [c])]; rfl
  · rw [List.filter_cons_of_neg (by simp [c])]; rfl
theorem kidF_len (l : List S105) (i a b : Nat) : (kidF l i a b).length ≤ b - a := by
  unfold kidF
  exact Nat.le_trans (List.length_filter_le _ _) (by simp)
theorem kidF_end (l : List S105) (i b : Nat) : kidF l i b b = [] := by unfold kidF; simp
/-- A child, then the children behind its subtree. -/
theorem kidF_cons (l : List S105) {i c : Nat} (hi : i < c) (hc : c < endN l i) (hil : i < l.length) (hd : dep l c = dep l i + 1) :
    kidF l i c (endN l i) = c :: kidF l i (endN l c) (endN l i) := by
  have a := endN_spec l hil
  have b := endN_spec l (show c < l.length by omega)
  have e := endN_in l (show c < l.length by omega) hi hc
  unfold kidF
  rw [show endN l i - c = 1 + ((endN l c - (c + 1)) + (endN l i - endN l c)) by omega, ← List.range'_append_1, ← List.range'_append_1, List.filter_append, List.filter_append]
  rw [show c + 1 + (endN l c - (c + 1)) = endN l c by omega]
  have n1 : (List.range' (c + 1) (endN l c - (c + 1))).filter (fun j => decide (dep l j = dep l i + 1)) = [] := by
    rw [List.filter_eq_nil_iff]
    intro j hj
    rw [List.mem_range'_1] at hj
    have := b.2.2.1 j (by omega) (by omega)
    simp; omega
  rw [n1]
  simp [List.range'_succ, hd]

theorem evKids {l : List S105} (h : okT l = true) {i : Nat} (hi : i < l.length) : B.Ev (fun k => spec_KidsOf.f k l (i : Int)) ((kids l i).map fun (j : Nat) => (j : Int)) := by
  have hl := (okT_len h).2
  have a := endN_spec l hi
  simp only [spec_KidsOf.f, B.wsucc (show i < 9223372036854775807 by omega)]
  have e0 : ([] : List Int) = (kidF l i (i + 1) (i + 1)).map fun (j : Nat) => (j : Int) := by rw [kidF_end]; rfl
  rw [e0]
  have a3 : 0 ≤ (i : Int) := by omega
  have a4 : (i : Int) < (l.length : Int) := by omega
  refine B.Ev.loop (g := fun k j => spec_KidsOf.l0 k l (i : Int) ((kidF l i (i + 1) j).map fun (j : Nat) => (j : Int)) (j : Int)) (endN l i) (fun j => i + 1 ≤ j) ?_ ?_ (i + 1) (by omega) (Nat.le_refl _)
  · intro _
    refine B.Ev.succ ?_
    simp only [spec_KidsOf.l0]
    refine B.Ev.bind (evAt l (by omega) _) ?_
    rw [isAt_of h hi]
    simp only [↓reduceIte]
    refine B.Ev.bind (evEnd h hi) ?_
    simp only [Int.lt_irrefl, ↓reduceIte]
    exact B.Ev.pure _
  · intro j hj hI ih
    refine B.Ev.succ ?_
    simp only [spec_KidsOf.l0]
    refine B.Ev.bind (evAt l (by omega) _) ?_
    rw [isAt_of h hi]
    simp only [↓reduceIte]
    refine B.Ev.bind (evEnd h hi) ?_
    have a1 : (j : Int) < (l.length : Int) := by omega
    have a2 : 0 ≤ (j : Int) := by omega
    have a5 : (j : Int) < (endN l i : Int) := by omega
    have d := okT_at h hi
    have ew : wrap64 (dep l i + 1) = dep l i + 1 := B.wid (by omega) (by omega)
    have ew' : wrap64 ((l.getD i z105).f1 + 1) = (l.getD i z105).f1 + 1 := ew
    have hk := kidF_len l i (i + 1) j
    have lm : ((kidF l i (i + 1) j).map fun (j : Nat) => (j : Int)).length < 17592186044416 := by rw [List.length_map]; omega
    simp only [a1, a2, a3, a4, a5, lm, ↓reduceIte, rdNode, ew', B.wsucc (show j < 9223372036854775807 by omega)]
    have ih := ih (by omega)
    rw [kidF_snoc l i (i + 1) j hI] at ih
    by_cases c : dep l j = dep l i + 1
    · have c' : (l.getD j z105).f1 = (l.getD i z105).f1 + 1 := c
      simp only [c', ↓reduceIte]
      simp only [c, ↓reduceIte, List.map_append, List.map_cons, List.map_nil] at ih
      exact ih
    · have c' : ¬ (l.getD j z105).f1 = (l.getD i z105).f1 + 1 := c
      simp only [c', ↓reduceIte]
      simp only [c, ↓reduceIte, List.append_nil] at ih
      exact ih
end Go.Proofs.Ytinlbiphjgpmmaa.X
end YtinlbiphjgpmmaaXKids
section YtinlbiphjgpmmaaXHas
namespace Go.Proofs.Ytinlbiphjgpmmaa.X
open Go Go.RowKit Go.Proofs.Ytinlbiphjgpmmaa.V Go.Proofs.Ytinlbiphjgpmmaa.P
set_option linter.all false
theorem evHas (l : List S105) (hl : l.length ≤ 4194304) (i : Int) : B.Ev (fun k => impl_hasNode.f k l i) (isAt l i) := by
  simp only [impl_hasNode.f]
  refine B.Ev.bind (B.Ev.of _ (fun k hk => implTreeOk l hl k hk)) ?_
  have e : wrap64 ((l.length : Int) - 1) = (l.length : Int) - 1 := B.wid (by omega) (by omega)
  simp only [within, e, Option.bind_some]
  refine B.Ev.ite (fun h => ?_) (fun h => ?_)
  · exact (B.Ev.pure _).eq (by simp [isAt, h])
  · exact (B.Ev.pure _).eq (by simp [isAt, h])
end Go.Proofs.Ytinlbiphjgpmmaa.X
end YtinlbiphjgpmmaaXHas
section YtinlbiphjgpmmaaXKidsI
namespace Go.Proofs.Ytinlbiphjgpmmaa.X
open Go Go.RowKit Go.Proofs.Ytinlbiphjgpmmaa.V Go.Proofs.Ytinlbiphjgpmmaa.P
set_option linter.all false
theorem evKids' {l : List S105} (h : okT l = true) {i : Nat} (hi : i < l.length) : B.Ev (fun k => impl_KidsOf.f k l (i : Int)) ((kids l i).map fun (j : Nat) => (j : Int)) := by
  have hl := (okT_len h).2
  have a := endN_spec l hi
  simp only [impl_KidsOf.f, Option.bind_some, B.wsucc (show i < 9223372036854775807 by omega)]
  refine B.Ev.bind (evHas l (by omega) _) ?_
  rw [isAt_of h hi]
  simp only [↓reduceIte]
  have e0 : ([] : List Int) = (kidF l i (i + 1) (i + 1)).map fun (j : Nat) => (j : Int) := by rw [kidF_end]; rfl
  rw [e0]
  have a3 : 0 ≤ (i : Int) := by omega
  have a4 : (i : Int) < (l.length : Int) := by omega
  refine B.Ev.loop (g := fun k j => impl_KidsOf.l0 k l (i : Int) ((kidF l i (i + 1) j).map fun (j : Nat) => (j : Int)) (j : Int)) (endN l i) (fun j => i + 1 ≤ j) ?_ ?_ (i + 1) (by omega) (Nat.le_refl _)
  · intro _
    refine B.Ev.succ ?_
    simp only [impl_KidsOf.l0]
    refine B.Ev.bind (evEnd' h hi) ?_
    simp only [Int.lt_irrefl, ↓reduceIte]
    exact B.Ev.pure _
  · intro j hj hI ih
    refine B.Ev.succ ?_
    simp only [impl_KidsOf.l0]
    refine B.Ev.bind (evEnd' h hi) ?_
    have a1 : (j : Int) < (l.length : Int) := by omega
    have a2 : 0 ≤ (j : Int) := by omega
    have a5 : (j : Int) < (endN l i : Int) := by omega
    have d := okT_at h hi
    have ew : wrap64 (dep l i + 1) = dep l i + 1 := B.wid (by omega) (by omega)
    have ew' : wrap64 ((l.getD i z105).f1 + 1) = (l.getD i z105).f1 + 1 := ew
    have hk := kidF_len l i (i + 1) j
    have lm : ((kidF l i (i + 1) j).map fun (j : Nat) => (j : Int)).length < 17592186044416 := by rw [List.length_map]; omega
    simp only [a1, a2, a3, a4, a5, lm, ↓reduceIte, rdNode, ew', B.wsucc (show j < 9223372036854775807 by omega)]
    have ih := ih (by omega)
    rw [kidF_snoc l i (i + 1) j hI] at ih
    by_cases c : dep l j = dep l i + 1
    · have c' : (l.getD j z105).f1 = (l.getD i z105).f1 + 1 := c
      simp only [c', ↓reduceIte]
      simp only [c, ↓reduceIte, List.map_append, List.map_cons, List.map_nil] at ih
      exact ih
    · have c' : ¬ (l.getD j z105).f1 = (l.getD i z105).f1 + 1 := c
      simp only [c', ↓reduceIte]
      simp only [c, ↓reduceIte, List.append_nil] at ih
      exact ih

end Go.Proofs.Ytinlbiphjgpmmaa.X
end YtinlbiphjgpmmaaXKidsI
section YtinlbiphjgpmmaaXRd
namespace Go.Proofs.Ytinlbiphjgpmmaa.X
open Go Go.RowKit Go.Proofs.Ytinlbiphjgpmmaa.V Go.Proofs.Ytinlbiphjgpmmaa.P
theorem rdInt {xs : List Int} {i : Nat} : rd xs (i : Int) = xs.getD i 0 := by unfold rd; rw [Int.toNat_natCast]
end Go.Proofs.Ytinlbiphjgpmmaa.X
end YtinlbiphjgpmmaaXRd
section YtinlbiphjgpmmaaXEvP
namespace Go.Proofs.Ytinlbiphjgpmmaa.B
open Go Go.RowKit Go.Proofs.Ytinlbiphjgpmmaa.V Go.Proofs.Ytinlbiphjgpmmaa.P
def EvP {α : Type} (g : Nat → Option α) (P : α → Prop) : Prop := ∃ v, P v ∧ Ev g v
theorem EvP.of {α : Type} {g : Nat → Option α} {v : α} {P : α → Prop} (h : Ev g v) (p : P v) : EvP g P := ⟨v, p, h⟩
theorem EvP.pure {α : Type} {v : α} {P : α → Prop} (p : P v) : EvP (fun _ => some v) P := ⟨v, p, Ev.pure v⟩
theorem EvP.mono {α : Type} {g : Nat → Option α} {P Q : α → Prop} (h : EvP g P) (q : ∀ v, P v → Q v) : EvP g Q := by
  obtain ⟨v, p, h⟩ := h; exact ⟨v, q v p, h⟩
theorem EvP.succ {α : Type} {g : Nat → Option α} {P : α → Prop} (h : EvP (fun k => g (k + 1)) P) : EvP g P := by
  obtain ⟨v, p, h⟩ := h; exact ⟨v, p, Ev.succ h⟩
theorem EvP.bind {α β : Type} {f : Nat → Option α} {g : Nat → α → Option β} {P : α → Prop} {Q : β → Prop} (hf : EvP f P) (hg : ∀ v, P v → EvP (fun k => g k v) Q) : EvP (fun k => (f k).bind (g k)) Q := by
  obtain ⟨v, p, h⟩ := hf
  obtain ⟨u, q, h'⟩ := hg v p
  exact ⟨u, q, Ev.bind h h'⟩
theorem EvP.ite {α : Type} {p : Prop} [Decidable p] {f g : Nat → Option α} {P : α → Prop} (hf : p → EvP f P) (hg : ¬p → EvP g P) : EvP (fun k => if p then f k else g k) P := by
  by_cases h : p
  · obtain ⟨v, q, e⟩ := hf h; exact ⟨v, q, Ev.ite (fun _ => e) (fun c => absurd h c)⟩
  · obtain ⟨v, q, e⟩ := hg h; exact ⟨v, q, Ev.ite (fun c => absurd c h) (fun _ => e)⟩
/-- From a property of the answer to an answer: the part behind is told of the answer itself. -/
theorem EvP.ev {α : Type} {g : Nat → Option α} {P : α → Prop} (h : EvP g P) : ∃ v, P v ∧ Ev g v := h
theorem Ev.of_mono {α : Type} {g : Nat → Option α} {v : α} (m : ∀ k r, g k = some r → g (k + 1) = some r) {k : Nat} (h : g k = some v) : Ev g v := by
  refine ⟨k, fun j hj => ?_⟩
  obtain ⟨d, rfl⟩ : ∃ d, j = k + d := ⟨j - k, by omega⟩
  clear hj
  induction d with
  | zero => exact h
  | succ d ih => exact m _ _ ih
/-- A drawn answer: a property of what is drawn, and the cursor stays in the code. -/
def Cu (b : List Int) {α : Type} (Q : α → Prop) (t : α × Int × Int) : Prop := Q t.1 ∧ 0 ≤ t.2.1 ∧ t.2.1 ≤ (b.length : Int)
theorem Cu.mk_ {b : List Int} {α : Type} {Q : α → Prop} {v : α} {i h : Int} (q : Q v) (h0 : 0 ≤ i) (h1 : i ≤ (b.length : Int)) : Cu b Q (v, i, h) := ⟨q, h0, h1⟩
end Go.Proofs.Ytinlbiphjgpmmaa.B
end YtinlbiphjgpmmaaXEvP
section YtinlbiphjgpmmaaXEvR
namespace Go.Proofs.Ytinlbiphjgpmmaa.B
open Go Go.RowKit Go.Proofs.Ytinlbiphjgpmmaa.V Go.Proofs.Ytinlbiphjgpmmaa.P
def EvR {α β : Type} (g : Nat → Option α) (h : Nat → Option β) (R : α → β → Prop) : Prop := ∃ u v, R u v ∧ Ev g u ∧ Ev h v
theorem EvR.of {α β : Type} {g : Nat → Option α} {h : Nat → Option β} {R : α → β → Prop} {u : α} {v : β} (r : R u v) (hg : Ev g u) (hh : Ev h v) : EvR g h R := ⟨u, v, r, hg, hh⟩
theorem EvR.pure {α β : Type} {R : α → β → Prop} {u : α} {v : β} (r : R u v) : EvR (fun _ => some u) (fun _ => some v) R := ⟨u, v, r, Ev.pure u, Ev.pure v⟩
theorem EvR.mono {α β : Type} {g : Nat → Option α} {h : Nat → Option β} {R S : α → β → Prop} (e : EvR g h R) (q : ∀ u v, R u v → S u v) : EvR g h S := by
  obtain ⟨u, v, r, e⟩ := e; exact ⟨u, v, q u v r, e⟩
theorem EvR.bind {α β γ δ : Type} {f : Nat → Option α} {f' : Nat → Option β} {g : Nat → α → Option γ} {g' : Nat → β → Option δ} {R : α → β → Prop} {S : γ → δ → Prop} (hf : EvR f f' R)
    (hg : ∀ u v, R u v → EvR (fun k => g k u) (fun k => g' k v) S) : EvR (fun k => (f k).bind (g k)) (fun k => (f' k).bind (g' k)) S := by
  obtain ⟨u, v, r, h1, h2⟩ := hf
  obtain ⟨x, y, s, h3, h4⟩ := hg u v r
  exact ⟨x, y, s, h1.bind h3, h2.bind h4⟩
theorem EvR.bindL {α γ δ : Type} {f : Nat → Option α} {g : Nat → α → Option γ} {h : Nat → Option δ} {a : α} {S : γ → δ → Prop} (hf : Ev f a) (hg : EvR (fun k => g k a) h S) : EvR (fun k => (f k).bind (g k)) h S := by
  obtain ⟨x, y, s, h3, h4⟩ := hg
  exact ⟨x, y, s, hf.bind h3, h4⟩
theorem EvR.bindR {α γ δ : Type} {f : Nat → Option α} {g : Nat → α → Option δ} {h : Nat → Option γ} {a : α} {S : γ → δ → Prop} (hf : Ev f a) (hg : EvR h (fun k => g k a) S) : EvR h (fun k => (f k).bind (g k)) S := by
  obtain ⟨x, y, s, h3, h4⟩ := hg
  exact ⟨x, y, s, h3, hf.bind h4⟩
theorem EvR.succL {α β : Type} {g : Nat → Option α} {h : Nat → Option β} {R : α → β → Prop} (e : EvR (fun k => g (k + 1)) h R) : EvR g h R := by
  obtain ⟨u, v, r, h1, h2⟩ := e; exact ⟨u, v, r, h1.succ, h2⟩
theorem EvR.succR {α β : Type} {g : Nat → Option α} {h : Nat → Option β} {R : α → β → Prop} (e : EvR g (fun k => h (k + 1)) R) : EvR g h R := by
  obtain ⟨u, v, r, h1, h2⟩ := e; exact ⟨u, v, r, h1, h2.succ⟩
theorem EvR.iteL {α β : Type} {p : Prop} [Decidable p] {f g : Nat → Option α} {h : Nat → Option β} {R : α → β → Prop} (hf : p → EvR f h R) (hg : ¬p → EvR g h R) : EvR (fun k => if p then f k else g k) h R := by
  by_cases c : p
  · obtain ⟨u, v, r, h1, h2⟩ := hf c; exact ⟨u, v, r, Ev.ite (fun _ => h1) (fun d => absurd c d), h2⟩
  · obtain ⟨u, v, r, h1, h2⟩ := hg c; exact ⟨u, v, r, Ev.ite (fun d => absurd d c) (fun _ => h1), h2⟩
theorem EvR.iteR {α β : Type} {p : Prop} [Decidable p] {f g : Nat → Option β} {h : Nat → Option α} {R : α → β → Prop} (hf : p → EvR h f R) (hg : ¬p → EvR h g R) : EvR h (fun k => if p then f k else g k) R := by
  by_cases c : p
  · obtain ⟨u, v, r, h1, h2⟩ := hf c; exact ⟨u, v, r, h1, Ev.ite (fun _ => h2) (fun d => absurd c d)⟩
  · obtain ⟨u, v, r, h1, h2⟩ := hg c; exact ⟨u, v, r, h1, Ev.ite (fun d => absurd d c) (fun _ => h2)⟩
/-- Both answer the same. -/
theorem EvR.same {α : Type} {g h : Nat → Option α} (e : EvR g h (fun u v => u = v)) : ∃ v, Ev g v ∧ Ev h v := by
  obtain ⟨u, v, rfl, h1, h2⟩ := e; exact ⟨u, h1, h2⟩
end Go.Proofs.Ytinlbiphjgpmmaa.B
end YtinlbiphjgpmmaaXEvR
section YtinlbiphjgpmmaaXNodeA
namespace Go.Proofs.Ytinlbiphjgpmmaa.X
open Go Go.RowKit Go.Proofs.Ytinlbiphjgpmmaa.V Go.Proofs.Ytinlbiphjgpmmaa.P
set_option linter.all false
theorem kids_in (l : List S105) {i : Nat} (hi : i < l.length) {j : Nat} (h : j ∈ kids l i) : i < j ∧ j < endN l i ∧ j < l.length := by
  have a := endN_spec l hi
  unfold kids kidF at h
  rw [List.mem_filter, List.mem_range'_1] at h
  omega
theorem kids_len (l : List S105) {i : Nat} (hi : i < l.length) : (kids l i).length ≤ l.length := by
  have := kidF_len l i (i + 1) (endN l i)
  have := endN_spec l hi
  unfold kids; omega
theorem rd_cast {K : List Nat} {p : Int} (h0 : 0 ≤ p) (h1 : p < (K.length : Int)) : rd (K.map fun (j : Nat) => (j : Int)) p = ((K.getD p.toNat 0 : Nat) : Int) := by
  unfold rd
  have : p.toNat < K.length := by omega
  rw [List.getD_eq_getElem?_getD, List.getElem?_map, List.getElem?_eq_getElem this, List.getD_eq_getElem?_getD, List.getElem?_eq_getElem this]
  rfl
theorem getD_mem {K : List Nat} {p : Nat} (h : p < K.length) : K.getD p 0 ∈ K := by
  rw [List.getD_eq_getElem?_getD, List.getElem?_eq_getElem h]; exact List.getElem_mem h
/-- The node that a path leads to, or -1. -/
def nodeN (l : List S105) : Nat → List Int → Int
  | i, [] => (i : Int)
  | i, p :: ps => if 0 ≤ p ∧ p < ((kids l i).length : Int) then nodeN l ((kids l i).getD p.toNat 0) ps else -1
theorem nodeN_in (l : List S105) : ∀ (ps : List Int) (i : Nat), i < l.length → nodeN l i ps = -1 ∨ ∃ j : Nat, nodeN l i ps = (j : Int) ∧ j < l.length
  | [], i, h => .inr ⟨i, rfl, h⟩
  | p :: ps, i, h => by
    simp only [nodeN]
    split
    · rename_i c
      exact nodeN_in l ps _ (kids_in l h (getD_mem (by omega))).2.2
    · exact .inl rfl
def nodeAt (l : List S105) (ps : List Int) : Int := if okT l = true then nodeN l 0 ps else -1
theorem nodeLoop {l : List S105} (h : okT l = true) (ps : List Int) (hp : ps.length ≤ 4611686018427387904) : ∀ (d t i : Nat), t + d = ps.length → i < l.length →
    B.Ev (fun k => spec_NodeAt.l0 k l ps (i : Int) (t : Int)) (nodeN l i (ps.drop t)) ∧ B.Ev (fun k => impl_NodeAt.l0 k l (i : Int) ps (ps.length : Int) (t : Int)) (nodeN l i (ps.drop t)) := by
  intro d
  have hl := okT_len h
  induction d with
  | zero =>
    intro t i ht hi
    rw [List.drop_eq_nil_of_le (by omega)]
    refine ⟨B.Ev.succ ?_, B.Ev.succ ?_⟩
    · simp only [spec_NodeAt.l0, show ¬ ((t : Int) < (ps.length : Int)) by omega, ↓reduceIte]
      exact B.Ev.pure _
    · simp only [impl_NodeAt.l0, show ¬ ((t : Int) < (ps.length : Int)) by omega, ↓reduceIte]
      exact B.Ev.pure _
  | succ d ih =>
    intro t i ht hi
    have hlt : t < ps.length := by omega
    have hk := kids_len l hi
    have a1 : (t : Int) < (ps.length : Int) := by omega
    have a2 : 0 ≤ (t : Int) := by omega
    have hw := B.wsucc (show t < 9223372036854775807 by omega)
    have hkl : ((kids l i).map fun (j : Nat) => (j : Int)).length = (kids l i).length := List.length_map _
    have e1 : wrap64 (((kids l i).length : Int) - 1) = ((kids l i).length : Int) - 1 := B.wid (by omega) (by omega)
    have er : rd ps (t : Int) = ps[t] := by unfold rd; rw [Int.toNat_natCast]; exact B.getD_lt hlt
    have hd : ps.drop t = ps[t] :: ps.drop (t + 1) := List.drop_eq_getElem_cons hlt
    rw [hd]
    generalize ps[t] = p at *
    by_cases c : 0 ≤ p ∧ p < ((kids l i).length : Int)
    · have hkid := kids_in l hi (getD_mem (K := kids l i) (p := p.toNat) (by omega))
      have ih := ih (t + 1) ((kids l i).getD p.toNat 0) (by omega) hkid.2.2
      have er2 := rd_cast (K := kids l i) c.1 c.2
      have c' : (0 ≤ p ∧ p ≤ ((kids l i).length : Int) - 1) := by omega
      refine ⟨B.Ev.succ ?_, B.Ev.succ ?_⟩
      · simp only [spec_NodeAt.l0, a1, ↓reduceIte]
        refine B.Ev.bind (evKids h hi) ?_
        simp only [a2, ↓reduceIte, hkl, e1, er, l1In, Option.bind_some, decide_eq_true_eq, c', c, and_self, er2, hw, nodeN]
        exact ih.1
      · simp only [impl_NodeAt.l0, a1, a2, ↓reduceIte]
        refine B.Ev.bind (evKids' h hi) ?_
        simp only [a2, ↓reduceIte, hkl, e1, er, within, Option.bind_some, decide_eq_true_eq, c', c, and_self, er2, hw, nodeN]
        exact ih.2
    · have c' : ¬ (0 ≤ p ∧ p ≤ ((kids l i).length : Int) - 1) := by omega
      refine ⟨B.Ev.succ ?_, B.Ev.succ ?_⟩
      · simp only [spec_NodeAt.l0, a1, ↓reduceIte]
        refine B.Ev.bind (evKids h hi) ?_
        simp only [a2, ↓reduceIte, hkl, e1, er, l1In, Option.bind_some, decide_eq_true_eq, c', c, nodeN]
        exact B.Ev.pure _
      · simp only [impl_NodeAt.l0, a1, a2, ↓reduceIte]
        refine B.Ev.bind (evKids' h hi) ?_
        simp only [a2, ↓reduceIte, hkl, e1, er, within, Option.bind_some, decide_eq_true_eq, c', c, nodeN]
        exact B.Ev.pure _
theorem evNodeAt (l : List S105) (hl : l.length ≤ 4194304) (ps : List Int) (hp : ps.length ≤ 4611686018427387904) : B.Ev (fun k => spec_NodeAt.f k l ps) (nodeAt l ps) ∧ B.Ev (fun k => impl_NodeAt.f k l ps) (nodeAt l ps) := by
  unfold nodeAt
  by_cases h : okT l = true
  · have := nodeLoop h ps hp ps.length 0 0 (by omega) (by have := okT_len h; omega)
    rw [List.drop_zero] at this
    constructor
    · simp only [spec_NodeAt.f, h, ↓reduceIte]
      refine B.Ev.bind (B.Ev.of _ (fun k hk => specTreeOk l hl k hk)) ?_
      simp only [h, ↓reduceIte]
      exact this.1
    · simp only [impl_NodeAt.f, h, ↓reduceIte]
      refine B.Ev.bind (B.Ev.of _ (fun k hk => implTreeOk l hl k hk)) ?_
      simp only [h, ↓reduceIte]
      exact this.2
  · constructor
    · simp only [spec_NodeAt.f, h, ↓reduceIte]
      refine B.Ev.bind (B.Ev.of _ (fun k hk => specTreeOk l hl k hk)) ?_
      simp only [h, ↓reduceIte]
      exact B.Ev.pure _
    · simp only [impl_NodeAt.f, h, ↓reduceIte]
      refine B.Ev.bind (B.Ev.of _ (fun k hk => implTreeOk l hl k hk)) ?_
      simp only [h, ↓reduceIte]
      exact B.Ev.pure _
end Go.Proofs.Ytinlbiphjgpmmaa.X
end YtinlbiphjgpmmaaXNodeA
section YtinlbiphjgpmmaaXCodeA
namespace Go.Proofs.Ytinlbiphjgpmmaa.X
open Go Go.RowKit Go.Proofs.Ytinlbiphjgpmmaa.V Go.Proofs.Ytinlbiphjgpmmaa.P
set_option linter.all false
theorem kids_sorted (l : List S105) (i : Nat) : (kids l i).Pairwise (· < ·) := by
  unfold kids kidF
  exact List.Pairwise.filter _ (List.pairwise_lt_range' 1 (by decide))
/-- The places at which a child can come: ahead of each child, and behind all. -/
def slots (l : List S105) (i : Nat) : List Nat := kids l i ++ [endN l i]
theorem slots_sorted (l : List S105) {i : Nat} (hi : i < l.length) : (slots l i).Pairwise (· < ·) := by
  unfold slots
  rw [List.pairwise_append]
  refine ⟨kids_sorted l i, by simp, fun a ha b hb => ?_⟩
  rw [List.mem_singleton] at hb
  have := kids_in l hi ha
  omega
theorem slots_in (l : List S105) {i : Nat} (hi : i < l.length) {p : Nat} (h : p < (slots l i).length) : i < (slots l i).getD p 0 ∧ (slots l i).getD p 0 ≤ l.length := by
  have hm : (slots l i).getD p 0 ∈ slots l i := getD_mem h
  have a := endN_spec l hi
  unfold slots at hm ⊢
  rw [List.mem_append, List.mem_singleton] at hm
  rcases hm with h | h
  · have := kids_in l hi h; omega
  · omega
theorem slots_le (l : List S105) {i : Nat} (hi : i < l.length) {p q : Nat} (h : p ≤ q) (hq : q < (slots l i).length) : (slots l i).getD p 0 ≤ (slots l i).getD q 0 := by
  rcases Nat.lt_or_ge p q with c | c
  · have := List.pairwise_iff_getElem.1 (slots_sorted l hi) p q (by omega) hq c
    rw [B.getD_lt (by omega), B.getD_lt hq]; omega
  · obtain rfl : p = q := by omega
    exact Nat.le_refl _
/-- The greatest depth from a place on, one deeper. -/
def deepN (l : List S105) : Nat → Nat → Int → Int
  | 0, _, d => d
  | n + 1, j, d => deepN l n (j + 1) (mx d (dep l j + 1))
def insR (l : List S105) (a b : Nat) (d : Int) : Int × Int × Int := if l.length = 24 then (6, 0, 0) else if d > 12 then (7, 0, 0) else (0, (a : Int), (b : Int))
theorem deepS {l : List S105} (h : okT l = true) {a b : Nat} (hb : b ≤ l.length) (path : List Int) (h24 : l.length ≠ 24) : ∀ (n j : Nat) (d : Int), j + n = b → B.Ev (fun k => spec_l13Code.l0 k l (a : Int) (b : Int) d (j : Int) path) (insR l a b (deepN l n j d)) := by
  intro n
  induction n with
  | zero =>
    intro j d hj
    refine B.Ev.succ ?_
    simp only [spec_l13Code.l0, show ¬ ((j : Int) < (b : Int)) by omega, ↓reduceIte, deepN, insR, h24]
    refine B.Ev.ite (fun c => ?_) (fun c => ?_)
    · simp only [c, ↓reduceIte]; exact B.Ev.pure _
    · simp only [c, ↓reduceIte]; exact B.Ev.pure _
  | succ n ih =>
    intro j d hj
    have hp := okT_at h (show j < l.length by omega)
    have hw := B.wsucc (show j < 9223372036854775807 by have := okT_len h; omega)
    have e1 : wrap64 ((l.getD j z105).f1 + 1) = dep l j + 1 := B.wid (show -9223372036854775808 ≤ dep l j + 1 by omega) (show dep l j + 1 ≤ 9223372036854775807 by omega)
    refine B.Ev.succ ?_
    simp only [spec_l13Code.l0, show ((j : Int) < (b : Int)) by omega, show (0 : Int) ≤ (j : Int) by omega, show (j : Int) < (l.length : Int) by omega, ↓reduceIte, rdNode, e1, hw, deepN]
    exact ih (j + 1) _ (by omega)
theorem deepI {l : List S105} (h : okT l = true) {a b : Nat} (hab : a ≤ b) (hb : b ≤ l.length) (path : List Int) : ∀ (n t : Nat) (d : Int), t + n = b - a → B.Ev (fun k => impl_opCode.l0 k l (a : Int) (b : Int) d ((l.take b).drop a) ((((l.take b).drop a).length : Nat) : Int) (t : Int) path) (insR l a b (deepN l n (a + t) d)) := by
  have hlen : ((l.take b).drop a).length = b - a := by rw [List.length_drop, List.length_take]; omega
  rw [hlen]
  intro n
  induction n with
  | zero =>
    intro t d ht
    refine B.Ev.succ ?_
    simp only [impl_opCode.l0, show ¬ ((t : Int) < ((b - a : Nat) : Int)) by omega, ↓reduceIte, deepN, insR]
    by_cases c24 : l.length = 24
    · simp only [c24, ↓reduceIte, show (((24 : Nat) : Int) = 24) from rfl]; exact B.Ev.pure _
    · simp only [c24, ↓reduceIte, show ¬ ((l.length : Int) = 24) by omega]
      refine B.Ev.ite (fun c => ?_) (fun c => ?_)
      · simp only [c, ↓reduceIte]; exact B.Ev.pure _
      · simp only [c, ↓reduceIte]; exact B.Ev.pure _
  | succ n ih =>
    intro t d ht
    have hp := okT_at h (show a + t < l.length by omega)
    have hw := B.wsucc (show t < 9223372036854775807 by have := okT_len h; omega)
    have e0 : ((l.take b).drop a).getD t z105 = l.getD (a + t) z105 := by
      rw [List.getD_eq_getElem?_getD, List.getD_eq_getElem?_getD, List.getElem?_drop, List.getElem?_take_of_lt (by omega)]
    have e1 : wrap64 ((l.getD (a + t) z105).f1 + 1) = dep l (a + t) + 1 := B.wid (show -9223372036854775808 ≤ dep l (a + t) + 1 by omega) (show dep l (a + t) + 1 ≤ 9223372036854775807 by omega)
    refine B.Ev.succ ?_
    simp only [impl_opCode.l0, show ((t : Int) < ((b - a : Nat) : Int)) by omega, show (0 : Int) ≤ (t : Int) by omega, hlen, ↓reduceIte, rdNode, e0, e1, hw, deepN]
    exact ih (t + 1) _ (by omega)
/-- What holds of an operation that can be done. -/
def CodeP (l : List S105) (kind i : Int) (u : Int × Int × Int) : Prop := u.1 = 0 → 0 ≤ i ∧ (kind = 1 ∨ (kind = 2 ∧ i ≠ 0) ∨ (kind = 3 ∧ l.length < 24 ∧ ∃ a b : Nat, u.2 = ((a : Int), (b : Int)) ∧ i < (a : Int) ∧ a ≤ b ∧ b ≤ l.length))
theorem evIns {l : List S105} (h : okT l = true) {i : Nat} (hi : i < l.length) (path : List Int) {from_ count : Int} (h1 : 0 ≤ from_) (h2 : from_ ≤ ((kids l i).length : Int)) (h3 : 0 ≤ count) (h4 : count ≤ ((kids l i).length : Int) - from_) :
    let y := (kids l i).map (fun (j : Nat) => (j : Int)) ++ [(endN l i : Int)]
    B.EvR (fun k => if 0 ≤ from_ then (if from_ < (y.length : Int) then (if 0 ≤ wrap64 (from_ + count) then (if wrap64 (from_ + count) < (y.length : Int) then (if (l.length : Int) = 24 then (some ((6 : Int), (0 : Int), (0 : Int))) else (if 0 ≤ (i : Int) then (if (i : Int) < (l.length : Int) then (spec_l13Code.l0 k l (rd y from_) (rd y (wrap64 (from_ + count))) (wrap64 (((rd_T105 l (i : Int)).f1) + 1)) (rd y from_) path) else none) else none)) else none) else none) else none) else none)
      (fun k => if 0 ≤ from_ then (if from_ < (y.length : Int) then (if 0 ≤ wrap64 (from_ + count) then (if wrap64 (from_ + count) < (y.length : Int) then (if 0 ≤ (i : Int) then (if (i : Int) < (l.length : Int) then (if rd y (wrap64 (from_ + count)) ≤ (l.length : Int) then (if 0 ≤ rd y from_ then (if rd y from_ ≤ rd y (wrap64 (from_ + count)) then ((some ((l.take (rd y (wrap64 (from_ + count)) : Int).toNat).drop (rd y from_ : Int).toNat : List S105)).bind fun y1 => (impl_opCode.l0 k l (rd y from_) (rd y (wrap64 (from_ + count))) (wrap64 (((rd_T105 l (i : Int)).f1) + 1)) y1 (y1.length : Int) 0 path)) else none) else none) else none) else none) else none) else none) else none) else none) else none)
      (fun u v => u = v ∧ CodeP l 3 (i : Int) u) := by
  intro y
  have hl := okT_len h
  have hk := kids_len l hi
  have ey : y = (slots l i).map (fun (j : Nat) => (j : Int)) := by simp only [y, slots, List.map_append, List.map_cons, List.map_nil]
  have hsl : (slots l i).length = (kids l i).length + 1 := by unfold slots; simp
  have hyl : (y.length : Int) = ((kids l i).length : Int) + 1 := by rw [ey, List.length_map, hsl]; omega
  obtain ⟨f, rfl⟩ : ∃ f : Nat, from_ = f := ⟨from_.toNat, by omega⟩
  obtain ⟨c, rfl⟩ : ∃ c : Nat, count = c := ⟨count.toNat, by omega⟩
  have ew : wrap64 ((f : Int) + (c : Int)) = ((f + c : Nat) : Int) := by rw [B.wid (by omega) (by omega)]; omega
  have r1 : rd y (f : Int) = (((slots l i).getD f 0 : Nat) : Int) := by
    have := rd_cast (K := slots l i) (p := (f : Int)) (by omega) (by omega)
    rw [← ey] at this; rw [this, Int.toNat_natCast]
  have r2 : rd y ((f + c : Nat) : Int) = (((slots l i).getD (f + c) 0 : Nat) : Int) := by
    have := rd_cast (K := slots l i) (p := ((f + c : Nat) : Int)) (by omega) (by omega)
    rw [← ey] at this; rw [this, Int.toNat_natCast]
  have s1 := slots_in l hi (p := f) (by omega)
  have s2 := slots_in l hi (p := f + c) (by omega)
  have s3 := slots_le l hi (p := f) (q := f + c) (by omega) (by omega)
  have hp := okT_at h hi
  have ed : wrap64 ((l.getD i z105).f1 + 1) = dep l i + 1 := B.wid (show -9223372036854775808 ≤ dep l i + 1 by omega) (show dep l i + 1 ≤ 9223372036854775807 by omega)
  have b1 : (f : Int) < ((kids l i).length : Int) + 1 := by omega
  have b2 : ((f + c : Nat) : Int) < ((kids l i).length : Int) + 1 := by omega
  clear_value y
  simp only [hyl, ew, r1, r2, rdNode, ed, Int.toNat_natCast, Option.bind_some, b1, b2, show (0 : Int) ≤ (f : Int) by omega, show (0 : Int) ≤ ((f + c : Nat) : Int) by omega, show (0 : Int) ≤ (i : Int) by omega, show (i : Int) < (l.length : Int) by omega, ↓reduceIte]
  generalize ha : (slots l i).getD f 0 = a at *
  generalize hb : (slots l i).getD (f + c) 0 = b at *
  simp only [show (b : Int) ≤ (l.length : Int) by omega, show (0 : Int) ≤ (a : Int) by omega, show (a : Int) ≤ (b : Int) by omega, ↓reduceIte]
  have gi := deepI h s3 s2.2 path (b - a) 0 (dep l i + 1) (by omega)
  rw [Nat.add_zero, show ((0 : Nat) : Int) = 0 from rfl] at gi
  have hP : CodeP l 3 (i : Int) (insR l a b (deepN l (b - a) a (dep l i + 1))) := by
    unfold CodeP insR
    split
    · intro h; cases h
    · split
      · intro h; cases h
      · intro _; exact ⟨by omega, .inr (.inr ⟨rfl, by omega, a, b, rfl, by omega, s3, s2.2⟩)⟩
  refine B.EvR.of ⟨rfl, hP⟩ ?_ gi
  by_cases c24 : l.length = 24
  · simp only [show ((l.length : Int) = 24) by omega, ↓reduceIte, insR, c24]
    exact B.Ev.pure _
  · simp only [show ¬ ((l.length : Int) = 24) by omega, ↓reduceIte]
    exact deepS h s2.2 path c24 (b - a) a _ (by omega)
theorem evCode {l : List S105} (h : okT l = true) (kind label from_ count : Int) (path : List Int) {i : Int} (hi : i = -1 ∨ ∃ n : Nat, i = (n : Int) ∧ n < l.length) (hf : -9223372036854775808 ≤ from_ ∧ from_ ≤ 9223372036854775807) :
    B.EvR (fun k => spec_l13Code.f k l kind path label from_ count i) (fun k => impl_opCode.f k l kind path label from_ count i) (fun u v => u = v ∧ CodeP l kind i u) := by
  have no : ∀ {c : Int}, c ≠ 0 → B.EvR (fun _ => some (c, (0 : Int), (0 : Int))) (fun _ => some (c, (0 : Int), (0 : Int))) (fun u v => u = v ∧ CodeP l kind i u) := fun {c} hc => B.EvR.pure ⟨rfl, fun h => absurd h hc⟩
  simp only [spec_l13Code.f, impl_opCode.f, l1In, within, Option.bind_some, decide_eq_true_eq, specLabelOk, implLabelOk]
  by_cases c1 : 1 ≤ kind ∧ kind ≤ 3
  · simp only [c1, and_self, ↓reduceIte]
    by_cases c2 : i < 0
    · simp only [c2, ↓reduceIte]; exact no (by decide)
    · obtain ⟨n, rfl, hn⟩ : ∃ n : Nat, i = (n : Int) ∧ n < l.length := by
        rcases hi with h | h
        · omega
        · exact h
      simp only [c2, ↓reduceIte]
      by_cases k2 : kind = 2
      · simp only [k2, ↓reduceIte, show ¬ ((2 : Int) = 3) by decide]
        by_cases c3 : (n : Int) = 0
        · simp only [c3, ↓reduceIte]; subst k2; rw [c3] at no; exact no (by decide)
        · simp only [c3, ↓reduceIte]
          exact B.EvR.pure ⟨rfl, fun _ => ⟨by omega, .inr (.inl ⟨rfl, c3⟩)⟩⟩
      · simp only [k2, ↓reduceIte]
        by_cases c4 : 0 ≤ label ∧ label ≤ 5
        · simp only [c4, and_self, ↓reduceIte]
          by_cases k3 : kind = 3
          · have hk := kids_len l hn
            have hl := okT_len h
            have hkl : ((kids l n).map fun (j : Nat) => (j : Int)).length = (kids l n).length := List.length_map _
            subst k3
            simp only [↓reduceIte]
            refine B.EvR.bindL (evKids h hn) ?_
            refine B.EvR.bindR (evKids' h hn) ?_
            simp only [hkl]
            by_cases c5 : 0 ≤ from_ ∧ from_ ≤ ((kids l n).length : Int)
            · have ew : wrap64 (((kids l n).length : Int) - from_) = ((kids l n).length : Int) - from_ := B.wid (by omega) (by omega)
              simp only [c5, and_self, ↓reduceIte, ew]
              by_cases c6 : 0 ≤ count ∧ count ≤ ((kids l n).length : Int) - from_
              · simp only [c6, and_self, ↓reduceIte]
                refine B.EvR.bindL (evEnd h hn) ?_
                refine B.EvR.bindR (evEnd' h hn) ?_
                simp only [show (kids l n).length < 17592186044416 by omega, ↓reduceIte, Option.bind_some]
                have := evIns h hn path c5.1 c5.2 c6.1 c6.2
                simp only [c5.1, ↓reduceIte] at this
                exact this
              · simp only [c6, ↓reduceIte]; exact no (by decide)
            · simp only [c5, ↓reduceIte]; exact no (by decide)
          · simp only [k3, ↓reduceIte]
            exact B.EvR.pure ⟨rfl, fun _ => ⟨by omega, .inl (by omega)⟩⟩
        · simp only [c4, ↓reduceIte]; exact no (by decide)
  · simp only [c1, ↓reduceIte]; exact no (by decide)
end Go.Proofs.Ytinlbiphjgpmmaa.X
end YtinlbiphjgpmmaaXCodeA
section YtinlbiphjgpmmaaXApply
namespace Go.Proofs.Ytinlbiphjgpmmaa.X
open Go Go.RowKit Go.Proofs.Ytinlbiphjgpmmaa.V Go.Proofs.Ytinlbiphjgpmmaa.P
set_option linter.all false
def deeper (d : Int) (x : S105) : S105 := ⟨x.f0, x.f1 + d⟩
def shiftN (l : List S105) (a b : Nat) (d : Int) : List S105 := ((l.drop a).take (b - a)).map (deeper d)
theorem shiftN_snoc (l : List S105) {a b : Nat} (d : Int) (h : a ≤ b) (hb : b < l.length) : shiftN l a (b + 1) d = shiftN l a b d ++ [deeper d (l.getD b z105)] := by
  unfold shiftN
  have h1 : (l.drop a)[b - a]? = some (l.getD b z105) := by
    rw [List.getElem?_drop, show a + (b - a) = b by omega, List.getElem?_eq_getElem hb, B.getD_lt hb]
  rw [show b + 1 - a = (b - a) + 1 by omega, List.take_add_one, h1, Option.toList_some, List.map_append]
  rfl
theorem shiftN_end (l : List S105) (a : Nat) (d : Int) : shiftN l a a d = [] := by unfold shiftN; simp
theorem shiftN_len (l : List S105) {a b : Nat} (d : Int) (h : a ≤ b) (hb : b ≤ l.length) : (shiftN l a b d).length = b - a := by unfold shiftN; simp; omega
theorem deeper_zero : deeper 0 = id := by funext x; unfold deeper; rw [Int.add_zero]; rfl
theorem shiftN_take (l : List S105) (b : Nat) : shiftN l 0 b 0 = l.take b := by unfold shiftN; rw [deeper_zero, List.map_id, List.drop_zero, Nat.sub_zero]
theorem shiftN_drop (l : List S105) (a : Nat) : shiftN l a l.length 0 = l.drop a := by unfold shiftN; rw [deeper_zero, List.map_id]; exact List.take_of_length_le (by rw [List.length_drop]; omega)

theorem shiftLoop {l : List S105} (h : okT l = true) {a b : Nat} (hb : b ≤ l.length) {d : Int} (hd : -1 ≤ d ∧ d ≤ 1) : ∀ (n j : Nat), j + n = b → a ≤ j → B.Ev (fun k => spec_l13Shift.l0 k l (b : Int) d (shiftN l a j d) (j : Int)) (shiftN l a b d) := by
  intro n
  have hl := okT_len h
  induction n with
  | zero =>
    intro j hj ha
    refine B.Ev.succ ?_
    have : j = b := by omega
    subst this
    simp only [spec_l13Shift.l0, Int.lt_irrefl, ↓reduceIte]
    exact B.Ev.pure _
  | succ n ih =>
    intro j hj ha
    refine B.Ev.succ ?_
    have hp := okT_at h (show j < l.length by omega)
    have hw := B.wsucc (show j < 9223372036854775807 by omega)
    have hs := shiftN_len l (a := a) (b := j) d ha (by omega)
    have e1 : wrap64 ((l.getD j z105).f1 + d) = (l.getD j z105).f1 + d := B.wid (show -9223372036854775808 ≤ dep l j + d by omega) (show dep l j + d ≤ 9223372036854775807 by omega)
    simp only [spec_l13Shift.l0, show ((j : Int) < (b : Int)) by omega, show (0 : Int) ≤ (j : Int) by omega, show (j : Int) < (l.length : Int) by omega, ↓reduceIte, rdNode, e1, hw, show (shiftN l a j d).length < 8796093022208 by omega]
    have := ih (j + 1) (by omega) (by omega)
    rw [shiftN_snoc l d ha (by omega)] at this
    exact this
theorem evShift {l : List S105} (h : okT l = true) {a b : Nat} (hab : a ≤ b) (hb : b ≤ l.length) {d : Int} (hd : -1 ≤ d ∧ d ≤ 1) : B.Ev (fun k => spec_l13Shift.f k l (a : Int) (b : Int) d) (shiftN l a b d) := by
  have := shiftLoop h (a := a) hb hd (b - a) a (by omega) (Nat.le_refl _)
  rw [shiftN_end] at this
  exact this

/-- With the nodes from a up to b so much deeper. -/
def mid (l : List S105) (a b : Nat) (d : Int) : List S105 := l.take a ++ (shiftN l a b d ++ l.drop b)
theorem mid_end (l : List S105) (a : Nat) (d : Int) : mid l a a d = l := by unfold mid; rw [shiftN_end, List.nil_append, List.take_append_drop]
theorem mid_len (l : List S105) {a b : Nat} (d : Int) (h : a ≤ b) (hb : b ≤ l.length) : (mid l a b d).length = l.length := by
  unfold mid
  rw [List.length_append, List.length_append, shiftN_len l d h hb, List.length_take, List.length_drop]; omega
theorem mid_get (l : List S105) {a b : Nat} (d : Int) (h : a ≤ b) (hb : b < l.length) : (mid l a b d).getD b z105 = l.getD b z105 := by
  unfold mid
  have h1 : (l.take a).length = a := by rw [List.length_take]; omega
  have h2 := shiftN_len l (a := a) (b := b) d h (by omega)
  rw [List.getD_eq_getElem?_getD, List.getD_eq_getElem?_getD, List.getElem?_append_right (by omega), List.getElem?_append_right (by omega), List.getElem?_drop, h1, h2]
  congr 2; omega
theorem mid_set (l : List S105) {a b : Nat} (d : Int) (h : a ≤ b) (hb : b < l.length) : (mid l a b d).set b (deeper d (l.getD b z105)) = mid l a (b + 1) d := by
  unfold mid
  have h1 : (l.take a).length = a := by rw [List.length_take]; omega
  have h2 := shiftN_len l (a := a) (b := b) d h (by omega)
  rw [List.set_append_right _ _ (by omega), List.set_append_right _ _ (by omega), h1, h2, show b - a - (b - a) = 0 by omega, List.drop_eq_getElem_cons hb, List.set_cons_zero, shiftN_snoc l d h hb, List.append_assoc]
  rfl
theorem mid_del (l : List S105) {i e : Nat} (hi : i + 1 ≤ e) (he : e ≤ l.length) (d : Int) : (mid l (i + 1) e d).take i ++ (mid l (i + 1) e d).drop (i + 1) = l.take i ++ (shiftN l (i + 1) e d ++ l.drop e) := by
  unfold mid
  have h1 : (l.take (i + 1)).length = i + 1 := by rw [List.length_take]; omega
  rw [List.take_append_of_le_length (by omega), List.take_take, Nat.min_eq_left (by omega), List.drop_append, List.drop_of_length_le (by omega), h1, Nat.sub_self, List.drop_zero, List.nil_append]
theorem mid_ins (l : List S105) {a b : Nat} (ha : a ≤ l.length) (d : Int) (xs : List S105) : (mid l a b d).take a ++ xs ++ (mid l a b d).drop a = l.take a ++ xs ++ (shiftN l a b d ++ l.drop b) := by
  unfold mid
  have h1 : (l.take a).length = a := by rw [List.length_take]; omega
  rw [List.take_append_of_le_length (by omega), List.take_take, Nat.min_self, List.drop_append, List.drop_of_length_le (by omega), h1, Nat.sub_self, List.drop_zero, List.nil_append]

theorem delLoop {l : List S105} (h : okT l = true) {i : Nat} (hi : i < l.length) (path : List Int) : ∀ (n j : Nat), j + n = endN l i → i + 1 ≤ j → B.Ev (fun k => impl_ApplyOp.l0 k l (mid l (i + 1) j (-1)) (i : Int) (j : Int) path) (l.take i ++ (shiftN l (i + 1) (endN l i) (-1) ++ l.drop (endN l i)), 0) := by
  intro n
  have hl := okT_len h
  have he := endN_spec l hi
  have hwi := B.wsucc (show i < 9223372036854775807 by omega)
  induction n with
  | zero =>
    intro j hj hij
    have : j = endN l i := by omega
    subst this
    have hm := mid_len l (a := i + 1) (b := endN l i) (-1) hij he.2.1
    refine B.Ev.succ ?_
    simp only [impl_ApplyOp.l0]
    refine B.Ev.bind (evEnd' h hi) ?_
    simp only [Int.lt_irrefl, ↓reduceIte, hwi, slices_Delete_impl_Node_impl_Node.f, show (0 : Int) ≤ (i : Int) by omega, show (i : Int) ≤ ((i + 1 : Nat) : Int) by omega, hm, show ((i + 1 : Nat) : Int) ≤ (l.length : Int) by omega, show l.length * 16 ≤ 140737488355328 by omega, Option.bind_some, Int.toNat_natCast, mid_del l hij he.2.1]
    exact B.Ev.pure _
  | succ n ih =>
    intro j hj hij
    have hjl : j < l.length := by omega
    have hm := mid_len l (a := i + 1) (b := j) (-1) hij (by omega)
    have hp := okT_at h hjl
    have hw := B.wsucc (show j < 9223372036854775807 by omega)
    have e1 : wrap64 ((l.getD j z105).f1 - 1) = (l.getD j z105).f1 + -1 := B.wid (show -9223372036854775808 ≤ dep l j - 1 by omega) (show dep l j - 1 ≤ 9223372036854775807 by omega)
    have ms := mid_set l (a := i + 1) (b := j) (-1) hij hjl
    unfold deeper at ms
    refine B.Ev.succ ?_
    simp only [impl_ApplyOp.l0]
    refine B.Ev.bind (evEnd' h hi) ?_
    simp only [show ((j : Int) < (endN l i : Int)) by omega, show (0 : Int) ≤ (j : Int) by omega, hm, show (j : Int) < (l.length : Int) by omega, ↓reduceIte, rdNode, mid_get l (-1) hij hjl, e1, hw, Int.toNat_natCast, ms]
    exact ih (j + 1) (by omega) (by omega)
theorem insLoop {l : List S105} (h : okT l = true) {i : Nat} (hi : i < l.length) {a b : Nat} (hab : a ≤ b) (hb : b ≤ l.length) (path : List Int) (kind label from_ count : Int) : ∀ (n j : Nat), j + n = b → a ≤ j →
    B.Ev (fun k => impl_ApplyOp.l1 k l kind path label from_ count (mid l a j 1) (i : Int) (a : Int) (b : Int) (j : Int)) (l.take a ++ [(⟨label, dep l i + 1⟩ : S105)] ++ (shiftN l a b 1 ++ l.drop b), 0) := by
  intro n
  have hl := okT_len h
  induction n with
  | zero =>
    intro j hj hij
    have : j = b := by omega
    subst this
    have hm := mid_len l (a := a) (b := j) 1 hij hb
    have hp := okT_at h hi
    have e1 : wrap64 ((l.getD i z105).f1 + 1) = dep l i + 1 := B.wid (show -9223372036854775808 ≤ dep l i + 1 by omega) (show dep l i + 1 ≤ 9223372036854775807 by omega)
    refine B.Ev.succ ?_
    simp only [impl_ApplyOp.l1, Int.lt_irrefl, ↓reduceIte, rdNode, e1, slices_Insert_impl_Node_impl_Node.f, show (0 : Int) ≤ (i : Int) by omega, show (i : Int) < (l.length : Int) by omega, show (0 : Int) ≤ (a : Int) by omega, hm, show (a : Int) ≤ (l.length : Int) by omega, List.length_singleton, show 0 < 1 by decide, show (l.length + 1) * 16 ≤ 140737488355328 by omega, Option.bind_some, Int.toNat_natCast, mid_ins l (show a ≤ l.length by omega)]
    exact B.Ev.pure _
  | succ n ih =>
    intro j hj hij
    have hjl : j < l.length := by omega
    have hm := mid_len l (a := a) (b := j) 1 hij (by omega)
    have hp := okT_at h hjl
    have hw := B.wsucc (show j < 9223372036854775807 by omega)
    have e1 : wrap64 ((l.getD j z105).f1 + 1) = (l.getD j z105).f1 + 1 := B.wid (show -9223372036854775808 ≤ dep l j + 1 by omega) (show dep l j + 1 ≤ 9223372036854775807 by omega)
    have ms := mid_set l (a := a) (b := j) 1 hij hjl
    unfold deeper at ms
    refine B.Ev.succ ?_
    simp only [impl_ApplyOp.l1, show ((j : Int) < (b : Int)) by omega, show (0 : Int) ≤ (j : Int) by omega, hm, show (j : Int) < (l.length : Int) by omega, ↓reduceIte, rdNode, mid_get l 1 hij hjl, e1, hw, Int.toNat_natCast, ms]
    exact ih (j + 1) (by omega) (by omega)

theorem evApplyOp {l : List S105} (hl : l.length ≤ 4194304) (kind label from_ count : Int) (path : List Int) (hp : path.length ≤ 4611686018427387904) (hf : -9223372036854775808 ≤ from_ ∧ from_ ≤ 9223372036854775807) :
    B.EvR (fun k => spec_ApplyOp.f k l kind path label from_ count) (fun k => impl_ApplyOp.f k l kind path label from_ count) (fun u v => u = v ∧ u.1.length ≤ 24) := by
  simp only [spec_ApplyOp.f, impl_ApplyOp.f]
  refine B.EvR.bindL (B.Ev.of _ (fun k hk => specTreeOk l hl k hk)) ?_
  refine B.EvR.bindR (B.Ev.of _ (fun k hk => implTreeOk l hl k hk)) ?_
  by_cases h : okT l = true
  · have h24 := okT_len h
    simp only [h, ↓reduceIte, spec_l3Copy.f, slices_Clone_impl_Node_impl_Node.f, show l.length * 16 ≤ 140737488355328 by omega, Option.bind_some]
    obtain ⟨n1, n2⟩ := evNodeAt l hl path hp
    refine B.EvR.bindL n1 ?_
    refine B.EvR.bindR n2 ?_
    have hi : nodeAt l path = -1 ∨ ∃ n : Nat, nodeAt l path = (n : Int) ∧ n < l.length := by
      unfold nodeAt
      rw [if_pos h]
      exact nodeN_in l path 0 (by omega)
    generalize nodeAt l path = i at *
    obtain ⟨u, v, ⟨rfl, hc⟩, g1, g2⟩ := evCode h kind label from_ count path hi hf
    refine B.EvR.bindL g1 ?_
    refine B.EvR.bindR g2 ?_
    by_cases c0 : u.1 = 0
    · obtain ⟨hi0, hk⟩ := hc c0
      obtain ⟨n, rfl, hn⟩ : ∃ n : Nat, i = (n : Int) ∧ n < l.length := by
        rcases hi with h | h
        · omega
        · exact h
      have a1 : (0 : Int) ≤ (n : Int) := by omega
      have a2 : (n : Int) < (l.length : Int) := by omega
      simp only [c0, ↓reduceIte, a1, a2]
      by_cases k1 : kind = 1
      · simp only [k1, ↓reduceIte]
        exact B.EvR.pure ⟨rfl, by simp only [List.length_set]; omega⟩
      · by_cases k2 : kind = 2
        · simp only [k2, ↓reduceIte, show ¬ ((2 : Int) = 1) by decide]
          have he := endN_spec l hn
          have hw := B.wsucc (show n < 9223372036854775807 by omega)
          have s1 := evShift h (a := 0) (b := n) (Nat.zero_le _) (by omega) (d := 0) (by decide)
          have s2 := evShift h (a := n + 1) (b := endN l n) (by omega) he.2.1 (d := -1) (by decide)
          have s3 := evShift h (a := endN l n) (b := l.length) he.2.1 (Nat.le_refl _) (d := 0) (by decide)
          have t1 := shiftN_len l (a := 0) (b := n) 0 (Nat.zero_le _) (by omega)
          have t2 := shiftN_len l (a := n + 1) (b := endN l n) (-1) (by omega) he.2.1
          have t3 := shiftN_len l (a := endN l n) (b := l.length) 0 he.2.1 (Nat.le_refl _)
          refine B.EvR.bindL (evEnd h hn) ?_
          refine B.EvR.bindL s1 ?_
          simp only [hw]
          refine B.EvR.bindL s2 ?_
          simp only [show ((shiftN l 0 n 0).length + (shiftN l (n + 1) (endN l n) (-1)).length) * 16 ≤ 140737488355328 by omega, ↓reduceIte, Option.bind_some]
          refine B.EvR.bindL s3 ?_
          simp only [List.length_append, show ((shiftN l 0 n 0).length + (shiftN l (n + 1) (endN l n) (-1)).length + (shiftN l (endN l n) l.length 0).length) * 16 ≤ 140737488355328 by omega, ↓reduceIte]
          have hd := delLoop h hn path (endN l n - (n + 1)) (n + 1) (by omega) (Nat.le_refl _)
          rw [mid_end] at hd
          refine B.EvR.of ⟨?_, ?_⟩ (B.Ev.pure _) hd
          · rw [shiftN_take, shiftN_drop, List.append_assoc]
          · simp only [List.length_append, t1, t2, t3]; omega
        · simp only [k1, k2, ↓reduceIte]
          obtain ⟨k3, hlt, a, b, hab, h1, h2, h3⟩ := (hk.resolve_left k1).resolve_left (fun hh => k2 hh.1)
          have s1 := evShift h (a := 0) (b := a) (Nat.zero_le _) (by omega) (d := 0) (by decide)
          have s2 := evShift h (a := a) (b := b) h2 h3 (d := 1) (by decide)
          have s3 := evShift h (a := b) (b := l.length) h3 (Nat.le_refl _) (d := 0) (by decide)
          have t1 := shiftN_len l (a := 0) (b := a) 0 (Nat.zero_le _) (by omega)
          have t2 := shiftN_len l (a := a) (b := b) 1 h2 h3
          have t3 := shiftN_len l (a := b) (b := l.length) 0 h3 (Nat.le_refl _)
          have hpn := okT_at h hn
          have e1 : wrap64 ((l.getD n z105).f1 + 1) = dep l n + 1 := B.wid (show -9223372036854775808 ≤ dep l n + 1 by omega) (show dep l n + 1 ≤ 9223372036854775807 by omega)
          have ha : u.2.1 = (a : Int) := by rw [hab]
          have hb : u.2.2 = (b : Int) := by rw [hab]
          simp only [ha, hb, rdNode, e1]
          refine B.EvR.bindL s1 ?_
          simp only [show (shiftN l 0 a 0).length < 8796093022208 by omega, ↓reduceIte, Option.bind_some]
          refine B.EvR.bindL s2 ?_
          simp only [List.length_append, List.length_singleton, show ((shiftN l 0 a 0).length + 1 + (shiftN l a b 1).length) * 16 ≤ 140737488355328 by omega, ↓reduceIte, Option.bind_some]
          refine B.EvR.bindL s3 ?_
          simp only [show ((shiftN l 0 a 0).length + 1 + (shiftN l a b 1).length + (shiftN l b l.length 0).length) * 16 ≤ 140737488355328 by omega, ↓reduceIte]
          have hd := insLoop h hn h2 h3 path kind label from_ count (b - a) a (by omega) (Nat.le_refl _)
          rw [mid_end] at hd
          refine B.EvR.of ⟨?_, ?_⟩ (B.Ev.pure _) hd
          · rw [shiftN_take, shiftN_drop, List.append_assoc]
          · simp only [List.length_append, List.length_singleton, t1, t2, t3]; omega
    · simp only [c0, ↓reduceIte]
      exact B.EvR.pure ⟨rfl, h24.2⟩
  · simp only [h, ↓reduceIte]
    exact B.EvR.pure ⟨rfl, Nat.zero_le _⟩
end Go.Proofs.Ytinlbiphjgpmmaa.X
end YtinlbiphjgpmmaaXApply
section YtinlbiphjgpmmaaXVarT
namespace Go.Proofs.Ytinlbiphjgpmmaa.X
open Go Go.RowKit Go.Proofs.Ytinlbiphjgpmmaa.V Go.Proofs.Ytinlbiphjgpmmaa.P
set_option linter.all false
/-- The bytes of a number. -/
def enc : Nat → Nat → List Int
  | 0, n => [((n % 256 : Nat) : Int)]
  | f + 1, n => if n < 128 then [((n % 256 : Nat) : Int)] else ((128 + n % 128 : Nat) : Int) :: enc f (n / 128)
theorem enc_len : ∀ (f n : Nat), (enc f n).length ≤ f + 1
  | 0, n => by simp [enc]
  | f + 1, n => by
    simp only [enc]
    split
    · simp
    · simp only [List.length_cons]; have := enc_len f (n / 128); omega
theorem bytesOf_size (l : List Int) : (bytesOf l).size = l.length := by simp [bytesOf, ByteArray.size]

theorem specVarLoop : ∀ (f n : Nat) (acc : List Int), n < 128 ^ (f + 1) → n ≤ 562949953421311 → acc.length + f ≤ 100 → B.Ev (fun k => spec_Var.l0 k (n : Int) acc) (bytesOf (acc ++ enc f n)) := by
  intro f
  induction f with
  | zero =>
    intro n acc hn hm ha
    refine B.Ev.succ ?_
    simp only [Nat.zero_add, Nat.pow_one] at hn
    simp only [spec_Var.l0, show ¬ ((n : Int) ≥ 128) by omega, ↓reduceIte, show acc.length < 140737488355328 by omega, enc]
    exact B.Ev.pure _
  | succ f ih =>
    intro n acc hn hm ha
    refine B.Ev.succ ?_
    by_cases c : n < 128
    · simp only [spec_Var.l0, show ¬ ((n : Int) ≥ 128) by omega, ↓reduceIte, show acc.length < 140737488355328 by omega, enc, c]
      exact B.Ev.pure _
    · have e1 : wrap64 (Int.tdiv (n : Int) 128) = ((n / 128 : Nat) : Int) := by
        rw [show Int.tdiv (n : Int) 128 = ((n / 128 : Nat) : Int) from rfl]; exact B.wid (by omega) (by omega)
      have e2 : wrap64 (128 + Int.tmod (n : Int) 128) % 256 = ((128 + n % 128 : Nat) : Int) := by
        rw [show Int.tmod (n : Int) 128 = ((n % 128 : Nat) : Int) from rfl, B.wid (by omega) (by omega)]; omega
      simp only [spec_Var.l0, show ((n : Int) ≥ 128) by omega, ↓reduceIte, show acc.length < 140737488355328 by omega, e1, e2, enc, c]
      have hd : n / 128 < 128 ^ (f + 1) := by
        rw [Nat.div_lt_iff_lt_mul (by decide)]
        rw [Nat.pow_succ] at hn; exact hn
      have := ih (n / 128) (acc ++ [((128 + n % 128 : Nat) : Int)]) hd (by omega) (by simp only [List.length_append, List.length_cons, List.length_nil]; omega)
      simpa [List.append_assoc] using this

theorem bits_and64 {a b : Nat} (ha : a < 9223372036854775808) (hb : b < 9223372036854775808) : Go.bits .and .i64 (a : Int) (b : Int) = ((a &&& b : Nat) : Int) := by
  have h1 : a &&& b ≤ a := Nat.and_le_left
  rw [show Go.bits .and .i64 (a : Int) (b : Int) = IntKind.wrap .i64 (((BitVec.ofInt 64 (a : Int) &&& BitVec.ofInt 64 (b : Int)).toNat : Nat) : Int) from rfl, BitVec.ofInt_natCast, BitVec.ofInt_natCast, BitVec.toNat_and, BitVec.toNat_ofNat, BitVec.toNat_ofNat, Nat.mod_eq_of_lt (by omega), Nat.mod_eq_of_lt (by omega), IntKind.wrap_i64]
  exact B.wid (by omega) (by omega)
theorem bits_or64 {a b : Nat} (ha : a < 9223372036854775808) (hb : b < 9223372036854775808) : Go.bits .or .i64 (a : Int) (b : Int) = ((a ||| b : Nat) : Int) := by
  have h1 : a ||| b < 2 ^ 63 := Nat.or_lt_two_pow (by omega) (by omega)
  rw [show Go.bits .or .i64 (a : Int) (b : Int) = IntKind.wrap .i64 (((BitVec.ofInt 64 (a : Int) ||| BitVec.ofInt 64 (b : Int)).toNat : Nat) : Int) from rfl, BitVec.ofInt_natCast, BitVec.ofInt_natCast, BitVec.toNat_or, BitVec.toNat_ofNat, BitVec.toNat_ofNat, Nat.mod_eq_of_lt (by omega), Nat.mod_eq_of_lt (by omega), IntKind.wrap_i64]
  exact B.wid (by omega) (by omega)
theorem bits_and8 {a b : Nat} (ha : a < 256) (hb : b < 256) : Go.bits .and .u8 (a : Int) (b : Int) = ((a &&& b : Nat) : Int) := by
  have h1 : a &&& b ≤ a := Nat.and_le_left
  rw [show Go.bits .and .u8 (a : Int) (b : Int) = IntKind.wrap .u8 (((BitVec.ofInt 8 (a : Int) &&& BitVec.ofInt 8 (b : Int)).toNat : Nat) : Int) from rfl, BitVec.ofInt_natCast, BitVec.ofInt_natCast, BitVec.toNat_and, BitVec.toNat_ofNat, BitVec.toNat_ofNat, Nat.mod_eq_of_lt (by omega), Nat.mod_eq_of_lt (by omega), V.wrap_u8]
  omega
theorem bits_or8 {a b : Nat} (ha : a < 256) (hb : b < 256) : Go.bits .or .u8 (a : Int) (b : Int) = ((a ||| b : Nat) : Int) := by
  have h1 : a ||| b < 2 ^ 8 := Nat.or_lt_two_pow (by omega) (by omega)
  rw [show Go.bits .or .u8 (a : Int) (b : Int) = IntKind.wrap .u8 (((BitVec.ofInt 8 (a : Int) ||| BitVec.ofInt 8 (b : Int)).toNat : Nat) : Int) from rfl, BitVec.ofInt_natCast, BitVec.ofInt_natCast, BitVec.toNat_or, BitVec.toNat_ofNat, BitVec.toNat_ofNat, Nat.mod_eq_of_lt (by omega), Nat.mod_eq_of_lt (by omega), V.wrap_u8]
  omega
theorem and127 (n : Nat) : n &&& 127 = n % 128 := Nat.and_two_pow_sub_one_eq_mod n 7
theorem or128 {n : Nat} (h : n < 128) : n ||| 128 = 128 + n := by
  have := Nat.two_pow_add_eq_or_of_lt (i := 7) (b := n) h 1
  rw [Nat.mul_one] at this
  rw [Nat.or_comm]; exact this.symm
theorem shr7 (n : Nat) : shr .i64 (n : Int) 7 = ((n / 128 : Nat) : Int) := by
  rw [show shr .i64 (n : Int) 7 = Int.fdiv (n : Int) 128 from rfl, Int.fdiv_eq_ediv_of_nonneg _ (by decide)]
  omega

theorem implVarLoop : ∀ (f n : Nat) (acc : List Int), n < 128 ^ (f + 1) → n ≤ 562949953421311 → acc.length + f ≤ 100 → B.Ev (fun k => impl_Var.l0 k (n : Int) acc) (bytesOf (acc ++ enc f n)) := by
  intro f
  induction f with
  | zero =>
    intro n acc hn hm ha
    refine B.Ev.succ ?_
    simp only [Nat.zero_add, Nat.pow_one] at hn
    simp only [impl_Var.l0, show ¬ ((n : Int) > 127) by omega, ↓reduceIte, show acc.length < 140737488355328 by omega, enc]
    exact B.Ev.pure _
  | succ f ih =>
    intro n acc hn hm ha
    refine B.Ev.succ ?_
    by_cases c : n < 128
    · simp only [impl_Var.l0, show ¬ ((n : Int) > 127) by omega, ↓reduceIte, show acc.length < 140737488355328 by omega, enc, c]
      exact B.Ev.pure _
    · have e2 : Go.bits .or .u8 ((Go.bits .and .i64 (n : Int) 127) % 256) 128 = ((128 + n % 128 : Nat) : Int) := by
        have h1 : Go.bits .and .i64 (n : Int) 127 = ((n % 128 : Nat) : Int) := by
          have := bits_and64 (a := n) (b := 127) (by omega) (by decide)
          rw [and127] at this; exact this
        rw [h1, show ((n % 128 : Nat) : Int) % 256 = ((n % 128 : Nat) : Int) by omega]
        have := bits_or8 (a := n % 128) (b := 128) (by omega) (by decide)
        rw [or128 (by omega)] at this; exact this
      simp only [impl_Var.l0, show ((n : Int) > 127) by omega, ↓reduceIte, show acc.length < 140737488355328 by omega, shr7, e2, enc, c]
      have hd : n / 128 < 128 ^ (f + 1) := by
        rw [Nat.div_lt_iff_lt_mul (by decide)]
        rw [Nat.pow_succ] at hn; exact hn
      have := ih (n / 128) (acc ++ [((128 + n % 128 : Nat) : Int)]) hd (by omega) (by simp only [List.length_append, List.length_cons, List.length_nil]; omega)
      simpa [List.append_assoc] using this

/-- The bytes of a number, or none. -/
def var (n : Int) : ByteArray := if 0 ≤ n ∧ n ≤ 562949953421311 then bytesOf (enc 6 n.toNat) else ⟨#[]⟩
theorem var_size (n : Int) : (var n).size ≤ 7 := by
  unfold var
  split
  · rw [bytesOf_size]; exact enc_len 6 _
  · exact Nat.zero_le _
theorem evVar (n : Int) : B.Ev (fun k => spec_Var.f k n) (var n) := by
  simp only [spec_Var.f, l1In, Option.bind_some, decide_eq_true_eq, var]
  by_cases h : 0 ≤ n ∧ n ≤ 562949953421311
  · simp only [h, and_self, ↓reduceIte]
    obtain ⟨m, rfl⟩ : ∃ m : Nat, n = m := ⟨n.toNat, by omega⟩
    have := specVarLoop 6 m [] (by have : (128 : Nat) ^ 7 = 562949953421312 := rfl; omega) (by omega) (by simp)
    simpa using this
  · simp only [h, ↓reduceIte]; exact B.Ev.pure _
theorem evVar' (n : Int) : B.Ev (fun k => impl_Var.f k n) (var n) := by
  simp only [impl_Var.f, within, Option.bind_some, decide_eq_true_eq, var]
  by_cases h : 0 ≤ n ∧ n ≤ 562949953421311
  · simp only [h, and_self, ↓reduceIte]
    obtain ⟨m, rfl⟩ : ∃ m : Nat, n = m := ⟨n.toNat, by omega⟩
    have := implVarLoop 6 m [] (by have : (128 : Nat) ^ 7 = 562949953421312 := rfl; omega) (by omega) (by simp)
    simpa using this
  · simp only [h, ↓reduceIte]; exact B.Ev.pure _
end Go.Proofs.Ytinlbiphjgpmmaa.X
end YtinlbiphjgpmmaaXVarT
section YtinlbiphjgpmmaaXReadV
namespace Go.Proofs.Ytinlbiphjgpmmaa.X
open Go Go.RowKit Go.Proofs.Ytinlbiphjgpmmaa.V Go.Proofs.Ytinlbiphjgpmmaa.P
set_option linter.all false
def by8 (s : ByteArray) (j : Nat) : Nat := if h : j < s.size then (s[j]'h).toNat else 0
theorem by8_lt (s : ByteArray) (j : Nat) : by8 s j < 256 := by
  unfold by8
  split
  · exact UInt8.toNat_lt _
  · decide
theorem bt_by (s : ByteArray) (j : Nat) : bt s (j : Int) = (by8 s j : Int) := by
  unfold bt by8
  simp only [Int.toNat_natCast]
  split <;> rfl
/-- The number of bytes j, j + 1, .. -/
def hv (s : ByteArray) : Nat → Nat → Nat
  | _, 0 => 0
  | j, n + 1 => by8 s j % 128 + 128 * hv s (j + 1) n
def Lb (s : ByteArray) : Nat → Nat → List Int
  | _, 0 => []
  | j, n + 1 => (by8 s j : Int) :: Lb s (j + 1) n
theorem Lb_len (s : ByteArray) : ∀ (n j : Nat), (Lb s j n).length = n
  | 0, _ => rfl
  | n + 1, j => by simp only [Lb, List.length_cons, Lb_len s n]
theorem hv_snoc (s : ByteArray) : ∀ (n j : Nat), hv s j (n + 1) = hv s j n + by8 s (j + n) % 128 * 128 ^ n
  | 0, j => by simp [hv]
  | n + 1, j => by
    have ih := hv_snoc s n (j + 1)
    rw [hv, ih, hv, show j + 1 + n = j + (n + 1) by omega, Nat.pow_succ]
    generalize by8 s (j + (n + 1)) % 128 = c
    generalize 128 ^ n = p
    rw [Nat.mul_add, show 128 * (c * p) = c * (p * 128) by rw [Nat.mul_comm 128, Nat.mul_assoc]]; omega
theorem hv_lt (s : ByteArray) : ∀ (n j : Nat), hv s j n < 128 ^ n
  | 0, j => by simp [hv]
  | n + 1, j => by
    have ih := hv_lt s n (j + 1)
    rw [hv, Nat.pow_succ]
    omega
theorem hv_zero (s : ByteArray) (n j : Nat) (h : hv s j (n + 1) = 0) : by8 s (j + n) % 128 = 0 := by
  rw [hv_snoc] at h
  have h1 : by8 s (j + n) % 128 * 128 ^ n = 0 := by omega
  rcases Nat.mul_eq_zero.1 h1 with h2 | h2
  · exact h2
  · have := Nat.pow_pos (n := n) (show 0 < 128 by decide); omega
theorem enc_small {f n : Nat} (h : n < 128) : enc f n = [(n : Int)] := by
  cases f <;> simp only [enc, h, ↓reduceIte] <;> rw [Nat.mod_eq_of_lt (by omega)]
theorem enc_iff (s : ByteArray) : ∀ (n f j : Nat), n ≤ f → (∀ t, t < n → 128 ≤ by8 s (j + t)) → (enc f (hv s j (n + 1)) = Lb s j (n + 1) ↔ by8 s (j + n) < 128 ∧ (n = 0 ∨ by8 s (j + n) ≠ 0)) := by
  intro n
  induction n with
  | zero =>
    intro f j _ _
    have hb := by8_lt s j
    rw [hv, hv, Nat.mul_zero, Nat.add_zero, enc_small (by omega)]
    simp only [Lb, List.cons.injEq, and_true, Nat.add_zero, true_or, Int.natCast_inj]
    omega
  | succ n ih =>
    intro f j hf hg
    obtain ⟨f, rfl⟩ : ∃ m, f = m + 1 := ⟨f - 1, by omega⟩
    have hb := by8_lt s j
    have hb0 := hg 0 (by omega)
    rw [Nat.add_zero] at hb0
    have ih := ih f (j + 1) (by omega) (fun t ht => by have := hg (t + 1) (by omega); rw [show j + 1 + t = j + (t + 1) by omega]; exact this)
    rw [show j + 1 + n = j + (n + 1) by omega] at ih
    have hlast := by8_lt s (j + (n + 1))
    rw [hv]
    generalize hv' : hv s (j + 1) (n + 1) = v at *
    rcases Nat.eq_zero_or_pos v with h0 | h0
    · subst h0
      have hz := hv_zero s n (j + 1) hv'
      rw [show j + 1 + n = j + (n + 1) by omega] at hz
      rw [Nat.mul_zero, Nat.add_zero, enc_small (by omega)]
      constructor
      · intro h
        have := congrArg List.length h
        rw [Lb_len] at this
        simp at this
      · intro ⟨h1, h2⟩
        rcases h2 with h2 | h2
        · omega
        · omega
    · have hv2 : ¬ (by8 s j % 128 + 128 * v < 128) := by omega
      have e1 : (by8 s j % 128 + 128 * v) / 128 = v := by omega
      have e2 : (by8 s j % 128 + 128 * v) % 128 = by8 s j % 128 := by omega
      rw [enc, if_neg hv2, e1, e2, Lb, List.cons.injEq, ih]
      have e3 : ((128 + by8 s j % 128 : Nat) : Int) = (by8 s j : Int) := by omega
      constructor
      · intro ⟨_, h1, h2⟩
        refine ⟨h1, .inr ?_⟩
        rcases h2 with h2 | h2
        · subst h2
          have hx := hv_snoc s 0 (j + 1)
          rw [hv'] at hx
          simp [hv] at hx
          intro h3
          rw [h3] at hx
          simp at hx
          omega
        · exact h2
      · intro ⟨h1, h2⟩
        exact ⟨e3, h1, .inr (h2.resolve_left (by omega))⟩
/-- All bytes of a number but the last are great. -/
theorem enc_big : ∀ (f v t : Nat) (x : Int), (enc f v)[t]? = some x → t + 1 < (enc f v).length → 128 ≤ x
  | 0, v, t, x, _, h2 => by simp [enc] at h2
  | f + 1, v, t, x, h1, h2 => by
    simp only [enc] at h1 h2
    split at h1
    · rename_i c; simp [c] at h2
    · rename_i c
      rw [if_neg c] at h2
      cases t with
      | zero => simp only [List.getElem?_cons_zero, Option.some.injEq] at h1; omega
      | succ t => exact enc_big f (v / 128) t x (by simpa using h1) (by simpa using h2)
theorem Lb_at (s : ByteArray) : ∀ (n j t : Nat), t < n → (Lb s j n)[t]? = some (by8 s (j + t) : Int)
  | 0, j, t, h => by omega
  | n + 1, j, 0, h => by simp [Lb]
  | n + 1, j, t + 1, h => by
    simp only [Lb, List.getElem?_cons_succ]
    rw [Lb_at s n (j + 1) t (by omega), show j + 1 + t = j + (t + 1) by omega]
theorem enc_no (s : ByteArray) {n f t : Nat} (ht : t < n) (h : by8 s t < 128) : enc f (hv s 0 (n + 1)) ≠ Lb s 0 (n + 1) := by
  intro e
  have h1 := Lb_at s (n + 1) 0 t (by omega)
  rw [← e] at h1
  have := enc_big f _ t _ h1 (by rw [e, Lb_len]; omega)
  rw [Nat.zero_add] at this
  omega

theorem bytesOf_inj : ∀ {a b : List Int}, (∀ x ∈ a, 0 ≤ x ∧ x < 256) → (∀ x ∈ b, 0 ≤ x ∧ x < 256) → bytesOf a = bytesOf b → a = b := by
  intro a b ha hb h
  have h1 : (a.map fun n => UInt8.ofNat n.toNat) = b.map fun n => UInt8.ofNat n.toNat := by
    have := congrArg (fun x => x.data.toList) h
    simpa [bytesOf] using this
  have hl : a.length = b.length := by simpa using congrArg List.length h1
  apply List.ext_getElem hl
  intro i h2 h3
  have h4 : (a.map fun n => UInt8.ofNat n.toNat)[i]? = (b.map fun n => UInt8.ofNat n.toNat)[i]? := by rw [h1]
  simp only [List.getElem?_map, List.getElem?_eq_getElem h2, List.getElem?_eq_getElem h3, Option.map_some, Option.some.injEq] at h4
  have h5 := congrArg UInt8.toNat h4
  simp only [UInt8.toNat_ofNat'] at h5
  have := ha _ (List.getElem_mem h2)
  have := hb _ (List.getElem_mem h3)
  omega
theorem enc_in : ∀ (f v : Nat), ∀ x ∈ enc f v, 0 ≤ x ∧ x < 256
  | 0, v, x, hx => by simp only [enc, List.mem_singleton] at hx; omega
  | f + 1, v, x, hx => by
    simp only [enc] at hx
    split at hx
    · simp only [List.mem_singleton] at hx; omega
    · rcases List.mem_cons.1 hx with h | h
      · omega
      · exact enc_in f _ x h
theorem Lb_in (s : ByteArray) : ∀ (n j : Nat), ∀ x ∈ Lb s j n, 0 ≤ x ∧ x < 256
  | 0, j, x, hx => by simp [Lb] at hx
  | n + 1, j, x, hx => by
    rcases List.mem_cons.1 hx with h | h
    · have := by8_lt s j; omega
    · exact Lb_in s n _ x h
theorem bytesOf_Lb (s : ByteArray) {m : Nat} (h : m ≤ s.size) : bytesOf (Lb s 0 m) = s.extract 0 m := by
  apply ByteArray.ext
  apply Array.ext_getElem?
  intro i
  rw [ByteArray.data_extract]
  simp only [bytesOf, List.getElem?_toArray, List.getElem?_map, Array.getElem?_extract]
  have hs : s.data.size = s.size := rfl
  by_cases hi : i < m
  · rw [Lb_at s m 0 i hi, if_pos (by omega), Array.getElem?_eq_getElem (by omega)]
    simp only [Option.map_some, Nat.zero_add, by8, show i < s.size by omega, ↓reduceDIte, Int.toNat_natCast]
    congr 1
    exact UInt8.ofNat_toNat
  · rw [List.getElem?_eq_none (by rw [Lb_len]; omega), if_neg (by omega)]; rfl

/-- What ReadVar answers: from the i-th byte on, with so many to look at. -/
def rvGo (s : ByteArray) : Nat → Nat → Int × Int
  | 0, _ => (0, 0)
  | f + 1, i => if by8 s i < 128 then (if 0 < i ∧ by8 s i = 0 then (0, 0) else ((hv s 0 (i + 1) : Int), ((i + 1 : Nat) : Int))) else rvGo s f (i + 1)
def rv (s : ByteArray) : Int × Int := rvGo s (min 7 s.size) 0
theorem rvGo_in (s : ByteArray) : ∀ (f i : Nat), i + f ≤ 7 → i + f ≤ s.size → 0 ≤ (rvGo s f i).1 ∧ (rvGo s f i).1 ≤ 562949953421311 ∧ 0 ≤ (rvGo s f i).2 ∧ (rvGo s f i).2 ≤ (s.size : Int) ∧ (rvGo s f i).2 ≤ 7
  | 0, i, _, _ => by simp [rvGo]
  | f + 1, i, h, h2 => by
    simp only [rvGo]
    split
    · split
      · simp
      · have h3 := hv_lt s (i + 1) 0
        have h4 : 128 ^ (i + 1) ≤ 128 ^ 7 := Nat.pow_le_pow_right (by decide) (by omega)
        have h5 : (128 : Nat) ^ 7 = 562949953421312 := rfl
        simp only; omega
    · exact rvGo_in s f (i + 1) (by omega) (by omega)
theorem rv_in (s : ByteArray) : 0 ≤ (rv s).1 ∧ (rv s).1 ≤ 562949953421311 ∧ 0 ≤ (rv s).2 ∧ (rv s).2 ≤ (s.size : Int) ∧ (rv s).2 ≤ 7 := rvGo_in s _ 0 (by omega) (by omega)

theorem hv_max (s : ByteArray) {n : Nat} (h : n ≤ 7) (j : Nat) : hv s j n ≤ 562949953421311 := by
  have h3 := hv_lt s n j
  have h4 : 128 ^ n ≤ 128 ^ 7 := Nat.pow_le_pow_right (by decide) h
  have h5 : (128 : Nat) ^ 7 = 562949953421312 := rfl
  omega
theorem read_and (b : Nat) (hb : b < 256) : Go.bits .and .u8 (b : Int) 127 = ((b % 128 : Nat) : Int) := by
  have := bits_and8 (a := b) (b := 127) hb (by decide)
  rw [and127] at this; exact this
theorem pow_le6 {i : Nat} (hi : i ≤ 6) : 128 ^ i ≤ 4398046511104 := Nat.le_trans (Nat.pow_le_pow_right (by decide) hi) (by decide)
theorem mul_max {c i : Nat} (hc : c < 128) (hi : i ≤ 6) : c * 128 ^ i ≤ 558551906910208 := Nat.mul_le_mul (show c ≤ 127 by omega) (pow_le6 hi)
theorem read_shl {c i : Nat} (hc : c < 128) (hi : i ≤ 6) : shl .i64 (wrap64 (c : Int)) ((7 * i : Nat) : Int) = ((c * 128 ^ i : Nat) : Int) := by
  have hm := mul_max hc hi
  have hp : 128 ^ i = 2 ^ (7 * i) := by rw [Nat.pow_mul]
  have e : min (7 * i) IntKind.i64.bits = 7 * i := by simp only [IntKind.bits]; omega
  rw [B.wid (by omega) (by omega), shl, Int.toNat_natCast, e, IntKind.wrap_i64]
  have e2 : (c : Int) * 2 ^ (7 * i) = ((c * 128 ^ i : Nat) : Int) := by rw [hp]; push_cast; rfl
  rw [e2]
  exact B.wid (by omega) (by omega)
theorem read_or {c v i : Nat} (hc : c < 128) (hv : v < 128 ^ i) (hi : i ≤ 6) : Go.bits .or .i64 (v : Int) ((c * 128 ^ i : Nat) : Int) = ((v + c * 128 ^ i : Nat) : Int) := by
  have hm := mul_max hc hi
  have h6 := pow_le6 hi
  rw [bits_or64 (by omega) (by omega)]
  have hp : 128 ^ i = 2 ^ (7 * i) := by rw [Nat.pow_mul]
  have := Nat.two_pow_add_eq_or_of_lt (i := 7 * i) (b := v) (by rw [← hp]; exact hv) c
  rw [← hp, Nat.mul_comm] at this
  rw [Nat.or_comm, ← this, Nat.add_comm]
theorem read_step (s : ByteArray) {i : Nat} (hi : i ≤ 6) : Go.bits .or .i64 (hv s 0 i : Int) (shl .i64 (wrap64 (Go.bits .and .u8 (by8 s i : Int) 127)) ((7 * i : Nat) : Int)) = (hv s 0 (i + 1) : Int) := by
  rw [read_and _ (by8_lt s i), read_shl (Nat.mod_lt _ (by decide)) hi, read_or (Nat.mod_lt _ (by decide)) (hv_lt s i 0) hi, hv_snoc, Nat.zero_add]

theorem w7 {i : Nat} (hi : i ≤ 6) : wrap64 (7 * (i : Int)) = ((7 * i : Nat) : Int) := by rw [B.wid (by omega) (by omega)]; omega
theorem implReadLoop (s : ByteArray) : ∀ (f i : Nat), i + f = min 7 s.size → B.Ev (fun k => impl_ReadVar.l0 k s (hv s 0 i : Int) ((min 7 s.size : Nat) : Int) (i : Int)) (rvGo s f i) := by
  intro f
  induction f with
  | zero =>
    intro i hi
    refine B.Ev.succ ?_
    simp only [impl_ReadVar.l0, show ¬ ((i : Int) < ((min 7 s.size : Nat) : Int)) by omega, ↓reduceIte, rvGo]
    exact B.Ev.pure _
  | succ f ih =>
    intro i hi
    refine B.Ev.succ ?_
    have a1 : (i : Int) < ((min 7 s.size : Nat) : Int) := by omega
    have a2 : 0 ≤ (i : Int) := by omega
    have a3 : (i : Int) < (s.size : Int) := by omega
    have a4 : (0 : Int) ≤ ((7 * i : Nat) : Int) := by omega
    have hmax : ¬ ((hv s 0 (i + 1) : Int) > 562949953421311) := by
      have := hv_max s (n := i + 1) (by omega) 0
      omega
    have hw := B.wsucc (show i < 9223372036854775807 by omega)
    have h6 : i ≤ 6 := by omega
    have e3 := read_step s h6
    have e7 : wrap64 (7 * (i : Int)) = ((7 * i : Nat) : Int) := w7 h6
    simp only [impl_ReadVar.l0, a1, a2, a3, ↓reduceIte, bt_by, e7, a4, e3, hmax, hw, rvGo]
    clear hw e3 e7
    by_cases c : by8 s i < 128
    · have c' : (by8 s i : Int) < 128 := by omega
      simp only [c, c', ↓reduceIte]
      by_cases d : 0 < i
      · have d' : (i : Int) > 0 := by omega
        by_cases z : by8 s i = 0
        · have z' : (by8 s i : Int) = 0 := by omega
          simp only [d, d', z, z', ↓reduceIte, and_self]
          exact B.Ev.pure _
        · have z' : ¬ (by8 s i : Int) = 0 := by omega
          simp only [d, d', z, z', ↓reduceIte, and_false]
          exact B.Ev.pure _
      · have d' : ¬ (i : Int) > 0 := by omega
        simp only [d, d', ↓reduceIte, false_and]
        exact B.Ev.pure _
    · have c' : ¬ (by8 s i : Int) < 128 := by omega
      simp only [c, c', ↓reduceIte]
      exact ih (i + 1) (by omega)
theorem evReadVar' (s : ByteArray) : B.Ev (fun k => impl_ReadVar.f k s) (rv s) := by
  have h := implReadLoop s (min 7 s.size) 0 (by omega)
  simp only [impl_ReadVar.f]
  have e : mn (s.size : Int) 7 = ((min 7 s.size : Nat) : Int) := by unfold mn; split <;> omega
  rw [e]
  exact h

theorem specHorner (s : ByteArray) (m : Nat) (hm : m ≤ 7) (hs : m ≤ s.size) {v : Int × Int} (hk : B.Ev (fun k => spec_ReadVar.l1 k s (m : Int) (hv s 0 m : Int) (-1)) v) : ∀ (j : Nat), j ≤ m → B.Ev (fun k => spec_ReadVar.l1 k s (m : Int) (hv s j (m - j) : Int) ((j : Int) - 1)) v := by
  intro j
  induction j with
  | zero => intro _; exact hk
  | succ j ih =>
    intro hj
    refine B.Ev.succ ?_
    have e0 : ((j + 1 : Nat) : Int) - 1 = (j : Int) := by omega
    have hlt := hv_lt s (m - (j + 1)) (j + 1)
    have hle : 128 ^ (m - (j + 1)) ≤ 128 ^ 6 := Nat.pow_le_pow_right (by decide) (by omega)
    have h6 : (128 : Nat) ^ 6 = 4398046511104 := rfl
    have hb := by8_lt s j
    have e1 : wrap64 ((hv s (j + 1) (m - (j + 1)) : Int) * 128) = (hv s (j + 1) (m - (j + 1)) : Int) * 128 := B.wid (by omega) (by omega)
    have e2 : Int.tmod (wrap64 (by8 s j : Int)) 128 = ((by8 s j % 128 : Nat) : Int) := by rw [B.wid (by omega) (by omega)]; rfl
    have e3 : wrap64 ((hv s (j + 1) (m - (j + 1)) : Int) * 128 + ((by8 s j % 128 : Nat) : Int)) = (hv s j (m - j) : Int) := by
      rw [B.wid (by omega) (by omega), show m - j = (m - (j + 1)) + 1 by omega, hv]; omega
    have e4 : wrap64 ((j : Int) - 1) = (j : Int) - 1 := B.wid (by omega) (by omega)
    simp only [spec_ReadVar.l1, e0, show ((j : Int) ≥ 0) by omega, show (0 : Int) ≤ (j : Int) by omega, show (j : Int) < (s.size : Int) by omega, ↓reduceIte, bt_by, e1, e2, e3, e4]
    exact ih (by omega)
/-- One length is tried. -/
theorem specTry (s : ByteArray) {i : Nat} (h7 : i < 7) (hs : i < s.size) {v : Int × Int} (hv : if enc 6 (hv s 0 (i + 1)) = Lb s 0 (i + 1) then v = ((hv s 0 (i + 1) : Int), ((i + 1 : Nat) : Int)) else B.Ev (fun k => spec_ReadVar.l0 k s ((i + 1 + 1 : Nat) : Int)) v) :
    B.Ev (fun k => spec_ReadVar.l0 k s ((i + 1 : Nat) : Int)) v := by
  refine B.Ev.succ ?_
  have e1 : wrap64 (((i + 1 : Nat) : Int) - 1) = ((i + 1 : Nat) : Int) - 1 := B.wid (by omega) (by omega)
  simp only [spec_ReadVar.l0, show (((i + 1 : Nat) : Int) ≤ 7) by omega, show (((i + 1 : Nat) : Int) ≤ (s.size : Int)) by omega, ↓reduceIte, e1]
  have := specHorner s (i + 1) (by omega) (by omega) (v := v) ?_ (i + 1) (Nat.le_refl _)
  · rw [Nat.sub_self] at this; exact this
  · refine B.Ev.succ ?_
    simp only [spec_ReadVar.l1, show ¬ ((-1 : Int) ≥ 0) by decide, ↓reduceIte, show (0 : Int) ≤ ((i + 1 : Nat) : Int) by omega, show (((i + 1 : Nat) : Int) ≤ (s.size : Int)) by omega, Int.toNat_natCast, B.wsucc (show i + 1 < 9223372036854775807 by omega)]
    refine B.Ev.bind (evVar _) ?_
    have h3 := hv_lt s (i + 1) 0
    have h4 : 128 ^ (i + 1) ≤ 128 ^ 7 := Nat.pow_le_pow_right (by decide) (by omega)
    have h5 : (128 : Nat) ^ 7 = 562949953421312 := rfl
    have e2 : var (X.hv s 0 (i + 1) : Int) = bytesOf (enc 6 (X.hv s 0 (i + 1))) := by unfold var; rw [if_pos (by omega), Int.toNat_natCast]
    have e3 : (bytesOf (enc 6 (X.hv s 0 (i + 1))) = s.extract 0 (i + 1)) ↔ enc 6 (X.hv s 0 (i + 1)) = Lb s 0 (i + 1) := by
      rw [← bytesOf_Lb s (by omega)]
      exact ⟨fun h => bytesOf_inj (enc_in _ _) (Lb_in s _ _) h, fun h => by rw [h]⟩
    simp only [e2, e3]
    by_cases c : enc 6 (X.hv s 0 (i + 1)) = Lb s 0 (i + 1)
    · simp only [c, ↓reduceIte] at hv ⊢
      subst hv
      exact B.Ev.pure _
    · simp only [c, ↓reduceIte] at hv ⊢
      exact hv
theorem specEnd (s : ByteArray) {i : Nat} (h : ¬ (i < 7 ∧ i < s.size)) (hi : i ≤ 7) : B.Ev (fun k => spec_ReadVar.l0 k s ((i + 1 : Nat) : Int)) (0, 0) := by
  refine B.Ev.succ ?_
  by_cases c : i < 7
  · simp only [spec_ReadVar.l0, show (((i + 1 : Nat) : Int) ≤ 7) by omega, show ¬ (((i + 1 : Nat) : Int) ≤ (s.size : Int)) by omega, ↓reduceIte]
    exact B.Ev.pure _
  · simp only [spec_ReadVar.l0, show ¬ (((i + 1 : Nat) : Int) ≤ 7) by omega, ↓reduceIte]
    exact B.Ev.pure _
/-- Behind a byte that ends a number nothing is found. -/
theorem specRest (s : ByteArray) {t : Nat} (ht : by8 s t < 128) : ∀ (f i : Nat), t < i → i + f = min 7 s.size → B.Ev (fun k => spec_ReadVar.l0 k s ((i + 1 : Nat) : Int)) (0, 0) := by
  intro f
  induction f with
  | zero => intro i _ hi; exact specEnd s (by omega) (by omega)
  | succ f ih =>
    intro i h1 hi
    refine specTry s (by omega) (by omega) ?_
    rw [if_neg (enc_no s h1 ht)]
    exact ih (i + 1) (by omega) (by omega)
theorem specReadLoop (s : ByteArray) : ∀ (f i : Nat), i + f = min 7 s.size → (∀ t, t < i → 128 ≤ by8 s t) → B.Ev (fun k => spec_ReadVar.l0 k s ((i + 1 : Nat) : Int)) (rvGo s f i) := by
  intro f
  induction f with
  | zero => intro i hi _; exact specEnd s (by omega) (by omega)
  | succ f ih =>
    intro i hi hg
    refine specTry s (by omega) (by omega) ?_
    have := enc_iff s i 6 0 (by omega) (fun t ht => by rw [Nat.zero_add]; exact hg t ht)
    rw [Nat.zero_add] at this
    simp only [this, rvGo]
    by_cases c : by8 s i < 128
    · by_cases d : i = 0 ∨ by8 s i ≠ 0
      · simp only [c, d, and_self, ↓reduceIte]
        rw [if_neg (by omega)]
      · simp only [c, d, and_false, ↓reduceIte]
        rw [if_pos (by omega)]
        exact specRest s c f (i + 1) (by omega) (by omega)
    · simp only [c, false_and, ↓reduceIte]
      exact ih (i + 1) (by omega) (fun t ht => by
        rcases Nat.lt_or_ge t i with h | h
        · exact hg t h
        · obtain rfl : t = i := by omega
          omega)
theorem evReadVar (s : ByteArray) : B.Ev (fun k => spec_ReadVar.f k s) (rv s) := specReadLoop s (min 7 s.size) 0 (by omega) (fun t h => by omega)
end Go.Proofs.Ytinlbiphjgpmmaa.X
end YtinlbiphjgpmmaaXReadV
section YtinlbiphjgpmmaaXGetT
namespace Go.Proofs.Ytinlbiphjgpmmaa.X
open Go Go.RowKit Go.Proofs.Ytinlbiphjgpmmaa.V Go.Proofs.Ytinlbiphjgpmmaa.P
set_option linter.all false
theorem ext_size (s : ByteArray) {a : Nat} (h : a ≤ s.size) : (s.extract a s.size).size = s.size - a := by rw [ByteArray.size_extract, Nat.min_self]
theorem ext_ext (s : ByteArray) {a b : Nat} (h : a + b ≤ s.size) : (s.extract a s.size).extract b (s.extract a s.size).size = s.extract (a + b) s.size := by
  rw [ext_size s (by omega), ByteArray.extract_extract, show a + (s.size - a) = s.size by omega, Nat.min_self]
theorem ext_nil (s : ByteArray) {a : Nat} (h : a ≤ s.size) : s.extract a s.size = ⟨#[]⟩ ↔ a = s.size := by
  constructor
  · intro e
    have := congrArg ByteArray.size e
    rw [ext_size s h] at this
    have h0 : (⟨#[]⟩ : ByteArray).size = 0 := rfl
    omega
  · intro e; subst e
    apply ByteArray.ext
    rw [ByteArray.data_extract]
    apply Array.eq_empty_of_size_eq_zero
    simp
/-- What is read from a place on. -/
def rva (s : ByteArray) (a : Nat) : Int × Int := rv (s.extract a s.size)
theorem rva_in (s : ByteArray) {a : Nat} (h : a ≤ s.size) : 0 ≤ (rva s a).1 ∧ (rva s a).1 ≤ 562949953421311 ∧ 0 ≤ (rva s a).2 ∧ (a : Int) + (rva s a).2 ≤ (s.size : Int) := by
  have := rv_in (s.extract a s.size)
  rw [ext_size s h] at this
  unfold rva
  omega
theorem evNum (s : ByteArray) (hs : s.size ≤ 9223372036854775807) {a : Nat} (h : a ≤ s.size) : B.Ev (fun k => spec_l4Num.f k s (a : Int)) (if (rva s a).2 = 0 then (0, -1) else ((rva s a).1, (a : Int) + (rva s a).2)) := by
  simp only [spec_l4Num.f, show (0 : Int) ≤ (a : Int) by omega, show (a : Int) ≤ (s.size : Int) by omega, ↓reduceIte, Int.toNat_natCast]
  refine B.Ev.bind (evReadVar _) ?_
  have hb := rva_in s h
  have e : rv (s.extract a s.size) = rva s a := rfl
  have ew : wrap64 ((a : Int) + (rva s a).2) = (a : Int) + (rva s a).2 := B.wid (by omega) (by omega)
  simp only [e, ew]
  by_cases c : (rva s a).2 = 0
  · simp only [c, ↓reduceIte]; exact B.Ev.pure _
  · simp only [c, ↓reduceIte]; exact B.Ev.pure _
theorem okUpto_app {l r : List S105} {n : Nat} (h : n ≤ l.length) : okUpto (l ++ r) n = okUpto l n := by
  have hd : ∀ i, i < l.length → (l ++ r).getD i z105 = l.getD i z105 := fun i hi => by
    rw [List.getD_eq_getElem?_getD, List.getD_eq_getElem?_getD, List.getElem?_append_left hi]
  unfold okUpto
  rw [Bool.eq_iff_iff, List.all_eq_true, List.all_eq_true]
  have : ∀ i, i < n → okAt (l ++ r) i = okAt l i := fun i hi => by
    unfold okAt lab dep
    rw [hd i (by omega), hd (i - 1) (by omega)]
  constructor
  · intro hh i hi; rw [← this i (List.mem_range.1 hi)]; exact hh i hi
  · intro hh i hi; rw [this i (List.mem_range.1 hi)]; exact hh i hi
theorem last_dep {l : List S105} {x : S105} {i : Nat} (h : l.length = i) : (l ++ [x]).getD i z105 = x := by
  subst h; rw [List.getD_eq_getElem?_getD, List.getElem?_append_right (Nat.le_refl _)]; simp
theorem prev_dep {l : List S105} {x : S105} {i : Nat} (h : i < l.length) : (l ++ [x]).getD i z105 = l.getD i z105 := by
  rw [List.getD_eq_getElem?_getD, List.getD_eq_getElem?_getD, List.getElem?_append_left h]

/-- The place behind a number that is read at a place. -/
def nxt (s : ByteArray) (a : Nat) : Nat := a + (rva s a).2.toNat
theorem nxt_le (s : ByteArray) {a : Nat} (h : a ≤ s.size) : nxt s a ≤ s.size := by have := rva_in s h; unfold nxt; omega
theorem nxt_cast (s : ByteArray) {a : Nat} (h : a ≤ s.size) : (a : Int) + (rva s a).2 = (nxt s a : Int) := by have := rva_in s h; unfold nxt; omega
def depOk (l : List S105) (d : Int) : Bool := decide ((d = 0 ↔ l.length = 0) ∧ (l.length = 0 ∨ d ≤ dep l (l.length - 1) + 1))
def nodeR (s : ByteArray) (a : Nat) (l : List S105) : List S105 × ByteArray × Int :=
  if (rva s a).2 = 0 then (l, s.extract a s.size, 1)
  else if ¬ (0 ≤ (rva s a).1 ∧ (rva s a).1 ≤ 5) then (l, s.extract a s.size, 3)
  else if (rva s (nxt s a)).2 = 0 then (l ++ [⟨(rva s a).1, (rva s (nxt s a)).1⟩], s.extract (nxt s a) s.size, 1)
  else if (rva s (nxt s a)).1 > 12 then (l ++ [⟨(rva s a).1, (rva s (nxt s a)).1⟩], s.extract (nxt s a) s.size, 4)
  else if depOk l (rva s (nxt s a)).1 = true then (l ++ [⟨(rva s a).1, (rva s (nxt s a)).1⟩], s.extract (nxt s (nxt s a)) s.size, 0)
  else (l ++ [⟨(rva s a).1, (rva s (nxt s a)).1⟩], s.extract (nxt s a) s.size, 5)
theorem depthOk_app {l : List S105} {x : S105} (hok : okUpto l l.length = true) (hl : l.length ≤ 24) (hx : 0 ≤ x.f1) : impl_depthOk.f (l ++ [x]) (l.length : Int) = some (depOk l x.f1) := by
  have hll : ((l ++ [x]).length : Int) = (l.length : Int) + 1 := by simp
  unfold impl_depthOk.f
  rw [hll]
  rcases Nat.eq_zero_or_pos l.length with h0 | h0
  · have : l = [] := List.eq_nil_of_length_eq_zero h0
    subst this
    simp only [List.length_nil, show (((0 : Nat) : Int) = 0) from rfl, ↓reduceIte, show (0 : Int) < ((0 : Nat) : Int) + 1 by decide, List.nil_append, depOk, true_or, and_true, iff_true, show (0 : Int) < (0 : Int) + 1 by decide]
    show some (x.f1 == 0) = _
    rw [Option.some.injEq, Bool.eq_iff_iff]; simp
  · have ew : wrap64 ((l.length : Int) - 1) = ((l.length - 1 : Nat) : Int) := by unfold wrap64; omega
    have hp := (okAt_iff.1 (okUpto_at hok (i := l.length - 1) (by omega))).2.1
    rw [if_neg (by omega), if_pos (by omega), if_pos (by omega), ew, if_pos (by omega), if_pos (by omega), rdNode, rdNode, last_dep rfl, prev_dep (by omega)]
    have e2 : dep l (l.length - 1) = (l.getD (l.length - 1) z105).f1 := rfl
    rw [← e2, within, B.wid (by omega) (by omega)]
    simp only [Option.bind_some, Option.some.injEq, depOk]
    congr 1
    apply propext
    omega
theorem depthOk_mk {l : List S105} {u v : Int} (hok : okUpto l l.length = true) (hl : l.length ≤ 24) (hx : 0 ≤ v) : impl_depthOk.f (l ++ [(⟨u, v⟩ : S105)]) (l.length : Int) = some (depOk l v) := depthOk_app hok hl hx
theorem evNode (s : ByteArray) {a : Nat} (ha : a ≤ s.size) {l : List S105} (hl : l.length ≤ 24) (hok : okUpto l l.length = true) : B.Ev (fun k => impl_getNode.f k l (s.extract a s.size)) (nodeR s a l) := by
  simp only [impl_getNode.f]
  refine B.Ev.bind (evReadVar' _) ?_
  have hb := rva_in s ha
  have hn := nxt_le s ha
  rw [show rv (s.extract a s.size) = rva s a from rfl]
  by_cases c1 : (rva s a).2 = 0
  · simp only [c1, ↓reduceIte, nodeR]; exact B.Ev.pure _
  · simp only [c1, ↓reduceIte, nodeR, implLabelOk, Option.bind_some, decide_eq_true_eq]
    by_cases c2 : 0 ≤ (rva s a).1 ∧ (rva s a).1 ≤ 5
    · have e1 : (s.extract a s.size).extract (rva s a).2.toNat (s.extract a s.size).size = s.extract (nxt s a) s.size := ext_ext s (by omega)
      have h1 : (rva s a).2 ≤ ((s.extract a s.size).size : Int) := by rw [ext_size s ha]; omega
      simp only [c2, and_self, ↓reduceIte, not_true_eq_false, e1, h1, show 0 ≤ (rva s a).2 by omega]
      refine B.Ev.bind (evReadVar' _) ?_
      rw [show rv (s.extract (nxt s a) s.size) = rva s (nxt s a) from rfl]
      have hb2 := rva_in s hn
      simp only [show l.length < 8796093022208 by omega, ↓reduceIte, Option.bind_some]
      by_cases c3 : (rva s (nxt s a)).2 = 0
      · simp only [c3, ↓reduceIte]; exact B.Ev.pure _
      · by_cases c4 : (rva s (nxt s a)).1 > 12
        · simp only [c3, c4, ↓reduceIte]; exact B.Ev.pure _
        · have e2 : wrap64 (((l ++ [(⟨(rva s a).1, (rva s (nxt s a)).1⟩ : S105)]).length : Int) - 1) = (l.length : Int) := by
            rw [List.length_append, List.length_singleton]; unfold wrap64; omega
          have e3 : (s.extract (nxt s a) s.size).extract (rva s (nxt s a)).2.toNat (s.extract (nxt s a) s.size).size = s.extract (nxt s (nxt s a)) s.size := ext_ext s (by omega)
          have h3 : (rva s (nxt s a)).2 ≤ ((s.extract (nxt s a) s.size).size : Int) := by rw [ext_size s hn]; omega
          simp only [c3, c4, ↓reduceIte, e2, depthOk_mk hok hl hb2.1, Option.bind_some]
          by_cases c5 : depOk l (rva s (nxt s a)).1 = true
          · simp only [c5, ↓reduceIte, e3, h3, show 0 ≤ (rva s (nxt s a)).2 by omega]; exact B.Ev.pure _
          · simp only [c5, ↓reduceIte, Bool.false_eq_true]; exact B.Ev.pure _
    · simp only [c2, ↓reduceIte, not_false_eq_true]; exact B.Ev.pure _

theorem getLoop (s : ByteArray) (hs : s.size ≤ 9223372036854775807) {n : Nat} (hn : n ≤ 24) (hn1 : 1 ≤ n) : ∀ (d i a : Nat) (l : List S105), n - i = d → i ≤ n → l.length = i → okUpto l i = true → a ≤ s.size →
    B.EvR (fun k => spec_GetTree.l0 k s l (n : Int) (a : Int) (i : Int)) (fun k => impl_GetTree.l0 k l (s.extract a s.size) (n : Int) (i : Int)) (fun u v => u = v ∧ (u.2 = 0 → okT u.1 = true)) := by
  intro d
  induction d with
  | zero =>
    intro i a l hd hi hl hok ha
    refine B.EvR.succL (B.EvR.succR ?_)
    have hin : i = n := by omega
    subst hin
    simp only [spec_GetTree.l0, impl_GetTree.l0, Int.lt_irrefl, ↓reduceIte, ext_nil s ha]
    by_cases c : a = s.size
    · have c' : (a : Int) = (s.size : Int) := by omega
      simp only [c, c', ↓reduceIte]
      refine B.EvR.pure ⟨rfl, fun _ => ?_⟩
      unfold okT
      rw [hl, hok]
      simp; omega
    · have c' : ¬ (a : Int) = (s.size : Int) := by omega
      simp only [c, c', ↓reduceIte]
      exact B.EvR.pure ⟨rfl, fun h => by cases h⟩
  | succ d ih =>
    intro i a l hd hi hl hok ha
    refine B.EvR.succL (B.EvR.succR ?_)
    have a1 : (i : Int) < (n : Int) := by omega
    have hw := B.wsucc (show i < 9223372036854775807 by omega)
    have hb := rva_in s ha
    have hn' := nxt_le s ha
    have hb2 := rva_in s hn'
    have ec := nxt_cast s ha
    have ec2 := nxt_cast s hn'
    have ewi : ∀ {i : Nat}, 0 < i → i ≤ 24 → wrap64 ((i : Int) - 1) = ((i - 1 : Nat) : Int) := fun {i} h1 h2 => by unfold wrap64; omega
    simp only [spec_GetTree.l0, impl_GetTree.l0, a1, ↓reduceIte, hw]
    clear hw
    refine B.EvR.bindL (evNum s hs ha) ?_
    refine B.EvR.bindR (evNode s ha (l := l) (by omega) (by rw [hl]; exact hok)) ?_
    have L24 : l.length < 8796093022208 := by omega
    by_cases c1 : (rva s a).2 = 0
    · simp only [c1, ↓reduceIte, nodeR, show ((-1 : Int) < 0) by decide, show ¬ ((1 : Int) = 0) by decide]
      exact B.EvR.pure ⟨rfl, fun h => by cases h⟩
    · simp only [c1, ↓reduceIte, nodeR, ec, show ¬ ((nxt s a : Int) < 0) by omega, specLabelOk, Option.bind_some, decide_eq_true_eq]
      by_cases c2 : 0 ≤ (rva s a).1 ∧ (rva s a).1 ≤ 5
      · simp only [c2, and_self, ↓reduceIte, not_true_eq_false]
        refine B.EvR.bindL (evNum s hs hn') ?_
        by_cases c3 : (rva s (nxt s a)).2 = 0
        · simp only [c3, ↓reduceIte, show ((-1 : Int) < 0) by decide, show ¬ ((1 : Int) = 0) by decide]
          exact B.EvR.pure ⟨rfl, fun h => by cases h⟩
        · by_cases c4 : (rva s (nxt s a)).1 > 12
          · simp only [c3, c4, ↓reduceIte, ec2, show ¬ ((nxt s (nxt s a) : Int) < 0) by omega, show ¬ ((4 : Int) = 0) by decide]
            exact B.EvR.pure ⟨rfl, fun h => by cases h⟩
          · simp only [c3, c4, ↓reduceIte, ec2, show ¬ ((nxt s (nxt s a) : Int) < 0) by omega]
            have key : depOk l (rva s (nxt s a)).1 = true → B.EvR (fun k => spec_GetTree.l0 k s (l ++ [(⟨(rva s a).1, (rva s (nxt s a)).1⟩ : S105)]) (n : Int) (nxt s (nxt s a) : Int) ((i + 1 : Nat) : Int)) (fun k => impl_GetTree.l0 k (l ++ [(⟨(rva s a).1, (rva s (nxt s a)).1⟩ : S105)]) (s.extract (nxt s (nxt s a)) s.size) (n : Int) ((i + 1 : Nat) : Int)) (fun u v => u = v ∧ (u.2 = 0 → okT u.1 = true)) := fun h => by
              refine ih (i + 1) (nxt s (nxt s a)) _ (by omega) (by omega) (by rw [List.length_append, hl]; rfl) ?_ (nxt_le s hn')
              rw [okUpto_succ, okUpto_app (by omega), hok, Bool.true_and, okAt_iff]
              unfold depOk at h
              simp only [decide_eq_true_eq] at h
              unfold lab dep
              rw [last_dep hl]
              simp only
              rcases Nat.eq_zero_or_pos i with h0 | h0
              · refine ⟨c2, by omega, by omega, .inl h0⟩
              · rw [prev_dep (by omega)]
                refine ⟨c2, by omega, by omega, .inr ?_⟩
                rcases h.2 with h2 | h2
                · omega
                · rw [hl] at h2; exact h2
            by_cases c5 : depOk l (rva s (nxt s a)).1 = true
            · have h := c5
              unfold depOk at h
              simp only [decide_eq_true_eq] at h
              have d1 : (decide ((rva s (nxt s a)).1 = 0)) = (decide ((i : Int) = 0)) := by rw [Bool.eq_iff_iff, decide_eq_true_eq, decide_eq_true_eq]; omega
              simp only [c5, ↓reduceIte, d1]
              rcases Nat.eq_zero_or_pos i with h0 | h0
              · simp only [show ¬ ((i : Int) > 0) by omega, ↓reduceIte, L24]
                exact key c5
              · have hd : ¬ ((rva s (nxt s a)).1 > wrap64 ((l.getD (i - 1) z105).f1 + 1)) := by
                  have hp := (okAt_iff.1 (okUpto_at hok (i := i - 1) (by omega))).2.1
                  have e2 : dep l (i - 1) = (l.getD (i - 1) z105).f1 := rfl
                  rw [← e2, B.wid (by omega) (by omega)]
                  rw [hl] at h; omega
                simp only [show ((i : Int) > 0) by omega, ↓reduceIte, ewi h0 (by omega), show (0 : Int) ≤ ((i - 1 : Nat) : Int) by omega, show ((i - 1 : Nat) : Int) < (l.length : Int) by omega, rdNode, hd, L24]
                exact key c5
            · have h := c5
              unfold depOk at h
              simp only [decide_eq_true_eq] at h
              simp only [c5, ↓reduceIte, Bool.false_eq_true, show ¬ ((5 : Int) = 0) by decide]
              by_cases d0 : (decide ((rva s (nxt s a)).1 = 0)) = (decide ((i : Int) = 0))
              · have d1 := d0
                rw [Bool.eq_iff_iff, decide_eq_true_eq, decide_eq_true_eq] at d1
                have h0 : 0 < i := by omega
                have hd : ((rva s (nxt s a)).1 > wrap64 ((l.getD (i - 1) z105).f1 + 1)) := by
                  have hp := (okAt_iff.1 (okUpto_at hok (i := i - 1) (by omega))).2.1
                  have e2 : dep l (i - 1) = (l.getD (i - 1) z105).f1 := rfl
                  rw [← e2, B.wid (by omega) (by omega)]
                  rw [hl] at h; omega
                simp only [d0, ↓reduceIte, show ((i : Int) > 0) by omega, ewi h0 (by omega), show (0 : Int) ≤ ((i - 1 : Nat) : Int) by omega, show ((i - 1 : Nat) : Int) < (l.length : Int) by omega, rdNode, hd]
                exact B.EvR.pure ⟨rfl, fun h => by cases h⟩
              · simp only [d0, ↓reduceIte]
                exact B.EvR.pure ⟨rfl, fun h => by cases h⟩
      · simp only [c2, ↓reduceIte, not_false_eq_true, show ¬ ((3 : Int) = 0) by decide]
        exact B.EvR.pure ⟨rfl, fun h => by cases h⟩
/-- Both read the same tree, a valid one, or tell the same fault. -/
theorem evGetTree (s : ByteArray) (hs : s.size ≤ 9223372036854775807) : B.EvR (fun k => spec_GetTree.f k s) (fun k => impl_GetTree.f k s) (fun u v => u = v ∧ (u.2 = 0 → okT u.1 = true)) := by
  have e0 : s.extract 0 s.size = s := by apply ByteArray.ext; rw [ByteArray.data_extract]; exact Array.extract_size
  have er : rva s 0 = rv s := by unfold rva; rw [e0]
  have hb := rva_in s (Nat.zero_le s.size)
  have ec := nxt_cast s (Nat.zero_le s.size)
  have hn := nxt_le s (Nat.zero_le s.size)
  simp only [spec_GetTree.f, impl_GetTree.f]
  refine B.EvR.bindL (evNum s hs (Nat.zero_le _)) ?_
  refine B.EvR.bindR (evReadVar' s) ?_
  rw [← er]
  by_cases c1 : (rva s 0).2 = 0
  · simp only [c1, ↓reduceIte, show ((-1 : Int) < 0) by decide]
    exact B.EvR.pure ⟨rfl, fun h => by cases h⟩
  · simp only [c1, ↓reduceIte, ec, show ¬ ((nxt s 0 : Int) < 0) by omega, l1In, within, Option.bind_some, decide_eq_true_eq]
    by_cases c2 : 1 ≤ (rva s 0).1 ∧ (rva s 0).1 ≤ 24
    · have e1 : s.extract (rva s 0).2.toNat s.size = s.extract (nxt s 0) s.size := by unfold nxt; rw [Nat.zero_add]
      simp only [c2, and_self, ↓reduceIte, show 0 ≤ (rva s 0).2 by omega, show (rva s 0).2 ≤ (s.size : Int) by omega, e1]
      have := getLoop s hs (n := (rva s 0).1.toNat) (by omega) (by omega) _ 0 (nxt s 0) [] rfl (Nat.zero_le _) rfl (by simp [okUpto]) hn
      have e2 : (((rva s 0).1.toNat : Nat) : Int) = (rva s 0).1 := by omega
      rw [e2] at this
      exact this
    · simp only [c2, ↓reduceIte]
      exact B.EvR.pure ⟨rfl, fun h => by cases h⟩
end Go.Proofs.Ytinlbiphjgpmmaa.X
end YtinlbiphjgpmmaaXGetT
section YtinlbiphjgpmmaaXGetS
namespace Go.Proofs.Ytinlbiphjgpmmaa.X
open Go Go.RowKit Go.Proofs.Ytinlbiphjgpmmaa.V Go.Proofs.Ytinlbiphjgpmmaa.P
set_option linter.all false
/-- The states of both readers: the reference's place and code, the program's rest and code. -/
def StS (s : ByteArray) (p : Int × Int) (q : ByteArray × Int) : Prop := p.2 = q.2 ∧ (p.2 = 0 → ∃ a : Nat, p.1 = (a : Int) ∧ a ≤ s.size ∧ q.1 = s.extract a s.size)
def NumS (s : ByteArray) (most : Int) (u : Int × Int × Int) (v : Int × ByteArray × Int) : Prop := u.1 = v.1 ∧ 0 ≤ u.1 ∧ u.1 ≤ most ∧ StS s u.2 v.2 ∧ (u.2.2 ≠ 0 → u.1 = 0)
theorem evNumS (s : ByteArray) (hs : s.size ≤ 9223372036854775807) {p : Int × Int} {q : ByteArray × Int} (h : StS s p q) {most c : Int} (hm : 0 ≤ most) (hc : c ≠ 0) :
    B.EvR (fun k => spec_l15Num.f k s p.1 p.2 most c) (fun k => impl_script_number.f k q.1 q.2 0 most c) (NumS s most) := by
  obtain ⟨at_, code⟩ := p
  obtain ⟨rest, code'⟩ := q
  obtain ⟨rfl, h2⟩ := h
  simp only [spec_l15Num.f, impl_script_number.f]
  by_cases c0 : code = 0
  · subst c0
    obtain ⟨a, rfl, ha, rfl⟩ := h2 rfl
    have hb := rva_in s ha
    have ec := nxt_cast s ha
    have hn := nxt_le s ha
    simp only [↓reduceIte]
    refine B.EvR.bindL (evNum s hs ha) ?_
    refine B.EvR.bindR (evReadVar' _) ?_
    rw [show rv (s.extract a s.size) = rva s a from rfl]
    by_cases c1 : (rva s a).2 = 0
    · simp only [c1, ↓reduceIte, show ((-1 : Int) < 0) by decide]
      exact B.EvR.pure ⟨rfl, Int.le_refl _, hm, ⟨rfl, fun h => by cases h⟩, fun _ => rfl⟩
    · simp only [c1, ↓reduceIte, ec, show ¬ ((nxt s a : Int) < 0) by omega, within, Option.bind_some, decide_eq_true_eq]
      by_cases c2 : (rva s a).1 > most
      · simp only [c2, ↓reduceIte, show ¬ (0 ≤ (rva s a).1 ∧ (rva s a).1 ≤ most) by omega]
        exact B.EvR.pure ⟨rfl, Int.le_refl _, hm, ⟨rfl, fun h => absurd h hc⟩, fun _ => rfl⟩
      · have e1 : (s.extract a s.size).extract (rva s a).2.toNat (s.extract a s.size).size = s.extract (nxt s a) s.size := ext_ext s (by omega)
        have h1 : (rva s a).2 ≤ ((s.extract a s.size).size : Int) := by rw [ext_size s ha]; omega
        simp only [c2, ↓reduceIte, show (0 ≤ (rva s a).1 ∧ (rva s a).1 ≤ most) by omega, and_self, show 0 ≤ (rva s a).2 by omega, h1, e1]
        exact B.EvR.pure ⟨rfl, hb.1, by omega, ⟨rfl, fun _ => ⟨_, rfl, hn, rfl⟩⟩, fun h => absurd rfl h⟩
  · simp only [c0, ↓reduceIte]
    exact B.EvR.pure ⟨rfl, Int.le_refl _, hm, ⟨rfl, fun h => absurd h c0⟩, fun _ => rfl⟩
/-- The kind: the reference tells a zero apart. -/
theorem evKindS (s : ByteArray) (hs : s.size ≤ 9223372036854775807) {p : Int × Int} {q : ByteArray × Int} (h : StS s p q) :
    B.EvR (fun k => (spec_l15Num.f k s p.1 p.2 3 3).bind fun bt1 => some (bt1.1, if bt1.2.2 = 0 ∧ bt1.1 = 0 then (bt1.2.1, 3) else bt1.2)) (fun k => impl_script_number.f k q.1 q.2 1 3 3) (NumS s 3) := by
  obtain ⟨at_, code⟩ := p
  obtain ⟨rest, code'⟩ := q
  obtain ⟨rfl, h2⟩ := h
  simp only [spec_l15Num.f, impl_script_number.f]
  by_cases c0 : code = 0
  · subst c0
    obtain ⟨a, rfl, ha, rfl⟩ := h2 rfl
    have hb := rva_in s ha
    have ec := nxt_cast s ha
    have hn := nxt_le s ha
    simp only [↓reduceIte, Option.bind_assoc]
    refine B.EvR.bindL (evNum s hs ha) ?_
    refine B.EvR.bindR (evReadVar' _) ?_
    rw [show rv (s.extract a s.size) = rva s a from rfl]
    by_cases c1 : (rva s a).2 = 0
    · simp only [c1, ↓reduceIte, show ((-1 : Int) < 0) by decide, Option.bind_some, show ¬ ((1 : Int) = 0) by decide, false_and]
      exact B.EvR.pure ⟨rfl, Int.le_refl _, (show (0 : Int) ≤ 3 by decide), ⟨rfl, fun h => by cases h⟩, fun _ => rfl⟩
    · simp only [c1, ↓reduceIte, ec, show ¬ ((nxt s a : Int) < 0) by omega, within, Option.bind_some, decide_eq_true_eq]
      by_cases c2 : (rva s a).1 > 3
      · simp only [c2, ↓reduceIte, show ¬ (1 ≤ (rva s a).1 ∧ (rva s a).1 ≤ 3) by omega, Option.bind_some, show ¬ ((3 : Int) = 0) by decide, false_and]
        exact B.EvR.pure ⟨rfl, Int.le_refl _, (show (0 : Int) ≤ 3 by decide), ⟨rfl, fun h => by cases h⟩, fun _ => rfl⟩
      · have e1 : (s.extract a s.size).extract (rva s a).2.toNat (s.extract a s.size).size = s.extract (nxt s a) s.size := ext_ext s (by omega)
        have h1 : (rva s a).2 ≤ ((s.extract a s.size).size : Int) := by rw [ext_size s ha]; omega
        by_cases c3 : (rva s a).1 = 0
        · simp only [c3, ↓reduceIte, show ¬ ((0 : Int) > 3) by decide, show ¬ (1 ≤ (0 : Int) ∧ (0 : Int) ≤ 3) by decide, Option.bind_some, and_self]
          exact B.EvR.pure ⟨rfl, Int.le_refl _, (show (0 : Int) ≤ 3 by decide), ⟨rfl, fun h => by cases h⟩, fun _ => rfl⟩
        · simp only [c2, c3, ↓reduceIte, show (1 ≤ (rva s a).1 ∧ (rva s a).1 ≤ 3) by omega, and_self, show 0 ≤ (rva s a).2 by omega, h1, e1, Option.bind_some, and_false]
          exact B.EvR.pure ⟨rfl, hb.1, by omega, ⟨rfl, fun _ => ⟨_, rfl, hn, rfl⟩⟩, fun h => absurd rfl h⟩
  · simp only [c0, ↓reduceIte, Option.bind_some, false_and]
    exact B.EvR.pure ⟨rfl, Int.le_refl _, (show (0 : Int) ≤ 3 by decide), ⟨rfl, fun h => absurd h c0⟩, fun _ => rfl⟩
/-- An operation whose numbers are small. -/
def opIn (o : S87) : Prop := o.f1.length ≤ 12 ∧ 0 ≤ o.f3 ∧ o.f3 ≤ 24 ∧ 0 ≤ o.f4 ∧ o.f4 ≤ 24

theorem op0 {a c : Int} {b : List Int} (h : b.length ≤ 12) : opIn ⟨a, b, c, 0, 0⟩ := ⟨h, Int.le_refl 0, (show (0 : Int) ≤ 24 by decide), Int.le_refl 0, (show (0 : Int) ≤ 24 by decide)⟩
/-- One operation: what the reference reads, and that the program goes on with the same. -/
theorem innerS (s : ByteArray) (hs : s.size ≤ 9223372036854775807) {n i : Nat} {x5 : List S87} (hx : x5.length ≤ 60) (hi : i ≤ 60) {kind : Int} {cnt : Nat} (hcnt : cnt ≤ 12) : ∀ (d t : Nat) (path : List Int) (p : Int × Int) (q : ByteArray × Int), t + d = cnt → path.length + d ≤ 12 → StS s p q →
    ∃ (b : Int × List Int × Int × Int × Int × Int × Int) (q' : ByteArray × Int), StS s (b.2.2.2.2.2.1, b.2.2.2.2.2.2) q' ∧ opIn ⟨b.1, b.2.1, b.2.2.1, b.2.2.2.1, b.2.2.2.2.1⟩ ∧
      B.Ev (fun k => spec_l15Get.l0 k (d : Int) s p.1 p.2 0 [] 0 0 0 kind path 0 0 0) b ∧
      ∀ v, B.Ev (fun k => impl_GetScript.l0 k (x5 ++ [⟨b.1, b.2.1, b.2.2.1, b.2.2.2.1, b.2.2.2.2.1⟩]) (n : Int) ((i + 1 : Nat) : Int) q'.1 q'.2) v → B.Ev (fun k => impl_GetScript.l1 k x5 (n : Int) (i : Int) (cnt : Int) (t : Int) q.1 q.2 kind path 0 0 0) v := by
  have hw := B.wsucc (show i < 9223372036854775807 by omega)
  have L : x5.length < 2513169434916 := by omega
  intro d
  induction d with
  | zero =>
    intro t path p q ht hp hst
    have a1 : ¬ ((t : Int) < (cnt : Int)) := by omega
    have a0 : ¬ (((0 : Nat) : Int) > 0) := by decide
    by_cases k2 : kind = 2
    · have k3 : ¬ (kind = 3) := by omega
      refine ⟨(kind, path, 0, 0, 0, p.1, p.2), q, hst, op0 (by simpa using hp), ?_, fun v hv => ?_⟩
      · refine B.Ev.succ ?_
        simp only [spec_l15Get.l0, a0, ↓reduceIte, k2, show ¬ ((2 : Int) = 3) by decide]
        exact B.Ev.pure _
      · refine B.Ev.succ ?_
        simp only [impl_GetScript.l1, a1, ↓reduceIte, k2, show ¬ ((2 : Int) = 3) by decide, L, hw]
        rw [k2] at hv
        exact hv
    · obtain ⟨u, v1, ⟨e1, e2, e3, e4, _⟩, g1, g2⟩ := evNumS s hs hst (most := 5) (c := 5) (by decide) (by decide)
      by_cases k3 : kind = 3
      · obtain ⟨u2, v2, ⟨f1, f2, f3, f4, _⟩, g3, g4⟩ := evNumS s hs e4 (most := 24) (c := 6) (by decide) (by decide)
        obtain ⟨u3, v3, ⟨h1, h2, h3, h4, _⟩, g5, g6⟩ := evNumS s hs f4 (most := 24) (c := 6) (by decide) (by decide)
        refine ⟨(kind, path, u.1, u2.1, u3.1, u3.2.1, u3.2.2), v3.2, h4, ⟨by simpa using hp, f2, f3, h2, h3⟩, ?_, fun v hv => ?_⟩
        · refine B.Ev.succ ?_
          simp only [spec_l15Get.l0, a0, ↓reduceIte, k3, show ¬ ((3 : Int) = 2) by decide]
          refine B.Ev.bind g1 ?_
          refine B.Ev.bind g3 ?_
          refine B.Ev.bind g5 ?_
          exact B.Ev.pure _
        · refine B.Ev.succ ?_
          simp only [impl_GetScript.l1, a1, ↓reduceIte, k3, show ¬ ((3 : Int) = 2) by decide]
          refine B.Ev.bind g2 ?_
          refine B.Ev.bind g4 ?_
          refine B.Ev.bind g6 ?_
          simp only [L, ↓reduceIte, hw]
          rw [← e1, ← f1, ← h1, ← k3]
          exact hv
      · refine ⟨(kind, path, u.1, 0, 0, u.2.1, u.2.2), v1.2, e4, op0 (by simpa using hp), ?_, fun v hv => ?_⟩
        · refine B.Ev.succ ?_
          simp only [spec_l15Get.l0, a0, ↓reduceIte, k2, k3]
          refine B.Ev.bind g1 ?_
          exact B.Ev.pure _
        · refine B.Ev.succ ?_
          simp only [impl_GetScript.l1, a1, ↓reduceIte, k2, k3]
          refine B.Ev.bind g2 ?_
          simp only [L, ↓reduceIte, hw]
          rw [← e1]
          exact hv
  | succ d ih =>
    intro t path p q ht hp hst
    obtain ⟨u, v1, ⟨e1, e2, e3, e4, _⟩, g1, g2⟩ := evNumS s hs hst (most := 24) (c := 4) (by decide) (by decide)
    obtain ⟨b, q', c1, c2, c3, c4⟩ := ih (t + 1) (path ++ [u.1]) u.2 v1.2 (by omega) (by simp; omega) e4
    have wt := B.wsucc (show t < 9223372036854775807 by omega)
    have wd : wrap64 (((d + 1 : Nat) : Int) - 1) = (d : Int) := by rw [B.wid (by omega) (by omega)]; omega
    have L2 : path.length < 17592186044416 := by omega
    refine ⟨b, q', c1, c2, ?_, fun v hv => ?_⟩
    · refine B.Ev.succ ?_
      simp only [spec_l15Get.l0, show (((d + 1 : Nat) : Int) > 0) by omega, ↓reduceIte]
      refine B.Ev.bind g1 ?_
      simp only [L2, ↓reduceIte, wd]
      exact c3
    · refine B.Ev.succ ?_
      simp only [impl_GetScript.l1, show ((t : Int) < (cnt : Int)) by omega, ↓reduceIte]
      refine B.Ev.bind g2 ?_
      simp only [L2, ↓reduceIte, wt]
      rw [← e1]
      exact c4 v hv
/-- Behind a fault the program goes through the rest and tells the fault. -/
theorem errS (s : ByteArray) (hs : s.size ≤ 9223372036854775807) {n : Nat} (hn : n ≤ 60) {rest : ByteArray} {code : Int} (hc : code ≠ 0) : ∀ (d i : Nat) (x5 : List S87), i + d = n → x5.length + d ≤ 60 → B.Ev (fun k => impl_GetScript.l0 k x5 (n : Int) (i : Int) rest code) ([], code) := by
  intro d
  have num : ∀ {a b c : Int}, B.Ev (fun k => impl_script_number.f k rest code a b c) (0, rest, code) := fun {a b c} => by
    simp only [impl_script_number.f, hc, ↓reduceIte]; exact B.Ev.pure _
  induction d with
  | zero =>
    intro i x5 hi hx
    refine B.Ev.succ ?_
    simp only [impl_GetScript.l0, show ¬ ((i : Int) < (n : Int)) by omega, ↓reduceIte, hc]
    exact B.Ev.pure _
  | succ d ih =>
    intro i x5 hi hx
    refine B.Ev.succ ?_
    simp only [impl_GetScript.l0, show ((i : Int) < (n : Int)) by omega, ↓reduceIte]
    refine B.Ev.bind num ?_
    refine B.Ev.bind num ?_
    refine B.Ev.succ ?_
    have hw := B.wsucc (show i < 9223372036854775807 by omega)
    simp only [impl_GetScript.l1, show ¬ ((0 : Int) < 0) by decide, ↓reduceIte, show ¬ ((0 : Int) = 2) by decide]
    refine B.Ev.bind num ?_
    simp only [show ¬ ((0 : Int) = 3) by decide, ↓reduceIte, show x5.length < 2513169434916 by omega, hw]
    exact ih (i + 1) _ (by omega) (by simp; omega)
theorem loopS (s : ByteArray) (hs : s.size ≤ 9223372036854775807) {n : Nat} (hn : n ≤ 60) : ∀ (d i : Nat) (x5 : List S87) (p : Int × Int) (q : ByteArray × Int), i + d = n → x5.length = i → (∀ o ∈ x5, opIn o) → StS s p q →
    B.EvR (fun k => spec_GetScript.l0 k s x5 (d : Int) s p.1 p.2) (fun k => impl_GetScript.l0 k x5 (n : Int) (i : Int) q.1 q.2) (fun u v => u = v ∧ (u.2 = 0 → u.1.length ≤ 60 ∧ ∀ o ∈ u.1, opIn o)) := by
  intro d
  induction d with
  | zero =>
    intro i x5 p q hi hx hop hst
    obtain ⟨at_, code⟩ := p
    obtain ⟨rest, code'⟩ := q
    obtain ⟨rfl, h2⟩ := hst
    refine B.EvR.succL (B.EvR.succR ?_)
    simp only [spec_GetScript.l0, impl_GetScript.l0, show ¬ (((0 : Nat) : Int) > 0) by decide, show ¬ ((i : Int) < (n : Int)) by omega, ↓reduceIte]
    by_cases c0 : code = 0
    · subst c0
      obtain ⟨a, rfl, ha, rfl⟩ := h2 rfl
      simp only [↓reduceIte, ext_nil s ha]
      by_cases c : a = s.size
      · simp only [c, ↓reduceIte]
        exact B.EvR.pure ⟨rfl, fun _ => ⟨by simp only; omega, hop⟩⟩
      · simp only [c, show ¬ ((a : Int) = (s.size : Int)) by omega, ↓reduceIte]
        exact B.EvR.pure ⟨rfl, fun h => by cases h⟩
    · simp only [c0, ↓reduceIte]
      exact B.EvR.pure ⟨rfl, fun h => absurd h c0⟩
  | succ d ih =>
    intro i x5 p q hi hx hop hst
    by_cases c0 : p.2 = 0
    · refine B.EvR.succL (B.EvR.succR ?_)
      simp only [spec_GetScript.l0, impl_GetScript.l0, show (((d + 1 : Nat) : Int) > 0) by omega, show ((i : Int) < (n : Int)) by omega, ↓reduceIte, c0]
      obtain ⟨u1, v1, ⟨e1, e2, e3, e4, _⟩, g1, g2⟩ := evKindS s hs hst
      obtain ⟨u2, v2, ⟨f1, f2, f3, f4, _⟩, g3, g4⟩ := evNumS s hs e4 (most := 12) (c := 4) (by decide) (by decide)
      obtain ⟨m, hm⟩ : ∃ m : Nat, u2.1 = m := ⟨u2.1.toNat, by omega⟩
      obtain ⟨b, q', c1, c2, c3, c4⟩ := innerS s hs (n := n) (i := i) (x5 := x5) (by omega) (by omega) (kind := u1.1) (cnt := m) (by omega) m 0 [] u2.2 v2.2 (by omega) (by simp; omega) f4
      have hget : B.Ev (fun k => spec_l15Get.f k s p.1 0) b := by
        have h1 : ∀ k, spec_l15Get.f k s p.1 0 = ((spec_l15Num.f k s p.1 p.2 3 3).bind fun bt1 => some (bt1.1, if bt1.2.2 = 0 ∧ bt1.1 = 0 then (bt1.2.1, 3) else bt1.2)).bind fun b => spec_l15Get.j0 k s b.2.1 b.2.2 0 [] 0 0 0 b.1 [] 0 0 0 := fun k => by
          rw [c0]
          simp only [spec_l15Get.f]
          cases spec_l15Num.f k s p.1 0 3 3 with
          | none => rfl
          | some x =>
            obtain ⟨x1, x2, x3⟩ := x
            simp only [Option.bind_some]
            by_cases y1 : x3 = 0
            · by_cases y2 : x1 = 0
              · simp only [y1, y2, ↓reduceIte, and_self]
              · simp only [y1, y2, ↓reduceIte, and_false]
            · simp only [y1, ↓reduceIte, false_and]
        simp only [h1]
        refine B.Ev.bind g1 ?_
        refine B.Ev.succ ?_
        simp only [spec_l15Get.j0]
        refine B.Ev.bind g3 ?_
        rw [hm]
        exact c3
      refine B.EvR.bindL hget ?_
      have L : x5.length < 2513169434916 := by omega
      have wd : wrap64 (((d + 1 : Nat) : Int) - 1) = (d : Int) := by rw [B.wid (by omega) (by omega)]; omega
      simp only [L, ↓reduceIte, wd]
      obtain ⟨x, y, hr, k1, k2⟩ := ih (i + 1) (x5 ++ [⟨b.1, b.2.1, b.2.2.1, b.2.2.2.1, b.2.2.2.2.1⟩]) _ q' (by omega) (by simp; omega) (fun o ho => by
        rcases List.mem_append.1 ho with h | h
        · exact hop o h
        · rw [List.mem_singleton.1 h]; exact c2) c1
      refine ⟨x, y, hr, k1, ?_⟩
      refine B.Ev.bind g2 ?_
      refine B.Ev.bind g4 ?_
      rw [← f1, hm, ← e1]
      exact c4 y k2
    · have h1 : q.2 ≠ 0 := by rw [← hst.1]; exact c0
      refine ⟨([], p.2), ([], q.2), ⟨by rw [hst.1], fun h => absurd h c0⟩, ?_, errS s hs hn h1 (d + 1) i x5 (by omega) (by omega)⟩
      refine B.Ev.succ ?_
      simp only [spec_GetScript.l0, show (((d + 1 : Nat) : Int) > 0) by omega, ↓reduceIte, c0]
      exact B.Ev.pure _
theorem evGetScript (s : ByteArray) (hs : s.size ≤ 9223372036854775807) : B.EvR (fun k => spec_GetScript.f k s) (fun k => impl_GetScript.f k s) (fun u v => u = v ∧ (u.2 = 0 → u.1.length ≤ 60 ∧ ∀ o ∈ u.1, opIn o)) := by
  have e0 : s.extract 0 s.size = s := by apply ByteArray.ext; rw [ByteArray.data_extract]; exact Array.extract_size
  have h0 : StS s (0, 0) (s, 0) := ⟨rfl, fun _ => ⟨0, rfl, Nat.zero_le _, e0.symm⟩⟩
  simp only [spec_GetScript.f, impl_GetScript.f]
  obtain ⟨u, v, ⟨e1, e2, e3, e4, _⟩, g1, g2⟩ := evNumS s hs h0 (most := 60) (c := 2) (by decide) (by decide)
  refine B.EvR.bindL g1 ?_
  refine B.EvR.bindR g2 ?_
  obtain ⟨m, hm⟩ : ∃ m : Nat, u.1 = m := ⟨u.1.toNat, by omega⟩
  rw [← e1, hm]
  exact loopS s hs (n := m) (by omega) m 0 [] u.2 v.2 (by omega) rfl (fun o ho => by cases ho) e4
end Go.Proofs.Ytinlbiphjgpmmaa.X
end YtinlbiphjgpmmaaXGetS
section YtinlbiphjgpmmaaXPatch
namespace Go.Proofs.Ytinlbiphjgpmmaa.X
open Go Go.RowKit Go.Proofs.Ytinlbiphjgpmmaa.V Go.Proofs.Ytinlbiphjgpmmaa.P
set_option linter.all false
theorem rdOp {xs : List S87} {i : Nat} (h : i < xs.length) : rd_T87 xs (i : Int) = xs[i] := by unfold rd_T87; rw [Int.toNat_natCast]; exact B.getD_lt h
/-- An operation whose path and place are not beyond all bounds. -/
def opW (o : S87) : Prop := o.f1.length ≤ 4611686018427387904 ∧ -9223372036854775808 ≤ o.f3 ∧ o.f3 ≤ 9223372036854775807
theorem opW_in {o : S87} (h : opIn o) : opW o := by unfold opIn at h; unfold opW; omega
theorem allLoop {ops : List S87} (ho : ∀ o ∈ ops, opW o) (hn : ops.length ≤ 4611686018427387904) (l : List S105) : ∀ (d t : Nat) (x : List S105), t + d = ops.length → x.length ≤ 4194304 →
    B.EvR (fun k => spec_ApplyAll.l0 k ops x (t : Int) l) (fun k => impl_ApplyAll.l0 k ops x ops (ops.length : Int) (t : Int) l) (fun u v => u = v ∧ u.1.length ≤ 4194304) := by
  intro d
  induction d with
  | zero =>
    intro t x ht hx
    refine B.EvR.succL (B.EvR.succR ?_)
    simp only [spec_ApplyAll.l0, impl_ApplyAll.l0, show ¬ ((t : Int) < (ops.length : Int)) by omega, ↓reduceIte]
    exact B.EvR.pure ⟨rfl, hx⟩
  | succ d ih =>
    intro t x ht hx
    have hlt : t < ops.length := by omega
    have hw := B.wsucc (show t < 9223372036854775807 by omega)
    obtain ⟨w1, w2, w3⟩ := ho _ (List.getElem_mem hlt)
    refine B.EvR.succL (B.EvR.succR ?_)
    simp only [spec_ApplyAll.l0, impl_ApplyAll.l0, show ((t : Int) < (ops.length : Int)) by omega, show (0 : Int) ≤ (t : Int) by omega, ↓reduceIte, rdOp hlt, hw]
    refine B.EvR.bind (evApplyOp hx _ _ _ _ _ w1 ⟨w2, w3⟩) ?_
    rintro u v ⟨rfl, hu⟩
    refine B.EvR.iteL (fun c => ?_) (fun c => ?_)
    · simp only [c, ↓reduceIte]
      exact ih (t + 1) _ (by omega) (by omega)
    · simp only [c, ↓reduceIte]
      exact B.EvR.pure ⟨rfl, hx⟩
theorem evApplyAll {l : List S105} (hl : l.length ≤ 4194304) {ops : List S87} (ho : ∀ o ∈ ops, opW o) (hn : ops.length ≤ 4611686018427387904) :
    B.EvR (fun k => spec_ApplyAll.f k l ops) (fun k => impl_ApplyAll.f k l ops) (fun u v => u = v ∧ u.1.length ≤ 4194304) := by
  simp only [spec_ApplyAll.f, impl_ApplyAll.f]
  refine B.EvR.bindL (B.Ev.of _ (fun k hk => specTreeOk l hl k hk)) ?_
  refine B.EvR.bindR (B.Ev.of _ (fun k hk => implTreeOk l hl k hk)) ?_
  by_cases h : okT l = true
  · simp only [h, ↓reduceIte, spec_l3Copy.f, slices_Clone_impl_Node_impl_Node.f, show l.length * 16 ≤ 140737488355328 by omega, Option.bind_some]
    exact allLoop ho hn l ops.length 0 l (by omega) hl
  · simp only [h, ↓reduceIte]
    exact B.EvR.pure ⟨rfl, Nat.zero_le _⟩
theorem putLoop (l : List S105) (hl : l.length ≤ 4194304) : ∀ (d t : Nat) (s : ByteArray), t + d = l.length → s.size ≤ 7 + 14 * t →
    B.EvR (fun k => spec_PutTree.l0 k l s (t : Int)) (fun k => impl_PutTree.l0 k s l (l.length : Int) (t : Int)) (fun u v => u = v ∧ u.size ≤ 7 + 14 * l.length) := by
  intro d
  induction d with
  | zero =>
    intro t s ht hs
    refine B.EvR.succL (B.EvR.succR ?_)
    simp only [spec_PutTree.l0, impl_PutTree.l0, show ¬ ((t : Int) < (l.length : Int)) by omega, ↓reduceIte]
    exact B.EvR.pure ⟨rfl, by omega⟩
  | succ d ih =>
    intro t s ht hs
    have hw := B.wsucc (show t < 9223372036854775807 by omega)
    have z1 := var_size (l.getD t z105).f0
    have z2 := var_size (l.getD t z105).f1
    refine B.EvR.succL (B.EvR.succR ?_)
    simp only [spec_PutTree.l0, impl_PutTree.l0, show ((t : Int) < (l.length : Int)) by omega, show (0 : Int) ≤ (t : Int) by omega, ↓reduceIte, rdNode]
    refine B.EvR.bindL (evVar _) ?_
    refine B.EvR.bindR (evVar' _) ?_
    generalize var (l.getD t z105).f0 = a at *
    simp only [show s.size + a.size ≤ 9223372036854775807 by omega, ↓reduceIte]
    refine B.EvR.bindL (evVar _) ?_
    refine B.EvR.bindR (evVar' _) ?_
    generalize var (l.getD t z105).f1 = b at *
    have y1 : (s ++ a).size = s.size + a.size := ByteArray.size_append
    have y2 : (a ++ b).size = a.size + b.size := ByteArray.size_append
    have y3 : (s ++ a ++ b).size = s.size + a.size + b.size := by rw [ByteArray.size_append, y1]
    simp only [show (s ++ a).size + b.size ≤ 9223372036854775807 by omega, show a.size + b.size ≤ 9223372036854775807 by omega, show s.size + (a ++ b).size ≤ 9223372036854775807 by omega, ↓reduceIte, hw, ← ByteArray.append_assoc]
    exact ih (t + 1) _ (by omega) (by omega)
theorem evPutTree (l : List S105) (hl : l.length ≤ 4194304) : B.EvR (fun k => spec_PutTree.f k l) (fun k => impl_PutTree.f k l) (fun u v => u = v ∧ u.size ≤ 1000) := by
  simp only [spec_PutTree.f, impl_PutTree.f]
  refine B.EvR.bindL (B.Ev.of _ (fun k hk => specTreeOk l hl k hk)) ?_
  refine B.EvR.bindR (B.Ev.of _ (fun k hk => implTreeOk l hl k hk)) ?_
  by_cases h : okT l = true
  · have h24 := okT_len h
    simp only [h, ↓reduceIte]
    refine B.EvR.bindL (evVar _) ?_
    refine B.EvR.bindR (evVar' _) ?_
    refine (putLoop l hl l.length 0 _ (by omega) (by have := var_size (l.length : Int); omega)).mono fun u v ⟨e, hu⟩ => ⟨e, by omega⟩
  · simp only [h, ↓reduceIte]
    exact B.EvR.pure ⟨rfl, by decide⟩
theorem evPatch (x y : ByteArray) (hx : x.size ≤ 9223372036854775807) (hy : y.size ≤ 9223372036854775807) : B.EvR (fun k => spec_Patch.f k x y) (fun k => impl_Patch.f k x y) (fun u v => u = v ∧ u.1.size ≤ 1000 ∧ (u.2.1 = 0 → u.2.2.1 = 0 ∧ u.2.2.2 = 0)) := by
  have no : ∀ {c d e : Int}, c ≠ 0 → B.EvR (fun _ => some ((⟨#[]⟩ : ByteArray), c, d, e)) (fun _ => some ((⟨#[]⟩ : ByteArray), c, d, e)) (fun u v => u = v ∧ u.1.size ≤ 1000 ∧ (u.2.1 = 0 → u.2.2.1 = 0 ∧ u.2.2.2 = 0)) := fun hc => B.EvR.pure ⟨rfl, by simp only; decide, fun h => absurd h hc⟩
  simp only [spec_Patch.f, impl_Patch.f]
  obtain ⟨t, t', ⟨rfl, ht⟩, g1, g2⟩ := evGetTree x hx
  obtain ⟨s, s', ⟨rfl, hs⟩, g3, g4⟩ := evGetScript y hy
  refine B.EvR.bindL g1 ?_
  refine B.EvR.bindR g2 ?_
  refine B.EvR.bindR g4 ?_
  by_cases c1 : t.2 = 0
  · simp only [c1, ↓reduceIte]
    refine B.EvR.bindL g3 ?_
    by_cases c2 : s.2 = 0
    · simp only [c2, ↓reduceIte]
      have hl := okT_len (ht c1)
      have hop := hs c2
      refine B.EvR.bind (evApplyAll (by omega) (fun o ho => opW_in (hop.2 o ho)) (by omega)) ?_
      rintro u v ⟨rfl, hu⟩
      by_cases c3 : u.2.2 = 0
      · simp only [c3, ↓reduceIte]
        refine B.EvR.bind (evPutTree _ hu) ?_
        rintro w w' ⟨rfl, hw⟩
        exact B.EvR.pure ⟨rfl, hw, fun _ => ⟨rfl, rfl⟩⟩
      · simp only [c3, ↓reduceIte]; exact no (by decide)
    · simp only [c2, ↓reduceIte]; exact no (by decide)
  · simp only [c1, ↓reduceIte]; exact no (by decide)
end Go.Proofs.Ytinlbiphjgpmmaa.X
end YtinlbiphjgpmmaaXPatch
section YtinlbiphjgpmmaaXRepoG
namespace Go.Proofs.Ytinlbiphjgpmmaa.X
open Go Go.RowKit Go.Proofs.Ytinlbiphjgpmmaa.V Go.Proofs.Ytinlbiphjgpmmaa.P
set_option linter.all false
theorem rdRev {xs : List S65} {i : Nat} (h : i < xs.length) : rd_T65 xs (i : Int) = xs[i] := by unfold rd_T65; rw [Int.toNat_natCast]; exact B.getD_lt h
/-- A repository whose texts are not beyond all bounds. -/
def repoW (r : List S65) : Prop := r.length ≤ 4194304 ∧ ∀ x ∈ r, x.f1.size ≤ 9223372036854775807
def GetP (u v : ByteArray × Bool) : Prop := u = v ∧ u.1.size ≤ 9223372036854775807
theorem evRepoGet {r : List S65} (hr : repoW r) : ∀ (n : Nat) (i : Int), i.toNat < n → -9223372036854775808 ≤ i → i ≤ 9223372036854775807 → B.EvR (fun k => spec_RepoGet.f k r i) (fun k => impl_RepoGet.f k r i) GetP := by
  have no : B.EvR (fun _ => some ((⟨#[]⟩ : ByteArray), false)) (fun _ => some ((⟨#[]⟩ : ByteArray), false)) GetP := B.EvR.pure ⟨rfl, by simp only; decide⟩
  intro n
  induction n with
  | zero => intro i h; omega
  | succ n ih =>
    intro i hn h1 h2
    have hrl := hr.1
    have el : wrap64 ((r.length : Int) - 1) = (r.length : Int) - 1 := B.wid (by omega) (by omega)
    refine B.EvR.succL (B.EvR.succR ?_)
    simp only [spec_RepoGet.f, impl_RepoGet.f, l1In, within, Option.bind_some, decide_eq_true_eq, el]
    clear el
    by_cases c1 : 0 ≤ i ∧ i ≤ (r.length : Int) - 1
    · simp only [c1, and_self, ↓reduceIte]
      by_cases c2 : (r.length : Int) > 6
      · simp only [c2, ↓reduceIte]; exact no
      · obtain ⟨m, rfl⟩ : ∃ m : Nat, i = m := ⟨i.toNat, by omega⟩
        have hm : m < r.length := by omega
        have ei : wrap64 ((m : Int) - 1) = (m : Int) - 1 := B.wid (by omega) (by omega)
        have hx := hr.2 _ (List.getElem_mem hm)
        simp only [c2, ↓reduceIte, show (m : Int) < (r.length : Int) by omega, rdRev hm, ei]
        clear ei
        generalize r[m] = x at *
        by_cases c3 : -1 ≤ x.f0 ∧ x.f0 ≤ (m : Int) - 1
        · simp only [c3, and_self, ↓reduceIte]
          by_cases c4 : x.f0 = -1
          · simp only [c4, ↓reduceIte, show ((-1 : Int) < 0) by decide]
            obtain ⟨t, t', ⟨rfl, _⟩, g1, g2⟩ := evGetTree x.f1 hx
            refine B.EvR.bindL g1 ?_
            refine B.EvR.bindR g2 ?_
            by_cases c5 : t.2 = 0
            · simp only [c5, ↓reduceIte]; exact B.EvR.pure ⟨rfl, hx⟩
            · simp only [c5, ↓reduceIte]; exact no
          · simp only [c4, ↓reduceIte, show ¬ (x.f0 < 0) by omega]
            obtain ⟨u, v, ⟨rfl, hu⟩, g1, g2⟩ := ih x.f0 (by omega) (by omega) (by omega)
            obtain ⟨w, w', ⟨rfl, hw, hz⟩, g3, g4⟩ := evPatch u.1 x.f1 hu hx
            refine B.EvR.bindL g1 ?_
            refine B.EvR.bindR g2 ?_
            refine B.EvR.bindR g4 ?_
            by_cases c5 : u.2 = true
            · simp only [c5, ↓reduceIte]
              refine B.EvR.bindL g3 ?_
              by_cases c6 : w.2.1 = 0
              · have := hz c6
                simp only [c6, this.1, this.2, ↓reduceIte, decide_true, Bool.and_self]
                exact B.EvR.pure ⟨rfl, by simp only; omega⟩
              · simp only [c6, ↓reduceIte, decide_false, Bool.false_and, Bool.false_eq_true]
                exact no
            · simp only [c5, ↓reduceIte, Bool.false_eq_true]
              exact no
        · simp only [c3, ↓reduceIte]; exact no
    · simp only [c1, ↓reduceIte]
      refine B.EvR.iteR (fun _ => no) (fun _ => no)
end Go.Proofs.Ytinlbiphjgpmmaa.X
end YtinlbiphjgpmmaaXRepoG
section YtinlbiphjgpmmaaXRepoK
namespace Go.Proofs.Ytinlbiphjgpmmaa.X
open Go Go.RowKit Go.Proofs.Ytinlbiphjgpmmaa.V Go.Proofs.Ytinlbiphjgpmmaa.P
set_option linter.all false
theorem evRepoOk {r : List S65} (hr : repoW r) : B.EvR (fun k => spec_RepoOk.f k r) (fun k => impl_RepoOk.f k r) (fun u v => u = v) := by
  simp only [spec_RepoOk.f, impl_RepoOk.f]
  suffices h : ∀ (d t : Nat), t + d = r.length → B.EvR (fun k => spec_RepoOk.l0 k r (t : Int)) (fun k => impl_RepoOk.l0 k r (r.length : Int) (t : Int)) (fun u v => u = v) from h r.length 0 (by omega)
  intro d
  have hl := hr.1
  induction d with
  | zero =>
    intro t ht
    refine B.EvR.succL (B.EvR.succR ?_)
    simp only [spec_RepoOk.l0, impl_RepoOk.l0, show ¬ ((t : Int) < (r.length : Int)) by omega, ↓reduceIte]
    exact B.EvR.pure rfl
  | succ d ih =>
    intro t ht
    have hw := B.wsucc (show t < 9223372036854775807 by omega)
    obtain ⟨u, v, ⟨rfl, _⟩, g1, g2⟩ := evRepoGet hr (t + 1) (t : Int) (by omega) (by omega) (by omega)
    refine B.EvR.succL (B.EvR.succR ?_)
    simp only [spec_RepoOk.l0, impl_RepoOk.l0, show ((t : Int) < (r.length : Int)) by omega, ↓reduceIte, hw]
    refine B.EvR.bindL g1 ?_
    refine B.EvR.bindR g2 ?_
    by_cases c : u.2 = true
    · simp only [c, ↓reduceIte]; exact ih (t + 1) (by omega)
    · simp only [c, ↓reduceIte, Bool.false_eq_true]; exact B.EvR.pure rfl
end Go.Proofs.Ytinlbiphjgpmmaa.X
end YtinlbiphjgpmmaaXRepoK
section YtinlbiphjgpmmaaXRepoL
namespace Go.Proofs.Ytinlbiphjgpmmaa.X
open Go Go.RowKit Go.Proofs.Ytinlbiphjgpmmaa.V Go.Proofs.Ytinlbiphjgpmmaa.P
set_option linter.all false
def rvL (x : S100) : S65 := ⟨x.f0, x.f1⟩
theorem rdlRev {xs : List S100} {i : Nat} (h : i < xs.length) : rd_T100 xs (i : Int) = xs[i] := by unfold rd_T100; rw [Int.toNat_natCast]; exact B.getD_lt h
theorem toRepo (l : List S100) (hl : l.length ≤ 4194304) : B.Ev (fun k => laws_toRepo.f k l) (l.map rvL) := by
  simp only [laws_toRepo.f, laws_toRevS.f, show (0 : Int) ≤ (l.length : Int) by omega, show (l.length : Int) * 24 ≤ 140737488355328 by omega, ↓reduceIte, Int.toNat_natCast]
  refine B.Ev.bind ?_ (B.Ev.pure _)
  rw [← B.filled_zero l rvL]
  refine B.Ev.loop (g := fun k i => laws_toRevS.l0 k l (B.filled l rvL z65 i) (i : Int)) l.length (fun _ => True) ?_ ?_ 0 (Nat.zero_le _) trivial
  · intro _
    refine B.Ev.succ ?_
    simp only [laws_toRevS.l0, Int.lt_irrefl, ↓reduceIte, B.filled_all]
    exact B.Ev.pure _
  · intro i hi _ ih
    refine B.Ev.succ ?_
    have a2 : (i : Int) < ((B.filled l rvL z65 i).length : Int) := by rw [B.filled_length _ _ _ (by omega)]; omega
    simp only [laws_toRevS.l0, laws_toRev.f, show (i : Int) < (l.length : Int) by omega, show (0 : Int) ≤ (i : Int) by omega, a2, ↓reduceIte, rdlRev hi, Option.bind_some, B.wsucc (show i < 9223372036854775807 by omega), Int.toNat_natCast]
    have := ih trivial
    rw [← B.filled_set l rvL z65 hi] at this
    exact this
theorem eqRepo (l : List S65) (hl : l.length ≤ 4194304) : B.Ev (fun k => laws_eqRepo.f k l l) true := by
  simp only [laws_eqRepo.f, laws_eqRevS.f, ↓reduceIte]
  refine B.Ev.bind (a := true) ?_ (by simp only [↓reduceIte]; exact B.Ev.pure _)
  refine B.Ev.loop (g := fun k i => laws_eqRevS.l0 k l l (i : Int)) l.length (fun _ => True) ?_ ?_ 0 (Nat.zero_le _) trivial
  · intro _
    refine B.Ev.succ ?_
    simp only [laws_eqRevS.l0, Int.lt_irrefl, ↓reduceIte]
    exact B.Ev.pure _
  · intro i hi _ ih
    refine B.Ev.succ ?_
    simp only [laws_eqRevS.l0, laws_eqRev.f, show (i : Int) < (l.length : Int) by omega, show (0 : Int) ≤ (i : Int) by omega, ↓reduceIte, Option.bind_some, B.wsucc (show i < 9223372036854775807 by omega)]
    exact ih trivial
/-- The sizes are measured: below zero, or no more revisions than allowed. -/
theorem szRepo (l : List S100) (hs : l.length ≤ maxLen) (h : ∀ x ∈ l, x.f1.size ≤ maxLen) : ∃ r : Int, B.Ev (fun k => laws_szRepo.f k l 1048576) r ∧ (r < 0 ∨ l.length ≤ 1048576) := by
  have hl : l.length ≤ 9223372036854775807 := hs
  have e0 : wrap64 ((1048576 : Int) - (l.length : Int)) = (1048576 : Int) - (l.length : Int) := B.wid (by omega) (by omega)
  simp only [laws_szRepo.f, laws_szRevS.f, e0]
  clear e0
  by_cases hn : (1048576 : Int) - (l.length : Int) < 0
  · simp only [hn, ↓reduceIte]
    refine ⟨-1, B.Ev.bind (B.Ev.pure _) ?_, .inl (by decide)⟩
    simp only [show ((-1 : Int) < 0) by decide, ↓reduceIte]; exact B.Ev.pure _
  · simp only [hn, ↓reduceIte]
    suffices hh : ∀ (d i : Nat) (a : Int), 0 ≤ a → a ≤ 1048576 → i + d = l.length → ∃ r, B.Ev (fun k => laws_szRevS.l0 k l a (i : Int)) r by
      obtain ⟨r, hr⟩ := hh l.length 0 ((1048576 : Int) - (l.length : Int)) (by omega) (by omega) (by omega)
      by_cases c : r < 0
      · refine ⟨-1, B.Ev.bind hr ?_, .inl (by decide)⟩
        simp only [c, ↓reduceIte]; exact B.Ev.pure _
      · refine ⟨r, B.Ev.bind hr ?_, .inr (by omega)⟩
        simp only [c, ↓reduceIte]; exact B.Ev.pure _
    intro d
    induction d with
    | zero =>
      intro i a h0 h1 hi
      refine ⟨a, B.Ev.succ ?_⟩
      simp only [laws_szRevS.l0, show ¬ ((i : Int) < (l.length : Int)) by omega, ↓reduceIte]; exact B.Ev.pure _
    | succ d ih =>
      intro i a h0 h1 hi
      have hil : i < l.length := by omega
      have hx : l[i].f1.size ≤ 9223372036854775807 := h _ (List.getElem_mem hil)
      have hw := B.wsucc (show i < 9223372036854775807 by omega)
      generalize hy : l[i] = y at *
      have e1 : wrap64 (a - (y.f1.size : Int)) = a - (y.f1.size : Int) := B.wid (by omega) (by omega)
      by_cases c : a - (y.f1.size : Int) < 0
      · refine ⟨-1, B.Ev.succ ?_⟩
        simp only [laws_szRevS.l0, laws_szRev.f, show ((i : Int) < (l.length : Int)) by omega, show (0 : Int) ≤ (i : Int) by omega, ↓reduceIte, rdlRev hil, hy, e1, c, Option.bind_some, show ((-1 : Int) < 0) by decide]
        exact B.Ev.pure _
      · obtain ⟨r, hr⟩ := ih (i + 1) (a - (y.f1.size : Int)) (by omega) (by omega) (by omega)
        refine ⟨r, B.Ev.succ ?_⟩
        simp only [laws_szRevS.l0, laws_szRev.f, show ((i : Int) < (l.length : Int)) by omega, show (0 : Int) ≤ (i : Int) by omega, ↓reduceIte, rdlRev hil, hy, e1, c, Option.bind_some, hw]
        exact hr
end Go.Proofs.Ytinlbiphjgpmmaa.X
end YtinlbiphjgpmmaaXRepoL
section YtinlbiphjgpmmaaXMarkT
namespace Go.Proofs.Ytinlbiphjgpmmaa.X
open Go Go.RowKit Go.Proofs.Ytinlbiphjgpmmaa.V Go.Proofs.Ytinlbiphjgpmmaa.P
set_option linter.all false
theorem markTextL : ∀ (n : Nat) (a : Int) (x : ByteArray), a.toNat < n → (x.size : Int) + (a.toNat : Int) ≤ 4611686018427387904 → ∃ v, B.Ev (fun k => laws_markText.l0 k a x) v := by
  intro n
  induction n with
  | zero => intro a x h; omega
  | succ n ih =>
    intro a x hn hx
    by_cases c : a > 0
    · obtain ⟨m, rfl⟩ : ∃ m : Nat, a = m := ⟨a.toNat, by omega⟩
      have e1 : Int.tdiv (m : Int) 10 = ((m / 10 : Nat) : Int) := rfl
      have e2 : wrap64 ((m / 10 : Nat) : Int) = ((m / 10 : Nat) : Int) := B.wid (by omega) (by omega)
      obtain ⟨y, hy, hs⟩ : ∃ y, bytesOf ([(wrap64 (48 + (Int.tmod (m : Int) 10))) % 256]) = y ∧ y.size = 1 := ⟨_, rfl, rfl⟩
      have hsz : (y ++ x).size = 1 + x.size := by rw [ByteArray.size_append, hs]
      have h3 : 1 + x.size ≤ 9223372036854775807 := by clear e2; omega
      obtain ⟨v, hv⟩ := ih ((m / 10 : Nat) : Int) (y ++ x) (by clear e2; omega) (by rw [hsz]; clear e2; omega)
      refine ⟨v, B.Ev.succ ?_⟩
      simp only [laws_markText.l0, c, ↓reduceIte, hy, hs, h3, e1, e2]
      exact hv
    · refine ⟨(⟨#[109]⟩ : ByteArray) ++ x, B.Ev.succ ?_⟩
      have : (⟨#[109]⟩ : ByteArray).size = 1 := rfl
      simp only [laws_markText.l0, c, ↓reduceIte, this, show 1 + x.size ≤ 9223372036854775807 by omega]
      exact B.Ev.pure _
open Classical in
/-- The text of a mark. -/
noncomputable def mt (a : Int) : ByteArray := if h : ∃ v, B.Ev (fun k => laws_markText.f k a) v then h.choose else ⟨#[]⟩
theorem evMt {a : Int} (h : a ≤ 4611686018427387904) : B.Ev (fun k => laws_markText.f k a) (mt a) := by
  have e : ∃ v, B.Ev (fun k => laws_markText.f k a) v := by
    by_cases c : a ≤ 0
    · refine ⟨⟨#[109, 48]⟩, ?_⟩
      simp only [laws_markText.f, c, ↓reduceIte]; exact B.Ev.pure _
    · obtain ⟨v, hv⟩ := markTextL (a.toNat + 1) a ⟨#[]⟩ (by omega) (by show ((0 : Nat) : Int) + _ ≤ _; omega)
      refine ⟨v, ?_⟩
      simp only [laws_markText.f, c, ↓reduceIte]; exact hv
  unfold mt
  rw [dif_pos e]
  exact e.choose_spec
end Go.Proofs.Ytinlbiphjgpmmaa.X
end YtinlbiphjgpmmaaXMarkT
section YtinlbiphjgpmmaaXRevM
namespace Go.Proofs.Ytinlbiphjgpmmaa.X
open Go Go.RowKit Go.Proofs.Ytinlbiphjgpmmaa.V Go.Proofs.Ytinlbiphjgpmmaa.P
set_option linter.all false
/-- From index i on the marks a, a+1, .. stand. -/
def Mkd (r : List S65) (i : Nat) (a : Int) : Prop := ∀ j (h : j < r.length), i ≤ j → r[j] = ⟨a + 2 * ((j - i : Nat) : Int), mt (a + 2 * ((j - i : Nat) : Int) + 1)⟩
theorem markRevL : ∀ (d i : Nat) (y : List S65) (a : Int), i + d = y.length → y.length ≤ 4194304 → 0 ≤ a → a + 2 * (d : Int) ≤ 1152921504606846976 → ∃ r, B.Ev (fun k => laws_markRevS.l0 k y a (i : Int)) (a + 2 * (d : Int), r) ∧ r.length = y.length ∧ (∀ j (h : j < r.length) (h' : j < y.length), j < i → r[j] = y[j]) ∧ Mkd r i a := by
  intro d
  induction d with
  | zero =>
    intro i y a hi hl h0 h1
    refine ⟨y, B.Ev.succ ?_, rfl, fun _ _ _ _ => rfl, fun j h h' => by omega⟩
    simp only [laws_markRevS.l0, show ¬ ((i : Int) < (y.length : Int)) by omega, ↓reduceIte, show a + 2 * ((0 : Nat) : Int) = a by omega]
    exact B.Ev.pure _
  | succ d ih =>
    intro i y a hi hl h0 h1
    have hil : i < y.length := by omega
    have e1 : wrap64 (a + 1) = a + 1 := B.wid (by omega) (by omega)
    have e2 : wrap64 (a + 1 + 1) = a + 2 := by rw [show a + 1 + 1 = a + 2 by omega]; exact B.wid (by omega) (by omega)
    have hw := B.wsucc (show i < 9223372036854775807 by omega)
    let z : S65 := ⟨a, y[i].f1⟩
    have hz : i < (y.set i z).length := by rw [List.length_set]; exact hil
    obtain ⟨r, g1, g2, g3, g4⟩ := ih (i + 1) ((y.set i z).set i (⟨a, mt (a + 1)⟩ : S65)) (a + 2) (by simp only [List.length_set]; omega) (by simp only [List.length_set]; omega) (by omega) (by omega)
    simp only [List.length_set] at g2
    refine ⟨r, B.Ev.succ ?_, g2, fun j h h' hj => ?_, fun j h hj => ?_⟩
    · simp only [laws_markRevS.l0, show ((i : Int) < (y.length : Int)) by omega, show (0 : Int) ≤ (i : Int) by omega, ↓reduceIte, Option.bind_some, e1, e2, hw, Int.toNat_natCast, rdRev hil]
      refine B.Ev.bind (evMt (by omega)) ?_
      rw [show (rd_T65 (y.set i ⟨a, y[i].f1⟩) (i : Int)).f0 = a by rw [rdRev hz]; simp [z]]
      rw [show a + 2 * ((d + 1 : Nat) : Int) = a + 2 + 2 * (d : Int) by omega]
      exact g1
    · have := g3 j h (by simp only [List.length_set]; omega) (by omega)
      rw [this, List.getElem_set_ne (by omega), List.getElem_set_ne (by omega)]
    · by_cases c : j = i
      · subst c
        have := g3 j h (by simp only [List.length_set]; omega) (by omega)
        rw [this, List.getElem_set_self]
        simp
      · have := g4 j h (by omega)
        rw [this, show a + 2 + 2 * ((j - (i + 1) : Nat) : Int) = a + 2 * ((j - i : Nat) : Int) by omega]
theorem markRepo {l : List S65} (hl : l.length ≤ 4194304) : ∃ r, B.Ev (fun k => laws_markRepo.f k l 1) (1 + 2 * (l.length : Int), r) ∧ r.length = l.length ∧ Mkd r 0 1 := by
  obtain ⟨r, g1, g2, _, g4⟩ := markRevL l.length 0 l 1 (by omega) hl (by omega) (by omega)
  refine ⟨r, ?_, g2, g4⟩
  simp only [laws_markRepo.f, laws_markRevS.f]
  refine B.Ev.bind g1 ?_
  simp only [g2, ↓reduceIte]; exact B.Ev.pure _
theorem heldRevL : ∀ (d i : Nat) (y : List S65) (a : Int), i + d = y.length → y.length ≤ 4194304 → 0 ≤ a → a + 2 * (d : Int) ≤ 1152921504606846976 → Mkd y i a → B.Ev (fun k => laws_heldRevS.l0 k y a (i : Int)) (a + 2 * (d : Int)) := by
  intro d
  induction d with
  | zero =>
    intro i y a hi hl h0 h1 hm
    refine B.Ev.succ ?_
    simp only [laws_heldRevS.l0, show ¬ ((i : Int) < (y.length : Int)) by omega, ↓reduceIte, show a + 2 * ((0 : Nat) : Int) = a by omega]
    exact B.Ev.pure _
  | succ d ih =>
    intro i y a hi hl h0 h1 hm
    have hil : i < y.length := by omega
    have e1 : wrap64 (a + 1) = a + 1 := B.wid (by omega) (by omega)
    have e2 : wrap64 (a + 1 + 1) = a + 2 := by rw [show a + 1 + 1 = a + 2 by omega]; exact B.wid (by omega) (by omega)
    have hw := B.wsucc (show i < 9223372036854775807 by omega)
    have hy := hm i hil (Nat.le_refl i)
    simp only [Nat.sub_self, show a + 2 * ((0 : Nat) : Int) = a by omega] at hy
    have := ih (i + 1) y (a + 2) (by omega) hl (by omega) (by omega) fun j h hj => by
      rw [hm j h (by omega), show a + 2 + 2 * ((j - (i + 1) : Nat) : Int) = a + 2 * ((j - i : Nat) : Int) by omega]
    refine B.Ev.succ ?_
    simp only [laws_heldRevS.l0, show ((i : Int) < (y.length : Int)) by omega, show (0 : Int) ≤ (i : Int) by omega, ↓reduceIte, e1, e2, hw, rdRev hil, hy]
    refine B.Ev.bind (evMt (by omega)) ?_
    simp only [↓reduceIte]
    rw [show a + 2 * ((d + 1 : Nat) : Int) = a + 2 + 2 * (d : Int) by omega]
    exact this
theorem heldRepo {l : List S65} (hl : l.length ≤ 4194304) (hm : Mkd l 0 1) : B.Ev (fun k => laws_heldRepo.f k l 1) (1 + 2 * (l.length : Int)) := by
  simp only [laws_heldRepo.f, laws_heldRevS.f]
  refine B.Ev.bind (heldRevL l.length 0 l 1 (by omega) hl (by omega) (by omega) hm) ?_
  simp only [show ¬ (1 + 2 * (l.length : Int) < 0) by omega, ↓reduceIte]
  exact B.Ev.pure _
end Go.Proofs.Ytinlbiphjgpmmaa.X
end YtinlbiphjgpmmaaXRevM
section YtinlbiphjgpmmaaPureFnExactFlat
namespace Go.Proofs.Ytinlbiphjgpmmaa.Pure
open Go Go.RowKit Go.Proofs.Ytinlbiphjgpmmaa.V Go.Proofs.Ytinlbiphjgpmmaa.P Go.Proofs.Ytinlbiphjgpmmaa.X
set_option linter.all false
theorem evFlat {r : List S65} (hr : repoW r) {i : Int} (h1 : -9223372036854775808 ≤ i) (h2 : i ≤ 9223372036854775807) : B.EvR (fun k => spec_Flat.f k r i) (fun k => impl_Flat.f k r i) (fun u v => u = v ∧ u.1.length ≤ 4194304) := by
  have hl := hr.1
  have hb : r.length * 24 ≤ 140737488355328 := by omega
  have no : B.EvR (fun _ => some (r, false)) (fun _ => some (r, false)) (fun u v => u = v ∧ u.1.length ≤ 4194304) := B.EvR.pure ⟨rfl, hl⟩
  simp only [spec_Flat.f, impl_Flat.f, spec_l30Copy.f, impl_repoCopy.f, slices_Clone_impl_Rev_impl_Rev.f, hb, ↓reduceIte, Option.bind_some]
  obtain ⟨u, v, ⟨rfl, _⟩, g1, g2⟩ := evRepoGet hr (i.toNat + 1) i (by omega) h1 h2
  by_cases c0 : 0 ≤ i ∧ i ≤ (r.length : Int) - 1
  · obtain ⟨w, g3, g4⟩ := (evRepoOk hr).same
    refine B.EvR.bindL g1 ?_
    refine B.EvR.bindR g2 ?_
    by_cases c : u.2 = true
    · simp only [c, ↓reduceIte]
      refine B.EvR.bindL g3 ?_
      refine B.EvR.bindR g4 ?_
      by_cases c' : w = true
      · simp only [c', ↓reduceIte, c0.1, show i < (r.length : Int) by omega]
        exact B.EvR.pure ⟨rfl, by simp only [List.length_set]; exact hl⟩
      · simp only [c', ↓reduceIte, Bool.false_eq_true]; exact no
    · simp only [c, ↓reduceIte, Bool.false_eq_true]; exact no
  · have el : wrap64 ((r.length : Int) - 1) = (r.length : Int) - 1 := B.wid (by omega) (by omega)
    have e : B.Ev (fun k => spec_RepoGet.f k r i) ((⟨#[]⟩ : ByteArray), false) := by
      refine B.Ev.succ ?_
      simp only [spec_RepoGet.f, l1In, Option.bind_some, decide_eq_true_eq, el, c0, ↓reduceIte]
      exact B.Ev.pure _
    have e' : B.Ev (fun k => impl_RepoGet.f k r i) ((⟨#[]⟩ : ByteArray), false) := by
      refine B.Ev.succ ?_
      simp only [impl_RepoGet.f, within, Option.bind_some, decide_eq_true_eq, el, c0, ↓reduceIte]
      exact B.Ev.ite (fun _ => B.Ev.pure _) (fun _ => B.Ev.pure _)
    refine B.EvR.bindL e ?_
    refine B.EvR.bindR e' ?_
    simp only [↓reduceIte, Bool.false_eq_true]
    exact no
theorem FnExactFlat (l0 : List S100) (i : Int) (h0 : l0.length ≤ maxLen ∧ ∀ x ∈ l0, ((-9223372036854775808 ≤ x.f0 ∧ x.f0 ≤ 9223372036854775807) ∧ x.f1.size ≤ maxLen)) (hi : -9223372036854775808 ≤ i ∧ i ≤ 9223372036854775807) : ∃ k, laws_FnExactFlat.f k l0 i = some true := by
  refine B.Ev.ex ?_
  simp only [laws_FnExactFlat.f]
  obtain ⟨r, hr, hc⟩ := szRepo l0 h0.1 (fun x hx => (h0.2 x hx).2)
  refine B.Ev.bind hr ?_
  by_cases hs : r < 0
  · simp only [hs, ↓reduceIte]; exact B.Ev.pure _
  · simp only [hs, ↓reduceIte]
    have hn : l0.length ≤ 1048576 := by rcases hc with h | h <;> omega
    refine B.Ev.bind (toRepo l0 (by omega)) ?_
    have hw : repoW (l0.map rvL) := ⟨by rw [List.length_map]; omega, fun x hx => by
      obtain ⟨y, hy, rfl⟩ := List.mem_map.1 hx
      exact (h0.2 y hy).2⟩
    obtain ⟨u, v, ⟨rfl, hu⟩, g1, g2⟩ := evFlat hw hi.1 hi.2
    refine B.Ev.bind g1 ?_
    refine B.Ev.bind g2 ?_
    refine B.Ev.bind (eqRepo _ hu) ?_
    simp only [↓reduceIte]
    refine B.Ev.bind (eqRepo _ hw.1) ?_
    simp only [↓reduceIte]
    obtain ⟨r1, m1, _, _⟩ := markRepo hw.1
    obtain ⟨r2, m2, m3, m4⟩ := markRepo hu
    refine B.Ev.bind m1 ?_
    simp only [show ¬ (1 + 2 * ((l0.map rvL).length : Int) < 0) by omega, ↓reduceIte]
    refine B.Ev.bind m2 ?_
    have hh := heldRepo (by omega) m4
    rw [m3] at hh
    refine B.Ev.bind hh ?_
    simp only [show ¬ (1 + 2 * (u.1.length : Int) < 0) by omega, ↓reduceIte]
    exact B.Ev.pure _
end Go.Proofs.Ytinlbiphjgpmmaa.Pure
end YtinlbiphjgpmmaaPureFnExactFlat
