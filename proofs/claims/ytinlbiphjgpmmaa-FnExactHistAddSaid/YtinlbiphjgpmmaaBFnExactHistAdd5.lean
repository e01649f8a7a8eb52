/- FnExactHistAdd: XHistL XHistM PureFnExactHistAdd. -/
import Derived.Test.YtinlbiphjgpmmaaBFnExactHistAdd4
section YtinlbiphjgpmmaaXHistL
namespace Go.Proofs.Ytinlbiphjgpmmaa.X
open Go Go.RowKit Go.Proofs.Ytinlbiphjgpmmaa.V Go.Proofs.Ytinlbiphjgpmmaa.P
set_option linter.all false
theorem rdlOp_at (pre : List S81) (x : S81) (rest : List S81) : rd_T81 (pre ++ x :: rest) (pre.length : Int) = x := by
  unfold rd_T81; rw [Int.toNat_natCast, B.getD_lt (by simp)]
  simp
theorem rdlOp {xs : List S81} {i : Nat} (h : i < xs.length) : rd_T81 xs (i : Int) = xs[i] := by unfold rd_T81; rw [Int.toNat_natCast]; exact B.getD_lt h
theorem rdlNode {xs : List S122} {i : Nat} (h : i < xs.length) : rd_T122 xs (i : Int) = xs[i] := by unfold rd_T122; rw [Int.toNat_natCast]; exact B.getD_lt h
theorem rdLi {α : Type} {xs : List (List α)} {i : Nat} (h : i < xs.length) : rdL xs (i : Int) = xs[i] := by unfold rdL; rw [Int.toNat_natCast]; exact B.getD_lt h
/-! Sizes. -/
def ptot : List S81 → Nat
  | [] => 0
  | x :: xs => x.f1.length + ptot xs
def ltot (l : List S81) : Nat := l.length + ptot l
theorem szInts (l : List Int) (a : Int) (h0 : 0 ≤ a) (h1 : a ≤ 1048576) (hl : l.length ≤ 9223372036854775807) : laws_szIntS.f l a = some (if a < (l.length : Int) then -1 else a - (l.length : Int)) := by
  have e : wrap64 (a - (l.length : Int)) = a - (l.length : Int) := B.wid (by omega) (by omega)
  simp only [laws_szIntS.f, e]
  clear e
  by_cases c : a < (l.length : Int)
  · simp only [c, ↓reduceIte, show a - (l.length : Int) < 0 by omega]
  · simp only [c, ↓reduceIte, show ¬ (a - (l.length : Int) < 0) by omega]
theorem szOpsL : ∀ (rest pre : List S81) (a : Int), 0 ≤ a → a ≤ 1048576 → pre.length + rest.length ≤ 1048576 → (∀ o ∈ rest, o.f1.length ≤ 9223372036854775807) → ∃ r : Int, B.Ev (fun k => laws_szOpS.l0 k (pre ++ rest) a (pre.length : Int)) r ∧ (r < 0 ∨ (r = a - (ptot rest : Int) ∧ 0 ≤ r)) := by
  intro rest
  induction rest with
  | nil =>
    intro pre a h0 _ _ _
    refine ⟨a, B.Ev.succ ?_, .inr ⟨by simp [ptot], h0⟩⟩
    simp only [laws_szOpS.l0, List.append_nil, Int.lt_irrefl, ↓reduceIte]
    exact B.Ev.pure _
  | cons x rest ih =>
    intro pre a h0 ha hl hx
    have hlt : (pre.length : Int) < ((pre ++ x :: rest).length : Int) := by rw [List.length_append, List.length_cons]; omega
    rw [List.length_cons] at hl
    have hs := szInts x.f1 a h0 ha (hx x (List.mem_cons_self ..))
    by_cases c : a < (x.f1.length : Int)
    · refine ⟨-1, B.Ev.succ ?_, .inl (by decide)⟩
      simp only [laws_szOpS.l0, hlt, show 0 ≤ (pre.length : Int) by omega, ↓reduceIte, rdlOp_at, laws_szOp.f, hs, c, Option.bind_some, show ((-1 : Int) < 0) by decide]
      exact B.Ev.pure _
    · obtain ⟨r, ih, hr⟩ := ih (pre ++ [x]) (a - (x.f1.length : Int)) (by omega) (by omega) (by rw [List.length_append, List.length_singleton]; omega) (fun y hy => hx y (List.mem_cons_of_mem _ hy))
      rw [app1, show (pre ++ [x]).length = pre.length + 1 by simp] at ih
      refine ⟨r, B.Ev.succ ?_, by simp only [ptot]; omega⟩
      simp only [laws_szOpS.l0, hlt, show 0 ≤ (pre.length : Int) by omega, ↓reduceIte, rdlOp_at, laws_szOp.f, hs, c, Option.bind_some, show ¬ (a - (x.f1.length : Int) < 0) by omega, B.wsucc (show pre.length < 9223372036854775807 by omega)]
      exact ih
theorem szOps (l : List S81) (a : Int) (h0 : 0 ≤ a) (h1 : a ≤ 1048576) (hl : l.length ≤ 9223372036854775807) (hx : ∀ o ∈ l, o.f1.length ≤ 9223372036854775807) : ∃ r : Int, B.Ev (fun k => laws_szOpS.f k l a) r ∧ (r < 0 ∨ (r = a - (ltot l : Int) ∧ 0 ≤ r)) := by
  have e : wrap64 (a - (l.length : Int)) = a - (l.length : Int) := B.wid (by omega) (by omega)
  simp only [laws_szOpS.f, e]
  clear e
  by_cases c : a - (l.length : Int) < 0
  · refine ⟨-1, ?_, .inl (by decide)⟩
    simp only [c, ↓reduceIte]; exact B.Ev.pure _
  · obtain ⟨r, h, hr⟩ := szOpsL l [] (a - (l.length : Int)) (by omega) (by omega) (by simp; omega) hx
    refine ⟨r, ?_, by unfold ltot; omega⟩
    simp only [c, ↓reduceIte]; exact h
def ttot : List (List S81) → Nat
  | [] => 0
  | x :: xs => ltot x + ttot xs
theorem szStepsL : ∀ (rest pre : List (List S81)) (a : Int), 0 ≤ a → a ≤ 1048576 → pre.length + rest.length ≤ 1048576 → (∀ l ∈ rest, l.length ≤ 9223372036854775807 ∧ ∀ o ∈ l, o.f1.length ≤ 9223372036854775807) → ∃ r : Int, B.Ev (fun k => laws_szOpSS.l0 k (pre ++ rest) a (pre.length : Int)) r ∧ (r < 0 ∨ (r = a - (ttot rest : Int) ∧ 0 ≤ r)) := by
  intro rest
  induction rest with
  | nil =>
    intro pre a h0 _ _ _
    refine ⟨a, B.Ev.succ ?_, .inr ⟨by simp [ttot], h0⟩⟩
    simp only [laws_szOpSS.l0, List.append_nil, Int.lt_irrefl, ↓reduceIte]
    exact B.Ev.pure _
  | cons x rest ih =>
    intro pre a h0 ha hl hx
    have hlt : (pre.length : Int) < ((pre ++ x :: rest).length : Int) := by rw [List.length_append, List.length_cons]; omega
    rw [List.length_cons] at hl
    have hx0 := hx x (List.mem_cons_self ..)
    obtain ⟨s, hs, hs2⟩ := szOps x a h0 ha hx0.1 hx0.2
    by_cases c : s < 0
    · refine ⟨-1, B.Ev.succ ?_, .inl (by decide)⟩
      simp only [laws_szOpSS.l0, hlt, show 0 ≤ (pre.length : Int) by omega, ↓reduceIte, rdL_at]
      refine B.Ev.bind hs ?_
      simp only [c, ↓reduceIte]; exact B.Ev.pure _
    · obtain ⟨r, ih, hr⟩ := ih (pre ++ [x]) s (by omega) (by omega) (by rw [List.length_append, List.length_singleton]; omega) (fun y hy => hx y (List.mem_cons_of_mem _ hy))
      rw [app1, show (pre ++ [x]).length = pre.length + 1 by simp] at ih
      refine ⟨r, B.Ev.succ ?_, by simp only [ttot]; omega⟩
      simp only [laws_szOpSS.l0, hlt, show 0 ≤ (pre.length : Int) by omega, ↓reduceIte, rdL_at, B.wsucc (show pre.length < 9223372036854775807 by omega)]
      refine B.Ev.bind hs ?_
      simp only [c, ↓reduceIte]; exact ih
theorem szHist (t : List S122) (s : List (List S81)) (ht : t.length ≤ 9223372036854775807) (hl : s.length ≤ 9223372036854775807) (hx : ∀ l ∈ s, l.length ≤ 9223372036854775807 ∧ ∀ o ∈ l, o.f1.length ≤ 9223372036854775807) : ∃ r : Int, B.Ev (fun k => laws_szHist.f k t s 1048576) r ∧ (r < 0 ∨ (r = 1048576 - (t.length : Int) - (s.length : Int) - (ttot s : Int) ∧ 0 ≤ r)) := by
  have e : wrap64 (1048576 - (t.length : Int)) = 1048576 - (t.length : Int) := B.wid (by omega) (by omega)
  simp only [laws_szHist.f, laws_szNodeS.f, e]
  clear e
  by_cases c : (1048576 : Int) - (t.length : Int) < 0
  · refine ⟨-1, ?_, .inl (by decide)⟩
    simp only [c, ↓reduceIte, Option.bind_some, show ((-1 : Int) < 0) by decide]; exact B.Ev.pure _
  · simp only [c, ↓reduceIte, Option.bind_some, laws_szOpSS.f]
    have e : wrap64 (1048576 - (t.length : Int) - (s.length : Int)) = 1048576 - (t.length : Int) - (s.length : Int) := B.wid (by omega) (by omega)
    simp only [e]
    clear e
    by_cases c2 : (1048576 : Int) - (t.length : Int) - (s.length : Int) < 0
    · refine ⟨-1, ?_, .inl (by decide)⟩
      simp only [c2, ↓reduceIte, Option.bind_some, show ((-1 : Int) < 0) by decide]; exact B.Ev.pure _
    · simp only [c2, ↓reduceIte]
      obtain ⟨r, h, hr⟩ := szStepsL s [] (1048576 - (t.length : Int) - (s.length : Int)) (by omega) (by omega) (by simp; omega) hx
      by_cases c3 : r < 0
      · refine ⟨-1, B.Ev.bind h ?_, .inl (by decide)⟩
        simp only [c3, ↓reduceIte]; exact B.Ev.pure _
      · refine ⟨r, B.Ev.bind h ?_, .inr (by omega)⟩
        simp only [c3, ↓reduceIte]; exact B.Ev.pure _
/-! Copies. -/
def opL (x : S81) : S87 := ⟨x.f0, x.f1, x.f2, x.f3, x.f4⟩
def ndL (x : S122) : S105 := ⟨x.f0, x.f1⟩
theorem toOps (l : List S81) (hl : l.length ≤ 4194304) (hx : ∀ o ∈ l, o.f1.length ≤ 4194304) : B.Ev (fun k => laws_toOpS.f k l) (l.map opL) := by
  simp only [laws_toOpS.f, show (0 : Int) ≤ (l.length : Int) by omega, show (l.length : Int) * 56 ≤ 140737488355328 by omega, ↓reduceIte, Int.toNat_natCast]
  rw [← B.filled_zero l opL]
  refine B.Ev.loop (g := fun k i => laws_toOpS.l0 k l (B.filled l opL z87 i) (i : Int)) l.length (fun _ => True) ?_ ?_ 0 (Nat.zero_le _) trivial
  · intro _
    refine B.Ev.succ ?_
    simp only [laws_toOpS.l0, Int.lt_irrefl, ↓reduceIte, B.filled_all]
    exact B.Ev.pure _
  · intro i hi _ ih
    refine B.Ev.succ ?_
    have a2 : (i : Int) < ((B.filled l opL z87 i).length : Int) := by rw [B.filled_length _ _ _ (by omega)]; omega
    have hp := hx _ (List.getElem_mem hi)
    simp only [laws_toOpS.l0, laws_toOp.f, show (i : Int) < (l.length : Int) by omega, show (0 : Int) ≤ (i : Int) by omega, a2, ↓reduceIte, rdlOp hi, B.wsucc (show i < 9223372036854775807 by omega), Int.toNat_natCast]
    refine B.Ev.bind (B.Ev.bind (B.Ev.of _ (fun k hk => toIntS l[i].f1 hp k hk)) (B.Ev.pure _)) ?_
    have := ih trivial
    rw [← B.filled_set l opL z87 hi] at this
    exact this
theorem toSteps (s : List (List S81)) (hl : s.length ≤ 4194304) (hx : ∀ l ∈ s, l.length ≤ 4194304 ∧ ∀ o ∈ l, o.f1.length ≤ 4194304) : B.Ev (fun k => laws_toOpSS.f k s) (s.map fun l => l.map opL) := by
  simp only [laws_toOpSS.f, show (0 : Int) ≤ (s.length : Int) by omega, show (s.length : Int) * 24 ≤ 140737488355328 by omega, ↓reduceIte, Int.toNat_natCast]
  rw [← B.filled_zero s (fun l : List S81 => l.map opL)]
  refine B.Ev.loop (g := fun k i => laws_toOpSS.l0 k s (B.filled s (fun l => l.map opL) ([] : List S87) i) (i : Int)) s.length (fun _ => True) ?_ ?_ 0 (Nat.zero_le _) trivial
  · intro _
    refine B.Ev.succ ?_
    simp only [laws_toOpSS.l0, Int.lt_irrefl, ↓reduceIte, B.filled_all]
    exact B.Ev.pure _
  · intro i hi _ ih
    refine B.Ev.succ ?_
    have a2 : (i : Int) < ((B.filled s (fun l => l.map opL) ([] : List S87) i).length : Int) := by rw [B.filled_length _ _ _ (by omega)]; omega
    have hp := hx _ (List.getElem_mem hi)
    simp only [laws_toOpSS.l0, show (i : Int) < (s.length : Int) by omega, show (0 : Int) ≤ (i : Int) by omega, a2, ↓reduceIte, rdLi hi, B.wsucc (show i < 9223372036854775807 by omega), Int.toNat_natCast]
    refine B.Ev.bind (toOps s[i] hp.1 hp.2) ?_
    have := ih trivial
    rw [← B.filled_set s (fun l => l.map opL) ([] : List S87) hi] at this
    exact this
theorem toNodes (l : List S122) (hl : l.length ≤ 4194304) : B.Ev (fun k => laws_toNodeS.f k l) (l.map ndL) := by
  simp only [laws_toNodeS.f, show (0 : Int) ≤ (l.length : Int) by omega, show (l.length : Int) * 16 ≤ 140737488355328 by omega, ↓reduceIte, Int.toNat_natCast]
  rw [← B.filled_zero l ndL]
  refine B.Ev.loop (g := fun k i => laws_toNodeS.l0 k l (B.filled l ndL z105 i) (i : Int)) l.length (fun _ => True) ?_ ?_ 0 (Nat.zero_le _) trivial
  · intro _
    refine B.Ev.succ ?_
    simp only [laws_toNodeS.l0, Int.lt_irrefl, ↓reduceIte, B.filled_all]
    exact B.Ev.pure _
  · intro i hi _ ih
    refine B.Ev.succ ?_
    have a2 : (i : Int) < ((B.filled l ndL z105 i).length : Int) := by rw [B.filled_length _ _ _ (by omega)]; omega
    simp only [laws_toNodeS.l0, laws_toNode.f, show (i : Int) < (l.length : Int) by omega, show (0 : Int) ≤ (i : Int) by omega, a2, ↓reduceIte, rdlNode hi, Option.bind_some, B.wsucc (show i < 9223372036854775807 by omega), Int.toNat_natCast]
    have := ih trivial
    rw [← B.filled_set l ndL z105 hi] at this
    exact this
/-! Equal to itself. -/
theorem eqOps {l : List S87} (h : PIn l) : B.Ev (fun k => laws_eqOpS.f k l l) true := by
  have hl := h.1
  simp only [laws_eqOpS.f, ↓reduceIte]
  refine B.Ev.loop (g := fun k i => laws_eqOpS.l0 k l l (i : Int)) l.length (fun _ => True) ?_ ?_ 0 (Nat.zero_le _) trivial
  · intro _
    refine B.Ev.succ ?_
    simp only [laws_eqOpS.l0, Int.lt_irrefl, ↓reduceIte]
    exact B.Ev.pure _
  · intro i hi _ ih
    refine B.Ev.succ ?_
    have hp := h.2 _ (List.getElem_mem hi)
    have e : rd_T87 l (i : Int) = l[i] := by unfold rd_T87; rw [Int.toNat_natCast]; exact B.getD_lt hi
    simp only [laws_eqOpS.l0, laws_eqOp.f, show (i : Int) < (l.length : Int) by omega, show (0 : Int) ≤ (i : Int) by omega, ↓reduceIte, e, B.wsucc (show i < 9223372036854775807 by omega)]
    refine B.Ev.bind (B.Ev.bind (B.Ev.of _ (fun k hk => eqIntS l[i].f1 hp k hk)) (B.Ev.pure _)) ?_
    simp only [↓reduceIte]
    exact ih trivial
theorem eqSteps {s : List (List S87)} (h : HIn s) : B.Ev (fun k => laws_eqOpSS.f k s s) true := by
  have hl := h.1
  simp only [laws_eqOpSS.f, ↓reduceIte]
  refine B.Ev.loop (g := fun k i => laws_eqOpSS.l0 k s s (i : Int)) s.length (fun _ => True) ?_ ?_ 0 (Nat.zero_le _) trivial
  · intro _
    refine B.Ev.succ ?_
    simp only [laws_eqOpSS.l0, Int.lt_irrefl, ↓reduceIte]
    exact B.Ev.pure _
  · intro i hi _ ih
    refine B.Ev.succ ?_
    simp only [laws_eqOpSS.l0, show (i : Int) < (s.length : Int) by omega, show (0 : Int) ≤ (i : Int) by omega, ↓reduceIte, rdLi hi, B.wsucc (show i < 9223372036854775807 by omega)]
    refine B.Ev.bind (eqOps (h.2 _ (List.getElem_mem hi))) ?_
    simp only [↓reduceIte]
    exact ih trivial
theorem eqHist {t : List S105} {s : List (List S87)} (ht : t.length ≤ 4194304) (h : HIn s) : B.Ev (fun k => laws_eqHist.f k t s t s) true := by
  simp only [laws_eqHist.f, laws_eqNodeS.f, ↓reduceIte]
  have e : B.Ev (fun k => laws_eqNodeS.l0 k t t 0) true := by
    refine B.Ev.loop (g := fun k i => laws_eqNodeS.l0 k t t (i : Int)) t.length (fun _ => True) ?_ ?_ 0 (Nat.zero_le _) trivial
    · intro _
      refine B.Ev.succ ?_
      simp only [laws_eqNodeS.l0, Int.lt_irrefl, ↓reduceIte]
      exact B.Ev.pure _
    · intro i hi _ ih
      refine B.Ev.succ ?_
      simp only [laws_eqNodeS.l0, laws_eqNode.f, show (i : Int) < (t.length : Int) by omega, show (0 : Int) ≤ (i : Int) by omega, ↓reduceIte, Option.bind_some, B.wsucc (show i < 9223372036854775807 by omega)]
      exact ih trivial
  refine B.Ev.bind e ?_
  simp only [↓reduceIte]
  refine B.Ev.bind (eqSteps h) ?_
  simp only [↓reduceIte]
  exact B.Ev.pure _
end Go.Proofs.Ytinlbiphjgpmmaa.X
end YtinlbiphjgpmmaaXHistL
section YtinlbiphjgpmmaaXHistM
namespace Go.Proofs.Ytinlbiphjgpmmaa.X
open Go Go.RowKit Go.Proofs.Ytinlbiphjgpmmaa.V Go.Proofs.Ytinlbiphjgpmmaa.P
set_option linter.all false
theorem HIn.sin {s : List (List S87)} (h : HIn s) : SIn s := fun x hx => h.2 x hx
theorem evMarkHist {t : List S105} {s : List (List S87)} (ht : t.length ≤ 4194304) (hs : HIn s) (hb : (stot s : Int) ≤ 990000000) : B.Ev (fun k => laws_markHist.f k t s 1) (1 + 2 * (t.length : Int) + (stot s : Int), nmark t 1, smark s (1 + 2 * (t.length : Int))) := by
  have h1 := markNodes t [] 1 (by omega) (by omega) (by simpa using ht)
  have h2 := markSteps s [] (1 + 2 * (t.length : Int)) (by omega) (by omega) (by simpa using hs.1) hs.sin
  simp only [laws_markHist.f, laws_markNodeS.f, laws_markOpSS.f]
  refine B.Ev.bind h1 ?_
  simp only [List.nil_append, nmark_len, ↓reduceIte]
  refine B.Ev.bind h2 ?_
  simp only [List.nil_append, smark_len, ↓reduceIte]
  exact B.Ev.pure _
theorem evHeldHist {t : List S105} {s : List (List S87)} (ht : t.length ≤ 4194304) (hs : HIn s) (hb : (stot s : Int) ≤ 990000000) : B.Ev (fun k => laws_heldHist.f k (nmark t 1) (smark s (1 + 2 * (t.length : Int))) 1) (1 + 2 * (t.length : Int) + (stot s : Int)) := by
  have h1 := heldNodes t [] 1 (by omega) (by omega) (by simpa using ht)
  have h2 := heldSteps s [] (1 + 2 * (t.length : Int)) (by omega) (by omega) (by simpa using hs.1) hs.sin
  simp only [laws_heldHist.f, laws_heldNodeS.f, laws_heldOpSS.f]
  refine B.Ev.bind h1 ?_
  simp only [show ¬ (1 + 2 * (t.length : Int) < 0) by omega, ↓reduceIte]
  refine B.Ev.bind h2 ?_
  simp only [show ¬ (1 + 2 * (t.length : Int) + (stot s : Int) < 0) by omega, ↓reduceIte]
  exact B.Ev.pure _
theorem ptot_mem : ∀ {l : List S81} {o : S81}, o ∈ l → o.f1.length ≤ ptot l
  | x :: xs, o, h => by
    rcases List.mem_cons.1 h with rfl | h
    · simp only [ptot]; omega
    · have := ptot_mem h; simp only [ptot]; omega
theorem ttot_mem : ∀ {s : List (List S81)} {l : List S81}, l ∈ s → ltot l ≤ ttot s
  | x :: xs, l, h => by
    rcases List.mem_cons.1 h with rfl | h
    · simp only [ttot]; omega
    · have := ttot_mem h; simp only [ttot]; omega
theorem otot_map : ∀ l : List S81, otot (l.map opL) ≤ 4 * l.length + ptot l
  | [] => by simp [otot, ptot]
  | x :: xs => by have := otot_map xs; simp only [List.map_cons, otot, ptot, List.length_cons, opL]; omega
theorem stot_map : ∀ s : List (List S81), stot (s.map fun l => l.map opL) ≤ 4 * ttot s
  | [] => by simp [stot, ttot]
  | x :: xs => by have := stot_map xs; have := otot_map x; simp only [List.map_cons, stot, ttot, ltot]; omega
theorem stot_app : ∀ (s : List (List S87)) (o : List S87), stot (s ++ [o]) = stot s + otot o
  | [], o => by simp [stot]
  | x :: xs, o => by simp only [List.cons_append, stot, stot_app xs]; omega
theorem PIn_map {l : List S81} (h : ltot l ≤ 1048576) : PIn (l.map opL) := by
  unfold ltot at h
  refine ⟨by rw [List.length_map]; omega, fun o ho => ?_⟩
  obtain ⟨y, hy, rfl⟩ := List.mem_map.1 ho
  have := ptot_mem hy
  show y.f1.length ≤ 4194304
  omega
end Go.Proofs.Ytinlbiphjgpmmaa.X
end YtinlbiphjgpmmaaXHistM
section YtinlbiphjgpmmaaPureFnExactHistAdd
namespace Go.Proofs.Ytinlbiphjgpmmaa.Pure
open Go Go.RowKit Go.Proofs.Ytinlbiphjgpmmaa.V Go.Proofs.Ytinlbiphjgpmmaa.P Go.Proofs.Ytinlbiphjgpmmaa.X
set_option linter.all false
theorem FnExactHistAdd (l0 : List S122) (l1 : List (List S81)) (l2 : List S81)
    (h0 : (l0.length ≤ maxLen ∧ ∀ y ∈ l0, ((-9223372036854775808 ≤ y.f0 ∧ y.f0 ≤ 9223372036854775807) ∧ (-9223372036854775808 ≤ y.f1 ∧ y.f1 ≤ 9223372036854775807))) ∧ (l1.length ≤ maxLen ∧ ∀ y ∈ l1, (y.length ≤ maxLen ∧ ∀ z ∈ y, ((-9223372036854775808 ≤ z.f0 ∧ z.f0 ≤ 9223372036854775807) ∧ (z.f1.length ≤ maxLen ∧ ∀ u ∈ z.f1, (-9223372036854775808 ≤ u ∧ u ≤ 9223372036854775807)) ∧ (-9223372036854775808 ≤ z.f2 ∧ z.f2 ≤ 9223372036854775807) ∧ (-9223372036854775808 ≤ z.f3 ∧ z.f3 ≤ 9223372036854775807) ∧ (-9223372036854775808 ≤ z.f4 ∧ z.f4 ≤ 9223372036854775807)))))
    (h2 : l2.length ≤ maxLen ∧ ∀ z ∈ l2, ((-9223372036854775808 ≤ z.f0 ∧ z.f0 ≤ 9223372036854775807) ∧ (z.f1.length ≤ maxLen ∧ ∀ u ∈ z.f1, (-9223372036854775808 ≤ u ∧ u ≤ 9223372036854775807)) ∧ (-9223372036854775808 ≤ z.f2 ∧ z.f2 ≤ 9223372036854775807) ∧ (-9223372036854775808 ≤ z.f3 ∧ z.f3 ≤ 9223372036854775807) ∧ (-9223372036854775808 ≤ z.f4 ∧ z.f4 ≤ 9223372036854775807))) : ∃ k, laws_FnExactHistAdd.f k l0 l1 l2 = some true := by
  refine B.Ev.ex ?_
  simp only [laws_FnExactHistAdd.f]
  obtain ⟨r, hr, hc⟩ := szHist l0 l1 h0.1.1 h0.2.1 (fun l hl => ⟨(h0.2.2 l hl).1, fun o ho => ((h0.2.2 l hl).2 o ho).2.1.1⟩)
  refine B.Ev.bind hr ?_
  by_cases hs : r < 0
  · simp only [hs, ↓reduceIte]; exact B.Ev.pure _
  · simp only [hs, ↓reduceIte]
    obtain ⟨q, hq, hd⟩ := szOps l2 r (by omega) (by omega) h2.1 (fun o ho => (h2.2 o ho).2.1.1)
    refine B.Ev.bind hq ?_
    by_cases hs2 : q < 0
    · simp only [hs2, ↓reduceIte]; exact B.Ev.pure _
    · simp only [hs2, ↓reduceIte]
      have b0 : l0.length + l1.length + ttot l1 + ltot l2 ≤ 1048576 := by omega
      clear hr hq hc hd hs hs2
      have hsteps : ∀ l ∈ l1, l.length ≤ 4194304 ∧ ∀ o ∈ l, o.f1.length ≤ 4194304 := fun l hl => by
        have e1 := ttot_mem hl
        unfold ltot at e1
        exact ⟨by omega, fun o ho => by have := ptot_mem ho; omega⟩
      have hops : l2.length ≤ 4194304 ∧ ∀ o ∈ l2, o.f1.length ≤ 4194304 := by
        have e1 : ltot l2 ≤ 1048576 := by omega
        unfold ltot at e1
        exact ⟨by omega, fun o ho => by have := ptot_mem ho; omega⟩
      have ht : (l0.map ndL).length ≤ 4194304 := by rw [List.length_map]; omega
      have hS : SOk (l1.map fun l => l.map opL) := by
        refine ⟨⟨by rw [List.length_map]; omega, fun l hl => ?_⟩, fun l hl o ho => ?_⟩
        · obtain ⟨y, hy, rfl⟩ := List.mem_map.1 hl
          exact PIn_map (by have := ttot_mem hy; omega)
        · obtain ⟨y, hy, rfl⟩ := List.mem_map.1 hl
          obtain ⟨z, hz, rfl⟩ := List.mem_map.1 ho
          have e1 := (hsteps y hy).2 z hz
          have e2 := ((h0.2.2 y hy).2 z hz).2.2.2.1
          exact ⟨show z.f1.length ≤ _ by omega, e2.1, e2.2⟩
      have hP : PIn (l2.map opL) := PIn_map (by omega)
      have hW : ∀ x ∈ l2.map opL, opW x := fun x hx => by
        obtain ⟨z, hz, rfl⟩ := List.mem_map.1 hx
        have e1 := hops.2 z hz
        have e2 := (h2.2 z hz).2.2.2.1
        exact ⟨show z.f1.length ≤ _ by omega, e2.1, e2.2⟩
      have s1 := stot_map l1
      have s2 := otot_map l2
      have hn : (l1.map fun l => l.map opL).length < 4194304 := by rw [List.length_map]; omega
      simp only [laws_toHist.f]
      refine B.Ev.bind (B.Ev.bind (toNodes l0 (by omega)) (B.Ev.bind (toSteps l1 (by omega) hsteps) (B.Ev.pure _))) ?_
      refine B.Ev.bind (toOps l2 hops.1 hops.2) ?_
      have hb : (stot (l1.map fun l => l.map opL) : Int) ≤ 900000000 := by omega
      have ho2 : (otot (l2.map opL) : Int) ≤ 90000000 := by unfold ltot at b0; omega
      clear s1 s2 b0 h0 h2 hsteps hops
      generalize (l0.map ndL) = t at *
      generalize (l1.map fun l => l.map opL) = s at *
      generalize l2.map opL = o at *
      obtain ⟨u, v, ⟨rfl, e1, e2⟩, g1, g2⟩ := evHistAdd ht hS hn hP hW
      refine B.Ev.bind g1 ?_
      refine B.Ev.bind g2 ?_
      obtain ⟨u1, u2, u3⟩ := u
      simp only at e1 e2
      subst e1
      have hs' : HIn u2 ∧ (stot u2 : Int) ≤ 990000000 := by
        rcases e2 with rfl | rfl
        · exact ⟨hS.1, by omega⟩
        · refine ⟨⟨by rw [List.length_append, List.length_singleton]; omega, fun l hl => ?_⟩, by rw [stot_app]; omega⟩
          rcases List.mem_append.1 hl with h | h
          · exact hS.1.2 l h
          · rw [List.mem_singleton] at h; rw [h]; exact hP
      refine B.Ev.bind (eqHist ht hs'.1) ?_
      simp only [↓reduceIte]
      refine B.Ev.bind (eqHist ht hS.1) ?_
      simp only [↓reduceIte]
      refine B.Ev.bind (eqOps hP) ?_
      simp only [↓reduceIte]
      refine B.Ev.bind (evMarkHist ht hS.1 (by omega)) ?_
      refine B.Ev.bind (evMarkOps o (1 + 2 * (u1.length : Int) + (stot s : Int)) (by omega) (by omega) hP.1 hP.2) ?_
      simp only [omark_len, ↓reduceIte, show ¬ (1 + 2 * (u1.length : Int) + (stot s : Int) + (otot o : Int) < 0) by omega]
      refine B.Ev.bind (evMarkHist ht hs'.1 (by omega)) ?_
      refine B.Ev.bind (evHeldHist ht hs'.1 (by omega)) ?_
      simp only [show ¬ (1 + 2 * (u1.length : Int) + (stot u2 : Int) < 0) by omega, ↓reduceIte]
      exact B.Ev.pure _
end Go.Proofs.Ytinlbiphjgpmmaa.Pure
end YtinlbiphjgpmmaaPureFnExactHistAdd
