/- Lists of steps: compared, marked, the marks looked at. -/
import Derived.Test.YtekpggmnnfjphaaXInts
import Derived.Test.YtekpggmnnfjphaaXEv
import Derived.Test.YtekpggmnnfjphaaG115
import Derived.Test.YtekpggmnnfjphaaG48
namespace Go.Proofs.Ytekpggmnnfjphaa.X
open Go Go.RowKit Go.Proofs.YtekpggmnnfjphaaW.PrintWords Go.Proofs.YtekpggmnnfjphaaW.PrintLast Go.Proofs.YtekpggmnnfjphaaW.PrintMore Go.Proofs.Ytekpggmnnfjphaa.P
theorem rdOp {xs : List S98} {i : Nat} : rd_T98 xs (i : Int) = xs.getD i z98 := by unfold rd_T98; rw [Int.toNat_natCast]
theorem rdOp_at (pre : List S98) (x : S98) (rest : List S98) : rd_T98 (pre ++ x :: rest) (pre.length : Int) = x := by
  rw [rdOp, B.getD_lt (by simp)]
  simp
/-- Few steps, of short ways. -/
def OpsIn (xs : List S98) : Prop := xs.length ≤ 1000 ∧ ∀ x ∈ xs, x.f1.length ≤ 1000
theorem OpsIn.tail {x : S98} {xs : List S98} (h : OpsIn (x :: xs)) : OpsIn xs := ⟨by have := h.1; simp at this; omega, fun y hy => h.2 y (List.mem_cons_of_mem _ hy)⟩
theorem evEqOps (xs : List S98) (h : OpsIn xs) : B.Ev (fun k => laws_eqOpS.f k xs xs) true := by
  simp only [laws_eqOpS.f, ↓reduceIte]
  have h1 := h.1
  refine B.Ev.loop (g := fun k j => laws_eqOpS.l0 k xs xs (j : Int)) xs.length (fun _ => True) ?_ ?_ 0 (by omega) trivial
  · intro _
    refine B.Ev.succ ?_
    simp only [laws_eqOpS.l0, Int.lt_irrefl, ↓reduceIte]
    exact B.Ev.pure _
  · intro j hj _ ih
    refine B.Ev.succ ?_
    have hx := h.2 _ (List.getElem_mem hj)
    simp only [laws_eqOpS.l0, show (j : Int) < (xs.length : Int) by omega, show 0 ≤ (j : Int) by omega, ↓reduceIte, rdOp, B.getD_lt hj, laws_eqOp.f, B.wsucc (show j < 9223372036854775807 by omega)]
    refine B.Ev.bind (B.Ev.bind (B.Ev.of _ (fun k hk => eqIntS xs[j].f1 (by omega) k hk)) (B.Ev.pure _)) ?_
    simp only [↓reduceIte]
    exact ih trivial
/-- The marked list, and the number behind the last mark. -/
def omark : List S98 → Int → List S98 × Int
  | [], a => ([], a)
  | x :: xs, a => let r := omark xs (a + 4 + (x.f1.length : Int)); (⟨a, B.run (a + 1) x.f1.length, a + 1 + (x.f1.length : Int), a + 2 + (x.f1.length : Int), a + 3 + (x.f1.length : Int)⟩ :: r.1, r.2)
theorem omark_len (xs : List S98) : ∀ a, (omark xs a).1.length = xs.length := by
  induction xs with
  | nil => intro a; rfl
  | cons x xs ih => intro a; simp only [omark, List.length_cons, ih]
theorem omark_bound (xs : List S98) : ∀ a, 0 ≤ a → (∀ x ∈ xs, x.f1.length ≤ 1000) → a ≤ (omark xs a).2 ∧ (omark xs a).2 ≤ a + 1004 * (xs.length : Int) := by
  induction xs with
  | nil => intro a _ _; simp [omark]
  | cons x xs ih =>
    intro a ha hx
    have h1 := hx x (List.mem_cons_self ..)
    have h2 := ih (a + 4 + (x.f1.length : Int)) (by omega) (fun y hy => hx y (List.mem_cons_of_mem _ hy))
    simp only [omark, List.length_cons]
    omega
theorem evMarkOps (xs : List S98) (h : OpsIn xs) : B.Ev (fun k => laws_markOpS.f k xs 1) ((omark xs 1).2, (omark xs 1).1) := by
  simp only [laws_markOpS.f]
  have key : ∀ (rest pre : List S98) (a : Int), 0 ≤ a → a + 1004 * (rest.length : Int) ≤ 2000000 → pre.length + rest.length ≤ 1000 → (∀ x ∈ rest, x.f1.length ≤ 1000) → B.Ev (fun k => laws_markOpS.l0 k (pre ++ rest) a (pre.length : Int)) ((omark rest a).2, pre ++ (omark rest a).1) := by
    intro rest
    induction rest with
    | nil =>
      intro pre a _ _ _ _
      refine B.Ev.succ ?_
      simp only [laws_markOpS.l0, List.append_nil, Int.lt_irrefl, ↓reduceIte, omark]
      exact B.Ev.pure _
    | cons x rest ih =>
      intro pre a ha hb hl hx
      have h1 := hx x (List.mem_cons_self ..)
      refine B.Ev.succ ?_
      have hlt : (pre.length : Int) < ((pre ++ x :: rest).length : Int) := by rw [List.length_append, List.length_cons]; omega
      rw [List.length_cons] at hb hl
      simp only [laws_markOpS.l0, hlt, show 0 ≤ (pre.length : Int) by omega, ↓reduceIte, rdOp_at, B.wid (show -9223372036854775808 ≤ a + 1 by omega) (show a + 1 ≤ 9223372036854775807 by omega)]
      refine B.Ev.bind (B.Ev.of _ (fun k hk => markIntS x.f1 (a + 1) (by omega) (by omega) (by omega) k hk)) ?_
      have e1 : wrap64 (a + 1 + (x.f1.length : Int) + 1) = a + 2 + (x.f1.length : Int) := by rw [B.wid (by omega) (by omega)]; omega
      have e2 : wrap64 (a + 2 + (x.f1.length : Int) + 1) = a + 3 + (x.f1.length : Int) := by rw [B.wid (by omega) (by omega)]; omega
      have e3 : wrap64 (a + 3 + (x.f1.length : Int) + 1) = a + 4 + (x.f1.length : Int) := by rw [B.wid (by omega) (by omega)]; omega
      simp only [e1, e2, e3, B.wsucc (show pre.length < 9223372036854775807 by omega), Int.toNat_natCast]
      have ih := ih (pre ++ [⟨a, B.run (a + 1) x.f1.length, a + 1 + (x.f1.length : Int), a + 2 + (x.f1.length : Int), a + 3 + (x.f1.length : Int)⟩]) (a + 4 + (x.f1.length : Int)) (by omega) (by omega) (by rw [List.length_append, List.length_singleton]; omega) (fun y hy => hx y (List.mem_cons_of_mem _ hy))
      rw [List.length_append, List.length_singleton, List.append_assoc, List.append_assoc] at ih
      rw [List.set_append_right _ _ (Nat.le_refl _), Nat.sub_self, List.set_cons_zero]
      exact ih
  have h1 := h.1
  have := key xs [] 1 (by omega) (by omega) (by simp; omega) h.2
  simpa using this
theorem evHeldOps (xs : List S98) (h : OpsIn xs) : B.Ev (fun k => laws_heldOpS.f k (omark xs 1).1 1) (omark xs 1).2 := by
  simp only [laws_heldOpS.f]
  have key : ∀ (rest pre : List S98) (a : Int), 0 ≤ a → a + 1004 * (rest.length : Int) ≤ 2000000 → pre.length + rest.length ≤ 1000 → (∀ x ∈ rest, x.f1.length ≤ 1000) → B.Ev (fun k => laws_heldOpS.l0 k (pre ++ (omark rest a).1) a (pre.length : Int)) (omark rest a).2 := by
    intro rest
    induction rest with
    | nil =>
      intro pre a _ _ _ _
      refine B.Ev.succ ?_
      simp only [laws_heldOpS.l0, List.append_nil, Int.lt_irrefl, ↓reduceIte, omark]
      exact B.Ev.pure _
    | cons x rest ih =>
      intro pre a ha hb hl hx
      have h1 := hx x (List.mem_cons_self ..)
      refine B.Ev.succ ?_
      rw [List.length_cons] at hb hl
      simp only [omark]
      have ih := ih (pre ++ [⟨a, B.run (a + 1) x.f1.length, a + 1 + (x.f1.length : Int), a + 2 + (x.f1.length : Int), a + 3 + (x.f1.length : Int)⟩]) (a + 4 + (x.f1.length : Int)) (by omega) (by omega) (by rw [List.length_append, List.length_singleton]; omega) (fun y hy => hx y (List.mem_cons_of_mem _ hy))
      rw [List.length_append, List.length_singleton, List.append_assoc] at ih
      have hlt : (pre.length : Int) < ((pre ++ (⟨a, B.run (a + 1) x.f1.length, a + 1 + (x.f1.length : Int), a + 2 + (x.f1.length : Int), a + 3 + (x.f1.length : Int)⟩ : S98) :: (omark rest (a + 4 + (x.f1.length : Int))).1).length : Int) := by rw [List.length_append, List.length_cons]; omega
      have e1 : wrap64 (a + 1 + (x.f1.length : Int) + 1) = a + 2 + (x.f1.length : Int) := by rw [B.wid (by omega) (by omega)]; omega
      have e2 : wrap64 (a + 2 + (x.f1.length : Int) + 1) = a + 3 + (x.f1.length : Int) := by rw [B.wid (by omega) (by omega)]; omega
      have e3 : wrap64 (a + 3 + (x.f1.length : Int) + 1) = a + 4 + (x.f1.length : Int) := by rw [B.wid (by omega) (by omega)]; omega
      simp only [laws_heldOpS.l0, hlt, show 0 ≤ (pre.length : Int) by omega, ↓reduceIte, rdOp_at, B.wid (show -9223372036854775808 ≤ a + 1 by omega) (show a + 1 ≤ 9223372036854775807 by omega)]
      refine B.Ev.bind (B.Ev.of _ (fun k hk => heldIntS (a + 1) x.f1.length (by omega) (by omega) (by omega) k hk)) ?_
      simp only [show ¬ (a + 1 + (x.f1.length : Int) < 0) by omega, e1, e2, e3, ↓reduceIte, B.wsucc (show pre.length < 9223372036854775807 by omega)]
      exact ih
  have h1 := h.1
  have := key xs [] 1 (by omega) (by omega) (by simp; omega) h.2
  simpa using this
end Go.Proofs.Ytekpggmnnfjphaa.X
