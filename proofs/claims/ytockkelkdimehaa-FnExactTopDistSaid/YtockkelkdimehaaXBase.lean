/- Plain lemmas on numbers, lists and counted loops, used by the pure parts. -/
import Derived.Test.YtockkelkdimehaaWPMore
namespace Go.Proofs.Ytockkelkdimehaa.B
open Go Go.RowKit Go.Proofs.YtockkelkdimehaaW.PrintWords Go.Proofs.YtockkelkdimehaaW.PrintLast Go.Proofs.YtockkelkdimehaaW.PrintMore

theorem wid {n : Int} (h0 : -9223372036854775808 ≤ n) (h1 : n ≤ 9223372036854775807) : wrap64 n = n := by unfold wrap64; omega
theorem wsucc {i : Nat} (h : i < 9223372036854775807) : wrap64 ((i : Int) + 1) = ((i + 1 : Nat) : Int) := by unfold wrap64; omega
theorem wsub {a : Int} {n : Nat} (h0 : 0 ≤ a) (h1 : a ≤ 9223372036854775807) (hn : n ≤ 9223372036854775807) : wrap64 (a - (n : Int)) = a - (n : Int) := by unfold wrap64; omega

/-- A counted loop: what it answers from i on, with enough rounds. -/
theorem loop {ρ : Type} (g : Nat → Nat → ρ) (n : Nat) (R : Nat → ρ) (last : ∀ k, g (k + 1) n = R n)
    (step : ∀ k i, i < n → (g k (i + 1) = R (i + 1)) → g (k + 1) i = R i) : ∀ k i, i ≤ n → n - i < k → g k i = R i := by
  intro k
  induction k with
  | zero => intro i _ h; omega
  | succ k ih =>
    intro i hi hk
    rcases Nat.lt_or_ge i n with hlt | hge
    · exact step k i hlt (ih (i + 1) hlt (by omega))
    · obtain rfl : i = n := by omega
      exact last k

/-- The same, where the rounds of what is called in the body are also bounded below. -/
theorem loopk {ρ : Type} (g : Nat → Nat → ρ) (n b : Nat) (R : Nat → ρ) (last : ∀ k, b ≤ k → g (k + 1) n = R n)
    (step : ∀ k i, b ≤ k → i < n → (g k (i + 1) = R (i + 1)) → g (k + 1) i = R i) : ∀ k i, i ≤ n → b + (n - i) < k → g k i = R i := by
  intro k
  induction k with
  | zero => intro i _ h; omega
  | succ k ih =>
    intro i hi hk
    rcases Nat.lt_or_ge i n with hlt | hge
    · exact step k i (by omega) hlt (ih (i + 1) hlt (by omega))
    · obtain rfl : i = n := by omega
      exact last k (by omega)

/-- With something that holds at the head of each round. -/
theorem loopI {ρ : Type} (g : Nat → Nat → ρ) (n b : Nat) (I : Nat → Prop) (R : Nat → ρ) (last : ∀ k, b ≤ k → I n → g (k + 1) n = R n)
    (step : ∀ k i, b ≤ k → i < n → I i → (I (i + 1) → g k (i + 1) = R (i + 1)) → g (k + 1) i = R i) : ∀ k i, i ≤ n → I i → b + (n - i) < k → g k i = R i := by
  intro k
  induction k with
  | zero => intro i _ _ h; omega
  | succ k ih =>
    intro i hi hI hk
    rcases Nat.lt_or_ge i n with hlt | hge
    · exact step k i (by omega) hlt hI (fun hI' => ih (i + 1) hlt hI' (by omega))
    · obtain rfl : i = n := by omega
      exact last k (by omega) hI

theorem getD_lt {α : Type} {xs : List α} {i : Nat} {z : α} (h : i < xs.length) : xs.getD i z = xs[i] := by
  rw [List.getD_eq_getElem?_getD, List.getElem?_eq_getElem h]; rfl

/-- A row that is filled from the front. -/
def filled {α β : Type} (l : List α) (f : α → β) (z : β) (i : Nat) : List β := (l.take i).map f ++ List.replicate (l.length - i) z
theorem filled_length {α β : Type} (l : List α) (f : α → β) (z : β) {i : Nat} (h : i ≤ l.length) : (filled l f z i).length = l.length := by
  unfold filled; simp; omega
theorem filled_zero {α β : Type} (l : List α) (f : α → β) (z : β) : filled l f z 0 = List.replicate l.length z := by simp [filled]
theorem filled_all {α β : Type} (l : List α) (f : α → β) (z : β) : filled l f z l.length = l.map f := by simp [filled]
theorem filled_set {α β : Type} (l : List α) (f : α → β) (z : β) {i : Nat} (h : i < l.length) : (filled l f z i).set i (f l[i]) = filled l f z (i + 1) := by
  unfold filled
  rw [List.set_append_right _ _ (by simp; omega)]
  have h1 : i - ((l.take i).map f).length = 0 := by simp; omega
  rw [h1]
  obtain ⟨m, hm⟩ : ∃ m, l.length - i = m + 1 := ⟨l.length - i - 1, by omega⟩
  rw [hm, show l.length - (i + 1) = m by omega, List.replicate_succ, List.set_cons_zero, List.take_succ_eq_append_getElem h, List.map_append, List.append_assoc]
  rfl

/-- Numbers one after the other. -/
def run (a : Int) (n : Nat) : List Int := (List.range n).map fun (i : Nat) => a + (i : Int)
theorem run_length (a : Int) (n : Nat) : (run a n).length = n := by simp [run]
theorem run_get (a : Int) (n : Nat) {i : Nat} (h : i < n) : (run a n).getD i 0 = a + (i : Int) := by
  rw [getD_lt (by simpa [run] using h)]
  simp [run]

theorem take_snoc {α β : Type} (l : List α) (f : α → β) {i : Nat} (h : i < l.length) : (l.take i).map f ++ [f l[i]] = (l.take (i + 1)).map f := by
  rw [List.take_succ_eq_append_getElem h, List.map_append]; rfl
theorem drop_eq_iff {α : Type} {a b : List α} {i : Nat} (ha : i < a.length) (hb : i < b.length) : a.drop i = b.drop i ↔ a[i] = b[i] ∧ a.drop (i + 1) = b.drop (i + 1) := by
  rw [List.drop_eq_getElem_cons ha, List.drop_eq_getElem_cons hb, List.cons.injEq]
theorem drop_eq_dec {α : Type} [DecidableEq α] {a b : List α} {i : Nat} (ha : i < a.length) (hb : i < b.length) : decide (a.drop i = b.drop i) = (decide (a[i] = b[i]) && decide (a.drop (i + 1) = b.drop (i + 1))) := by
  rw [Bool.eq_iff_iff]; simp only [Bool.and_eq_true, decide_eq_true_eq]; exact drop_eq_iff ha hb
theorem foldl_take {α β : Type} (f : β → α → β) (z : β) (l : List α) {i : Nat} (h : i < l.length) : (l.take (i + 1)).foldl f z = f ((l.take i).foldl f z) l[i] := by
  rw [List.take_succ_eq_append_getElem h, List.foldl_append]; rfl
/-- The first place from i on at which p holds, or -1. -/
def idxFrom {α : Type} (p : α → Bool) : List α → Nat → Int
  | [], _ => -1
  | x :: xs, i => if p x = true then (i : Int) else idxFrom p xs (i + 1)
theorem idxFrom_drop {α : Type} (p : α → Bool) (l : List α) {i : Nat} (h : i < l.length) : idxFrom p (l.drop i) i = if p l[i] = true then (i : Int) else idxFrom p (l.drop (i + 1)) (i + 1) := by
  rw [List.drop_eq_getElem_cons h]; rfl
theorem idxFrom_any {α : Type} (p : α → Bool) (l : List α) (i : Nat) : decide (idxFrom p l i ≥ 0) = l.any p := by
  induction l generalizing i with
  | nil => rfl
  | cons x xs ih =>
    unfold idxFrom
    rw [List.any_cons]
    cases hp : p x with
    | true => simp
    | false => rw [if_neg (by simp), ih]; simp
end Go.Proofs.Ytockkelkdimehaa.B
