/- QueryText: the reference's and the program's go alike. -/
import Derived.Test.YtfdaifgfnpjoaaaDoorXPicks
import Derived.Test.YtfdaifgfnpjoaaaDoorG33
namespace Go.Proofs.YtfdaifgfnpjoaaaDoor.X
open Go Go.RowKit Go.Proofs.YtfdaifgfnpjoaaaDoorW.PrintWords Go.Proofs.YtfdaifgfnpjoaaaDoorW.PrintLast Go.Proofs.YtfdaifgfnpjoaaaDoorW.PrintMore Go.Proofs.YtfdaifgfnpjoaaaDoor.P

def labelName (a : Int) : ByteArray :=
  if a = 0 then ⟨#[100, 105, 118]⟩ else if a = 1 then ⟨#[112]⟩ else if a = 2 then ⟨#[97]⟩ else if a = 3 then ⟨#[117, 108]⟩ else if a = 4 then ⟨#[108, 105]⟩ else if a = 5 then ⟨#[98]⟩ else ⟨#[]⟩
theorem labelName_size (a : Int) : (labelName a).size ≤ 3 := by
  unfold labelName
  repeat' split
  all_goals decide
theorem implLabelName (a : Int) : impl_LabelName.f a = some (labelName a) := by
  unfold impl_LabelName.f labelName
  repeat' split
  all_goals rfl
theorem specLabelName (a : Int) : spec_LabelName.f a = some (labelName a) := by
  unfold spec_LabelName.f
  rw [specLabelOk]
  simp only [Option.bind_some]
  by_cases h : 0 ≤ a ∧ a ≤ 5
  · rw [if_pos (by simpa using h), if_pos h.1, if_pos (by simp; omega)]
    obtain h0 | h0 | h0 | h0 | h0 | h0 : a = 0 ∨ a = 1 ∨ a = 2 ∨ a = 3 ∨ a = 4 ∨ a = 5 := by omega
    all_goals subst h0; rfl
  · rw [if_neg (by simpa using h)]
    unfold labelName
    rw [if_neg (by omega), if_neg (by omega), if_neg (by omega), if_neg (by omega), if_neg (by omega), if_neg (by omega)]

theorem sz1 (x : ByteArray) : (x ++ (⟨#[47]⟩ : ByteArray)).size = x.size + 1 := by rw [ByteArray.size_append]; rfl
theorem sz2 (x : ByteArray) : (x ++ (⟨#[42]⟩ : ByteArray)).size = x.size + 1 := by rw [ByteArray.size_append]; rfl

/-- A step's text. -/
def stepText (s : ByteArray) (p : S40) : ByteArray :=
  (if p.f0 = true then ((s ++ (⟨#[47]⟩ : ByteArray)) ++ (⟨#[47]⟩ : ByteArray)) else (s ++ (⟨#[47]⟩ : ByteArray))) ++ (if p.f1 = -1 then (⟨#[42]⟩ : ByteArray) else labelName p.f1)
theorem stepText_size (s : ByteArray) (p : S40) : (stepText s p).size ≤ s.size + 5 := by
  unfold stepText
  have h := labelName_size p.f1
  have e : (⟨#[42]⟩ : ByteArray).size = 1 := rfl
  have e2 : (⟨#[47]⟩ : ByteArray).size = 1 := rfl
  split <;> split <;> simp only [ByteArray.size_append] <;> omega
/-- The query's text. -/
def queryText (q : List S40) : ByteArray := if okQ q then q.foldl stepText ⟨#[]⟩ else ⟨#[]⟩

theorem implQueryText (q : List S40) (hl : q.length ≤ 4194304) (k : Nat) (hk : q.length + 1 < k) : impl_QueryText.f k q = some (queryText q) := by
  unfold impl_QueryText.f queryText
  rw [implQueryOk q hl k (by omega)]
  simp only [Option.bind_some]
  cases hok : okQ q with
  | false => simp
  | true =>
    simp only [↓reduceIte]
    have h := B.loopI (fun k i => impl_QueryText.l0 k ((q.take i).foldl stepText ⟨#[]⟩) q (q.length : Int) (i : Int)) q.length 0 (fun i => ((q.take i).foldl stepText ⟨#[]⟩).size ≤ 5 * i) (fun _ => some (q.foldl stepText ⟨#[]⟩))
      (fun k _ _ => by simp only [impl_QueryText.l0]; rw [if_neg (by omega), List.take_length])
      (fun k i _ hi hI ih => by
        have a1 : (i : Int) < (q.length : Int) := by omega
        have a3 : 0 ≤ (i : Int) := by omega
        have hs := stepText_size ((q.take i).foldl stepText ⟨#[]⟩) q[i]
        rw [B.foldl_take _ _ q hi] at ih
        have ih' := ih (by omega)
        generalize hg : (q.take i).foldl stepText ⟨#[]⟩ = s at *
        have hn := labelName_size q[i].f1
        have c1 : s.size + 1 ≤ 9223372036854775807 := by omega
        have c2 : s.size + 1 + 1 ≤ 9223372036854775807 := by omega
        have c3 : s.size + 1 + 1 + 1 ≤ 9223372036854775807 := by omega
        have c4 : s.size + 1 + (labelName q[i].f1).size ≤ 9223372036854775807 := by omega
        have c5 : s.size + 1 + 1 + (labelName q[i].f1).size ≤ 9223372036854775807 := by omega
        simp only [impl_QueryText.l0, a1, a3, ↓reduceIte, B.wsucc (show i < 9223372036854775807 by omega), rdPick hi, sz1, c1, c2, c3, implLabelName, Option.bind_some, c4, c5]
        unfold stepText at ih'
        by_cases h1 : q[i].f0 = true
        · by_cases h2 : q[i].f1 = -1
          · simp only [h1, h2, ↓reduceIte] at ih' ⊢; exact ih'
          · simp only [h1, h2, ↓reduceIte] at ih' ⊢; exact ih'
        · by_cases h2 : q[i].f1 = -1
          · simp only [h1, h2, ↓reduceIte] at ih' ⊢; exact ih'
          · simp only [h1, h2, ↓reduceIte] at ih' ⊢; exact ih') k 0 (by omega) (by simp; rfl) (by omega)
    exact h

theorem specQueryText (q : List S40) (hl : q.length ≤ 1048576) (k : Nat) (hk : 5000000 < k) : spec_QueryText.f k q = some (queryText q) := by
  unfold spec_QueryText.f queryText
  cases hok : okQ q with
  | false =>
    obtain ⟨k, rfl⟩ : ∃ m, k = m + 1 + 1 := ⟨k - 2, by omega⟩
    simp only [spec_QueryText.l0, spec_QueryText.j1]
    rw [specQueryOk q (by omega) (k + 1) (by omega), hok]
    simp only [Option.bind_some]
    split <;> simp
  | true =>
    have hlen : q.length ≤ 6 := by unfold okQ at hok; simp at hok; exact hok.1.2
    simp only [↓reduceIte]
    suffices h : ∀ (d i k : Nat), i ≤ q.length → q.length - i = d → 2000000 + 2 * d < k → ((q.take i).foldl stepText ⟨#[]⟩).size ≤ 5 * i → spec_QueryText.l0 k q ((q.take i).foldl stepText ⟨#[]⟩) (i : Int) = some (q.foldl stepText ⟨#[]⟩) from
      h _ 0 k (by omega) rfl (by omega) (by simp; rfl)
    intro d
    induction d with
    | zero =>
      intro i k hi hd hk hI
      obtain ⟨k, rfl⟩ : ∃ m, k = m + 1 + 1 := ⟨k - 2, by omega⟩
      obtain rfl : i = q.length := by omega
      simp only [spec_QueryText.l0, spec_QueryText.j1]
      rw [if_neg (by omega), List.take_length]
      simp
    | succ d ihd =>
      intro i k hi hd hk hI
      obtain ⟨k, rfl⟩ : ∃ m, k = m + 1 + 1 := ⟨k - 2, by omega⟩
      have hlt : i < q.length := by omega
      have a1 : (i : Int) < (q.length : Int) := by omega
      have a3 : 0 ≤ (i : Int) := by omega
      have hs := stepText_size ((q.take i).foldl stepText ⟨#[]⟩) q[i]
      have ih := ihd (i + 1) k (by omega) (by omega) (by omega)
      rw [B.foldl_take _ _ q hlt] at ih
      have ih' := ih (by omega)
      generalize hg : (q.take i).foldl stepText ⟨#[]⟩ = s at *
      have hn := labelName_size q[i].f1
      have c1 : s.size + 1 ≤ 9223372036854775807 := by omega
      have c2 : s.size + 1 + 1 ≤ 9223372036854775807 := by omega
      have c3 : s.size + 1 + 1 + 1 ≤ 9223372036854775807 := by omega
      have c4 : s.size + 1 + (labelName q[i].f1).size ≤ 9223372036854775807 := by omega
      have c5 : s.size + 1 + 1 + (labelName q[i].f1).size ≤ 9223372036854775807 := by omega
      simp only [spec_QueryText.l0, a1, ↓reduceIte]
      rw [specQueryOk q (by omega) (k + 1) (by omega), hok]
      simp only [spec_QueryText.j1, a1, a3, ↓reduceIte, B.wsucc (show i < 9223372036854775807 by omega), rdPick hlt, sz1, c1, c2, c3, specLabelName, Option.bind_some, c4, c5]
      unfold stepText at ih'
      by_cases h1 : q[i].f0 = true
      · by_cases h2 : q[i].f1 = -1
        · simp only [h1, h2, ↓reduceIte] at ih' ⊢; exact ih'
        · simp only [h1, h2, ↓reduceIte] at ih' ⊢; exact ih'
      · by_cases h2 : q[i].f1 = -1
        · simp only [h1, h2, ↓reduceIte] at ih' ⊢; exact ih'
        · simp only [h1, h2, ↓reduceIte] at ih' ⊢; exact ih'
end Go.Proofs.YtfdaifgfnpjoaaaDoor.X
