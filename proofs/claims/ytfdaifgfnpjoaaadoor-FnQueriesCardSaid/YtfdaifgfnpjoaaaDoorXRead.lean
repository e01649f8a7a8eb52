/- ReadQuery: the reference's and the program's answer alike. -/
import Derived.Test.YtfdaifgfnpjoaaaDoorXQText
import Derived.Test.YtfdaifgfnpjoaaaDoorXSplitB
import Derived.Test.YtfdaifgfnpjoaaaDoorG33
namespace Go.Proofs.YtfdaifgfnpjoaaaDoor.X
open Go Go.RowKit Go.Proofs.YtfdaifgfnpjoaaaDoorW.PrintWords Go.Proofs.YtfdaifgfnpjoaaaDoorW.PrintLast Go.Proofs.YtfdaifgfnpjoaaaDoorW.PrintMore Go.Proofs.YtfdaifgfnpjoaaaDoor.P
theorem toList_loop (bs : ByteArray) : ∀ d i (r : List UInt8), d + i = bs.size → ByteArray.toList.loop bs i r = r.reverse ++ bs.data.toList.drop i := by
  intro d
  induction d with
  | zero =>
    intro i r h
    rw [ByteArray.toList.loop, if_neg (by omega), List.drop_eq_nil_of_le (by simp; omega), List.append_nil]
  | succ d ih =>
    intro i r h
    have hi : i < bs.data.toList.length := by simp; omega
    have h2 : i < bs.data.size := by simpa using hi
    have e : bs.get! i = bs.data.toList[i] := by
      show bs.data[i]! = bs.data.toList[i]
      rw [getElem!_pos bs.data i h2]
      simp
    rw [ByteArray.toList.loop, if_pos (by omega), ih (i + 1) _ (by omega), List.drop_eq_getElem_cons hi, List.reverse_cons, List.append_assoc, e]
    rfl
theorem toList_data (bs : ByteArray) : bs.toList = bs.data.toList := by
  unfold ByteArray.toList
  rw [toList_loop bs bs.size 0 [] (by omega)]
  simp
theorem toList_len (bs : ByteArray) : bs.toList.length = bs.size := by rw [toList_data]; simp
def labG (s : ByteArray) : Nat → Nat → Int
  | 0, _ => -1
  | d + 1, n => if (labelName (n : Int)).toList = s.toList then (n : Int) else labG s d (n + 1)
def labelOf (s : ByteArray) : Int := labG s 6 0
theorem evLabelOf (s : ByteArray) : B.Ev (fun k => spec_LabelOf.f k s) (labelOf s) := by
  simp only [spec_LabelOf.f]
  have key : ∀ d n : Nat, n + d = 6 → B.Ev (fun k => spec_LabelOf.l0 k s (n : Int)) (labG s d n) := by
    intro d
    induction d with
    | zero =>
      intro n hn
      refine B.Ev.succ ?_
      simp only [spec_LabelOf.l0, show ¬ ((n : Int) < 6) by omega, ↓reduceIte]
      exact B.Ev.pure _
    | succ d ih =>
      intro n hn
      refine B.Ev.succ ?_
      simp only [spec_LabelOf.l0, show (n : Int) < 6 by omega, ↓reduceIte, specLabelName, Option.bind_some, B.wsucc (show n < 9223372036854775807 by omega), labG]
      refine B.Ev.ite (fun c => ?_) (fun c => ?_)
      · rw [if_pos c]; exact B.Ev.pure _
      · rw [if_neg c]; exact ih (n + 1) (by omega)
  exact key 6 0 rfl
theorem evLabelOf' (s : ByteArray) : B.Ev (fun k => impl_LabelOf.f k s) (labelOf s) := by
  simp only [impl_LabelOf.f]
  have key : ∀ d n : Nat, n + d = 6 → B.Ev (fun k => impl_LabelOf.l0 k s (n : Int)) (labG s d n) := by
    intro d
    induction d with
    | zero =>
      intro n hn
      refine B.Ev.succ ?_
      simp only [impl_LabelOf.l0, show ¬ ((n : Int) < 6) by omega, ↓reduceIte]
      exact B.Ev.pure _
    | succ d ih =>
      intro n hn
      refine B.Ev.succ ?_
      simp only [impl_LabelOf.l0, show (n : Int) < 6 by omega, ↓reduceIte, implLabelName, Option.bind_some, B.wsucc (show n < 9223372036854775807 by omega), labG]
      refine B.Ev.ite (fun c => ?_) (fun c => ?_)
      · rw [if_pos c]; exact B.Ev.pure _
      · rw [if_neg c]; exact ih (n + 1) (by omega)
  exact key 6 0 rfl
theorem labelOf_star {s : ByteArray} (h : s.toList = [42]) : labelOf s = -1 := by
  unfold labelOf
  simp only [labG, h]
  decide +kernel

/-- The picks told by the parts, or none. -/
def rq : List ByteArray → Bool → List S40 → Option (List S40)
  | [], _, out => some out
  | w :: ws, deep, out => if w.toList = [] then rq ws true out else if labelOf w < 0 ∧ ¬ w.toList = [42] then none else rq ws false (out ++ [⟨deep, labelOf w⟩])
def fin (s : ByteArray) : Option (List S40) → List S40 × Bool
  | none => ([], false)
  | some out => if okQ out = true ∧ (queryText out).toList = s.toList then (out, true) else ([], false)
theorem cutG_len (s : ByteArray) (c : UInt8) : ∀ n a i, 1 ≤ (cutG s c n a i).length ∧ (cutG s c n a i).length ≤ n + 1
  | 0, _, _ => by simp [cutG]
  | n + 1, a, i => by
    have h1 := cutG_len s c n (i + 1) (i + 1)
    have h2 := cutG_len s c n a (i + 1)
    simp only [cutG]
    split
    · rw [List.length_cons]; omega
    · omega
def parts (s : ByteArray) : List ByteArray := cutG s 47 s.size 0 0
def readQ (s : ByteArray) : List S40 × Bool := fin s (rq ((parts s).drop 1) false [])
theorem evCut (s : ByteArray) (hs : s.size ≤ 1048576) : B.Ev (fun k => spec_l23Cut.f k s 47) (parts s) := by
  simp only [spec_l23Cut.f]
  have key : ∀ n a i : Nat, i + n = s.size → a ≤ i → ∀ acc : List ByteArray, acc.length ≤ i → B.Ev (fun k => spec_l23Cut.l0 k s 47 acc (a : Int) (i : Int)) (acc ++ cutG s 47 n a i) := by
    intro n
    induction n with
    | zero =>
      intro a i hi ha acc hl
      refine B.Ev.succ ?_
      simp only [spec_l23Cut.l0, show ¬ ((i : Int) < (s.size : Int)) by omega, show 0 ≤ (a : Int) by omega, show (a : Int) ≤ (s.size : Int) by omega, show acc.length < 8796093022208 by omega, ↓reduceIte, Int.toNat_natCast, cutG]
      exact B.Ev.pure _
    | succ n ih =>
      intro a i hi ha acc hl
      refine B.Ev.succ ?_
      simp only [spec_l23Cut.l0, show (i : Int) < (s.size : Int) by omega, show 0 ≤ (i : Int) by omega, ↓reduceIte, cutG, B.wsucc (show i < 9223372036854775807 by omega)]
      by_cases c : bt s (i : Int) = 47
      · have c' : bt s (i : Int) = ((47 : UInt8).toNat : Int) := c
        simp only [c, show (47 : Int) = ((47 : UInt8).toNat : Int) from rfl, show 0 ≤ (a : Int) by omega, show (a : Int) ≤ (i : Int) by omega, show (i : Int) ≤ (s.size : Int) by omega, show acc.length < 8796093022208 by omega, ↓reduceIte, Int.toNat_natCast]
        refine (ih (i + 1) (i + 1) (by omega) (Nat.le_refl _) (acc ++ [s.extract a i]) (by rw [List.length_append, List.length_singleton]; omega)).eq ?_
        rw [List.append_assoc]; rfl
      · have c' : ¬ bt s (i : Int) = ((47 : UInt8).toNat : Int) := c
        simp only [c, c', ↓reduceIte]
        exact ih a (i + 1) (by omega) (by omega) acc (by omega)
  exact key s.size 0 0 (by omega) (Nat.le_refl _) [] (by simp)
theorem splitIs (s : ByteArray) (hs : s.size ≤ 1048576) : strings_Split.f s (⟨#[47]⟩ : ByteArray) = some (parts s) := by
  unfold strings_Split.f
  have h1 : (⟨#[47]⟩ : ByteArray).size = 1 := rfl
  rw [if_pos ⟨by omega, by omega⟩]
  have h := split_cut s (⟨#[47]⟩ : ByteArray) 47 rfl s.size 0 0 (by omega) (Nat.le_refl _) (fun p h1 h2 => by omega)
  have e : s.extract 0 s.size = s := by
    apply ByteArray.ext
    apply Array.toList_inj.1
    rw [ext_data, List.drop_zero, List.take_of_length_le (by simp)]
  rw [e] at h
  rw [h]
  rfl
theorem rdP {ws : List ByteArray} {i : Nat} (h : i < ws.length) : rdOf ByteArray.empty ws (i : Int) = ws[i] := by unfold rdOf; rw [Int.toNat_natCast]; exact B.getD_lt h
theorem stepText_grow (s : ByteArray) (p : S40) : s.size + 1 ≤ (stepText s p).size := by
  unfold stepText
  repeat' split
  all_goals simp only [ByteArray.size_append]
  all_goals have e1 : (⟨#[47]⟩ : ByteArray).size = 1 := rfl
  all_goals omega
theorem foldl_grow (q : List S40) : ∀ s : ByteArray, s.size ≤ (q.foldl stepText s).size := by
  induction q with
  | nil => intro s; exact Nat.le_refl _
  | cons p q ih =>
    intro s
    have h1 := ih (stepText s p)
    have h2 := stepText_grow s p
    rw [List.foldl_cons]
    omega
theorem queryText_pos {q : List S40} (h : okQ q = true) : 1 ≤ (queryText q).size := by
  unfold queryText
  rw [if_pos h]
  have hl : 1 ≤ q.length := by unfold okQ at h; simp at h; exact h.1.1
  cases q with
  | nil => simp at hl
  | cons p q =>
    have h1 := foldl_grow q (stepText ⟨#[]⟩ p)
    have h2 := stepText_grow ⟨#[]⟩ p
    rw [List.foldl_cons]
    omega
theorem evRead (s : ByteArray) (hs : s.size ≤ 1048576) : B.Ev (fun k => spec_ReadQuery.f k s) (readQ s) := by
  simp only [spec_ReadQuery.f]
  refine B.Ev.bind (evCut s hs) ?_
  have hl : 1 ≤ (parts s).length ∧ (parts s).length ≤ 1048577 := by
    have := cutG_len s 47 s.size 0 0
    unfold parts
    omega
  unfold readQ
  generalize parts s = ws at hl
  have key : ∀ (d i : Nat) (deep : Bool) (out : List S40), i + d = ws.length → out.length + d ≤ 1048576 → B.Ev (fun k => spec_ReadQuery.l0 k s out ws deep (i : Int)) (fin s (rq (ws.drop i) deep out)) := by
    intro d
    induction d with
    | zero =>
      intro i deep out hi ho
      refine B.Ev.succ ?_
      simp only [spec_ReadQuery.l0, show ¬ ((i : Int) < (ws.length : Int)) by omega, ↓reduceIte]
      rw [List.drop_eq_nil_of_le (by omega)]
      simp only [rq, fin]
      refine B.Ev.bind (B.Ev.of _ (fun k hk => specQueryOk out (by omega) k hk)) ?_
      refine B.Ev.ite (fun c => ?_) (fun c => ?_)
      · refine B.Ev.bind (B.Ev.of _ (fun k hk => specQueryText out (by omega) k hk)) ?_
        refine B.Ev.ite (fun c2 => ?_) (fun c2 => ?_)
        · rw [if_pos ⟨c, c2⟩]; exact B.Ev.pure _
        · rw [if_neg (fun q => c2 q.2)]; exact B.Ev.pure _
      · rw [if_neg (fun q => c q.1)]; exact B.Ev.pure _
    | succ d ih =>
      intro i deep out hi ho
      have hlt : i < ws.length := by omega
      refine B.Ev.succ ?_
      simp only [spec_ReadQuery.l0, show (i : Int) < (ws.length : Int) by omega, show 0 ≤ (i : Int) by omega, ↓reduceIte, rdP hlt, B.wsucc (show i < 9223372036854775807 by omega)]
      rw [List.drop_eq_getElem_cons hlt]
      simp only [rq]
      refine B.Ev.ite (fun c => ?_) (fun c => ?_)
      · rw [if_pos c]; exact ih (i + 1) true out (by omega) (by omega)
      · rw [if_neg c]
        refine B.Ev.bind (evLabelOf ws[i]) ?_
        have ih := ih (i + 1) false (out ++ [⟨deep, labelOf ws[i]⟩]) (by omega) (by rw [List.length_append, List.length_singleton]; omega)
        simp only [show out.length < 8796093022208 by omega, ↓reduceIte]
        refine B.Ev.ite (fun c2 => ?_) (fun c2 => ?_)
        · refine B.Ev.ite (fun c3 => ?_) (fun c3 => ?_)
          · rw [if_neg (fun q => q.2 c3)]; exact ih
          · rw [if_pos ⟨c2, c3⟩]; exact B.Ev.pure _
        · rw [if_neg (fun q => c2 q.1)]; exact ih
  exact key (ws.length - 1) 1 false [] (by omega) (by simp; omega)
theorem evRead' (s : ByteArray) (hs : s.size ≤ 1048576) : B.Ev (fun k => impl_ReadQuery.f k s) (readQ s) := by
  have hl : 1 ≤ (parts s).length ∧ (parts s).length ≤ 1048577 := by
    have := cutG_len s 47 s.size 0 0
    unfold parts
    omega
  simp only [impl_ReadQuery.f, splitIs s hs, Option.bind_some, show 1 ≤ ((parts s).length : Int) by omega, ↓reduceIte]
  unfold readQ
  have hl2 : ((parts s).drop 1).length ≤ 1048576 := by rw [List.length_drop]; omega
  generalize (parts s).drop 1 = ws at hl2
  have key : ∀ (d i : Nat) (deep : Bool) (out : List S40), i + d = ws.length → out.length + d ≤ 1048576 → B.Ev (fun k => impl_ReadQuery.l0 k s out deep ws (ws.length : Int) (i : Int)) (fin s (rq (ws.drop i) deep out)) := by
    intro d
    induction d with
    | zero =>
      intro i deep out hi ho
      refine B.Ev.succ ?_
      simp only [impl_ReadQuery.l0, show ¬ ((i : Int) < (ws.length : Int)) by omega, ↓reduceIte]
      rw [List.drop_eq_nil_of_le (by omega)]
      simp only [rq, fin]
      refine B.Ev.ite (fun c => ?_) (fun c => ?_)
      · rw [if_neg]
        · exact B.Ev.pure _
        · rintro ⟨q1, q2⟩
          have h1 := queryText_pos q1
          have h2 : (queryText out).toList.length = 0 := by rw [q2.trans c]; rfl
          rw [toList_len] at h2
          omega
      · refine B.Ev.bind (B.Ev.of _ (fun k hk => implQueryText out (by omega) k hk)) ?_
        refine B.Ev.ite (fun c2 => ?_) (fun c2 => ?_)
        · rw [if_pos]
          · exact B.Ev.pure _
          · refine ⟨?_, c2⟩
            cases hq : okQ out with
            | true => rfl
            | false =>
              exfalso
              apply c
              rw [← c2]
              unfold queryText
              rw [hq, if_neg (by simp)]
              decide +kernel
        · rw [if_neg (fun q => c2 q.2)]; exact B.Ev.pure _
    | succ d ih =>
      intro i deep out hi ho
      have hlt : i < ws.length := by omega
      refine B.Ev.succ ?_
      simp only [impl_ReadQuery.l0, show (i : Int) < (ws.length : Int) by omega, show 0 ≤ (i : Int) by omega, ↓reduceIte, rdP hlt, B.wsucc (show i < 9223372036854775807 by omega)]
      rw [List.drop_eq_getElem_cons hlt]
      simp only [rq]
      refine B.Ev.ite (fun c => ?_) (fun c => ?_)
      · rw [if_pos c]; exact ih (i + 1) true out (by omega) (by omega)
      · rw [if_neg c]
        have ih := ih (i + 1) false (out ++ [⟨deep, labelOf ws[i]⟩]) (by omega) (by rw [List.length_append, List.length_singleton]; omega)
        simp only [show out.length < 8796093022208 by omega, ↓reduceIte]
        refine B.Ev.ite (fun c2 => ?_) (fun c2 => ?_)
        · rw [if_neg (fun q => q.2 c2)]
          rw [labelOf_star c2] at ih ⊢
          exact ih
        · refine B.Ev.bind (evLabelOf' ws[i]) ?_
          refine B.Ev.ite (fun c3 => ?_) (fun c3 => ?_)
          · rw [if_pos ⟨c3, c2⟩]; exact B.Ev.pure _
          · rw [if_neg (fun q => c3 q.1)]; exact ih
  exact key ws.length 0 false [] (by omega) (by simpa using hl2)
/-- What is read is a short list. -/
theorem readQ_len (s : ByteArray) : (readQ s).1.length ≤ 6 := by
  unfold readQ
  cases rq ((parts s).drop 1) false [] with
  | none => simp [fin]
  | some out =>
    simp only [fin]
    split
    · rename_i h
      have := h.1
      unfold okQ at this
      simp at this
      exact this.1.2
    · simp
end Go.Proofs.YtfdaifgfnpjoaaaDoor.X
