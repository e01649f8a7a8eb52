/- A query's text, read back, gives the query. -/
import Derived.Test.YtfdaifgfnpjoaaaDoorXRead
namespace Go.Proofs.YtfdaifgfnpjoaaaDoor.X
open Go Go.RowKit Go.Proofs.YtfdaifgfnpjoaaaDoorW.PrintWords Go.Proofs.YtfdaifgfnpjoaaaDoorW.PrintLast Go.Proofs.YtfdaifgfnpjoaaaDoorW.PrintMore Go.Proofs.YtfdaifgfnpjoaaaDoor.P
/-- The parts of a list of bytes between the signs c. -/
def spl (c : UInt8) : List UInt8 → List (List UInt8)
  | [] => [[]]
  | b :: l => if b = c then [] :: spl c l else match spl c l with
    | [] => [[b]]
    | h :: t => (b :: h) :: t
def att (p : List UInt8) : List (List UInt8) → List (List UInt8)
  | [] => [p]
  | h :: t => (p ++ h) :: t
theorem spl_ne (c : UInt8) : ∀ l, ∃ h t, spl c l = h :: t
  | [] => ⟨_, _, rfl⟩
  | b :: l => by
    obtain ⟨h, t, e⟩ := spl_ne c l
    unfold spl
    rw [e]
    split
    · exact ⟨_, _, rfl⟩
    · exact ⟨_, _, rfl⟩
theorem att_nil (c : UInt8) (l : List UInt8) : att [] (spl c l) = spl c l := by
  obtain ⟨h, t, e⟩ := spl_ne c l
  rw [e]
  rfl
theorem cut_spl (s : ByteArray) (c : UInt8) : ∀ n a i : Nat, i + n = s.size → a ≤ i → (cutG s c n a i).map (fun w => w.data.toList) = att ((s.data.toList.drop a).take (i - a)) (spl c (s.data.toList.drop i)) := by
  have hL : s.data.toList.length = s.size := by simp
  have hb : ∀ p (hp : p < s.size), bt s (p : Int) = ((s.data.toList[p]'(by omega)).toNat : Int) := by
    intro p hp
    unfold bt
    rw [dif_pos (by simpa using hp)]
    simp
    rfl
  have hcc : ∀ x : UInt8, ((x.toNat : Int) = (c.toNat : Int)) ↔ x = c := by
    intro x
    constructor
    · intro h; exact UInt8.toNat_inj.1 (by omega)
    · rintro rfl; rfl
  intro n
  induction n with
  | zero =>
    intro a i hi ha
    rw [List.drop_eq_nil_of_le (show s.data.toList.length ≤ i by omega)]
    simp only [cutG, List.map_cons, List.map_nil, ext_data, spl, att, List.append_nil]
    rw [show i = s.size by omega]
  | succ n ih =>
    intro a i hi ha
    have hi' : i < s.data.toList.length := by omega
    rw [List.drop_eq_getElem_cons hi']
    simp only [cutG, spl]
    by_cases hc : bt s (i : Int) = (c.toNat : Int)
    · have hc' : s.data.toList[i] = c := (hcc _).1 (by rw [← hb i (by omega)]; exact hc)
      rw [if_pos hc, if_pos hc', List.map_cons, ih (i + 1) (i + 1) (by omega) (Nat.le_refl _), ext_data, Nat.sub_self, List.take_zero, att_nil]
      simp [att]
    · have hc' : ¬ s.data.toList[i] = c := fun e => hc (by rw [hb i (by omega)]; exact (hcc _).2 e)
      rw [if_neg hc, if_neg hc', ih a (i + 1) (by omega) (by omega)]
      obtain ⟨h, t, e⟩ := spl_ne c (s.data.toList.drop (i + 1))
      rw [e]
      simp only [att]
      have et : (s.data.toList.drop a).take (i + 1 - a) = (s.data.toList.drop a).take (i - a) ++ [s.data.toList[i]] := by
        rw [show i + 1 - a = (i - a) + 1 by omega, List.take_succ_eq_append_getElem (by rw [List.length_drop]; omega), List.getElem_drop]
        congr 3
        omega
      rw [et, List.append_assoc]
      rfl
theorem parts_spl (s : ByteArray) : (parts s).map (fun w => w.data.toList) = spl 47 s.data.toList := by
  unfold parts
  rw [cut_spl s 47 s.size 0 0 (by omega) (Nat.le_refl _), Nat.sub_self, List.take_zero, att_nil, List.drop_zero]
theorem spl_word (c : UInt8) : ∀ w : List UInt8, c ∉ w → spl c w = [w]
  | [], _ => rfl
  | b :: w, h => by
    have h1 : ¬ b = c := fun e => h (e ▸ List.mem_cons_self ..)
    unfold spl
    rw [if_neg h1, spl_word c w (fun q => h (List.mem_cons_of_mem _ q))]
theorem spl_cons (c : UInt8) (l : List UInt8) : ∀ w : List UInt8, c ∉ w → spl c (w ++ c :: l) = w :: spl c l
  | [], _ => by simp [spl]
  | b :: w, h => by
    have h1 : ¬ b = c := fun e => h (e ▸ List.mem_cons_self ..)
    rw [List.cons_append, spl, if_neg h1, spl_cons c l w (fun q => h (List.mem_cons_of_mem _ q))]
def nm (a : Int) : List UInt8 := if a = -1 then [42] else (labelName a).data.toList
def txt (q : List S40) : List UInt8 := q.flatMap fun p => 47 :: ((if p.f0 = true then [47] else []) ++ nm p.f1)
def ps (q : List S40) : List (List UInt8) := q.flatMap fun p => (if p.f0 = true then [[]] else []) ++ [nm p.f1]
theorem lab_cases {a : Int} (h : a = -1 ∨ (0 ≤ a ∧ a ≤ 5)) : a = -1 ∨ a = 0 ∨ a = 1 ∨ a = 2 ∨ a = 3 ∨ a = 4 ∨ a = 5 := by omega
theorem nm_no {a : Int} (h : a = -1 ∨ (0 ≤ a ∧ a ≤ 5)) : (47 : UInt8) ∉ nm a := by
  rcases lab_cases h with rfl | rfl | rfl | rfl | rfl | rfl | rfl <;> decide
theorem nm_ne {a : Int} (h : a = -1 ∨ (0 ≤ a ∧ a ≤ 5)) : nm a ≠ [] := by
  rcases lab_cases h with rfl | rfl | rfl | rfl | rfl | rfl | rfl <;> decide
theorem spl_txt : ∀ (q : List S40) (w : List UInt8), (∀ p ∈ q, p.f1 = -1 ∨ (0 ≤ p.f1 ∧ p.f1 ≤ 5)) → (47 : UInt8) ∉ w → spl 47 (w ++ txt q) = w :: ps q
  | [], w, _, hw => by rw [show txt [] = [] from rfl, List.append_nil, spl_word 47 w hw]; rfl
  | p :: q, w, hq, hw => by
    have hp := hq p (List.mem_cons_self ..)
    have ih := spl_txt q (nm p.f1) (fun x hx => hq x (List.mem_cons_of_mem _ hx)) (nm_no hp)
    have e : txt (p :: q) = 47 :: ((if p.f0 = true then [47] else []) ++ nm p.f1 ++ txt q) := by simp [txt]
    have e2 : ps (p :: q) = (if p.f0 = true then [[]] else []) ++ (nm p.f1 :: ps q) := by simp [ps]
    rw [e, e2, spl_cons 47 _ w hw, List.append_assoc]
    by_cases c : p.f0 = true
    · rw [if_pos c, if_pos c]
      have := spl_cons 47 (nm p.f1 ++ txt q) [] (by simp)
      rw [List.nil_append] at this
      rw [List.singleton_append, this, ih]
      rfl
    · rw [if_neg c, if_neg c, List.nil_append, ih]
      rfl
theorem data_append (x y : ByteArray) : (x ++ y).data.toList = x.data.toList ++ y.data.toList := by simp
theorem step_data (s : ByteArray) (p : S40) : (stepText s p).data.toList = s.data.toList ++ (47 :: ((if p.f0 = true then [47] else []) ++ nm p.f1)) := by
  unfold stepText nm
  by_cases c : p.f0 = true
  · by_cases c2 : p.f1 = -1
    · simp [c, c2]
    · simp [c, c2]
  · by_cases c2 : p.f1 = -1
    · simp [c, c2]
    · simp [c, c2]
theorem foldl_data : ∀ (q : List S40) (s : ByteArray), (q.foldl stepText s).data.toList = s.data.toList ++ txt q
  | [], s => by simp [txt]
  | p :: q, s => by
    rw [List.foldl_cons, foldl_data q, step_data, List.append_assoc]
    congr 1
theorem okQ_labs {q : List S40} (h : okQ q = true) : q.length ≤ 6 ∧ ∀ p ∈ q, p.f1 = -1 ∨ (0 ≤ p.f1 ∧ p.f1 ≤ 5) := by
  unfold okQ at h
  rw [Bool.and_eq_true, decide_eq_true_eq] at h
  refine ⟨h.1.2, fun p hp => ?_⟩
  have h2 := h.2
  rw [Bool.not_eq_true', List.any_eq_false] at h2
  have := h2 p hp
  unfold badPick at this
  by_cases c : p.f1 = -1
  · exact .inl c
  · exact .inr (by simpa [c] using this)
/-- The same over lists of bytes. -/
def labL (l : List UInt8) : Nat → Nat → Int
  | 0, _ => -1
  | d + 1, n => if (labelName (n : Int)).data.toList = l then (n : Int) else labL l d (n + 1)
theorem labG_L (s : ByteArray) : ∀ d n, labG s d n = labL s.data.toList d n
  | 0, _ => rfl
  | d + 1, n => by simp only [labG, labL, toList_data, labG_L s d (n + 1)]
def rqL : List (List UInt8) → Bool → List S40 → Option (List S40)
  | [], _, out => some out
  | w :: ws, deep, out => if w = [] then rqL ws true out else if labL w 6 0 < 0 ∧ ¬ w = [42] then none else rqL ws false (out ++ [⟨deep, labL w 6 0⟩])
theorem rq_L : ∀ (ws : List ByteArray) (deep : Bool) (out : List S40), rq ws deep out = rqL (ws.map fun w => w.data.toList) deep out
  | [], _, _ => rfl
  | w :: ws, deep, out => by
    simp only [rq, rqL, List.map_cons, toList_data, labelOf, labG_L, rq_L ws]
theorem labL_nm {a : Int} (h : a = -1 ∨ (0 ≤ a ∧ a ≤ 5)) : labL (nm a) 6 0 = a ∧ (a = -1 → nm a = [42]) := by
  rcases lab_cases h with rfl | rfl | rfl | rfl | rfl | rfl | rfl <;> decide
theorem rqL_ps : ∀ (q out : List S40), (∀ p ∈ q, p.f1 = -1 ∨ (0 ≤ p.f1 ∧ p.f1 ≤ 5)) → rqL (ps q) false out = some (out ++ q)
  | [], out, _ => by simp [ps, rqL]
  | p :: q, out, hq => by
    have hp := hq p (List.mem_cons_self ..)
    have e2 : ps (p :: q) = (if p.f0 = true then [[]] else []) ++ (nm p.f1 :: ps q) := by simp [ps]
    have hn := nm_ne hp
    have hl := labL_nm hp
    have ih := rqL_ps q (out ++ [p]) (fun x hx => hq x (List.mem_cons_of_mem _ hx))
    have hno : ¬ (p.f1 < 0 ∧ ¬ nm p.f1 = [42]) := by
      rintro ⟨h1, h2⟩
      exact h2 (hl.2 (by omega))
    rw [e2]
    cases hd : p.f0 with
    | true =>
      rw [if_pos rfl, List.singleton_append]
      simp only [rqL, ↓reduceIte, hn, hno, hl.1]
      rw [show (⟨true, p.f1⟩ : S40) = p by rw [← hd], ih, List.append_assoc]
      rfl
    | false =>
      rw [if_neg (by simp), List.nil_append]
      simp only [rqL, ↓reduceIte, hn, hno, hl.1]
      rw [show (⟨false, p.f1⟩ : S40) = p by rw [← hd], ih, List.append_assoc]
      rfl
theorem readBack {q : List S40} (h : okQ q = true) : readQ (queryText q) = (q, true) := by
  obtain ⟨_, hl⟩ := okQ_labs h
  have hd : (queryText q).data.toList = txt q := by
    unfold queryText
    rw [if_pos h, foldl_data]
    rfl
  have hp : ((parts (queryText q)).drop 1).map (fun w => w.data.toList) = ps q := by
    rw [List.map_drop, parts_spl, hd]
    have := spl_txt q [] hl (by simp)
    rw [List.nil_append] at this
    rw [this]
    rfl
  unfold readQ
  rw [rq_L, hp, rqL_ps q [] hl, List.nil_append]
  simp only [fin]
  rw [if_pos ⟨h, trivial⟩]
theorem readNone {q : List S40} (h : okQ q = false) : readQ (queryText q) = ([], false) := by
  have e : queryText q = ⟨#[]⟩ := by unfold queryText; rw [h]; rfl
  rw [e]
  unfold readQ
  have hp : (parts (⟨#[]⟩ : ByteArray)).drop 1 = [] := rfl
  rw [hp]
  rfl
/-- What is read has the text that was given. -/
theorem readQ_text {s : ByteArray} (h : (readQ s).2 = true) : (queryText (readQ s).1).toList = s.toList := by
  unfold readQ at *
  cases hx : rq ((parts s).drop 1) false [] with
  | none => rw [hx] at h; cases h
  | some out =>
    rw [hx] at h
    simp only [fin] at h ⊢
    split at h
    · rename_i c
      rw [if_pos c]
      exact c.2
    · cases h
end Go.Proofs.YtfdaifgfnpjoaaaDoor.X
