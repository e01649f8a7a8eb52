/- FnExactRepoOk: XGetT XGetS XPatch XRepoG XRepoL PureFnExactRepoOk. -/
import Derived.Test.YtinlbiphjgpmmaaBFnExactRepoOk4
section YtinlbiphjgpmmaaXGetT
namespace Go.Proofs.Ytinlbiphjgpmmaa.X
open Go Go.RowKit Go.Proofs.Ytinlbiphjgpmmaa.V Go.Proofs.Ytinlbiphjgpmmaa.P
set_option linter.all false
theorem ext_size (s : ByteArray) {a : Nat} (h : a ≤ s.size) : (s.extract a s.size).size = s.size - a := by rw [ByteArray.size_extract, Nat.min_self]
theorem ext_ext (s : ByteArray) {a b : Nat} (h : a + b ≤ s.size) : (s.extract a s.size).extract b (s.extract a s.size).size = s.extract (a + b) s.size := by
  rw [ext_size s (by omega), ByteArray.extract_extract, show a + (s.size - a) = s.size by omega, Nat.min_self]
theorem ext_nil (s : ByteArray) {a : Nat} (h : a ≤ s.size) : s.extract a s.size = ⟨#[]⟩ ↔ a = s.size := by
  constructor
  · intro e
    have := congrArg ByteArray.size e
    rw [ext_size s h] at this
    have h0 : (⟨#[]⟩ : ByteArray).size = 0 := rfl
    omega
  · intro e; subst e
    apply ByteArray.ext
    rw [ByteArray.data_extract]
    apply Array.eq_empty_of_size_eq_zero
    simp
/-- What is read from a place on. -/
def rva (s : ByteArray) (a : Nat) : Int × Int := rv (s.extract a s.size)
theorem rva_in (s : ByteArray) {a : Nat} (h : a ≤ s.size) : 0 ≤ (rva s a).1 ∧ (rva s a).1 ≤ 562949953421311 ∧ 0 ≤ (rva s a).2 ∧ (a : Int) + (rva s a).2 ≤ (s.size : Int) := by
  have := rv_in (s.extract a s.size)
  rw [ext_size s h] at this
  unfold rva
  omega
theorem evNum (s : ByteArray) (hs : s.size ≤ 9223372036854775807) {a : Nat} (h : a ≤ s.size) : B.Ev (fun k => spec_l4Num.f k s (a : Int)) (if (rva s a).2 = 0 then (0, -1) else ((rva s a).1, (a : Int) + (rva s a).2)) := by
  simp only [spec_l4Num.f, show (0 : Int) ≤ (a : Int) by omega, show (a : Int) ≤ (s.size : Int) by omega, ↓reduceIte, Int.toNat_natCast]
  refine B.Ev.bind (evReadVar _) ?_
  have hb := rva_in s h
  have e : rv (s.extract a s.size) = rva s a := rfl
  have ew : wrap64 ((a : Int) + (rva s a).2) = (a : Int) + (rva s a).2 := B.wid (by omega) (by omega)
  simp only [e, ew]
  by_cases c : (rva s a).2 = 0
  · simp only [c, ↓reduceIte]; exact B.Ev.pure _
  · simp only [c, ↓reduceIte]; exact B.Ev.pure _
theorem okUpto_app {l r : List S105} {n : Nat} (h : n ≤ l.length) : okUpto (l ++ r) n = okUpto l n := by
  have hd : ∀ i, i < l.length → (l ++ r).getD i z105 = l.getD i z105 := fun i hi => by
    rw [List.getD_eq_getElem?_getD, List.getD_eq_getElem?_getD, List.getElem?_append_left hi]
  unfold okUpto
  rw [Bool.eq_iff_iff, List.all_eq_true, List.all_eq_true]
  have : ∀ i, i < n → okAt (l ++ r) i = okAt l i := fun i hi => by
    unfold okAt lab dep
    rw [hd i (by omega), hd (i - 1) (by omega)]
  constructor
  · intro hh i hi; rw [← this i (List.mem_range.1 hi)]; exact hh i hi
  · intro hh i hi; rw [this i (List.mem_range.1 hi)]; exact hh i hi
theorem last_dep {l : List S105} {x : S105} {i : Nat} (h : l.length = i) : (l ++ [x]).getD i z105 = x := by
  subst h; rw [List.getD_eq_getElem?_getD, List.getElem?_append_right (Nat.le_refl _)]; simp
theorem prev_dep {l : List S105} {x : S105} {i : Nat} (h : i < l.length) : (l ++ [x]).getD i z105 = l.getD i z105 := by
  rw [List.getD_eq_getElem?_getD, List.getD_eq_getElem?_getD, List.getElem?_append_left h]

/-- The place behind a number that is read at a place. -/
def nxt (s : ByteArray) (a : Nat) : Nat := a + (rva s a).2.toNat
theorem nxt_le (s : ByteArray) {a : Nat} (h : a ≤ s.size) : nxt s a ≤ s.size := by have := rva_in s h; unfold nxt; omega
theorem nxt_cast (s : ByteArray) {a : Nat} (h : a ≤ s.size) : (a : Int) + (rva s a).2 = (nxt s a : Int) := by have := rva_in s h; unfold nxt; omega
def depOk (l : List S105) (d : Int) : Bool := decide ((d = 0 ↔ l.length = 0) ∧ (l.length = 0 ∨ d ≤ dep l (l.length - 1) + 1))
def nodeR (s : ByteArray) (a : Nat) (l : List S105) : List S105 × ByteArray × Int :=
  if (rva s a).2 = 0 then (l, s.extract a s.size, 1)
  else if ¬ (0 ≤ (rva s a).1 ∧ (rva s a).1 ≤ 5) then (l, s.extract a s.size, 3)
  else if (rva s (nxt s a)).2 = 0 then (l ++ [⟨(rva s a).1, (rva s (nxt s a)).1⟩], s.extract (nxt s a) s.size, 1)
  else if (rva s (nxt s a)).1 > 12 then (l ++ [⟨(rva s a).1, (rva s (nxt s a)).1⟩], s.extract (nxt s a) s.size, 4)
  else if depOk l (rva s (nxt s a)).1 = true then (l ++ [⟨(rva s a).1, (rva s (nxt s a)).1⟩], s.extract (nxt s (nxt s a)) s.size, 0)
  else (l ++ [⟨(rva s a).1, (rva s (nxt s a)).1⟩], s.extract (nxt s a) s.size, 5)
theorem depthOk_app {l : List S105} {x : S105} (hok : okUpto l l.length = true) (hl : l.length ≤ 24) (hx : 0 ≤ x.f1) : impl_depthOk.f (l ++ [x]) (l.length : Int) = some (depOk l x.f1) := by
  have hll : ((l ++ [x]).length : Int) = (l.length : Int) + 1 := by simp
  unfold impl_depthOk.f
  rw [hll]
  rcases Nat.eq_zero_or_pos l.length with h0 | h0
  · have : l = [] := List.eq_nil_of_length_eq_zero h0
    subst this
    simp only [List.length_nil, show (((0 : Nat) : Int) = 0) from rfl, ↓reduceIte, show (0 : Int) < ((0 : Nat) : Int) + 1 by decide, List.nil_append, depOk, true_or, and_true, iff_true, show (0 : Int) < (0 : Int) + 1 by decide]
    show some (x.f1 == 0) = _
    rw [Option.some.injEq, Bool.eq_iff_iff]; simp
  · have ew : wrap64 ((l.length : Int) - 1) = ((l.length - 1 : Nat) : Int) := by unfold wrap64; omega
    have hp := (okAt_iff.1 (okUpto_at hok (i := l.length - 1) (by omega))).2.1
    rw [if_neg (by omega), if_pos (by omega), if_pos (by omega), ew, if_pos (by omega), if_pos (by omega), rdNode, rdNode, last_dep rfl, prev_dep (by omega)]
    have e2 : dep l (l.length - 1) = (l.getD (l.length - 1) z105).f1 := rfl
    rw [← e2, within, B.wid (by omega) (by omega)]
    simp only [Option.bind_some, Option.some.injEq, depOk]
    congr 1
    apply propext
    omega
theorem depthOk_mk {l : List S105} {u v : Int} (hok : okUpto l l.length = true) (hl : l.length ≤ 24) (hx : 0 ≤ v) : impl_depthOk.f (l ++ [(⟨u, v⟩ : S105)]) (l.length : Int) = some (depOk l v) := depthOk_app hok hl hx
theorem evNode (s : ByteArray) {a : Nat} (ha : a ≤ s.size) {l : List S105} (hl : l.length ≤ 24) (hok : okUpto l l.length = true) : B.Ev (fun k => impl_getNode.f k l (s.extract a s.size)) (nodeR s a l) := by
  simp only [impl_getNode.f]
  refine B.Ev.bind (evReadVar' _) ?_
  have hb := rva_in s ha
  have hn := nxt_le s ha
  rw [show rv (s.extract a s.size) = rva s a from rfl]
  by_cases c1 : (rva s a).2 = 0
  · simp only [c1, ↓reduceIte, nodeR]; exact B.Ev.pure _
  · simp only [c1, ↓reduceIte, nodeR, implLabelOk, Option.bind_some, decide_eq_true_eq]
    by_cases c2 : 0 ≤ (rva s a).1 ∧ (rva s a).1 ≤ 5
    · have e1 : (s.extract a s.size).extract (rva s a).2.toNat (s.extract a s.size).size = s.extract (nxt s a) s.size := ext_ext s (by omega)
      have h1 : (rva s a).2 ≤ ((s.extract a s.size).size : Int) := by rw [ext_size s ha]; omega
      simp only [c2, and_self, ↓reduceIte, not_true_eq_false, e1, h1, show 0 ≤ (rva s a).2 by omega]
      refine B.Ev.bind (evReadVar' _) ?_
      rw [show rv (s.extract (nxt s a) s.size) = rva s (nxt s a) from rfl]
      have hb2 := rva_in s hn
      simp only [show l.length < 8796093022208 by omega, ↓reduceIte, Option.bind_some]
      by_cases c3 : (rva s (nxt s a)).2 = 0
      · simp only [c3, ↓reduceIte]; exact B.Ev.pure _
      · by_cases c4 : (rva s (nxt s a)).1 > 12
        · simp only [c3, c4, ↓reduceIte]; exact B.Ev.pure _
        · have e2 : wrap64 (((l ++ [(⟨(rva s a).1, (rva s (nxt s a)).1⟩ : S105)]).length : Int) - 1) = (l.length : Int) := by
            rw [List.length_append, List.length_singleton]; unfold wrap64; omega
          have e3 : (s.extract (nxt s a) s.size).extract (rva s (nxt s a)).2.toNat (s.extract (nxt s a) s.size).size = s.extract (nxt s (nxt s a)) s.size := ext_ext s (by omega)
          have h3 : (rva s (nxt s a)).2 ≤ ((s.extract (nxt s a) s.size).size : Int) := by rw [ext_size s hn]; omega
          simp only [c3, c4, ↓reduceIte, e2, depthOk_mk hok hl hb2.1, Option.bind_some]
          by_cases c5 : depOk l (rva s (nxt s a)).1 = true
          · simp only [c5, ↓reduceIte, e3, h3, show 0 ≤ (rva s (nxt s a)).2 by omega]; exact B.Ev.pure _
          · simp only [c5, ↓reduceIte, Bool.false_eq_true]; exact B.Ev.pure _
    · simp only [c2, ↓reduceIte, not_false_eq_true]; exact B.Ev.pure _

theorem getLoop (s : ByteArray) (hs : s.size ≤ 9223372036854775807) {n : Nat} (hn : n ≤ 24) (hn1 : 1 ≤ n) : ∀ (d i a : Nat) (l : List S105), n - i = d → i ≤ n → l.length = i → okUpto l i = true → a ≤ s.size →
    B.EvR (fun k => spec_GetTree.l0 k s l (n : Int) (a : Int) (i : Int)) (fun k => impl_GetTree.l0 k l (s.extract a s.size) (n : Int) (i : Int)) (fun u v => u = v ∧ (u.2 = 0 → okT u.1 = true)) := by
  intro d
  induction d with
  | zero =>
    intro i a l hd hi hl hok ha
    refine B.EvR.succL (B.EvR.succR ?_)
    have hin : i = n := by omega
    subst hin
    simp only [spec_GetTree.l0, impl_GetTree.l0, Int.lt_irrefl, ↓reduceIte, ext_nil s ha]
    by_cases c : a = s.size
    · have c' : (a : Int) = (s.size : Int) := by omega
      simp only [c, c', ↓reduceIte]
      refine B.EvR.pure ⟨rfl, fun _ => ?_⟩
      unfold okT
      rw [hl, hok]
      simp; omega
    · have c' : ¬ (a : Int) = (s.size : Int) := by omega
      simp only [c, c', ↓reduceIte]
      exact B.EvR.pure ⟨rfl, fun h => by cases h⟩
  | succ d ih =>
    intro i a l hd hi hl hok ha
    refine B.EvR.succL (B.EvR.succR ?_)
    have a1 : (i : Int) < (n : Int) := by omega
    have hw := B.wsucc (show i < 9223372036854775807 by omega)
    have hb := rva_in s ha
    have hn' := nxt_le s ha
    have hb2 := rva_in s hn'
    have ec := nxt_cast s ha
    have ec2 := nxt_cast s hn'
    have ewi : ∀ {i : Nat}, 0 < i → i ≤ 24 → wrap64 ((i : Int) - 1) = ((i - 1 : Nat) : Int) := fun {i} h1 h2 => by unfold wrap64; omega
    simp only [spec_GetTree.l0, impl_GetTree.l0, a1, ↓reduceIte, hw]
    clear hw
    refine B.EvR.bindL (evNum s hs ha) ?_
    refine B.EvR.bindR (evNode s ha (l := l) (by omega) (by rw [hl]; exact hok)) ?_
    have L24 : l.length < 8796093022208 := by omega
    by_cases c1 : (rva s a).2 = 0
    · simp only [c1, ↓reduceIte, nodeR, show ((-1 : Int) < 0) by decide, show ¬ ((1 : Int) = 0) by decide]
      exact B.EvR.pure ⟨rfl, fun h => by cases h⟩
    · simp only [c1, ↓reduceIte, nodeR, ec, show ¬ ((nxt s a : Int) < 0) by omega, specLabelOk, Option.bind_some, decide_eq_true_eq]
      by_cases c2 : 0 ≤ (rva s a).1 ∧ (rva s a).1 ≤ 5
      · simp only [c2, and_self, ↓reduceIte, not_true_eq_false]
        refine B.EvR.bindL (evNum s hs hn') ?_
        by_cases c3 : (rva s (nxt s a)).2 = 0
        · simp only [c3, ↓reduceIte, show ((-1 : Int) < 0) by decide, show ¬ ((1 : Int) = 0) by decide]
          exact B.EvR.pure ⟨rfl, fun h => by cases h⟩
        · by_cases c4 : (rva s (nxt s a)).1 > 12
          · simp only [c3, c4, ↓reduceIte, ec2, show ¬ ((nxt s (nxt s a) : Int) < 0) by omega, show ¬ ((4 : Int) = 0) by decide]
            exact B.EvR.pure ⟨rfl, fun h => by cases h⟩
          · simp only [c3, c4, ↓reduceIte, ec2, show ¬ ((nxt s (nxt s a) : Int) < 0) by omega]
            have key : depOk l (rva s (nxt s a)).1 = true → B.EvR (fun k => spec_GetTree.l0 k s (l ++ [(⟨(rva s a).1, (rva s (nxt s a)).1⟩ : S105)]) (n : Int) (nxt s (nxt s a) : Int) ((i + 1 : Nat) : Int)) (fun k => impl_GetTree.l0 k (l ++ [(⟨(rva s a).1, (rva s (nxt s a)).1⟩ : S105)]) (s.extract (nxt s (nxt s a)) s.size) (n : Int) ((i + 1 : Nat) : Int)) (fun u v => u = v ∧ (u.2 = 0 → okT u.1 = true)) := fun h => by
              refine ih (i + 1) (nxt s (nxt s a)) _ (by omega) (by omega) (by rw [List.length_append, hl]; rfl) ?_ (nxt_le s hn')
              rw [okUpto_succ, okUpto_app (by omega), hok, Bool.true_and, okAt_iff]
              unfold depOk at h
              simp only [decide_eq_true_eq] at h
              unfold lab dep
              rw [last_dep hl]
              simp only
              rcases Nat.eq_zero_or_pos i with h0 | h0
              · refine ⟨c2, by omega, by omega, .inl h0⟩
              · rw [prev_dep (by omega)]
                refine ⟨c2, by omega, by omega, .inr ?_⟩
                rcases h.2 with h2 | h2
                · omega
                · rw [hl] at h2; exact h2
            by_cases c5 : depOk l (rva s (nxt s a)).1 = true
            · have h := c5
              unfold depOk at h
              simp only [decide_eq_true_eq] at h
              have d1 : (decide ((rva s (nxt s a)).1 = 0)) = (decide ((i : Int) = 0)) := by rw [Bool.eq_iff_iff, decide_eq_true_eq, decide_eq_true_eq]; omega
              simp only [c5, ↓reduceIte, d1]
              rcases Nat.eq_zero_or_pos i with h0 | h0
              · simp only [show ¬ ((i : Int) > 0) by omega, ↓reduceIte, L24]
                exact key c5
              · have hd : ¬ ((rva s (nxt s a)).1 > wrap64 ((l.getD (i - 1) z105).f1 + 1)) := by
                  have hp := (okAt_iff.1 (okUpto_at hok (i := i - 1) (by omega))).2.1
                  have e2 : dep l (i - 1) = (l.getD (i - 1) z105).f1 := rfl
                  rw [← e2, B.wid (by omega) (by omega)]
                  rw [hl] at h; omega
                simp only [show ((i : Int) > 0) by omega, ↓reduceIte, ewi h0 (by omega), show (0 : Int) ≤ ((i - 1 : Nat) : Int) by omega, show ((i - 1 : Nat) : Int) < (l.length : Int) by omega, rdNode, hd, L24]
                exact key c5
            · have h := c5
              unfold depOk at h
              simp only [decide_eq_true_eq] at h
              simp only [c5, ↓reduceIte, Bool.false_eq_true, show ¬ ((5 : Int) = 0) by decide]
              by_cases d0 : (decide ((rva s (nxt s a)).1 = 0)) = (decide ((i : Int) = 0))
              · have d1 := d0
                rw [Bool.eq_iff_iff, decide_eq_true_eq, decide_eq_true_eq] at d1
                have h0 : 0 < i := by omega
                have hd : ((rva s (nxt s a)).1 > wrap64 ((l.getD (i - 1) z105).f1 + 1)) := by
                  have hp := (okAt_iff.1 (okUpto_at hok (i := i - 1) (by omega))).2.1
                  have e2 : dep l (i - 1) = (l.getD (i - 1) z105).f1 := rfl
                  rw [← e2, B.wid (by omega) (by omega)]
                  rw [hl] at h; omega
                simp only [d0, ↓reduceIte, show ((i : Int) > 0) by omega, ewi h0 (by omega), show (0 : Int) ≤ ((i - 1 : Nat) : Int) by omega, show ((i - 1 : Nat) : Int) < (l.length : Int) by omega, rdNode, hd]
                exact B.EvR.pure ⟨rfl, fun h => by cases h⟩
              · simp only [d0, ↓reduceIte]
                exact B.EvR.pure ⟨rfl, fun h => by cases h⟩
      · simp only [c2, ↓reduceIte, not_false_eq_true, show ¬ ((3 : Int) = 0) by decide]
        exact B.EvR.pure ⟨rfl, fun h => by cases h⟩
/-- Both read the same tree, a valid one, or tell the same fault. -/
theorem evGetTree (s : ByteArray) (hs : s.size ≤ 9223372036854775807) : B.EvR (fun k => spec_GetTree.f k s) (fun k => impl_GetTree.f k s) (fun u v => u = v ∧ (u.2 = 0 → okT u.1 = true)) := by
  have e0 : s.extract 0 s.size = s := by apply ByteArray.ext; rw [ByteArray.data_extract]; exact Array.extract_size
  have er : rva s 0 = rv s := by unfold rva; rw [e0]
  have hb := rva_in s (Nat.zero_le s.size)
  have ec := nxt_cast s (Nat.zero_le s.size)
  have hn := nxt_le s (Nat.zero_le s.size)
  simp only [spec_GetTree.f, impl_GetTree.f]
  refine B.EvR.bindL (evNum s hs (Nat.zero_le _)) ?_
  refine B.EvR.bindR (evReadVar' s) ?_
  rw [← er]
  by_cases c1 : (rva s 0).2 = 0
  · simp only [c1, ↓reduceIte, show ((-1 : Int) < 0) by decide]
    exact B.EvR.pure ⟨rfl, fun h => by cases h⟩
  · simp only [c1, ↓reduceIte, ec, show ¬ ((nxt s 0 : Int) < 0) by omega, l1In, within, Option.bind_some, decide_eq_true_eq]
    by_cases c2 : 1 ≤ (rva s 0).1 ∧ (rva s 0).1 ≤ 24
    · have e1 : s.extract (rva s 0).2.toNat s.size = s.extract (nxt s 0) s.size := by unfold nxt; rw [Nat.zero_add]
      simp only [c2, and_self, ↓reduceIte, show 0 ≤ (rva s 0).2 by omega, show (rva s 0).2 ≤ (s.size : Int) by omega, e1]
      have := getLoop s hs (n := (rva s 0).1.toNat) (by omega) (by omega) _ 0 (nxt s 0) [] rfl (Nat.zero_le _) rfl (by simp [okUpto]) hn
      have e2 : (((rva s 0).1.toNat : Nat) : Int) = (rva s 0).1 := by omega
      rw [e2] at this
      exact this
    · simp only [c2, ↓reduceIte]
      exact B.EvR.pure ⟨rfl, fun h => by cases h⟩
end Go.Proofs.Ytinlbiphjgpmmaa.X
end YtinlbiphjgpmmaaXGetT
section YtinlbiphjgpmmaaXGetS
namespace Go.Proofs.Ytinlbiphjgpmmaa.X
open Go Go.RowKit Go.Proofs.Ytinlbiphjgpmmaa.V Go.Proofs.Ytinlbiphjgpmmaa.P
set_option linter.all false
/-- The states of both readers: the reference's place and code, the program's rest and code. -/
def StS (s : ByteArray) (p : Int × Int) (q : ByteArray × Int) : Prop := p.2 = q.2 ∧ (p.2 = 0 → ∃ a : Nat, p.1 = (a : Int) ∧ a ≤ s.size ∧ q.1 = s.extract a s.size)
def NumS (s : ByteArray) (most : Int) (u : Int × Int × Int) (v : Int × ByteArray × Int) : Prop := u.1 = v.1 ∧ 0 ≤ u.1 ∧ u.1 ≤ most ∧ StS s u.2 v.2 ∧ (u.2.2 ≠ 0 → u.1 = 0)
theorem evNumS (s : ByteArray) (hs : s.size ≤ 9223372036854775807) {p : Int × Int} {q : ByteArray × Int} (h : StS s p q) {most c : Int} (hm : 0 ≤ most) (hc : c ≠ 0) :
    B.EvR (fun k => spec_l15Num.f k s p.1 p.2 most c) (fun k => impl_script_number.f k q.1 q.2 0 most c) (NumS s most) := by
  obtain ⟨at_, code⟩ := p
  obtain ⟨rest, code'⟩ := q
  obtain ⟨rfl, h2⟩ := h
  simp only [spec_l15Num.f, impl_script_number.f]
  by_cases c0 : code = 0
  · subst c0
    obtain ⟨a, rfl, ha, rfl⟩ := h2 rfl
    have hb := rva_in s ha
    have ec := nxt_cast s ha
    have hn := nxt_le s ha
    simp only [↓reduceIte]
    refine B.EvR.bindL (evNum s hs ha) ?_
    refine B.EvR.bindR (evReadVar' _) ?_
    rw [show rv (s.extract a s.size) = rva s a from rfl]
    by_cases c1 : (rva s a).2 = 0
    · simp only [c1, ↓reduceIte, show ((-1 : Int) < 0) by decide]
      exact B.EvR.pure ⟨rfl, Int.le_refl _, hm, ⟨rfl, fun h => by cases h⟩, fun _ => rfl⟩
    · simp only [c1, ↓reduceIte, ec, show ¬ ((nxt s a : Int) < 0) by omega, within, Option.bind_some, decide_eq_true_eq]
      by_cases c2 : (rva s a).1 > most
      · simp only [c2, ↓reduceIte, show ¬ (0 ≤ (rva s a).1 ∧ (rva s a).1 ≤ most) by omega]
        exact B.EvR.pure ⟨rfl, Int.le_refl _, hm, ⟨rfl, fun h => absurd h hc⟩, fun _ => rfl⟩
      · have e1 : (s.extract a s.size).extract (rva s a).2.toNat (s.extract a s.size).size = s.extract (nxt s a) s.size := ext_ext s (by omega)
        have h1 : (rva s a).2 ≤ ((s.extract a s.size).size : Int) := by rw [ext_size s ha]; omega
        simp only [c2, ↓reduceIte, show (0 ≤ (rva s a).1 ∧ (rva s a).1 ≤ most) by omega, and_self, show 0 ≤ (rva s a).2 by omega, h1, e1]
        exact B.EvR.pure ⟨rfl, hb.1, by omega, ⟨rfl, fun _ => ⟨_, rfl, hn, rfl⟩⟩, fun h => absurd rfl h⟩
  · simp only [c0, ↓reduceIte]
    exact B.EvR.pure ⟨rfl, Int.le_refl _, hm, ⟨rfl, fun h => absurd h c0⟩, fun _ => rfl⟩
/-- The kind: the reference tells a zero apart. -/
theorem evKindS (s : ByteArray) (hs : s.size ≤ 9223372036854775807) {p : Int × Int} {q : ByteArray × Int} (h : StS s p q) :
    B.EvR (fun k => (spec_l15Num.f k s p.1 p.2 3 3).bind fun bt1 => some (bt1.1, if bt1.2.2 = 0 ∧ bt1.1 = 0 then (bt1.2.1, 3) else bt1.2)) (fun k => impl_script_number.f k q.1 q.2 1 3 3) (NumS s 3) := by
  obtain ⟨at_, code⟩ := p
  obtain ⟨rest, code'⟩ := q
  obtain ⟨rfl, h2⟩ := h
  simp only [spec_l15Num.f, impl_script_number.f]
  by_cases c0 : code = 0
  · subst c0
    obtain ⟨a, rfl, ha, rfl⟩ := h2 rfl
    have hb := rva_in s ha
    have ec := nxt_cast s ha
    have hn := nxt_le s ha
    simp only [↓reduceIte, Option.bind_assoc]
    refine B.EvR.bindL (evNum s hs ha) ?_
    refine B.EvR.bindR (evReadVar' _) ?_
    rw [show rv (s.extract a s.size) = rva s a from rfl]
    by_cases c1 : (rva s a).2 = 0
    · simp only [c1, ↓reduceIte, show ((-1 : Int) < 0) by decide, Option.bind_some, show ¬ ((1 : Int) = 0) by decide, false_and]
      exact B.EvR.pure ⟨rfl, Int.le_refl _, (show (0 : Int) ≤ 3 by decide), ⟨rfl, fun h => by cases h⟩, fun _ => rfl⟩
    · simp only [c1, ↓reduceIte, ec, show ¬ ((nxt s a : Int) < 0) by omega, within, Option.bind_some, decide_eq_true_eq]
      by_cases c2 : (rva s a).1 > 3
      · simp only [c2, ↓reduceIte, show ¬ (1 ≤ (rva s a).1 ∧ (rva s a).1 ≤ 3) by omega, Option.bind_some, show ¬ ((3 : Int) = 0) by decide, false_and]
        exact B.EvR.pure ⟨rfl, Int.le_refl _, (show (0 : Int) ≤ 3 by decide), ⟨rfl, fun h => by cases h⟩, fun _ => rfl⟩
      · have e1 : (s.extract a s.size).extract (rva s a).2.toNat (s.extract a s.size).size = s.extract (nxt s a) s.size := ext_ext s (by omega)
        have h1 : (rva s a).2 ≤ ((s.extract a s.size).size : Int) := by rw [ext_size s ha]; omega
        by_cases c3 : (rva s a).1 = 0
        · simp only [c3, ↓reduceIte, show ¬ ((0 : Int) > 3) by decide, show ¬ (1 ≤ (0 : Int) ∧ (0 : Int) ≤ 3) by decide, Option.bind_some, and_self]
          exact B.EvR.pure ⟨rfl, Int.le_refl _, (show (0 : Int) ≤ 3 by decide), ⟨rfl, fun h => by cases h⟩, fun _ => rfl⟩
        · simp only [c2, c3, ↓reduceIte, show (1 ≤ (rva s a).1 ∧ (rva s a).1 ≤ 3) by omega, and_self, show 0 ≤ (rva s a).2 by omega, h1, e1, Option.bind_some, and_false]
          exact B.EvR.pure ⟨rfl, hb.1, by omega, ⟨rfl, fun _ => ⟨_, rfl, hn, rfl⟩⟩, fun h => absurd rfl h⟩
  · simp only [c0, ↓reduceIte, Option.bind_some, false_and]
    exact B.EvR.pure ⟨rfl, Int.le_refl _, (show (0 : Int) ≤ 3 by decide), ⟨rfl, fun h => absurd h c0⟩, fun _ => rfl⟩
/-- An operation whose numbers are small. -/
def opIn (o : S87) : Prop := o.f1.length ≤ 12 ∧ 0 ≤ o.f3 ∧ o.f3 ≤ 24 ∧ 0 ≤ o.f4 ∧ o.f4 ≤ 24

theorem op0 {a c : Int} {b : List Int} (h : b.length ≤ 12) : opIn ⟨a, b, c, 0, 0⟩ := ⟨h, Int.le_refl 0, (show (0 : Int) ≤ 24 by decide), Int.le_refl 0, (show (0 : Int) ≤ 24 by decide)⟩
/-- One operation: what the reference reads, and that the program goes on with the same. -/
theorem innerS (s : ByteArray) (hs : s.size ≤ 9223372036854775807) {n i : Nat} {x5 : List S87} (hx : x5.length ≤ 60) (hi : i ≤ 60) {kind : Int} {cnt : Nat} (hcnt : cnt ≤ 12) : ∀ (d t : Nat) (path : List Int) (p : Int × Int) (q : ByteArray × Int), t + d = cnt → path.length + d ≤ 12 → StS s p q →
    ∃ (b : Int × List Int × Int × Int × Int × Int × Int) (q' : ByteArray × Int), StS s (b.2.2.2.2.2.1, b.2.2.2.2.2.2) q' ∧ opIn ⟨b.1, b.2.1, b.2.2.1, b.2.2.2.1, b.2.2.2.2.1⟩ ∧
      B.Ev (fun k => spec_l15Get.l0 k (d : Int) s p.1 p.2 0 [] 0 0 0 kind path 0 0 0) b ∧
      ∀ v, B.Ev (fun k => impl_GetScript.l0 k (x5 ++ [⟨b.1, b.2.1, b.2.2.1, b.2.2.2.1, b.2.2.2.2.1⟩]) (n : Int) ((i + 1 : Nat) : Int) q'.1 q'.2) v → B.Ev (fun k => impl_GetScript.l1 k x5 (n : Int) (i : Int) (cnt : Int) (t : Int) q.1 q.2 kind path 0 0 0) v := by
  have hw := B.wsucc (show i < 9223372036854775807 by omega)
  have L : x5.length < 2513169434916 := by omega
  intro d
  induction d with
  | zero =>
    intro t path p q ht hp hst
    have a1 : ¬ ((t : Int) < (cnt : Int)) := by omega
    have a0 : ¬ (((0 : Nat) : Int) > 0) := by decide
    by_cases k2 : kind = 2
    · have k3 : ¬ (kind = 3) := by omega
      refine ⟨(kind, path, 0, 0, 0, p.1, p.2), q, hst, op0 (by simpa using hp), ?_, fun v hv => ?_⟩
      · refine B.Ev.succ ?_
        simp only [spec_l15Get.l0, a0, ↓reduceIte, k2, show ¬ ((2 : Int) = 3) by decide]
        exact B.Ev.pure _
      · refine B.Ev.succ ?_
        simp only [impl_GetScript.l1, a1, ↓reduceIte, k2, show ¬ ((2 : Int) = 3) by decide, L, hw]
        rw [k2] at hv
        exact hv
    · obtain ⟨u, v1, ⟨e1, e2, e3, e4, _⟩, g1, g2⟩ := evNumS s hs hst (most := 5) (c := 5) (by decide) (by decide)
      by_cases k3 : kind = 3
      · obtain ⟨u2, v2, ⟨f1, f2, f3, f4, _⟩, g3, g4⟩ := evNumS s hs e4 (most := 24) (c := 6) (by decide) (by decide)
        obtain ⟨u3, v3, ⟨h1, h2, h3, h4, _⟩, g5, g6⟩ := evNumS s hs f4 (most := 24) (c := 6) (by decide) (by decide)
        refine ⟨(kind, path, u.1, u2.1, u3.1, u3.2.1, u3.2.2), v3.2, h4, ⟨by simpa using hp, f2, f3, h2, h3⟩, ?_, fun v hv => ?_⟩
        · refine B.Ev.succ ?_
          simp only [spec_l15Get.l0, a0, ↓reduceIte, k3, show ¬ ((3 : Int) = 2) by decide]
          refine B.Ev.bind g1 ?_
          refine B.Ev.bind g3 ?_
          refine B.Ev.bind g5 ?_
          exact B.Ev.pure _
        · refine B.Ev.succ ?_
          simp only [impl_GetScript.l1, a1, ↓reduceIte, k3, show ¬ ((3 : Int) = 2) by decide]
          refine B.Ev.bind g2 ?_
          refine B.Ev.bind g4 ?_
          refine B.Ev.bind g6 ?_
          simp only [L, ↓reduceIte, hw]
          rw [← e1, ← f1, ← h1, ← k3]
          exact hv
      · refine ⟨(kind, path, u.1, 0, 0, u.2.1, u.2.2), v1.2, e4, op0 (by simpa using hp), ?_, fun v hv => ?_⟩
        · refine B.Ev.succ ?_
          simp only [spec_l15Get.l0, a0, ↓reduceIte, k2, k3]
          refine B.Ev.bind g1 ?_
          exact B.Ev.pure _
        · refine B.Ev.succ ?_
          simp only [impl_GetScript.l1, a1, ↓reduceIte, k2, k3]
          refine B.Ev.bind g2 ?_
          simp only [L, ↓reduceIte, hw]
          rw [← e1]
          exact hv
  | succ d ih =>
    intro t path p q ht hp hst
    obtain ⟨u, v1, ⟨e1, e2, e3, e4, _⟩, g1, g2⟩ := evNumS s hs hst (most := 24) (c := 4) (by decide) (by decide)
    obtain ⟨b, q', c1, c2, c3, c4⟩ := ih (t + 1) (path ++ [u.1]) u.2 v1.2 (by omega) (by simp; omega) e4
    have wt := B.wsucc (show t < 9223372036854775807 by omega)
    have wd : wrap64 (((d + 1 : Nat) : Int) - 1) = (d : Int) := by rw [B.wid (by omega) (by omega)]; omega
    have L2 : path.length < 17592186044416 := by omega
    refine ⟨b, q', c1, c2, ?_, fun v hv => ?_⟩
    · refine B.Ev.succ ?_
      simp only [spec_l15Get.l0, show (((d + 1 : Nat) : Int) > 0) by omega, ↓reduceIte]
      refine B.Ev.bind g1 ?_
      simp only [L2, ↓reduceIte, wd]
      exact c3
    · refine B.Ev.succ ?_
      simp only [impl_GetScript.l1, show ((t : Int) < (cnt : Int)) by omega, ↓reduceIte]
      refine B.Ev.bind g2 ?_
      simp only [L2, ↓reduceIte, wt]
      rw [← e1]
      exact c4 v hv
/-- Behind a fault the program goes through the rest and tells the fault. -/
theorem errS (s : ByteArray) (hs : s.size ≤ 9223372036854775807) {n : Nat} (hn : n ≤ 60) {rest : ByteArray} {code : Int} (hc : code ≠ 0) : ∀ (d i : Nat) (x5 : List S87), i + d = n → x5.length + d ≤ 60 → B.Ev (fun k => impl_GetScript.l0 k x5 (n : Int) (i : Int) rest code) ([], code) := by
  intro d
  have num : ∀ {a b c : Int}, B.Ev (fun k => impl_script_number.f k rest code a b c) (0, rest, code) := fun {a b c} => by
    simp only [impl_script_number.f, hc, ↓reduceIte]; exact B.Ev.pure _
  induction d with
  | zero =>
    intro i x5 hi hx
    refine B.Ev.succ ?_
    simp only [impl_GetScript.l0, show ¬ ((i : Int) < (n : Int)) by omega, ↓reduceIte, hc]
    exact B.Ev.pure _
  | succ d ih =>
    intro i x5 hi hx
    refine B.Ev.succ ?_
    simp only [impl_GetScript.l0, show ((i : Int) < (n : Int)) by omega, ↓reduceIte]
    refine B.Ev.bind num ?_
    refine B.Ev.bind num ?_
    refine B.Ev.succ ?_
    have hw := B.wsucc (show i < 9223372036854775807 by omega)
    simp only [impl_GetScript.l1, show ¬ ((0 : Int) < 0) by decide, ↓reduceIte, show ¬ ((0 : Int) = 2) by decide]
    refine B.Ev.bind num ?_
    simp only [show ¬ ((0 : Int) = 3) by decide, ↓reduceIte, show x5.length < 2513169434916 by omega, hw]
    exact ih (i + 1) _ (by omega) (by simp; omega)
theorem loopS (s : ByteArray) (hs : s.size ≤ 9223372036854775807) {n : Nat} (hn : n ≤ 60) : ∀ (d i : Nat) (x5 : List S87) (p : Int × Int) (q : ByteArray × Int), i + d = n → x5.length = i → (∀ o ∈ x5, opIn o) → StS s p q →
    B.EvR (fun k => spec_GetScript.l0 k s x5 (d : Int) s p.1 p.2) (fun k => impl_GetScript.l0 k x5 (n : Int) (i : Int) q.1 q.2) (fun u v => u = v ∧ (u.2 = 0 → u.1.length ≤ 60 ∧ ∀ o ∈ u.1, opIn o)) := by
  intro d
  induction d with
  | zero =>
    intro i x5 p q hi hx hop hst
    obtain ⟨at_, code⟩ := p
    obtain ⟨rest, code'⟩ := q
    obtain ⟨rfl, h2⟩ := hst
    refine B.EvR.succL (B.EvR.succR ?_)
    simp only [spec_GetScript.l0, impl_GetScript.l0, show ¬ (((0 : Nat) : Int) > 0) by decide, show ¬ ((i : Int) < (n : Int)) by omega, ↓reduceIte]
    by_cases c0 : code = 0
    · subst c0
      obtain ⟨a, rfl, ha, rfl⟩ := h2 rfl
      simp only [↓reduceIte, ext_nil s ha]
      by_cases c : a = s.size
      · simp only [c, ↓reduceIte]
        exact B.EvR.pure ⟨rfl, fun _ => ⟨by simp only; omega, hop⟩⟩
      · simp only [c, show ¬ ((a : Int) = (s.size : Int)) by omega, ↓reduceIte]
        exact B.EvR.pure ⟨rfl, fun h => by cases h⟩
    · simp only [c0, ↓reduceIte]
      exact B.EvR.pure ⟨rfl, fun h => absurd h c0⟩
  | succ d ih =>
    intro i x5 p q hi hx hop hst
    by_cases c0 : p.2 = 0
    · refine B.EvR.succL (B.EvR.succR ?_)
      simp only [spec_GetScript.l0, impl_GetScript.l0, show (((d + 1 : Nat) : Int) > 0) by omega, show ((i : Int) < (n : Int)) by omega, ↓reduceIte, c0]
      obtain ⟨u1, v1, ⟨e1, e2, e3, e4, _⟩, g1, g2⟩ := evKindS s hs hst
      obtain ⟨u2, v2, ⟨f1, f2, f3, f4, _⟩, g3, g4⟩ := evNumS s hs e4 (most := 12) (c := 4) (by decide) (by decide)
      obtain ⟨m, hm⟩ : ∃ m : Nat, u2.1 = m := ⟨u2.1.toNat, by omega⟩
      obtain ⟨b, q', c1, c2, c3, c4⟩ := innerS s hs (n := n) (i := i) (x5 := x5) (by omega) (by omega) (kind := u1.1) (cnt := m) (by omega) m 0 [] u2.2 v2.2 (by omega) (by simp; omega) f4
      have hget : B.Ev (fun k => spec_l15Get.f k s p.1 0) b := by
        have h1 : ∀ k, spec_l15Get.f k s p.1 0 = ((spec_l15Num.f k s p.1 p.2 3 3).bind fun bt1 => some (bt1.1, if bt1.2.2 = 0 ∧ bt1.1 = 0 then (bt1.2.1, 3) else bt1.2)).bind fun b => spec_l15Get.j0 k s b.2.1 b.2.2 0 [] 0 0 0 b.1 [] 0 0 0 := fun k => by
          rw [c0]
          simp only [spec_l15Get.f]
          cases spec_l15Num.f k s p.1 0 3 3 with
          | none => rfl
          | some x =>
            obtain ⟨x1, x2, x3⟩ := x
            simp only [Option.bind_some]
            by_cases y1 : x3 = 0
            · by_cases y2 : x1 = 0
              · simp only [y1, y2, ↓reduceIte, and_self]
              · simp only [y1, y2, ↓reduceIte, and_false]
            · simp only [y1, ↓reduceIte, false_and]
        simp only [h1]
        refine B.Ev.bind g1 ?_
        refine B.Ev.succ ?_
        simp only [spec_l15Get.j0]
        refine B.Ev.bind g3 ?_
        rw [hm]
        exact c3
      refine B.EvR.bindL hget ?_
      have L : x5.length < 2513169434916 := by omega
      have wd : wrap64 (((d + 1 : Nat) : Int) - 1) = (d : Int) := by rw [B.wid (by omega) (by omega)]; omega
      simp only [L, ↓reduceIte, wd]
      obtain ⟨x, y, hr, k1, k2⟩ := ih (i + 1) (x5 ++ [⟨b.1, b.2.1, b.2.2.1, b.2.2.2.1, b.2.2.2.2.1⟩]) _ q' (by omega) (by simp; omega) (fun o ho => by
        rcases List.mem_append.1 ho with h | h
        · exact hop o h
        · rw [List.mem_singleton.1 h]; exact c2) c1
      refine ⟨x, y, hr, k1, ?_⟩
      refine B.Ev.bind g2 ?_
      refine B.Ev.bind g4 ?_
      rw [← f1, hm, ← e1]
      exact c4 y k2
    · have h1 : q.2 ≠ 0 := by rw [← hst.1]; exact c0
      refine ⟨([], p.2), ([], q.2), ⟨by rw [hst.1], fun h => absurd h c0⟩, ?_, errS s hs hn h1 (d + 1) i x5 (by omega) (by omega)⟩
      refine B.Ev.succ ?_
      simp only [spec_GetScript.l0, show (((d + 1 : Nat) : Int) > 0) by omega, ↓reduceIte, c0]
      exact B.Ev.pure _
theorem evGetScript (s : ByteArray) (hs : s.size ≤ 9223372036854775807) : B.EvR (fun k => spec_GetScript.f k s) (fun k => impl_GetScript.f k s) (fun u v => u = v ∧ (u.2 = 0 → u.1.length ≤ 60 ∧ ∀ o ∈ u.1, opIn o)) := by
  have e0 : s.extract 0 s.size = s := by apply ByteArray.ext; rw [ByteArray.data_extract]; exact Array.extract_size
  have h0 : StS s (0, 0) (s, 0) := ⟨rfl, fun _ => ⟨0, rfl, Nat.zero_le _, e0.symm⟩⟩
  simp only [spec_GetScript.f, impl_GetScript.f]
  obtain ⟨u, v, ⟨e1, e2, e3, e4, _⟩, g1, g2⟩ := evNumS s hs h0 (most := 60) (c := 2) (by decide) (by decide)
  refine B.EvR.bindL g1 ?_
  refine B.EvR.bindR g2 ?_
  obtain ⟨m, hm⟩ : ∃ m : Nat, u.1 = m := ⟨u.1.toNat, by omega⟩
  rw [← e1, hm]
  exact loopS s hs (n := m) (by omega) m 0 [] u.2 v.2 (by omega) rfl (fun o ho => by cases ho) e4
end Go.Proofs.Ytinlbiphjgpmmaa.X
end YtinlbiphjgpmmaaXGetS
section YtinlbiphjgpmmaaXPatch
namespace Go.Proofs.Ytinlbiphjgpmmaa.X
open Go Go.RowKit Go.Proofs.Ytinlbiphjgpmmaa.V Go.Proofs.Ytinlbiphjgpmmaa.P
set_option linter.all false
theorem rdOp {xs : List S87} {i : Nat} (h : i < xs.length) : rd_T87 xs (i : Int) = xs[i] := by unfold rd_T87; rw [Int.toNat_natCast]; exact B.getD_lt h
/-- An operation whose path and place are not beyond all bounds. -/
def opW (o : S87) : Prop := o.f1.length ≤ 4611686018427387904 ∧ -9223372036854775808 ≤ o.f3 ∧ o.f3 ≤ 9223372036854775807
theorem opW_in {o : S87} (h : opIn o) : opW o := by unfold opIn at h; unfold opW; omega
theorem allLoop {ops : List S87} (ho : ∀ o ∈ ops, opW o) (hn : ops.length ≤ 4611686018427387904) (l : List S105) : ∀ (d t : Nat) (x : List S105), t + d = ops.length → x.length ≤ 4194304 →
    B.EvR (fun k => spec_ApplyAll.l0 k ops x (t : Int) l) (fun k => impl_ApplyAll.l0 k ops x ops (ops.length : Int) (t : Int) l) (fun u v => u = v ∧ u.1.length ≤ 4194304) := by
  intro d
  induction d with
  | zero =>
    intro t x ht hx
    refine B.EvR.succL (B.EvR.succR ?_)
    simp only [spec_ApplyAll.l0, impl_ApplyAll.l0, show ¬ ((t : Int) < (ops.length : Int)) by omega, ↓reduceIte]
    exact B.EvR.pure ⟨rfl, hx⟩
  | succ d ih =>
    intro t x ht hx
    have hlt : t < ops.length := by omega
    have hw := B.wsucc (show t < 9223372036854775807 by omega)
    obtain ⟨w1, w2, w3⟩ := ho _ (List.getElem_mem hlt)
    refine B.EvR.succL (B.EvR.succR ?_)
    simp only [spec_ApplyAll.l0, impl_ApplyAll.l0, show ((t : Int) < (ops.length : Int)) by omega, show (0 : Int) ≤ (t : Int) by omega, ↓reduceIte, rdOp hlt, hw]
    refine B.EvR.bind (evApplyOp hx _ _ _ _ _ w1 ⟨w2, w3⟩) ?_
    rintro u v ⟨rfl, hu⟩
    refine B.EvR.iteL (fun c => ?_) (fun c => ?_)
    · simp only [c, ↓reduceIte]
      exact ih (t + 1) _ (by omega) (by omega)
    · simp only [c, ↓reduceIte]
      exact B.EvR.pure ⟨rfl, hx⟩
theorem evApplyAll {l : List S105} (hl : l.length ≤ 4194304) {ops : List S87} (ho : ∀ o ∈ ops, opW o) (hn : ops.length ≤ 4611686018427387904) :
    B.EvR (fun k => spec_ApplyAll.f k l ops) (fun k => impl_ApplyAll.f k l ops) (fun u v => u = v ∧ u.1.length ≤ 4194304) := by
  simp only [spec_ApplyAll.f, impl_ApplyAll.f]
  refine B.EvR.bindL (B.Ev.of _ (fun k hk => specTreeOk l hl k hk)) ?_
  refine B.EvR.bindR (B.Ev.of _ (fun k hk => implTreeOk l hl k hk)) ?_
  by_cases h : okT l = true
  · simp only [h, ↓reduceIte, spec_l3Copy.f, slices_Clone_impl_Node_impl_Node.f, show l.length * 16 ≤ 140737488355328 by omega, Option.bind_some]
    exact allLoop ho hn l ops.length 0 l (by omega) hl
  · simp only [h, ↓reduceIte]
    exact B.EvR.pure ⟨rfl, Nat.zero_le _⟩
theorem putLoop (l : List S105) (hl : l.length ≤ 4194304) : ∀ (d t : Nat) (s : ByteArray), t + d = l.length → s.size ≤ 7 + 14 * t →
    B.EvR (fun k => spec_PutTree.l0 k l s (t : Int)) (fun k => impl_PutTree.l0 k s l (l.length : Int) (t : Int)) (fun u v => u = v ∧ u.size ≤ 7 + 14 * l.length) := by
  intro d
  induction d with
  | zero =>
    intro t s ht hs
    refine B.EvR.succL (B.EvR.succR ?_)
    simp only [spec_PutTree.l0, impl_PutTree.l0, show ¬ ((t : Int) < (l.length : Int)) by omega, ↓reduceIte]
    exact B.EvR.pure ⟨rfl, by omega⟩
  | succ d ih =>
    intro t s ht hs
    have hw := B.wsucc (show t < 9223372036854775807 by omega)
    have z1 := var_size (l.getD t z105).f0
    have z2 := var_size (l.getD t z105).f1
    refine B.EvR.succL (B.EvR.succR ?_)
    simp only [spec_PutTree.l0, impl_PutTree.l0, show ((t : Int) < (l.length : Int)) by omega, show (0 : Int) ≤ (t : Int) by omega, ↓reduceIte, rdNode]
    refine B.EvR.bindL (evVar _) ?_
    refine B.EvR.bindR (evVar' _) ?_
    generalize var (l.getD t z105).f0 = a at *
    simp only [show s.size + a.size ≤ 9223372036854775807 by omega, ↓reduceIte]
    refine B.EvR.bindL (evVar _) ?_
    refine B.EvR.bindR (evVar' _) ?_
    generalize var (l.getD t z105).f1 = b at *
    have y1 : (s ++ a).size = s.size + a.size := ByteArray.size_append
    have y2 : (a ++ b).size = a.size + b.size := ByteArray.size_append
    have y3 : (s ++ a ++ b).size = s.size + a.size + b.size := by rw [ByteArray.size_append, y1]
    simp only [show (s ++ a).size + b.size ≤ 9223372036854775807 by omega, show a.size + b.size ≤ 9223372036854775807 by omega, show s.size + (a ++ b).size ≤ 9223372036854775807 by omega, ↓reduceIte, hw, ← ByteArray.append_assoc]
    exact ih (t + 1) _ (by omega) (by omega)
theorem evPutTree (l : List S105) (hl : l.length ≤ 4194304) : B.EvR (fun k => spec_PutTree.f k l) (fun k => impl_PutTree.f k l) (fun u v => u = v ∧ u.size ≤ 1000) := by
  simp only [spec_PutTree.f, impl_PutTree.f]
  refine B.EvR.bindL (B.Ev.of _ (fun k hk => specTreeOk l hl k hk)) ?_
  refine B.EvR.bindR (B.Ev.of _ (fun k hk => implTreeOk l hl k hk)) ?_
  by_cases h : okT l = true
  · have h24 := okT_len h
    simp only [h, ↓reduceIte]
    refine B.EvR.bindL (evVar _) ?_
    refine B.EvR.bindR (evVar' _) ?_
    refine (putLoop l hl l.length 0 _ (by omega) (by have := var_size (l.length : Int); omega)).mono fun u v ⟨e, hu⟩ => ⟨e, by omega⟩
  · simp only [h, ↓reduceIte]
    exact B.EvR.pure ⟨rfl, by decide⟩
theorem evPatch (x y : ByteArray) (hx : x.size ≤ 9223372036854775807) (hy : y.size ≤ 9223372036854775807) : B.EvR (fun k => spec_Patch.f k x y) (fun k => impl_Patch.f k x y) (fun u v => u = v ∧ u.1.size ≤ 1000 ∧ (u.2.1 = 0 → u.2.2.1 = 0 ∧ u.2.2.2 = 0)) := by
  have no : ∀ {c d e : Int}, c ≠ 0 → B.EvR (fun _ => some ((⟨#[]⟩ : ByteArray), c, d, e)) (fun _ => some ((⟨#[]⟩ : ByteArray), c, d, e)) (fun u v => u = v ∧ u.1.size ≤ 1000 ∧ (u.2.1 = 0 → u.2.2.1 = 0 ∧ u.2.2.2 = 0)) := fun hc => B.EvR.pure ⟨rfl, by simp only; decide, fun h => absurd h hc⟩
  simp only [spec_Patch.f, impl_Patch.f]
  obtain ⟨t, t', ⟨rfl, ht⟩, g1, g2⟩ := evGetTree x hx
  obtain ⟨s, s', ⟨rfl, hs⟩, g3, g4⟩ := evGetScript y hy
  refine B.EvR.bindL g1 ?_
  refine B.EvR.bindR g2 ?_
  refine B.EvR.bindR g4 ?_
  by_cases c1 : t.2 = 0
  · simp only [c1, ↓reduceIte]
    refine B.EvR.bindL g3 ?_
    by_cases c2 : s.2 = 0
    · simp only [c2, ↓reduceIte]
      have hl := okT_len (ht c1)
      have hop := hs c2
      refine B.EvR.bind (evApplyAll (by omega) (fun o ho => opW_in (hop.2 o ho)) (by omega)) ?_
      rintro u v ⟨rfl, hu⟩
      by_cases c3 : u.2.2 = 0
      · simp only [c3, ↓reduceIte]
        refine B.EvR.bind (evPutTree _ hu) ?_
        rintro w w' ⟨rfl, hw⟩
        exact B.EvR.pure ⟨rfl, hw, fun _ => ⟨rfl, rfl⟩⟩
      · simp only [c3, ↓reduceIte]; exact no (by decide)
    · simp only [c2, ↓reduceIte]; exact no (by decide)
  · simp only [c1, ↓reduceIte]; exact no (by decide)
end Go.Proofs.Ytinlbiphjgpmmaa.X
end YtinlbiphjgpmmaaXPatch
section YtinlbiphjgpmmaaXRepoG
namespace Go.Proofs.Ytinlbiphjgpmmaa.X
open Go Go.RowKit Go.Proofs.Ytinlbiphjgpmmaa.V Go.Proofs.Ytinlbiphjgpmmaa.P
set_option linter.all false
theorem rdRev {xs : List S65} {i : Nat} (h : i < xs.length) : rd_T65 xs (i : Int) = xs[i] := by unfold rd_T65; rw [Int.toNat_natCast]; exact B.getD_lt h
/-- A repository whose texts are not beyond all bounds. -/
def repoW (r : List S65) : Prop := r.length ≤ 4194304 ∧ ∀ x ∈ r, x.f1.size ≤ 9223372036854775807
def GetP (u v : ByteArray × Bool) : Prop := u = v ∧ u.1.size ≤ 9223372036854775807
theorem evRepoGet {r : List S65} (hr : repoW r) : ∀ (n : Nat) (i : Int), i.toNat < n → -9223372036854775808 ≤ i → i ≤ 9223372036854775807 → B.EvR (fun k => spec_RepoGet.f k r i) (fun k => impl_RepoGet.f k r i) GetP := by
  have no : B.EvR (fun _ => some ((⟨#[]⟩ : ByteArray), false)) (fun _ => some ((⟨#[]⟩ : ByteArray), false)) GetP := B.EvR.pure ⟨rfl, by simp only; decide⟩
  intro n
  induction n with
  | zero => intro i h; omega
  | succ n ih =>
    intro i hn h1 h2
    have hrl := hr.1
    have el : wrap64 ((r.length : Int) - 1) = (r.length : Int) - 1 := B.wid (by omega) (by omega)
    refine B.EvR.succL (B.EvR.succR ?_)
    simp only [spec_RepoGet.f, impl_RepoGet.f, l1In, within, Option.bind_some, decide_eq_true_eq, el]
    clear el
    by_cases c1 : 0 ≤ i ∧ i ≤ (r.length : Int) - 1
    · simp only [c1, and_self, ↓reduceIte]
      by_cases c2 : (r.length : Int) > 6
      · simp only [c2, ↓reduceIte]; exact no
      · obtain ⟨m, rfl⟩ : ∃ m : Nat, i = m := ⟨i.toNat, by omega⟩
        have hm : m < r.length := by omega
        have ei : wrap64 ((m : Int) - 1) = (m : Int) - 1 := B.wid (by omega) (by omega)
        have hx := hr.2 _ (List.getElem_mem hm)
        simp only [c2, ↓reduceIte, show (m : Int) < (r.length : Int) by omega, rdRev hm, ei]
        clear ei
        generalize r[m] = x at *
        by_cases c3 : -1 ≤ x.f0 ∧ x.f0 ≤ (m : Int) - 1
        · simp only [c3, and_self, ↓reduceIte]
          by_cases c4 : x.f0 = -1
          · simp only [c4, ↓reduceIte, show ((-1 : Int) < 0) by decide]
            obtain ⟨t, t', ⟨rfl, _⟩, g1, g2⟩ := evGetTree x.f1 hx
            refine B.EvR.bindL g1 ?_
            refine B.EvR.bindR g2 ?_
            by_cases c5 : t.2 = 0
            · simp only [c5, ↓reduceIte]; exact B.EvR.pure ⟨rfl, hx⟩
            · simp only [c5, ↓reduceIte]; exact no
          · simp only [c4, ↓reduceIte, show ¬ (x.f0 < 0) by omega]
            obtain ⟨u, v, ⟨rfl, hu⟩, g1, g2⟩ := ih x.f0 (by omega) (by omega) (by omega)
            obtain ⟨w, w', ⟨rfl, hw, hz⟩, g3, g4⟩ := evPatch u.1 x.f1 hu hx
            refine B.EvR.bindL g1 ?_
            refine B.EvR.bindR g2 ?_
            refine B.EvR.bindR g4 ?_
            by_cases c5 : u.2 = true
            · simp only [c5, ↓reduceIte]
              refine B.EvR.bindL g3 ?_
              by_cases c6 : w.2.1 = 0
              · have := hz c6
                simp only [c6, this.1, this.2, ↓reduceIte, decide_true, Bool.and_self]
                exact B.EvR.pure ⟨rfl, by simp only; omega⟩
              · simp only [c6, ↓reduceIte, decide_false, Bool.false_and, Bool.false_eq_true]
                exact no
            · simp only [c5, ↓reduceIte, Bool.false_eq_true]
              exact no
        · simp only [c3, ↓reduceIte]; exact no
    · simp only [c1, ↓reduceIte]
      refine B.EvR.iteR (fun _ => no) (fun _ => no)
end Go.Proofs.Ytinlbiphjgpmmaa.X
end YtinlbiphjgpmmaaXRepoG
section YtinlbiphjgpmmaaXRepoL
namespace Go.Proofs.Ytinlbiphjgpmmaa.X
open Go Go.RowKit Go.Proofs.Ytinlbiphjgpmmaa.V Go.Proofs.Ytinlbiphjgpmmaa.P
set_option linter.all false
def rvL (x : S100) : S65 := ⟨x.f0, x.f1⟩
theorem rdlRev {xs : List S100} {i : Nat} (h : i < xs.length) : rd_T100 xs (i : Int) = xs[i] := by unfold rd_T100; rw [Int.toNat_natCast]; exact B.getD_lt h
theorem toRepo (l : List S100) (hl : l.length ≤ 4194304) : B.Ev (fun k => laws_toRepo.f k l) (l.map rvL) := by
  simp only [laws_toRepo.f, laws_toRevS.f, show (0 : Int) ≤ (l.length : Int) by omega, show (l.length : Int) * 24 ≤ 140737488355328 by omega, ↓reduceIte, Int.toNat_natCast]
  refine B.Ev.bind ?_ (B.Ev.pure _)
  rw [← B.filled_zero l rvL]
  refine B.Ev.loop (g := fun k i => laws_toRevS.l0 k l (B.filled l rvL z65 i) (i : Int)) l.length (fun _ => True) ?_ ?_ 0 (Nat.zero_le _) trivial
  · intro _
    refine B.Ev.succ ?_
    simp only [laws_toRevS.l0, Int.lt_irrefl, ↓reduceIte, B.filled_all]
    exact B.Ev.pure _
  · intro i hi _ ih
    refine B.Ev.succ ?_
    have a2 : (i : Int) < ((B.filled l rvL z65 i).length : Int) := by rw [B.filled_length _ _ _ (by omega)]; omega
    simp only [laws_toRevS.l0, laws_toRev.f, show (i : Int) < (l.length : Int) by omega, show (0 : Int) ≤ (i : Int) by omega, a2, ↓reduceIte, rdlRev hi, Option.bind_some, B.wsucc (show i < 9223372036854775807 by omega), Int.toNat_natCast]
    have := ih trivial
    rw [← B.filled_set l rvL z65 hi] at this
    exact this
theorem eqRepo (l : List S65) (hl : l.length ≤ 4194304) : B.Ev (fun k => laws_eqRepo.f k l l) true := by
  simp only [laws_eqRepo.f, laws_eqRevS.f, ↓reduceIte]
  refine B.Ev.bind (a := true) ?_ (by simp only [↓reduceIte]; exact B.Ev.pure _)
  refine B.Ev.loop (g := fun k i => laws_eqRevS.l0 k l l (i : Int)) l.length (fun _ => True) ?_ ?_ 0 (Nat.zero_le _) trivial
  · intro _
    refine B.Ev.succ ?_
    simp only [laws_eqRevS.l0, Int.lt_irrefl, ↓reduceIte]
    exact B.Ev.pure _
  · intro i hi _ ih
    refine B.Ev.succ ?_
    simp only [laws_eqRevS.l0, laws_eqRev.f, show (i : Int) < (l.length : Int) by omega, show (0 : Int) ≤ (i : Int) by omega, ↓reduceIte, Option.bind_some, B.wsucc (show i < 9223372036854775807 by omega)]
    exact ih trivial
/-- The sizes are measured: below zero, or no more revisions than allowed. -/
theorem szRepo (l : List S100) (hs : l.length ≤ maxLen) (h : ∀ x ∈ l, x.f1.size ≤ maxLen) : ∃ r : Int, B.Ev (fun k => laws_szRepo.f k l 1048576) r ∧ (r < 0 ∨ l.length ≤ 1048576) := by
  have hl : l.length ≤ 9223372036854775807 := hs
  have e0 : wrap64 ((1048576 : Int) - (l.length : Int)) = (1048576 : Int) - (l.length : Int) := B.wid (by omega) (by omega)
  simp only [laws_szRepo.f, laws_szRevS.f, e0]
  clear e0
  by_cases hn : (1048576 : Int) - (l.length : Int) < 0
  · simp only [hn, ↓reduceIte]
    refine ⟨-1, B.Ev.bind (B.Ev.pure _) ?_, .inl (by decide)⟩
    simp only [show ((-1 : Int) < 0) by decide, ↓reduceIte]; exact B.Ev.pure _
  · simp only [hn, ↓reduceIte]
    suffices hh : ∀ (d i : Nat) (a : Int), 0 ≤ a → a ≤ 1048576 → i + d = l.length → ∃ r, B.Ev (fun k => laws_szRevS.l0 k l a (i : Int)) r by
      obtain ⟨r, hr⟩ := hh l.length 0 ((1048576 : Int) - (l.length : Int)) (by omega) (by omega) (by omega)
      by_cases c : r < 0
      · refine ⟨-1, B.Ev.bind hr ?_, .inl (by decide)⟩
        simp only [c, ↓reduceIte]; exact B.Ev.pure _
      · refine ⟨r, B.Ev.bind hr ?_, .inr (by omega)⟩
        simp only [c, ↓reduceIte]; exact B.Ev.pure _
    intro d
    induction d with
    | zero =>
      intro i a h0 h1 hi
      refine ⟨a, B.Ev.succ ?_⟩
      simp only [laws_szRevS.l0, show ¬ ((i : Int) < (l.length : Int)) by omega, ↓reduceIte]; exact B.Ev.pure _
    | succ d ih =>
      intro i a h0 h1 hi
      have hil : i < l.length := by omega
      have hx : l[i].f1.size ≤ 9223372036854775807 := h _ (List.getElem_mem hil)
      have hw := B.wsucc (show i < 9223372036854775807 by omega)
      generalize hy : l[i] = y at *
      have e1 : wrap64 (a - (y.f1.size : Int)) = a - (y.f1.size : Int) := B.wid (by omega) (by omega)
      by_cases c : a - (y.f1.size : Int) < 0
      · refine ⟨-1, B.Ev.succ ?_⟩
        simp only [laws_szRevS.l0, laws_szRev.f, show ((i : Int) < (l.length : Int)) by omega, show (0 : Int) ≤ (i : Int) by omega, ↓reduceIte, rdlRev hil, hy, e1, c, Option.bind_some, show ((-1 : Int) < 0) by decide]
        exact B.Ev.pure _
      · obtain ⟨r, hr⟩ := ih (i + 1) (a - (y.f1.size : Int)) (by omega) (by omega) (by omega)
        refine ⟨r, B.Ev.succ ?_⟩
        simp only [laws_szRevS.l0, laws_szRev.f, show ((i : Int) < (l.length : Int)) by omega, show (0 : Int) ≤ (i : Int) by omega, ↓reduceIte, rdlRev hil, hy, e1, c, Option.bind_some, hw]
        exact hr
end Go.Proofs.Ytinlbiphjgpmmaa.X
end YtinlbiphjgpmmaaXRepoL
section YtinlbiphjgpmmaaPureFnExactRepoOk
namespace Go.Proofs.Ytinlbiphjgpmmaa.Pure
open Go Go.RowKit Go.Proofs.Ytinlbiphjgpmmaa.V Go.Proofs.Ytinlbiphjgpmmaa.P Go.Proofs.Ytinlbiphjgpmmaa.X
set_option linter.all false
theorem evRepoOk {r : List S65} (hr : repoW r) : B.EvR (fun k => spec_RepoOk.f k r) (fun k => impl_RepoOk.f k r) (fun u v => u = v) := by
  simp only [spec_RepoOk.f, impl_RepoOk.f]
  suffices h : ∀ (d t : Nat), t + d = r.length → B.EvR (fun k => spec_RepoOk.l0 k (t : Int) r r) (fun k => impl_RepoOk.l0 k (r.length : Int) (t : Int) r r) (fun u v => u = v) from h r.length 0 (by omega)
  intro d
  have hl := hr.1
  induction d with
  | zero =>
    intro t ht
    refine B.EvR.succL (B.EvR.succR ?_)
    simp only [spec_RepoOk.l0, impl_RepoOk.l0, show ¬ ((t : Int) < (r.length : Int)) by omega, ↓reduceIte]
    exact B.EvR.pure rfl
  | succ d ih =>
    intro t ht
    have hw := B.wsucc (show t < 9223372036854775807 by omega)
    obtain ⟨u, v, ⟨rfl, _⟩, g1, g2⟩ := evRepoGet hr (t + 1) (t : Int) (by omega) (by omega) (by omega)
    refine B.EvR.succL (B.EvR.succR ?_)
    simp only [spec_RepoOk.l0, impl_RepoOk.l0, show ((t : Int) < (r.length : Int)) by omega, ↓reduceIte, hw]
    refine B.EvR.bindL g1 ?_
    refine B.EvR.bindR g2 ?_
    by_cases c : u.2 = true
    · simp only [c, ↓reduceIte]; exact ih (t + 1) (by omega)
    · simp only [c, ↓reduceIte, Bool.false_eq_true]; exact B.EvR.pure rfl
theorem FnExactRepoOk (l0 : List S100) (h0 : l0.length ≤ maxLen ∧ ∀ x ∈ l0, ((-9223372036854775808 ≤ x.f0 ∧ x.f0 ≤ 9223372036854775807) ∧ x.f1.size ≤ maxLen)) : ∃ k, laws_FnExactRepoOk.f k l0 = some true := by
  refine B.Ev.ex ?_
  simp only [laws_FnExactRepoOk.f]
  obtain ⟨r, hr, hc⟩ := szRepo l0 h0.1 (fun x hx => (h0.2 x hx).2)
  refine B.Ev.bind hr ?_
  by_cases hs : r < 0
  · simp only [hs, ↓reduceIte]; exact B.Ev.pure _
  · simp only [hs, ↓reduceIte]
    have hn : l0.length ≤ 1048576 := by rcases hc with h | h <;> omega
    refine B.Ev.bind (toRepo l0 (by omega)) ?_
    have hw : repoW (l0.map rvL) := ⟨by rw [List.length_map]; omega, fun x hx => by
      obtain ⟨y, hy, rfl⟩ := List.mem_map.1 hx
      exact (h0.2 y hy).2⟩
    obtain ⟨u, g1, g2⟩ := (evRepoOk hw).same
    refine B.Ev.bind g1 ?_
    refine B.Ev.bind g2 ?_
    simp only [↓reduceIte]
    refine B.Ev.bind (eqRepo _ hw.1) ?_
    simp only [↓reduceIte]
    exact B.Ev.pure _
end Go.Proofs.Ytinlbiphjgpmmaa.Pure
end YtinlbiphjgpmmaaPureFnExactRepoOk
