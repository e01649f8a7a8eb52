/- Which nodes a query picks. -/
import Derived.Test.YtekpggmnnfjphaaXAnc
import Derived.Test.YtekpggmnnfjphaaXPicks
import Derived.Test.YtekpggmnnfjphaaG30
import Derived.Test.YtekpggmnnfjphaaG76
namespace Go.Proofs.Ytekpggmnnfjphaa.X
open Go Go.RowKit Go.Proofs.YtekpggmnnfjphaaW.PrintWords Go.Proofs.YtekpggmnnfjphaaW.PrintLast Go.Proofs.YtekpggmnnfjphaaW.PrintMore Go.Proofs.Ytekpggmnnfjphaa.P
/-- A pick's label is that of node i, or any. -/
def labP (l : List S48) (p : S56) (i : Nat) : Bool := decide (p.f1 = -1) || decide (p.f1 = lab l i)
/-- Node i is one for the first n picks. -/
def fitsP (l : List S48) (q : List S56) : Nat → Nat → Bool
  | 0, _ => false
  | n + 1, i => labP l (q.getD n z56) i && (if n = 0 then (q.getD n z56).f0 || decide (i = 0) else if (q.getD n z56).f0 then anyUp l (fitsP l q n) i else decide (0 ≤ parN l i) && fitsP l q n (parN l i).toNat)
/-- The nodes that the first n picks pick, rising. -/
def selN (l : List S48) (q : List S56) (n : Nat) : List Int := ((List.range l.length).filter (fitsP l q n)).map fun i : Nat => (i : Int)
def sel (l : List S48) (q : List S56) : List Int := if okT l && okQ q then selN l q q.length else []
theorem selN_length (l : List S48) (q : List S56) (n : Nat) : (selN l q n).length ≤ l.length := by
  unfold selN; rw [List.length_map]; exact Nat.le_trans (List.length_filter_le _ _) (by simp)
theorem sel_length (l : List S48) (q : List S56) : (sel l q).length ≤ l.length := by
  unfold sel; split
  · exact selN_length _ _ _
  · simp
theorem mem_selN (l : List S48) (q : List S56) (n : Nat) (x : Int) : x ∈ selN l q n ↔ ∃ i : Nat, x = (i : Int) ∧ i < l.length ∧ fitsP l q n i = true := by
  unfold selN
  simp only [List.mem_map, List.mem_filter, List.mem_range]
  constructor
  · rintro ⟨i, ⟨h1, h2⟩, rfl⟩; exact ⟨i, rfl, h1, h2⟩
  · rintro ⟨i, rfl, h1, h2⟩; exact ⟨i, ⟨h1, h2⟩, rfl⟩
theorem pickAt {xs : List S56} {i : Nat} : rd_T56 xs (i : Int) = xs.getD i z56 := by unfold rd_T56; rw [Int.toNat_natCast]

theorem evFits {l : List S48} (h : okT l = true) (q : List S56) (hq : q.length ≤ 4194304) : ∀ n i, n + 1 ≤ q.length → i < l.length → B.Ev (fun k => spec_l27Fits.f k l q ((n + 1 : Nat) : Int) (i : Int)) (fitsP l q (n + 1) i) := by
  have hl := (okT_len h).2
  intro n
  induction n with
  | zero =>
    intro i hn hi
    refine B.Ev.succ ?_
    have e1 : wrap64 (((0 + 1 : Nat) : Int) - 1) = ((0 : Nat) : Int) := by rw [B.wid (by omega) (by omega)]; rfl
    have a2 : ((0 : Nat) : Int) < (q.length : Int) := by omega
    simp only [spec_l27Fits.f, e1, Int.natCast_nonneg, a2, show (i : Int) < (l.length : Int) by omega, ↓reduceIte, pickAt, rdNode]
    have ev : ∀ c : Bool, (c = !labP l (q.getD 0 z56) i) → B.Ev (fun k => spec_l27Fits.j0 k l q ((0 + 1 : Nat) : Int) (i : Int) c (q.getD 0 z56).f0 (q.getD 0 z56).f1) (fitsP l q (0 + 1) i) := fun c hc => by
      refine B.Ev.succ ?_
      simp only [spec_l27Fits.j0, show ((0 + 1 : Nat) : Int) = 1 from rfl, ↓reduceIte]
      have e : fitsP l q (0 + 1) i = (labP l (q.getD 0 z56) i && ((q.getD 0 z56).f0 || decide (i = 0))) := by rw [fitsP, if_pos rfl]
      rw [e]
      cases hL : labP l (q.getD 0 z56) i with
      | false => rw [hL] at hc; subst hc; simp only [Bool.not_false, ↓reduceIte, Bool.false_and]; exact B.Ev.pure _
      | true =>
        rw [hL] at hc; subst hc
        simp only [Bool.not_true, Bool.false_eq_true, ↓reduceIte, Bool.true_and]
        cases (q.getD 0 z56).f0 with
        | true => simp only [↓reduceIte, Bool.true_or]; exact B.Ev.pure _
        | false => simp only [Bool.false_eq_true, ↓reduceIte, Bool.false_or]; exact (B.Ev.pure _).eq (by rw [Bool.eq_iff_iff]; simp)
    refine B.Ev.ite (fun c => ev false (by unfold labP; rw [decide_eq_true c]; rfl)) (fun c => ?_)
    exact ev _ (by unfold labP; rw [decide_eq_false c]; rfl)
  | succ n ih =>
    intro i hn hi
    refine B.Ev.succ ?_
    have e1 : wrap64 (((n + 1 + 1 : Nat) : Int) - 1) = ((n + 1 : Nat) : Int) := by rw [B.wid (by omega) (by omega)]; omega
    have a2 : ((n + 1 : Nat) : Int) < (q.length : Int) := by omega
    simp only [spec_l27Fits.f, e1, Int.natCast_nonneg, a2, show (i : Int) < (l.length : Int) by omega, ↓reduceIte, pickAt, rdNode]
    have up : ∀ (y : Int) i, i < l.length → B.Ev (fun k => spec_l27Fits.l0 k l q ((n + 1 + 1 : Nat) : Int) (parN l i) true y) (anyUp l (fitsP l q (n + 1)) i) := by
      intro y i
      induction i using Nat.strongRecOn with
      | _ i ihi =>
        intro hi
        have hp := parN_spec l i
        rw [anyUp]
        refine B.Ev.succ ?_
        simp only [spec_l27Fits.l0, e1]
        by_cases hc : 0 ≤ parN l i
        · obtain ⟨p, hp'⟩ : ∃ p : Nat, parN l i = (p : Int) := ⟨(parN l i).toNat, by omega⟩
          rw [hp'] at hc hp ⊢
          simp only [ge_iff_le, hc, ↓reduceIte, ↓reduceDIte, Int.toNat_natCast]
          refine B.Ev.bind (ih p (by omega) (by omega)) ?_
          cases fitsP l q (n + 1) p with
          | true => simp only [↓reduceIte, Bool.true_or]; exact B.Ev.pure _
          | false =>
            simp only [Bool.false_eq_true, ↓reduceIte, Bool.false_or]
            refine B.Ev.bind (evPar h (by omega)) ?_
            exact ihi p (by omega) (by omega)
        · simp only [ge_iff_le, hc, ↓reduceIte, ↓reduceDIte]
          exact B.Ev.pure _
    have ev : ∀ c : Bool, (c = !labP l (q.getD (n + 1) z56) i) → B.Ev (fun k => spec_l27Fits.j0 k l q ((n + 1 + 1 : Nat) : Int) (i : Int) c (q.getD (n + 1) z56).f0 (q.getD (n + 1) z56).f1) (fitsP l q (n + 1 + 1) i) := fun c hc => by
      refine B.Ev.succ ?_
      have e : fitsP l q (n + 1 + 1) i = (labP l (q.getD (n + 1) z56) i && (if (q.getD (n + 1) z56).f0 then anyUp l (fitsP l q (n + 1)) i else decide (0 ≤ parN l i) && fitsP l q (n + 1) (parN l i).toNat)) := by rw [fitsP, if_neg (by omega)]
      rw [e]
      simp only [spec_l27Fits.j0, show ¬ ((n + 1 + 1 : Nat) : Int) = 1 by omega, ↓reduceIte]
      cases hL : labP l (q.getD (n + 1) z56) i with
      | false => rw [hL] at hc; subst hc; simp only [Bool.not_false, ↓reduceIte, Bool.false_and]; exact B.Ev.pure _
      | true =>
        rw [hL] at hc; subst hc
        simp only [Bool.not_true, Bool.false_eq_true, ↓reduceIte, Bool.true_and]
        refine B.Ev.bind (evPar h hi) ?_
        cases (q.getD (n + 1) z56).f0 with
        | true => simp only [↓reduceIte]; exact up _ i hi
        | false =>
          simp only [Bool.false_eq_true, ↓reduceIte]
          refine B.Ev.succ ?_
          have hp := parN_spec l i
          simp only [spec_l27Fits.l0, e1]
          by_cases hc : 0 ≤ parN l i
          · obtain ⟨p, hp'⟩ : ∃ p : Nat, parN l i = (p : Int) := ⟨(parN l i).toNat, by omega⟩
            rw [hp'] at hc hp ⊢
            simp only [ge_iff_le, hc, ↓reduceIte, Int.toNat_natCast, decide_true, Bool.true_and]
            refine B.Ev.bind (ih p (by omega) (by omega)) ?_
            cases fitsP l q (n + 1) p with
            | true => simp only [↓reduceIte]; exact B.Ev.pure _
            | false => simp only [Bool.false_eq_true, ↓reduceIte]; exact B.Ev.pure _
          · simp only [ge_iff_le, hc, ↓reduceIte, decide_false, Bool.false_and]
            exact B.Ev.pure _
    refine B.Ev.ite (fun c => ev false (by unfold labP; rw [decide_eq_true c]; rfl)) (fun c => ?_)
    exact ev _ (by unfold labP; rw [decide_eq_false c]; rfl)

theorem evSel (l : List S48) (q : List S56) (hl : l.length ≤ 4194304) (hq : q.length ≤ 4194304) : B.Ev (fun k => spec_Select.f k l q) (sel l q) := by
  simp only [spec_Select.f]
  have out : ∀ x i, (okT l && okQ q) = false → x = [] → B.Ev (fun k => spec_Select.j1 k l q x i false) (sel l q) := fun x i hc hx => by
    refine B.Ev.succ ?_
    simp only [spec_Select.j1, Bool.false_eq_true, ↓reduceIte]
    subst hx
    exact (B.Ev.pure _).eq (by unfold sel; rw [hc]; rfl)
  cases hok : okT l with
  | false =>
    refine B.Ev.succ ?_
    simp only [spec_Select.l0]
    refine B.Ev.ite (fun _ => ?_) (fun _ => out _ _ (by rw [hok]; rfl) rfl)
    refine B.Ev.bind (B.Ev.of _ (fun k hk => specTreeOk l hl k hk)) ?_
    rw [hok]
    simp only [Bool.false_eq_true, ↓reduceIte]
    exact out _ _ (by rw [hok]; rfl) rfl
  | true =>
    cases hqq : okQ q with
    | false =>
      have hl1 := (okT_len hok).1
      refine B.Ev.succ ?_
      simp only [spec_Select.l0, show (0 : Int) < (l.length : Int) by omega, ↓reduceIte]
      refine B.Ev.bind (B.Ev.of _ (fun k hk => specTreeOk l hl k hk)) ?_
      simp only [hok, ↓reduceIte]
      refine B.Ev.bind (B.Ev.of _ (fun k hk => specQueryOk q hq k hk)) ?_
      rw [hqq]
      exact out _ _ (by rw [hqq, Bool.and_false]) rfl
    | true =>
      have e : sel l q = selN l q q.length := by unfold sel; rw [hok, hqq]; rfl
      have hq1 : 1 ≤ q.length := by unfold okQ at hqq; simp at hqq; exact hqq.1.1
      obtain ⟨m, hm⟩ : ∃ m, q.length = m + 1 := ⟨q.length - 1, by omega⟩
      suffices H : ∀ n i, i + n = l.length → B.Ev (fun k => spec_Select.l0 k l q (((List.range i).filter (fitsP l q q.length)).map fun i : Nat => (i : Int)) (i : Int)) (sel l q) from H l.length 0 (by omega)
      intro n
      induction n with
      | zero =>
        intro i hi
        refine B.Ev.succ ?_
        simp only [spec_Select.l0, show ¬ ((i : Int) < (l.length : Int)) by omega, ↓reduceIte]
        refine B.Ev.succ ?_
        simp only [spec_Select.j1, Bool.false_eq_true, ↓reduceIte]
        exact (B.Ev.pure _).eq (by rw [e, show i = l.length by omega]; rfl)
      | succ n ih =>
        intro i hi
        refine B.Ev.succ ?_
        have hr : ((List.range i).filter (fitsP l q q.length)).length ≤ i := Nat.le_trans (List.length_filter_le _ _) (by simp)
        have ih' := ih (i + 1) (by omega)
        rw [List.range_succ, List.filter_append, List.map_append] at ih'
        simp only [spec_Select.l0, show ((i : Int) < (l.length : Int)) by omega, ↓reduceIte]
        refine B.Ev.bind (B.Ev.of _ (fun k hk => specTreeOk l hl k hk)) ?_
        simp only [hok, ↓reduceIte]
        refine B.Ev.bind (B.Ev.of _ (fun k hk => specQueryOk q hq k hk)) ?_
        rw [hqq]
        refine B.Ev.succ ?_
        simp only [spec_Select.j1, ↓reduceIte]
        have ef := evFits hok q hq m i (by omega) (by omega)
        rw [← hm] at ef
        refine B.Ev.bind ef ?_
        simp only [List.length_map, show ((List.range i).filter (fitsP l q q.length)).length < 17592186044416 by omega, ↓reduceIte, B.wsucc (show i < 9223372036854775807 by omega)]
        refine B.Ev.ite (fun c => ?_) (fun c => ?_)
        · simpa [List.filter_cons, c] using ih'
        · simpa [List.filter_cons, c] using ih'
end Go.Proofs.Ytekpggmnnfjphaa.X
