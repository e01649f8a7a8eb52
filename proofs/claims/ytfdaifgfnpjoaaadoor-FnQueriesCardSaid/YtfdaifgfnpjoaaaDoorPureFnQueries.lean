/- The law FnQueries, as a statement over numbers and lists: for any code the law's function answers true. -/
import Derived.Test.YtfdaifgfnpjoaaaDoorXQBack
import Derived.Test.YtfdaifgfnpjoaaaDoorXSameQ
import Derived.Test.YtfdaifgfnpjoaaaDoorXDrawQuery
import Derived.Test.YtfdaifgfnpjoaaaDoorXDrawText
import Derived.Test.YtfdaifgfnpjoaaaDoorG10
import Derived.Test.YtfdaifgfnpjoaaaDoorG14
import Derived.Test.YtfdaifgfnpjoaaaDoorStFnQueries
namespace Go.Proofs.YtfdaifgfnpjoaaaDoor.Pure
open Go Go.RowKit Go.Proofs.YtfdaifgfnpjoaaaDoorW.PrintWords Go.Proofs.YtfdaifgfnpjoaaaDoorW.PrintLast Go.Proofs.YtfdaifgfnpjoaaaDoorW.PrintMore Go.Proofs.YtfdaifgfnpjoaaaDoor.P Go.Proofs.YtfdaifgfnpjoaaaDoor.X
theorem drQT (l : List Int) (hl : l.length ≤ 4194304) : B.EvP (fun k => spec_DrawQueryText.f k l) (fun q => q.length ≤ 1001) := by
  simp only [spec_DrawQueryText.f]
  refine B.EvP.bind (drNew l hl) ?_
  rintro ⟨b, i, h⟩ ⟨e1, e2⟩
  obtain rfl : l = b := e1.symm
  obtain rfl : 0 = i := e2.symm
  refine B.EvP.bind (drQuery hl h (by omega) (by omega)) ?_
  rintro ⟨q, i, h⟩ ⟨hq, _, _⟩
  exact B.EvP.pure hq
theorem queryText_small (q : List S40) : (queryText q).size ≤ 1000 := by
  by_cases h : okQ q = true
  · have hl := (okQ_labs h).1
    unfold queryText
    rw [if_pos h]
    have key : ∀ (q : List S40) (s : ByteArray), (q.foldl stepText s).size ≤ s.size + 5 * q.length := by
      intro q
      induction q with
      | nil => intro s; simp
      | cons p q ih =>
        intro s
        have h1 := ih (stepText s p)
        have h2 := stepText_size s p
        rw [List.foldl_cons, List.length_cons]
        omega
    have := key q ⟨#[]⟩
    have e : (⟨#[]⟩ : ByteArray).size = 0 := rfl
    omega
  · unfold queryText
    rw [if_neg h]
    exact Nat.zero_le _
theorem drRQ (l : List Int) (hl : l.length ≤ 4194304) : B.EvP (fun k => spec_DrawReadQuery.f k l) (fun s => s.size ≤ 1048576) := by
  simp only [spec_DrawReadQuery.f]
  refine B.EvP.bind (drNew l hl) ?_
  rintro ⟨b, i, h⟩ ⟨e1, e2⟩
  obtain rfl : l = b := e1.symm
  obtain rfl : 0 = i := e2.symm
  refine B.EvP.bind (drQuery hl h (by omega) (by omega)) ?_
  rintro ⟨q, i, h⟩ ⟨hq, h0, h1⟩
  have hs := queryText_small q
  refine B.EvP.bind (P := fun s => s = queryText q) (B.EvP.of (B.Ev.of _ (fun k hk => specQueryText q (by simp only at hq; omega) k hk)) rfl) ?_
  rintro _ rfl
  refine B.EvP.bind (drOnce hl h 3 h0 h1) ?_
  rintro ⟨v, i, h⟩ ⟨_, h0, h1⟩
  refine B.EvP.ite (fun _ => ?_) (fun _ => B.EvP.pure (by omega))
  refine B.EvP.bind (drSpoil hl h _ (by omega) h0 h1) ?_
  rintro ⟨x, i, h⟩ ⟨hx, h0, h1⟩
  refine B.EvP.bind (drPickT hl h _ (by simp) h0 h1) ?_
  rintro ⟨y, i, h⟩ ⟨hy, _, _⟩
  refine B.EvP.pure ?_
  simp only at hx hy ⊢
  simp only [List.mem_cons, List.not_mem_nil, or_false] at hy
  rcases hy with rfl | rfl | rfl | rfl | rfl | rfl | rfl | rfl | rfl | rfl | rfl
  all_goals first | omega | decide
theorem drSQ (l : List Int) (hl : l.length ≤ 4194304) : B.EvP (fun k => spec_DrawSameQuery.f k l) (fun t => t.1.length ≤ 1001) := by
  simp only [spec_DrawSameQuery.f]
  refine B.EvP.bind (drNew l hl) ?_
  rintro ⟨b, i, h⟩ ⟨e1, e2⟩
  obtain rfl : l = b := e1.symm
  obtain rfl : 0 = i := e2.symm
  refine B.EvP.bind (drQuery hl h (by omega) (by omega)) ?_
  rintro ⟨q, i, h⟩ ⟨hq, h0, h1⟩
  simp only at hq h0 h1
  simp only [Option.bind_some, List.nil_append, List.length_nil, Nat.zero_add, show q.length < 8796093022208 by omega, ↓reduceIte]
  refine B.EvP.ite (fun c => ?_) (fun _ => B.EvP.pure hq)
  refine B.EvP.bind (drOnce hl h 2 h0 h1) ?_
  rintro ⟨v, i, h⟩ ⟨_, h0, h1⟩
  refine B.EvP.ite (fun _ => ?_) (fun _ => B.EvP.pure hq)
  refine B.EvP.bind (drBelow hl h (q.length : Int) h0 h1) ?_
  rintro ⟨v, i, h⟩ ⟨p, h0, h1⟩
  have p1 := p.1
  have p2 := p.2.1 (by omega)
  simp only at p1 p2 ⊢
  rw [if_pos p1, if_pos p2]
  exact B.EvP.pure hq
theorem FnQueries : fnQueries.Pure := by
  intro l hl
  apply B.Ev.ex
  simp only [laws_FnQueries.f, lawBig, Option.bind_some, decide_eq_true_eq]
  refine B.Ev.ite (fun _ => B.Ev.pure _) (fun c => ?_)
  have hl : l.length ≤ 4194304 := by omega
  obtain ⟨q, hq, e1⟩ := drQT l hl
  obtain ⟨s, hs, e2⟩ := drRQ l hl
  obtain ⟨t, ht, e3⟩ := drSQ l hl
  have hqs := queryText_small q
  refine B.Ev.bind e1 (B.Ev.bind (B.Ev.of _ (fun k hk => implQueryText q (by omega) k hk)) (B.Ev.bind (evRead' _ (by omega)) (B.Ev.bind e2 (B.Ev.bind (evRead' s hs) (B.Ev.bind (evRead s hs) (B.Ev.bind e3 (B.Ev.bind (B.Ev.of _ (fun k hk => specQueryOk q (by omega) k hk)) ?_)))))))
  have tail : B.Ev (fun k => if (readQ s).2 = true then ((impl_QueryText.f k (readQ s).1).bind fun u => (if u.toList = s.toList then ((impl_SameQuery.f k t.1 t.2).bind fun x => ((spec_SameQuery.f k t.1 t.2).bind fun y => (some (x == y)))) else (some false))) else ((impl_SameQuery.f k t.1 t.2).bind fun x => ((spec_SameQuery.f k t.1 t.2).bind fun y => (some (x == y))))) true := by
    have fin_ : B.Ev (fun k => (impl_SameQuery.f k t.1 t.2).bind fun x => ((spec_SameQuery.f k t.1 t.2).bind fun y => (some (x == y)))) true :=
      B.Ev.bind (evSameQ' _ _ (by omega)) (B.Ev.bind (evSameQ _ _ (by omega)) ((B.Ev.pure _).eq (by simp)))
    refine B.Ev.ite (fun c => ?_) (fun _ => fin_)
    have hlen := readQ_len s
    refine B.Ev.bind (B.Ev.of _ (fun k hk => implQueryText _ (by omega) k hk)) ?_
    rw [readQ_text c]
    simp only [↓reduceIte]
    exact fin_
  cases ho : okQ q with
  | true =>
    simp only [readBack ho, beq_self_eq_true, ↓reduceIte]
    refine B.Ev.bind ((B.Ev.of _ (fun k hk => implQueryOk q (by omega) k hk)).eq ho) ?_
    simp only [beq_self_eq_true, ↓reduceIte]
    refine B.Ev.bind ((evSameQ q q (by omega)).eq (sameQs_self q)) ?_
    simp only [↓reduceIte]
    exact tail
  | false =>
    simp only [readNone ho, beq_self_eq_true, ↓reduceIte]
    refine B.Ev.bind ((B.Ev.of _ (fun k hk => implQueryOk q (by omega) k hk)).eq ho) ?_
    simp only [beq_self_eq_true, Bool.false_eq_true, ↓reduceIte]
    exact tail
end Go.Proofs.YtfdaifgfnpjoaaaDoor.Pure
