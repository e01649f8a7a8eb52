/- The law FnExactReadQuery, as a statement over numbers and lists: for any text the law's function answers true. -/
import Derived.Test.YtfdaifgfnpjoaaaDoorXRead
import Derived.Test.YtfdaifgfnpjoaaaDoorXPickEq
import Derived.Test.YtfdaifgfnpjoaaaDoorXPickHeld
import Derived.Test.YtfdaifgfnpjoaaaDoorStFnExactReadQuery
namespace Go.Proofs.YtfdaifgfnpjoaaaDoor.Pure
open Go Go.RowKit Go.Proofs.YtfdaifgfnpjoaaaDoorW.PrintWords Go.Proofs.YtfdaifgfnpjoaaaDoorW.PrintLast Go.Proofs.YtfdaifgfnpjoaaaDoorW.PrintMore Go.Proofs.YtfdaifgfnpjoaaaDoor.P Go.Proofs.YtfdaifgfnpjoaaaDoor.X
theorem FnExactReadQuery : fnExactReadQuery.Pure := by
  intro s _
  apply B.Ev.ex
  simp only [laws_FnExactReadQuery.f]
  refine B.Ev.ite (fun _ => B.Ev.pure _) (fun hs => ?_)
  have hs : s.size ≤ 1048576 := by omega
  have es := evRead s hs
  have ei := evRead' s hs
  have hl := readQ_len s
  generalize readQ s = x at es ei hl
  have q : B.Ev (fun k => laws_eqPickS.f k x.1 x.1) true := B.Ev.of _ (fun k hk => eqPickS x.1 (by omega) k hk)
  have hh : B.Ev (fun k => laws_heldPickS.f k (prun 1 x.1.length) 1) (1 + 2 * (x.1.length : Int)) := B.Ev.of _ (fun k hk => heldPickS 1 x.1.length (by omega) (by omega) (by omega) k hk)
  refine B.Ev.bind es (B.Ev.bind ei (B.Ev.bind q ?_))
  simp only [↓reduceIte, bne_self_eq_false]
  refine B.Ev.succ ?_
  simp only [laws_FnExactReadQuery.j0, Bool.false_eq_true, ↓reduceIte]
  refine B.Ev.bind (B.Ev.of _ (fun k hk => markPickS' x.1 1 (by omega) (by omega) (by omega) k hk)) (B.Ev.bind hh ?_)
  simp only [show ¬ (1 + 2 * (x.1.length : Int) < 0) by omega, ↓reduceIte]
  refine B.Ev.bind ei (B.Ev.bind q ?_)
  simp only [↓reduceIte, bne_self_eq_false]
  refine B.Ev.succ ?_
  simp only [laws_FnExactReadQuery.j1, Bool.false_eq_true, ↓reduceIte]
  refine B.Ev.bind hh ?_
  simp only [show ¬ (1 + 2 * (x.1.length : Int) < 0) by omega, ↓reduceIte]
  exact B.Ev.pure _
end Go.Proofs.YtfdaifgfnpjoaaaDoor.Pure
