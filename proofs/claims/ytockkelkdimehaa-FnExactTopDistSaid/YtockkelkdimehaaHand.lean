/- Steps for calls of function values. -/
import Derived.Test.YtockkelkdimehaaWPMore
import Derived.Lib.SliceRun
namespace Go.Proofs.Ytockkelkdimehaa.P
open Go Go.RowKit Go.Proofs.YtockkelkdimehaaW.PrintWords Go.Proofs.YtockkelkdimehaaW.PrintLast Go.Proofs.YtockkelkdimehaaW.PrintMore
section
variable {P : Program} {ops : Array Oper} {rest : List Oper} {o : Oper} {a : Act} {Q : Exit → Act → World → Prop} {W : World}
theorem gate_value_ {x : Operand} {as : Array Operand} {ts : Array TypeId} (_ho : o.op = .call { callee := .value x, args := as, argTypes := ts }) (h : wpList P ops Q (o :: rest) a W) : wpList P ops Q (o :: rest) a W := h
/-- A call of a function value without captured variables. -/
theorem goesV_ {oi : Oper} {w : World} (N : Option Tmp) (hd : oi.dst = N) (hg : oi.guard = none) {x : Operand} {f : FuncId} {fn : Func} {as : Array Operand} {ts : Array TypeId} (hx : a.eval x = .func (.func f) #[] #[]) (hf : P.funcs[f]? = some fn) (hname : (fn.name == "runtime.NumGoroutine") = false) (hb : fn.body.isSome = true) (args : Array Value)
    (hop : oi.op = .call { callee := .value x, args := as, argTypes := ts }) (hargs : as.map a.eval = args)
    (h : Calls P f args w fun e w' => ∃ v, e = .returned v ∧ wpList P ops Q rest (a.put N v) w') : wpList P ops Q (oi :: rest) a w := by
  refine wpList_plain hg fun K hK => ?_
  have he := enters_ hf hname hb args w
  have hrun : (execOp a.eval oi).run P w = .ok (.enter f args) w := by
    unfold execOp
    have hx' : Act.eval a x = .func (.func f) #[] #[] := hx
    simp [hop, resolve, Deferred.ofValue, invoke, hx', hargs, he]
  unfold Oper.wp
  rw [hrun, Oper.upon_enter]
  refine h.mono fun e w'' hh => ?_
  obtain ⟨v, rfl, hk⟩ := hh
  subst hd
  exact hK _ _ hk
/-- A call of a function value with captured variables: they come behind the arguments. -/
theorem goesC_ {oi : Oper} {w : World} (N : Option Tmp) (hd : oi.dst = N) (hg : oi.guard = none) {x : Operand} {f : FuncId} {fn : Func} {as : Array Operand} {lv : Array Value} {ts : Array TypeId} (hx : a.eval x = .func (.func f) #[] lv) (hf : P.funcs[f]? = some fn) (hname : (fn.name == "runtime.NumGoroutine") = false) (hb : fn.body.isSome = true) (args : Array Value)
    (hop : oi.op = .call { callee := .value x, args := as, argTypes := ts }) (hargs : as.map a.eval ++ lv = args)
    (h : Calls P f args w fun e w' => ∃ v, e = .returned v ∧ wpList P ops Q rest (a.put N v) w') : wpList P ops Q (oi :: rest) a w := by
  refine wpList_plain hg fun K hK => ?_
  have he := enters_ hf hname hb args w
  have hrun : (execOp a.eval oi).run P w = .ok (.enter f args) w := by
    unfold execOp
    have hx' : Act.eval a x = .func (.func f) #[] lv := hx
    simp [hop, resolve, Deferred.ofValue, invoke, hx', hargs, he]
  unfold Oper.wp
  rw [hrun, Oper.upon_enter]
  refine h.mono fun e w'' hh => ?_
  obtain ⟨v, rfl, hk⟩ := hh
  subst hd
  exact hK _ _ hk
end
/-! What holds at a world holds at a later one: found by instances, so that the printed proofs are short. -/
def Ltr (w w1 : World) : Prop := Below w.heap.size w w1
instance ltr_refl (w : World) : Nonempty (Ltr w w) := ⟨Below.refl _ _⟩
instance ltr_alloc (w w1 : World) (o : Obj) [h : Nonempty (Ltr w w1)] : Nonempty (Ltr w (w1.alloc o)) := h.elim fun h => ⟨below_alloc h o⟩
instance ltr_drewN (w w1 : World) (m : Nat) [h : Nonempty (Ltr w w1)] : Nonempty (Ltr w (w1.drewN m)) := h.elim fun h => ⟨pw_below_drewN h m⟩
instance ltr_drew (w w1 : World) [h : Nonempty (Ltr w w1)] : Nonempty (Ltr w w1.drew) := h.elim fun h => ⟨below_drew h⟩
def Bst (w0 w w1 : World) : Prop := Below w0.heap.size w0 w → Below w0.heap.size w0 w1
instance bst_refl (w0 w : World) : Nonempty (Bst w0 w w) := ⟨fun h => h⟩
instance bst_alloc (w0 w w1 : World) (o : Obj) [h : Nonempty (Bst w0 w w1)] : Nonempty (Bst w0 w (w1.alloc o)) := h.elim fun h => ⟨fun k => below_alloc (h k) o⟩
instance bst_drewN (w0 w w1 : World) (m : Nat) [h : Nonempty (Bst w0 w w1)] : Nonempty (Bst w0 w (w1.drewN m)) := h.elim fun h => ⟨fun k => pw_below_drewN (h k) m⟩
instance bst_drew (w0 w w1 : World) [h : Nonempty (Bst w0 w w1)] : Nonempty (Bst w0 w w1.drew) := h.elim fun h => ⟨fun k => below_drew (h k)⟩
instance bst_set (w0 w w1 : World) (g j : Nat) (v : Value) [h : Nonempty (Bst w0 w w1)] [hg : Nonempty (w0.heap.size ≤ g)] : Nonempty (Bst w0 w (w1.setCell ⟨g, j, none⟩ v)) := h.elim fun h => hg.elim fun hg => ⟨fun k => below_set (h k) hg⟩
section
variable {α : Type} {d : Kd α} {e : Nat} {w w1 w2 w0 : World} {base : Nat} {ok : Nat → Prop} {v : Value} {xs : List α}
theorem laR (h : d.R e w base ok v xs) [i : Nonempty (Ltr w w1)] : d.R e w1 base ok v xs := i.elim fun i => Kd.R_below h i
theorem laQ (h : d.Q e w base ok v xs) [i : Nonempty (Ltr w w1)] : d.Q e w1 base ok v xs := i.elim fun i => Kd.Q_below h i
theorem laS (h : Kd.S d e w base ok v xs) [i : Nonempty (Ltr w w1)] : Kd.S d e w1 base ok v xs := i.elim fun i => Kd.S_below h i
theorem laC {A : Option Addr} {n : Nat} (h : d.C w A n xs) [i : Nonempty (Ltr w w1)] : d.C w1 A n xs := i.elim fun i => Kd.C_below h i
theorem laK {g : Nat} {o : Obj} (h : w.heap[g]? = some o) [i : Nonempty (Ltr w w1)] : w1.heap[g]? = some o := i.elim fun i => blk_below h i
theorem laRb (h : d.R e w base ok v xs) (hb : Below w1.heap.size w1 w2) [i : Nonempty (Ltr w w1)] : d.R e w2 base ok v xs := Kd.R_below (laR h) hb
theorem laQb (h : d.Q e w base ok v xs) (hb : Below w1.heap.size w1 w2) [i : Nonempty (Ltr w w1)] : d.Q e w2 base ok v xs := Kd.Q_below (laQ h) hb
theorem laSb (h : Kd.S d e w base ok v xs) (hb : Below w1.heap.size w1 w2) [i : Nonempty (Ltr w w1)] : Kd.S d e w2 base ok v xs := Kd.S_below (laS h) hb
theorem laKb {g : Nat} {o : Obj} (h : w.heap[g]? = some o) (hb : Below w1.heap.size w1 w2) [i : Nonempty (Ltr w w1)] : w2.heap[g]? = some o := blk_below (laK h) hb
theorem laB (h : Below w0.heap.size w0 w) [i : Nonempty (Bst w0 w w1)] : Below w0.heap.size w0 w1 := i.elim fun i => i h
end
end Go.Proofs.Ytockkelkdimehaa.P
