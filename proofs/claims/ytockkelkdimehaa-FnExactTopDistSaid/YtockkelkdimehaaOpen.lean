/- A value that a law is handed, read as data, is one of the printed kinds (whole numbers, bools, strings, slices and structs of these). No condition. -/
import Derived.Test.YtockkelkdimehaaWPMore
import Derived.Deep.Slices
import Derived.ChangeArms
import Derived.WideShapes
namespace Go.Proofs.Ytockkelkdimehaa.Opn
open Go Go.RowKit Go.Proofs.YtockkelkdimehaaW.PrintWords

def Opens (P : Program) (t : TypeId) {α : Type} (d : Kd α) (Q : α → Prop) : Prop :=
  ∀ {H : Type} (enc : TypeId × Value → H) (W : World) (fuel : Nat) (cs : List Value) (x : DataW H × List MemPlace),
    DataW.trod enc P W 0 (fun _ => true) true fuel t cs = some x → ∃ a, d.K W a cs ∧ Q a

theorem opens_int {P : Program} {t : TypeId} {k : IntKind} (hu : P.underlying t = some (.int k)) : Opens P t (Kd.int k) (fun n => (Lit.int k n).wf = true) := by
  intro H enc W fuel cs x h
  obtain ⟨n, rfl, _, hw⟩ := DataW.trod_int hu h
  exact ⟨n, rfl, hw⟩

/-- A whole number of 64 bits. -/
def I64 (n : Int) : Prop := -9223372036854775808 ≤ n ∧ n ≤ 9223372036854775807

theorem opens_i64 {P : Program} {t : TypeId} (hu : P.underlying t = some (.int .i64)) : Opens P t (Kd.int .i64) I64 := by
  intro H enc W fuel cs x h
  obtain ⟨n, hn, hw⟩ := opens_int hu enc W fuel cs x h
  refine ⟨n, hn, ?_⟩
  simp [Lit.wf, IntKind.min, IntKind.max, IntKind.bits, IntKind.signed] at hw
  unfold I64
  omega

theorem opens_bool {P : Program} {t : TypeId} (hu : P.underlying t = some .bool) : Opens P t Kd.bool (fun _ => True) := by
  intro H enc W fuel cs x h
  obtain ⟨n, rfl, _⟩ := DataW.trod_bool hu h
  exact ⟨n, rfl, trivial⟩

theorem opens_string {P : Program} {t : TypeId} (hu : P.underlying t = some .string) : Opens P t Kd.string (fun s => s.size ≤ maxLen) := by
  intro H enc W fuel cs x h
  obtain ⟨s, rfl, _, hs⟩ := DataW.trod_string hu h
  exact ⟨s, rfl, hs⟩

theorem forall_list {α : Type} {n : Nat} {p : Nat → α → Prop} (h : ∀ i, i < n → ∃ x, p i x) : ∃ l : List α, l.length = n ∧ ∀ i x, l[i]? = some x → p i x := by
  induction n with
  | zero => exact ⟨[], rfl, fun i x hx => by simp at hx⟩
  | succ n ih =>
    obtain ⟨l, hl, hp⟩ := ih (fun i hi => h i (Nat.lt_succ_of_lt hi))
    obtain ⟨x, hx⟩ := h n (Nat.lt_succ_self n)
    refine ⟨l ++ [x], by simp [hl], fun i y hy => ?_⟩
    rcases Nat.lt_or_ge i n with hi | hi
    · rw [List.getElem?_append_left (by omega)] at hy
      exact hp i y hy
    · rw [List.getElem?_append_right (by omega)] at hy
      have hi' : i = n := by
        rcases Nat.lt_or_ge n i with h1 | h1
        · rw [List.getElem?_eq_none (by simp; omega)] at hy
          cases hy
        · omega
      subst hi'
      rw [hl, Nat.sub_self] at hy
      simp at hy
      subst hy
      exact hx

theorem opens_slice {P : Program} {t e : TypeId} {α : Type} {d : Kd α} {Q : α → Prop} (hu : P.underlying t = some (.slice e)) (hc : P.cellsOf e = d.sz) (he : Opens P e d Q) :
    Opens P t (Kd.slice e d) (fun xs => xs.length ≤ maxLen ∧ ∀ x ∈ xs, Q x) := by
  intro H enc W fuel cs x h
  rcases Go.Deep.open_slice hu h with ⟨rfl, _⟩ | ⟨a, len, cap, m, n, D, Pl, rfl, _, hl, hm, hmm, _, hx⟩
  · refine ⟨[], ⟨none, 0, rfl, Nat.le_refl _, rfl, by simp, fun h => absurd h (by simp)⟩, Nat.zero_le _, fun x hx => by cases hx⟩
  · have hmm' : m = cap := by simpa using hmm
    subst hmm'
    obtain ⟨l, hll, hp⟩ := forall_list (n := len) (p := fun i (x : α) => Q x ∧ ∃ c, c.length = d.sz ∧ d.K W x c ∧ ∀ j u, c[j]? = some u → W.cell? (a.add (i * d.sz + j)) = some u) (fun i hi => by
      obtain ⟨cs', h1, h2⟩ := hx i (by omega)
      obtain ⟨y, hK, hQ⟩ := he enc W n cs' _ h2
      obtain ⟨_, hlen, hcell⟩ := World.cells?_some h1
      rw [hc] at hlen hcell h1
      refine ⟨y, hQ, cs', hlen, hK, fun j u hu => ?_⟩
      have hj : j < d.sz := by
        rcases Nat.lt_or_ge j cs'.length with h3 | h3
        · omega
        · rw [List.getElem?_eq_none h3] at hu
          cases hu
      rw [← Go.Deep.add_add, hcell j hj]
      exact hu)
    have hml : len ≤ maxLen := Nat.le_trans hl hm
    subst hll
    refine ⟨l, ⟨some a, m, rfl, hl, rfl, by unfold maxLen at hml; omega, fun _ => ⟨a, rfl, fun j p hj => ?_⟩⟩, hml, fun x hx => ?_⟩
    · obtain ⟨_, c, h1, h2, h3⟩ := hp j p hj
      exact ⟨c, h1, h2, h3⟩
    · obtain ⟨i, hi⟩ := List.getElem?_of_mem hx
      exact (hp i x hi).1

/-- The fields of a struct from cell o on. -/
def OpensFs (P : Program) (fs : List Field) (o : Nat) {α : Type} (d : Kd α) (Q : α → Prop) : Prop :=
  ∀ {H : Type} (enc : TypeId × Value → H) (W : World) (fuel : Nat) (cs : List Value), cs.length = d.sz →
    (∀ (i : Nat) (f : Field), fs[i]? = some f → ∃ y, DataW.trod enc P W 0 (fun _ => true) true fuel f.type ((cs.drop (f.offset - o)).take (P.cellsOf f.type)) = some y) → ∃ a, d.K W a cs ∧ Q a

theorem opensFs_one {P : Program} {f : Field} {o : Nat} {α : Type} {d : Kd α} {Q : α → Prop} (ho : f.offset = o) (hc : P.cellsOf f.type = d.sz) (h : Opens P f.type d Q) : OpensFs P [f] o d Q := by
  intro H enc W fuel cs hl hf
  obtain ⟨y, hy⟩ := hf 0 f rfl
  rw [ho, Nat.sub_self, List.drop_zero, hc, List.take_of_length_le (by omega)] at hy
  exact h enc W fuel cs y hy

theorem opensFs_cons {P : Program} {f : Field} {fs : List Field} {o : Nat} {α β : Type} {d : Kd α} {Q : α → Prop} {d' : Kd β} {Q' : β → Prop} (ho : f.offset = o) (hc : P.cellsOf f.type = d.sz) (h : Opens P f.type d Q)
    (hs : fs.all (fun g => decide (o + d.sz ≤ g.offset)) = true) (h' : OpensFs P fs (o + d.sz) d' Q') : OpensFs P (f :: fs) o (Kd.pair d d') (fun x => Q x.1 ∧ Q' x.2) := by
  intro H enc W fuel cs hl hf
  have hl' : cs.length = d.sz + d'.sz := hl
  obtain ⟨y, hy⟩ := hf 0 f rfl
  rw [ho, Nat.sub_self, List.drop_zero, hc] at hy
  obtain ⟨a, ha, hq⟩ := h enc W fuel _ y hy
  obtain ⟨b, hb, hq'⟩ := h' enc W fuel (cs.drop d.sz) (by rw [List.length_drop]; omega) (fun i g hg => by
    obtain ⟨z, hz⟩ := hf (i + 1) g hg
    have hle : o + d.sz ≤ g.offset := of_decide_eq_true (List.all_eq_true.1 hs g (List.mem_of_getElem? hg))
    refine ⟨z, ?_⟩
    rw [List.drop_drop, show d.sz + (g.offset - (o + d.sz)) = g.offset - o by omega]
    exact hz)
  exact ⟨(a, b), ⟨_, _, (List.take_append_drop d.sz cs).symm, ha, hb⟩, hq, hq'⟩

theorem opens_struct {P : Program} {t : TypeId} {fs : Array Field} {α β : Type} {d : Kd α} {Q : α → Prop} {f : β → α} (g : α → β) (hg : ∀ x, f (g x) = x) (hu : P.underlying t = some (.struct fs)) (hc : P.cellsOf t = d.sz)
    (h : OpensFs P fs.toList 0 d Q) : Opens P t (Kd.iso d f) (fun x => Q (f x)) := by
  intro H enc W fuel cs x hx
  obtain ⟨xs, n, _, _, hlen, hsz, hfs⟩ := DataW.trod_struct hu hx
  obtain ⟨a, ha, hq⟩ := h enc W n cs (by rw [hlen, hc]) (fun i fd hi => by
    have hi' : fs[i]? = some fd := by simpa using hi
    have hlt : i < xs.length := by
      rw [hsz]
      rcases Nat.lt_or_ge i fs.size with h3 | h3
      · exact h3
      · rw [Array.getElem?_eq_none h3] at hi'
        cases hi'
    have := hfs i fd hi'
    rw [List.getElem?_eq_getElem hlt] at this
    exact ⟨_, by rw [Nat.sub_zero]; exact this⟩)
  refine ⟨g a, ?_, ?_⟩
  · show d.K W (f (g a)) cs
    rw [hg]
    exact ha
  · show Q (f (g a))
    rw [hg]
    exact hq

/-- An argument that is a slice. -/
theorem arg_slice {P : Program} {t e : TypeId} {α : Type} {d : Kd α} {Q : List α → Prop} (h : Opens P t (Kd.slice e d) Q) {H : Type} {enc : TypeId × Value → H} {W : World} {a : Option Addr} {len cap : Nat} {x : DataW H} {ps : List MemPlace}
    (hf : DataW.Trod enc P W 0 (fun _ => true) true t (.slice a len cap) x ps) : ∃ l : List α, l.length = len ∧ l.length ≤ cap ∧ Kd.C d W a l.length l ∧ Q l := by
  obtain ⟨fuel, hf⟩ := hf
  obtain ⟨l, ⟨A, c, hcs, hlc, hC⟩, hq⟩ := h enc W fuel _ _ hf
  simp [Value.cells] at hcs
  obtain ⟨rfl, rfl, rfl⟩ := hcs
  exact ⟨l, rfl, hlc, hC, hq⟩

/-- An argument that is a struct. -/
theorem arg_struct {P : Program} {t : TypeId} {fs : Array Field} {α : Type} {d : Kd α} {Q : α → Prop} (hu : P.underlying t = some (.struct fs)) (hc : P.cellsOf t = d.sz) (h : OpensFs P fs.toList 0 d Q) {H : Type} {enc : TypeId × Value → H} {W : World} {r : Reach} {b0 : Nat} {v : Value}
    {x : DataW H} {ps : List MemPlace} (hv : Value.okWide P W r b0 t v) (hf : DataW.Trod enc P W 0 (fun _ => true) true t v x ps) : ∃ (a : α) (cs : List Value), v = .agg cs.toArray ∧ d.K W a cs ∧ Q a := by
  obtain ⟨cs, rfl, _⟩ := Go.WideShapes.okWide_struct hu hv
  obtain ⟨fuel, hf⟩ := hf
  obtain ⟨xs, n, _, _, hlen, hsz, hfs⟩ := DataW.trod_struct hu hf
  obtain ⟨a, ha, hq⟩ := h enc W n _ (by rw [hlen, hc]) (fun i fd hi => by
    have hi' : fs[i]? = some fd := by simpa using hi
    have hlt : i < xs.length := by
      rw [hsz]
      rcases Nat.lt_or_ge i fs.size with h3 | h3
      · exact h3
      · rw [Array.getElem?_eq_none h3] at hi'
        cases hi'
    have := hfs i fd hi'
    rw [List.getElem?_eq_getElem hlt] at this
    exact ⟨_, by rw [Nat.sub_zero]; exact this⟩)
  refine ⟨a, cs.toList, by simp, ?_, hq⟩
  simpa [Value.cells] using ha
end Go.Proofs.Ytockkelkdimehaa.Opn
