/- Contracts and plain lemmas of our own, merged. -/
import Derived.Test.YtgebcifkbldfoaaDoorZNb5
import Derived.StillTail
import Derived.Deep.Quiet
import Derived.BigQuiet
/- Regions that draw their order, in the class of all worlds in which what stood below a bound stands: one walk of the lexical order serves every order; also with a tail in one forced order behind it. (After the kit's texts on quiet regions and on still tails.) -/
namespace Go.Proofs.YtgebcifkbldfoaaDoor
open Go Go.RowKit

/-- the worlds in which what stood in w stands. -/
def BelT (w : World) : Type := { w' : World // Below w.heap.size w w' }
instance (w : World) : Nonempty (BelT w) := ⟨⟨w, Below.refl _ _⟩⟩
def BelT.at_ {w : World} (x : BelT w) : World := x.1
theorem BelT.cell {w : World} (x : BelT w) {p : Addr} {v : Value} (h : w.cell? p = some v) : x.at_.cell? p = some v := (x.2.cell (block_lt_of_cell h)).trans h
theorem BelT.bel {w : World} (x : BelT w) : Below w.heap.size w x.at_ := x.2
theorem BelT.size {w : World} (x : BelT w) : w.heap.size ≤ x.at_.heap.size := x.2.size
theorem bel_call {P : Program} {f : FuncId} {args : Array Value} {w : World} {x : BelT w} {v : Value} (h : Calls P f args x.at_ fun e w' => e = .returned v ∧ Below x.at_.heap.size x.at_ w') :
    Calls P f args x.at_ fun e w'' => e = .returned v ∧ ∃ y : BelT w, w'' = y.at_ :=
  h.mono fun _ w'' ⟨he, hb⟩ => ⟨he, ⟨w'', x.2.trans (hb.mono x.size)⟩, rfl⟩
theorem wp_region_bel {P : Program} {id : Nat} {Q : Exit → Act → World → Prop} {a : Act} {w : World} {l : List Oper} (hm : P.follows .mixedOrders = true) (hB : Region.lexB .any l.toArray = true)
    (h : wpQuiet P l.toArray (fun w' => ∃ x : BelT w, w' = x.at_) (fun a' => ∀ w', (∃ x : BelT w, w' = x.at_) → Q .normal a' w') l a) : (Code.region id l.toArray true).wp P Q a w :=
  wp_region_quiet (C := fun w' => ∃ x : BelT w, w' = x.at_) hm hB ⟨⟨_, (Below.refl _ _).drew⟩, rfl⟩ (by simpa using h)

section
variable {P : Program} {ops : Array Oper} {md : Region.Mode} {C : World → Prop}
end
end Go.Proofs.YtgebcifkbldfoaaDoor

/- A cell that is loaded in a region that draws its order. -/
namespace Go.Proofs.YtgebcifkbldfoaaDoor
open Go.RowKit

theorem quiet_loadC {P : Program} {w : World} {o : Oper} {a a' : Act} {K : Act → Prop} (ty : TypeId) (x : Operand) (ho : o.op = .load ty x) {g i : Nat} {v : Value} (hx : a.eval x = .pointer (some ⟨g, i, none⟩)) (hc : w.cell? ⟨g, i, none⟩ = some v)
    {d : TypeDesc} (hu : P.underlying ty = some d) (hd : d.isRow = false) (ha : a.put o.dst v = a') (hk : K a') : o.quiet P a (fun w' => ∃ y : BelT w, w' = y.at_) K := by
  subst ha
  refine ⟨_, ?_, hk⟩
  rintro _ ⟨y, rfl⟩
  unfold Oper.quietAt execOp
  have hc' := y.cell hc
  have ha : (isAgg ty).run P y.at_ = .ok false y.at_ := by cases d <;> first | (cases hd; done) | simp [isAgg, run_underlying hu]
  have hr : (loadVar ty ⟨g, i, none⟩).run P y.at_ = .ok v y.at_ := by
    simp only [loadVar, Sem.run_bind, ha, Result.andThen_ok, Bool.false_eq_true, if_false]
    simp [load, Sem.run, hc']
  simp only [ho, hx, Instr.loadAt, Instr.sureAddr, Sem.run_bind, Sem.run_pure, Result.andThen_ok, hr]
  exact ⟨rfl, rfl⟩
end Go.Proofs.YtgebcifkbldfoaaDoor
