/- Contracts and plain lemmas of our own, merged. -/
import Derived.Test.YtgebcifkbldfoaaDoorZRj10
import Derived.Test.YtgebcifkbldfoaaDoorZRj24
import Derived.Test.YtgebcifkbldfoaaDoorZRj9
/- Laws for operations, one by one: in lists and in regions that draw their order. -/
namespace Go.Proofs.YtgebcifkbldfoaaDoor
open Go.RowKit

/-- what follows one operation of a region, as a post. -/
def Qk (K : Act → World → Prop) (Q : Exit → Act → World → Prop) : Exit → Act → World → Prop
  | .normal, a, w => K a w
  | e, a, w => Q e a w
theorem wpOp_of_list {P : Program} {ops : Array Oper} {Q : Exit → Act → World → Prop} {i : Nat} {K : Act → World → Prop} {a : Act} {w : World} {o : Oper} (hi : ops[i]? = some o) (h : wpList P ops (Qk K Q) [o] a w) : wpOp P ops Q i K a w := by
  unfold wpOp
  simp only [hi]
  unfold wpList at h
  split
  · next hw =>
    rw [if_pos hw] at h
    rcases h with h | ⟨h1, h2⟩
    · refine .inl ?_
      unfold Oper.wp at h ⊢
      generalize (execOp a.eval o).run P w = r at h ⊢
      unfold Oper.upon at h ⊢
      cases r with
      | ok n w' => cases n <;> first | exact h | (refine Calls.mono h ?_; intro e w'' he; cases e <;> exact he)
      | halt x w' => cases x <;> first | exact h | exact h.elim
    · exact .inr ⟨h1, h2⟩
  · next hw =>
    rw [if_neg hw] at h
    exact h
theorem yieldsIf_loadC {P : Program} {ops : Array Oper} {S : World → Prop} {o : Oper} {a : Act} (hw : Region.wanted o (yielded ops a.tmps) = true) (ty : TypeId) (x : Operand) (ho : o.op = .load ty x) {g i : Nat} {v : Value} (hx : a.eval x = .pointer (some ⟨g, i, none⟩))
    (hc : ∀ w', S w' → w'.cell? ⟨g, i, none⟩ = some v) {d : TypeDesc} (hu : P.underlying ty = some d) (hd : d.isRow = false) : YieldsIf P ops S o v a := by
  refine Or.inl ⟨hw, fun w' hS => ?_⟩
  have hc' := hc w' hS
  have ha : (isAgg ty).run P w' = .ok false w' := by cases d <;> first | (cases hd; done) | simp [isAgg, run_underlying hu]
  have hr : (loadVar ty ⟨g, i, none⟩).run P w' = .ok v w' := by
    simp only [loadVar, Sem.run_bind, ha, Result.andThen_ok, Bool.false_eq_true, if_false]
    simp [load, Sem.run, hc']
  unfold execOp
  simp only [ho, hx, Instr.loadAt, Instr.sureAddr, Sem.run_bind, Sem.run_pure, Result.andThen_ok, hr]
theorem yieldsIf_loadAd {ops : Array Oper} {S : World → Prop} {o : Oper} {a : Act} (hw : Region.wanted o (yielded ops a.tmps) = true) (x : Operand) (ho : o.op = .load 34 x) {g off : Nat} (hx : a.eval x = .pointer (some ⟨g, off, none⟩)) {b : Ad}
    (h : ∀ w', S w' → w'.rangeAt g off (adL b)) : YieldsIf Tryd.prog ops S o (.agg (adA b)) a := yieldsIf_load_mid hw _ _ ho _ _ hx (adL b) _ h ad_under rfl (by rw [adL_len]; exact ad_size)
end Go.Proofs.YtgebcifkbldfoaaDoor
