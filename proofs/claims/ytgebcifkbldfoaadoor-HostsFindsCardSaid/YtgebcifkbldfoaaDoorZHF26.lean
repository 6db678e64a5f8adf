/- Contracts and plain lemmas of our own, merged. -/
import Derived.Test.YtgebcifkbldfoaaDoorZHF10
import Derived.Test.YtgebcifkbldfoaaDoorZHF25
import Derived.Test.YtgebcifkbldfoaaDoorZHF9
/- Laws for operations, one by one: in lists and in regions that draw their order. -/
namespace Go.Proofs.YtgebcifkbldfoaaDoor
open Go.RowKit

theorem yieldsIf_loadAd {ops : Array Oper} {S : World → Prop} {o : Oper} {a : Act} (hw : Region.wanted o (yielded ops a.tmps) = true) (x : Operand) (ho : o.op = .load 34 x) {g off : Nat} (hx : a.eval x = .pointer (some ⟨g, off, none⟩)) {b : Ad}
    (h : ∀ w', S w' → w'.rangeAt g off (adL b)) : YieldsIf Tryd.prog ops S o (.agg (adA b)) a := yieldsIf_load_mid hw _ _ ho _ _ hx (adL b) _ h ad_under rfl (by rw [adL_len]; exact ad_size)
theorem wpOp_callM {P : Program} {ops : Array Oper} {Q : Exit → Act → World → Prop} {i : Nat} {o : Oper} {K : Act → World → Prop} {a : Act} {w : World} {f : FuncId} {args : Array Value} {Post : Ending → World → Prop} (hi : ops[i]? = some o)
    (hw : Region.wanted o (yielded ops a.tmps) = true) (hrun : (execOp a.eval o).run P w = .ok (.enter f args) w) (hc : Calls P f args w Post)
    (h : ∀ e w', Post e w' → ∃ v, e = .returned v ∧ K (a.put o.dst v) w') : wpOp P ops Q i K a w := by
  unfold wpOp
  simp only [hi]
  rw [if_pos hw]
  refine .inl ?_
  unfold Oper.wp
  rw [hrun, Oper.upon_enter]
  refine hc.mono fun e w'' hh => ?_
  obtain ⟨v, rfl, hk⟩ := h e w'' hh
  exact hk
end Go.Proofs.YtgebcifkbldfoaaDoor
