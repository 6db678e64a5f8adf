/- Contracts and plain lemmas of our own, merged. -/
import Derived.Test.YtolglcgdophcaaaGreatDoorZ10
import Derived.Test.YtolglcgdophcaaaGreatDoorZ22
import Derived.Test.YtolglcgdophcaaaGreatDoorZ9
/- Laws for operations, one by one: in lists and in regions that draw their order. -/
namespace Go.Proofs.YtolglcgdophcaaaGreatDoor
open Go.RowKit

/-- what follows one operation of a region, as a post. -/
def Qk (K : Act → World → Prop) (Q : Exit → Act → World → Prop) : Exit → Act → World → Prop
  | .normal, a, w => K a w
  | e, a, w => Q e a w
theorem wpOp_of_list {P : Program} {ops : Array Oper} {Q : Exit → Act → World → Prop} {i : Nat} {K : Act → World → Prop} {a : Act} {w : World} {o : Oper} (hi : ops[i]? = some o) (h : wpList P ops (Qk K Q) [o] a w) : wpOp P ops Q i K a w := by
  unfold wpOp
  simp only [hi]
  unfold wpList at h
  split
  · next hw =>
    rw [if_pos hw] at h
    rcases h with h | ⟨h1, h2⟩
    · refine .inl ?_
      unfold Oper.wp at h ⊢
      generalize (execOp a.eval o).run P w = r at h ⊢
      unfold Oper.upon at h ⊢
      cases r with
      | ok n w' => cases n <;> first | exact h | (refine Calls.mono h ?_; intro e w'' he; cases e <;> exact he)
      | halt x w' => cases x <;> first | exact h | exact h.elim
    · exact .inr ⟨h1, h2⟩
  · next hw =>
    rw [if_neg hw] at h
    exact h
theorem yieldsIf_loadAd {ops : Array Oper} {S : World → Prop} {o : Oper} {a : Act} (hw : Region.wanted o (yielded ops a.tmps) = true) (x : Operand) (ho : o.op = .load 24 x) {g off : Nat} (hx : a.eval x = .pointer (some ⟨g, off, none⟩)) {b : Ad}
    (h : ∀ w', S w' → w'.rangeAt g off (adL b)) : YieldsIf Tryz.prog ops S o (.agg (adA b)) a := yieldsIf_load_mid hw _ _ ho _ _ hx (adL b) _ h ad_under rfl (by rw [adL_len]; exact ad_size)
theorem wpOp_callM {P : Program} {ops : Array Oper} {Q : Exit → Act → World → Prop} {i : Nat} {o : Oper} {K : Act → World → Prop} {a : Act} {w : World} {f : FuncId} {args : Array Value} {Post : Ending → World → Prop} (hi : ops[i]? = some o)
    (hw : Region.wanted o (yielded ops a.tmps) = true) (hrun : (execOp a.eval o).run P w = .ok (.enter f args) w) (hc : Calls P f args w Post)
    (h : ∀ e w', Post e w' → ∃ v, e = .returned v ∧ K (a.put o.dst v) w') : wpOp P ops Q i K a w := by
  unfold wpOp
  simp only [hi]
  rw [if_pos hw]
  refine .inl ?_
  unfold Oper.wp
  rw [hrun, Oper.upon_enter]
  refine hc.mono fun e w'' hh => ?_
  obtain ⟨v, rfl, hk⟩ := h e w'' hh
  exact hk
end Go.Proofs.YtolglcgdophcaaaGreatDoor
