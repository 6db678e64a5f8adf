/- Contracts and plain lemmas of our own, merged. -/
import Derived.Test.YtgebcifkbldfoaaDoorZRj28
import Derived.Test.YtgebcifkbldfoaaDoorZRj9
import Derived.OrdersIn
/- A region that draws its order goes in a round as it goes in a function's body. -/
namespace Go.Proofs.YtgebcifkbldfoaaDoor
open Go Go.RowKit

section
variable {P : Program} {n l : Nat} {ops : Array Oper} {Q : Exit → Act → World → Prop}
theorem wpOpIn_of (hq : ¬ LetsOut Q) (hd : (ops.toList.all fun o => match o.op with | .defer _ => false | _ => true) = true) (i : Nat) (K K' : Act → World → Prop) (hk : ∀ a w, K a w → K' a w) (a : Act) (w : World) (h : wpOp P ops Q i K a w) : wpOpIn (Fence.wide.inRound l) n P ops Q i K' a w := by
  unfold wpOp at h
  unfold wpOpIn
  cases ho : ops[i]? with
  | none => rw [ho] at h; exact hk _ _ h
  | some o =>
    rw [ho] at h
    dsimp only at h ⊢
    have hod : (match o.op with | .defer _ => false | _ => true) = true := by
      rw [List.all_eq_true] at hd
      exact hd o (by
        obtain ⟨hi, he⟩ := Array.getElem?_eq_some_iff.1 ho
        rw [← he, ← Array.getElem_toList]
        exact List.getElem_mem _)
    split
    · next hw =>
      rw [if_pos hw] at h
      rcases h with h | h
      · refine ⟨fun _ _ => trivial, ?_⟩
        have he : o.semAt (Fence.wide.inRound l).round a.eval = execOp a.eval o := Oper.semAt_some l a.eval o (fun c hc => by rw [hc] at hod; cases hod)
        rw [he]
        exact uponIn_of hk _ h
      · exact absurd h.2 hq
    · next hw =>
      rw [if_neg hw] at h
      exact ⟨fun _ _ => trivial, hk _ _ h⟩
theorem wpAnyIn_of (md : Region.Mode) (hq : ¬ LetsOut Q) (hd : (ops.toList.all fun o => match o.op with | .defer _ => false | _ => true) = true) : ∀ (f : Nat) (listed : Array Bool) (a : Act) (w : World), wpAny P md ops Q f listed a w → wpAnyIn (Fence.wide.inRound l) n P md ops Q f listed a w
  | 0, _, _, _, h => h
  | f + 1, _, a, w, h => ⟨h.1, fun i hi => wpOpIn_of hq hd i _ _ (fun a w h => wpAnyIn_of md hq hd f _ a w h) a w (h.2 i hi)⟩
end
theorem wpIn_region_bel {P : Program} {id n l : Nat} {Q : Exit → Act → World → Prop} {a : Act} {w : World} {ls : List Oper} (hq : ¬ LetsOut Q) (hd : (ls.all fun o => match o.op with | .defer _ => false | _ => true) = true) (hm : P.follows .mixedOrders = true) (hB : Region.lexB .any ls.toArray = true)
    (h : wpQuiet P ls.toArray (fun w' => ∃ x : BelT w, w' = x.at_) (fun a' => ∀ w', (∃ x : BelT w, w' = x.at_) → Q .normal a' w') ls a) : (Code.region id ls.toArray true).wpIn (Fence.wide.inRound l) n P Q a w := by
  have hB' := hB
  simp only [Region.lexB, Bool.and_eq_true] at hB'
  refine wpIn_region_any hm (wpAnyIn_of _ hq (by simpa using hd) _ _ _ _ ?_)
  refine wpAny_of_quiet (C := fun w' => ∃ x : BelT w, w' = x.at_) (Q := fun a' => ∀ w', (∃ x : BelT w, w' = x.at_) → Q .normal a' w') (fun _ w' hw' h => h w' hw') _ _ _ _ ⟨⟨_, (Below.refl _ _).drew⟩, rfl⟩ ?_
  have := wpAnyQ_lex (C := fun w' => ∃ x : BelT w, w' = x.at_) (md := .any) hB'.1 ls 0 (Array.replicate ls.toArray.size false) a (by simp) (by simpa using hB'.2) h
  simpa using this
end Go.Proofs.YtgebcifkbldfoaaDoor
