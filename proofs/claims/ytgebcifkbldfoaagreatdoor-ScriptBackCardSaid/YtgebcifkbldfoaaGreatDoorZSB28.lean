/- Contracts and plain lemmas of our own, merged. -/
import Derived.Test.YtgebcifkbldfoaaGreatDoorZSB20
import Derived.RangeFuncCalls
import Derived.TacticsIn
import Derived.Tactics
/- A list of operations in a round goes as it goes in a function's body. -/
namespace Go.Proofs.YtgebcifkbldfoaaGreatDoor
open Go Go.RowKit

section
variable {P : Program} {n l : Nat} {ops : Array Oper} {Q : Exit → Act → World → Prop}
theorem rowsIn_of {row : String} {args : Array Value} {w : World} {R : Value → World → Prop} (h : Rows P row args w R) : RowsIn (Fence.wide.inRound l) n P row args w R := fun c cs _ =>
  let ⟨v, w', r, s⟩ := h c cs
  ⟨v, w', r, stepsIn_wide.2 s⟩
theorem callsIn_of {f : FuncId} {args : Array Value} {w : World} {R : Ending → World → Prop} (h : Calls P f args w R) : CallsIn (Fence.wide.inRound l) n P f args w R := CallsIn.inRound l (callsIn_wide.2 h)
theorem uponIn_of {o : Oper} {a : Act} {next next' : Act → World → Prop} (hn : ∀ a w, next a w → next' a w) (r : Result Next) (h : o.upon P a next Q r) : o.uponIn (Fence.wide.inRound l) n P a next' Q r := by
  unfold Oper.upon at h
  split at h
  · exact hn _ _ h
  · exact hn _ _ h
  · exact hn _ _ h
  · refine ⟨fun h => (by cases h), callsIn_of (Calls.mono h (fun e w' hr => ?_))⟩
    cases e with
    | returned v => exact hn _ _ hr
    | panicked ch => exact hr
    | outgrown => exact hr
  · exact ⟨fun h => (by cases h), (rowsIn_of h).mono (fun _ _ hr => hn _ _ hr)⟩
  · exact h
  · exact h.elim
theorem wpListIn_of (hq : ¬ LetsOut Q) : ∀ (rest : List Oper) (a : Act) (w : World), (rest.all fun o => match o.op with | .defer _ => false | _ => true) = true → wpList P ops Q rest a w → wpListIn (Fence.wide.inRound l) n P ops Q rest a w
  | [], _, _, _, h => h
  | o :: rest, a, w, hd, h => by
    rw [List.all_cons, Bool.and_eq_true] at hd
    unfold wpList at h
    unfold wpListIn
    split
    · next hw =>
      rw [if_pos hw] at h
      rcases h with h | h
      · refine ⟨fun _ _ => trivial, ?_⟩
        have he : o.semAt (Fence.wide.inRound l).round a.eval = execOp a.eval o := Oper.semAt_some l a.eval o (fun c hc => by have := hd.1; rw [hc] at this; cases this)
        rw [he]
        exact uponIn_of (fun a w h => wpListIn_of hq rest a w hd.2 h) _ h
      · exact absurd h.2 hq
    · next hw =>
      rw [if_neg hw] at h
      exact ⟨fun _ _ => trivial, wpListIn_of hq rest _ w hd.2 h⟩
end
end Go.Proofs.YtgebcifkbldfoaaGreatDoor
