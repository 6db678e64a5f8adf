/- Contracts and plain lemmas of our own, merged. -/
import Derived.Test.YtgebcifkbldfoaaGreatDoorZSB23
import Derived.Test.YtgebcifkbldfoaaGreatDoorZSB26
import Derived.Test.YtgebcifkbldfoaaGreatDoorZSB5
/- hosts.host: what the fields of one line say. -/
namespace Go.Proofs.YtgebcifkbldfoaaGreatDoor
open Go.RowKit
attribute [local go_sem] ba_get ext_take ext_drop ext_any ba_app

theorem own_neBk {w : World} {base size n g : Nat} {e t : TypeId} {v : Value} {xs : List Value} {cs : Array Value} (h : w.ownsRow base e size v n xs) (hB : Bk w g t cs) (ht : t ≠ e) : some g ≠ v.ownBlock := by
  intro hgo
  rcases h.2 with ⟨rfl, _⟩ | ⟨g', cap, cur, rfl, hb', hg', _⟩
  · cases hgo
  · have hgg : g = g' := by simpa [Value.ownBlock] using hgo
    subst hgg
    rw [show w.heap[g]? = _ from hB] at hg'
    injection hg' with h2
    injection h2 with _ h2 _
    exact ht h2
theorem NmB.any {w : World} {q : Value × NmL} (h : NmB 0 w q) (b : Nat) : NmB b w q := ⟨⟨h.sl.sl, fun g off c hv hn => (h.sl.far g off c hv hn).elim (fun h => absurd h (Nat.not_lt_zero _)) .inr⟩, h.few, h.len⟩
end Go.Proofs.YtgebcifkbldfoaaGreatDoor
