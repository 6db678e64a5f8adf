/- Contracts of the leaves of package utf and of its reference: shape, lead, Point. -/
import Derived.Test.YtnelaegjcpkmdaaProg
import Derived.Test.YtnelaegjcpkmdaaK
namespace Go.Proofs.Ytnelaegjcpkmdaa
open Go.RowKit

def shN (c : Int) : Int := if c < 128 then 1 else if c < 192 then 0 else if c < 224 then 2 else if c < 240 then 3 else if c < 248 then 4 else 0
def shC (c : Int) : Int := if c < 128 then c else if c < 192 then 0 else if c < 224 then c % 32 else if c < 240 then c % 16 else if c < 248 then c % 8 else 0
def shL (c : Int) : Int := if c < 128 then 0 else if c < 192 then 0 else if c < 224 then 128 else if c < 240 then 2048 else if c < 248 then 65536 else 0
def ptB (c : Int) : Bool := decide (0 ≤ c ∧ c ≤ 1114111 ∧ (c < 55296 ∨ 57343 < c))

set_option maxHeartbeats 400000 in
theorem shape_any (c : Int) (w : World) (h0 : 0 ≤ c) (h1 : c ≤ 255) :
    Calls Try.prog 122 #[.int .u8 c] w fun e w' => e = .returned (.tuple #[.int .i64 (shN c), .int .i32 (shC c), .int .i32 (shL c)]) ∧ w = w' := by
  go_enter Try.func122, Try.ntmps122
  go_wp2
  all_goals go_ret3
  all_goals (refine ⟨ret3 (vint ?_) (vint ?_) (vint ?_), rfl⟩)
  all_goals (simp only [shN, shC, shL]; (repeat (first | rw [if_pos (by omega)] | rw [if_neg (by omega)])))

set_option maxHeartbeats 400000 in
theorem lead_any (c : Int) (w : World) (h0 : 0 ≤ c) (h1 : c ≤ 255) :
    Calls Try.prog 123 #[.int .i64 c] w fun e w' => e = .returned (.tuple #[.int .i64 (shN c), .int .i64 (shC c)]) ∧ w = w' := by
  rcases (show c < 128 ∨ (128 ≤ c ∧ c < 192) ∨ (192 ≤ c ∧ c < 224) ∨ (224 ≤ c ∧ c < 240) ∨ (240 ≤ c ∧ c < 248) ∨ 248 ≤ c from by omega) with h | ⟨ha, hb⟩ | ⟨ha, hb⟩ | ⟨ha, hb⟩ | ⟨ha, hb⟩ | h
  all_goals
    go_enter Try.func123, Try.ntmps123
    go_wp2
    go_ret2
    refine ⟨ret2 (vint ?_) (vint ?_), rfl⟩
  all_goals (simp only [shN, shC]; (repeat (first | rw [if_pos (by omega)] | rw [if_neg (by omega)])))
  all_goals omega

set_option maxHeartbeats 400000 in
theorem point_any (c : Int) (w : World) (h0 : -2147483648 ≤ c) (h1 : c ≤ 2147483647) :
    Calls Try.prog 111 #[.int .i32 c] w fun e w' => e = .returned (.bool (ptB c)) ∧ w = w' := by
  go_enter Try.func111, Try.ntmps111
  go_wp2
  all_goals go_ret
  all_goals exact ⟨retb (by rw [Bool.eq_iff_iff]; simp [ptB]; omega), rfl⟩

set_option maxHeartbeats 400000 in
theorem refpoint_any (c : Int) (w : World) :
    Calls Try.prog 113 #[.int .i64 c] w fun e w' => e = .returned (.bool (ptB c)) ∧ w = w' := by
  go_enter Try.func113, Try.ntmps113
  go_wp2
  all_goals go_ret
  all_goals exact ⟨retb (by rw [Bool.eq_iff_iff]; simp [ptB]; omega), rfl⟩

end Go.Proofs.Ytnelaegjcpkmdaa
