/- The contracts of works, utf.add, utf.Text and the reference's Text. -/
import Derived.Test.YtnelaegjcpkmdaaUtfD
import Derived.Test.YtnelaegjcpkmdaaK2
import Derived.Test.YtnelaegjcpkmdaaKB
namespace Go.Proofs.Ytnelaegjcpkmdaa
open Go.RowKit
attribute [local go_sem] ba_get

set_option maxRecDepth 100000 in
set_option maxHeartbeats 800000 in
theorem add_any (c : Int) (base : Nat) (v : Value) (n : Nat) (xs : List Value) (w : World) (h0 : 0 ≤ c) (h1 : c ≤ 1114111) (hb : base ≤ w.heap.size) (hn : n ≤ 1000000000) (hown : w.ownsRow base 5 1 v n xs) :
    Calls Try.prog 112 #[v, .int .i32 c] w (AddPost base 5 w n xs ((enc c).map byv)) := by
  have a1 : bits .and .i32 c 63 = c % 64 := and63 h0 (by omega)
  have a2 : bits .and .i32 (c / 64) 63 = c / 64 % 64 := and63 (by omega) (by omega)
  have a3 : bits .and .i32 (c / 4096) 63 = c / 4096 % 64 := and63 (by omega) (by omega)
  have o1 : bits .or .i32 128 (c % 64) = 128 + c % 64 := or128 (by omega) (by omega)
  rcases (show c < 128 ∨ (128 ≤ c ∧ c < 2048) ∨ (2048 ≤ c ∧ c < 65536) ∨ 65536 ≤ c by omega) with h | ⟨h, h'⟩ | ⟨h, h'⟩ | h
  · rw [enc_1 h0 h]
    go_enter Try.func112, Try.ntmps112
    go_wp2_with (at_builtin; refine wpList_appLit rfl _ _ _ rfl elt_bytes (n := n) rfl hown [.int .u8 c] (m := 1) rfl rfl (by simp [Value.oneCell']) hb (by omega) (by omega) ?_; intro v1 w1 q1 q2 q3)
    go_ret
    exact ⟨_, rfl, q1, q2⟩
  · have o2 : bits .or .i32 192 (c / 64) = 192 + c / 64 := or192 (by omega) (by omega)
    rw [enc_2 h h']
    go_enter Try.func112, Try.ntmps112
    go_wp2_with (at_builtin; refine wpList_appLit rfl _ _ _ rfl elt_bytes (n := n) rfl hown [.int .u8 (192 + c / 64), .int .u8 (128 + c % 64)] (m := 2) rfl rfl (by simp [Value.oneCell']) hb (by omega) (by omega) ?_; intro v1 w1 q1 q2 q3)
    go_ret
    exact ⟨_, rfl, q1, q2⟩
  · have o2 : bits .or .i32 224 (c / 4096) = 224 + c / 4096 := or224 (by omega) (by omega)
    have o3 : bits .or .i32 128 (c / 64 % 64) = 128 + c / 64 % 64 := or128 (by omega) (by omega)
    rw [enc_3 h h']
    go_enter Try.func112, Try.ntmps112
    go_wp2_with (at_builtin; refine wpList_appLit rfl _ _ _ rfl elt_bytes (n := n) rfl hown [.int .u8 (224 + c / 4096), .int .u8 (128 + c / 64 % 64), .int .u8 (128 + c % 64)] (m := 3) rfl rfl (by simp [Value.oneCell']) hb (by omega) (by omega) ?_; intro v1 w1 q1 q2 q3)
    go_ret
    exact ⟨_, rfl, q1, q2⟩
  · have o2 : bits .or .i32 240 (c / 262144) = 240 + c / 262144 := or240 (by omega) (by omega)
    have o3 : bits .or .i32 128 (c / 64 % 64) = 128 + c / 64 % 64 := or128 (by omega) (by omega)
    have o4 : bits .or .i32 128 (c / 4096 % 64) = 128 + c / 4096 % 64 := or128 (by omega) (by omega)
    rw [enc_4 h h1]
    go_enter Try.func112, Try.ntmps112
    go_wp2_with (at_builtin; refine wpList_appLit rfl _ _ _ rfl elt_bytes (n := n) rfl hown [.int .u8 (240 + c / 262144), .int .u8 (128 + c / 4096 % 64), .int .u8 (128 + c / 64 % 64), .int .u8 (128 + c % 64)] (m := 4) rfl rfl (by simp [Value.oneCell']) hb (by omega) (by omega) ?_; intro v1 w1 q1 q2 q3)
    go_ret
    exact ⟨_, rfl, q1, q2⟩
end Go.Proofs.Ytnelaegjcpkmdaa
