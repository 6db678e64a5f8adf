/- The walk of AsciiNumbers. -/
import Derived.Test.YtfkmjncchicmpaaAscC
import Derived.Test.YtfkmjncchicmpaaNumR
import Derived.OpenShut
namespace Go.Proofs.Ytfkmjncchicmpaa
open Go.RowKit
attribute [local go_sem] ba_get

theorem numV_two (l : List UInt8) (most : Int) : ∃ n e : Int, numV l most = .tuple #[.int .i64 n, .int .i64 e] := by
  unfold numV
  split
  · split
    · exact ⟨_, _, rfl⟩
    · exact ⟨_, _, rfl⟩
  · exact ⟨_, _, rfl⟩
theorem hexV_two (o : Option Int) : ∃ (n : Int) (b : Bool), hexV o = .tuple #[.int .i64 n, .bool b] := by
  rcases o with _ | n
  · exact ⟨0, false, rfl⟩
  · exact ⟨n, true, rfl⟩
set_option maxRecDepth 100000 in
set_option maxHeartbeats 1000000 in
theorem asciiNumbers_walk (w : World) (l : List UInt8) (hl : l.length ≤ maxLen) (most : Int) (hm : (Lit.int .i64 most).wf = true) (c : Int) (hc : (Lit.int .u8 c).wf = true) :
    Calls Try.prog 9 #[.string ⟨l.toArray⟩, .int .i64 most, .int .u8 c] w (Good w) := by
  unfold maxLen at hl
  obtain ⟨hm0, hm1⟩ := Go.bounds_i64 hm
  obtain ⟨hc0, hc1⟩ := Go.bounds_u8 hc
  clear hm hc
  by_cases hs : l.length ≤ 2000
  · obtain ⟨n, e, hne⟩ := numV_two l most
    obtain ⟨h, b, hhb⟩ := hexV_two (hex c)
    have Hn := Lib.hid hne
    have Hh := Lib.hid hhb
    clear hne hhb
    go_enter Try.func9, Try.ntmps9
    go_wp2_with fail
    refine (number_any _ _ _ (by omega) hm0 hm1).mono ?_
    rintro e w' ⟨rfl, rfl⟩
    rw [Hn.out]
    go_wp2_with fail
    refine (rnumber_any _ _ _ (by omega) hm0 hm1).mono ?_
    rintro e w' ⟨rfl, rfl⟩
    rw [Hn.out]
    go_wp2_with fail
    refine (hex_any _ _ hc0 hc1).mono ?_
    rintro e w' ⟨rfl, rfl⟩
    rw [Hh.out]
    go_wp2_with fail
    refine (rhex_any _ _ hc0 hc1).mono ?_
    rintro e w' ⟨rfl, rfl⟩
    rw [Hh.out]
    go_wp2_with fail
    refine (works01_any _).mono ?_
    rintro e w1 ⟨rfl, hb1⟩
    go_wp2
    go_ret
    exact ⟨by simp, hb1⟩
  · have hs' : (2000 : Int) < (l.length : Int) := by omega
    go_enter Try.func9, Try.ntmps9
    go_wp2_with fail
    refine (works01_any _).mono ?_
    rintro e w1 ⟨rfl, hb1⟩
    go_wp2
    go_ret
    exact ⟨rfl, hb1⟩
end Go.Proofs.Ytfkmjncchicmpaa
