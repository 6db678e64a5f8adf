/- Contracts and plain lemmas of our own, merged. -/
import Derived.Test.YtgebcifkbldfoaaGreatDoorZSB12
import Derived.Test.YtgebcifkbldfoaaGreatDoorZSB14
import Derived.Test.YtgebcifkbldfoaaGreatDoorZSB5
import Derived.Lib.ItoaLen
import Derived.Lib.AppendIntMem
import Derived.OpenShut
/- The contract of ascii.Digits; the walk of AsciiBack. -/
namespace Go.Proofs.YtgebcifkbldfoaaGreatDoor
open Go.RowKit
attribute [local go_sem] ba_get ba_app

theorem dec_val (u : Nat) : val (Lib.decDigits u) = u ∧ (Lib.decDigits u).all dgB = true := by
  induction u using Nat.strongRecOn with
  | ind u ih =>
    have hd : ∀ d, d < 10 → (UInt8.ofNat (48 + d)).toNat = 48 + d := fun d hd => UInt8.toNat_ofNat_of_lt' (by show 48 + d < 256; omega)
    by_cases h : u < 10
    · rw [Lib.decDigits_one h]
      have := hd u h
      refine ⟨by unfold val; simp only [List.foldl_cons, List.foldl_nil, this]; omega, ?_⟩
      simp only [List.all_cons, List.all_nil, dgB, this]; simp; omega
    · have e : Lib.decDigits u = Lib.decDigits (u / 10) ++ [UInt8.ofNat (48 + u % 10)] := by rw [Lib.decDigits, dif_neg h]
      obtain ⟨i1, i2⟩ := ih (u / 10) (by omega)
      have := hd (u % 10) (by omega)
      rw [e]
      refine ⟨by rw [val_snoc, i1, this]; omega, ?_⟩
      rw [List.all_append, i2]
      simp only [List.all_cons, List.all_nil, dgB, this]; simp; omega
/-- the table that strconv reads. -/
def Tab (w : World) : Prop := Lib.TabIs Tryz.prog w "internal/strconv.uint64pow10" .u64 Lib.pow10Tab
set_option maxHeartbeats 400000 in
theorem digits_any (n : Int) (w : World) (ht : Tab w) (h0 : -9223372036854775808 ≤ n) (h1 : n ≤ 9223372036854775807) : Calls Tryz.prog 23 #[.int .i64 n] w (StrPost w (Lib.itoa n)) := by
  go_enter Tryz.func23, Tryz.ntmps23
  go_wp2_with fail
  refine (Tryz.strconv_Itoa n h0 h1 _ ht).mono ?_
  rintro e w' ⟨rfl, k, os, rfl⟩
  go_wp2_with fail
  go_ret
  exact ⟨rfl, Lib.below_grow _ _ (Nat.le_refl _) _ _⟩

end Go.Proofs.YtgebcifkbldfoaaGreatDoor
