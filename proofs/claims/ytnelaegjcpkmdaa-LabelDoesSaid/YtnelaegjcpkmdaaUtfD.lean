/- The contracts of the reference's Bytes, Next and Runes. -/
import Derived.Test.YtnelaegjcpkmdaaUtfC
import Derived.Test.YtnelaegjcpkmdaaKB
namespace Go.Proofs.Ytnelaegjcpkmdaa
open Go.RowKit
attribute [local go_sem] ba_get ext_drop ext_take

/-- a point's bytes. -/
def enc (c : Int) : List UInt8 :=
  if c < 128 then [UInt8.ofNat c.toNat]
  else if c < 2048 then [UInt8.ofNat (192 + c.toNat / 64), UInt8.ofNat (128 + c.toNat % 64)]
  else if c < 65536 then [UInt8.ofNat (224 + c.toNat / 4096), UInt8.ofNat (128 + c.toNat / 64 % 64), UInt8.ofNat (128 + c.toNat % 64)]
  else [UInt8.ofNat (240 + c.toNat / 262144), UInt8.ofNat (128 + c.toNat / 4096 % 64), UInt8.ofNat (128 + c.toNat / 64 % 64), UInt8.ofNat (128 + c.toNat % 64)]
theorem enc_1 {c : Int} (h0 : 0 ≤ c) (h : c < 128) : (enc c).map byv = [.int .u8 c] := by
  unfold enc
  rw [if_pos (by omega)]
  simp only [List.map_cons, List.map_nil]
  rw [byv_mk (n := c.toNat) (by omega) (by omega)]
theorem enc_2 {c : Int} (h0 : 128 ≤ c) (h : c < 2048) : (enc c).map byv = [.int .u8 (192 + c / 64), .int .u8 (128 + c % 64)] := by
  unfold enc
  rw [if_neg (by omega), if_pos (by omega)]
  simp only [List.map_cons, List.map_nil]
  rw [byv_mk (n := 192 + c.toNat / 64) (by omega) (by omega), byv_mk (n := 128 + c.toNat % 64) (by omega) (by omega)]
theorem enc_3 {c : Int} (h0 : 2048 ≤ c) (h : c < 65536) : (enc c).map byv = [.int .u8 (224 + c / 4096), .int .u8 (128 + c / 64 % 64), .int .u8 (128 + c % 64)] := by
  unfold enc
  rw [if_neg (by omega), if_neg (by omega), if_pos (by omega)]
  simp only [List.map_cons, List.map_nil]
  rw [byv_mk (n := 224 + c.toNat / 4096) (by omega) (by omega), byv_mk (n := 128 + c.toNat / 64 % 64) (by omega) (by omega), byv_mk (n := 128 + c.toNat % 64) (by omega) (by omega)]
theorem enc_4 {c : Int} (h0 : 65536 ≤ c) (h : c ≤ 1114111) : (enc c).map byv = [.int .u8 (240 + c / 262144), .int .u8 (128 + c / 4096 % 64), .int .u8 (128 + c / 64 % 64), .int .u8 (128 + c % 64)] := by
  unfold enc
  rw [if_neg (by omega), if_neg (by omega), if_neg (by omega)]
  simp only [List.map_cons, List.map_nil]
  rw [byv_mk (n := 240 + c.toNat / 262144) (by omega) (by omega), byv_mk (n := 128 + c.toNat / 4096 % 64) (by omega) (by omega), byv_mk (n := 128 + c.toNat / 64 % 64) (by omega) (by omega), byv_mk (n := 128 + c.toNat % 64) (by omega) (by omega)]

def BytesPost (w : World) (l : List UInt8) (e : Ending) (w' : World) : Prop :=
  ∃ v, e = .returned v ∧ Sl w' 1 v l.length (l.map byv) ∧ Below w.heap.size w w'
theorem bytes_close {w : World} {us : List Value} {l : List UInt8} {e : TypeId} {n : Nat} (h : us = l.map byv) (hn : us.length = n) : BytesPost w l (.returned (.slice (some ⟨w.heap.size, 0, none⟩) n n)) (w.alloc (.cells us.toArray e)) := by
  subst hn
  refine ⟨_, rfl, ?_, (Below.refl _ _).alloc (Nat.le_refl _) _⟩
  have := Sl.new w us e
  rw [show l.length = us.length from by rw [h]; simp, ← h]
  exact this

set_option maxRecDepth 100000 in
set_option maxHeartbeats 400000 in
theorem bytes_any (c : Int) (w : World) (h0 : 0 ≤ c) (h1 : c ≤ 1114111) :
    Calls Try.prog 114 #[.int .i64 c] w (BytesPost w (enc c)) := by
  rcases (show c < 128 ∨ (128 ≤ c ∧ c < 2048) ∨ (2048 ≤ c ∧ c < 65536) ∨ 65536 ≤ c by omega) with h | ⟨h, h'⟩ | ⟨h, h'⟩ | h
  · go_enter Try.func114, Try.ntmps114
    go_wp2
    go_ret
    exact bytes_close (enc_1 h0 h).symm rfl
  · go_enter Try.func114, Try.ntmps114
    go_wp2
    go_ret
    exact bytes_close (enc_2 h h').symm rfl
  · go_enter Try.func114, Try.ntmps114
    go_wp2
    go_ret
    exact bytes_close (enc_3 h h').symm rfl
  · go_enter Try.func114, Try.ntmps114
    go_wp2
    go_ret
    exact bytes_close (enc_4 h h1).symm rfl

/-- what the reference's Next answers. -/
def rnx (o : Option (Int × Int)) : Value := match o with
  | none => .tuple #[.int .i64 0, .int .i64 0]
  | some (c, n) => .tuple #[.int .i64 c, .int .i64 n]
def NxPost (w : World) (o : Option (Int × Int)) (e : Ending) (w' : World) : Prop := e = .returned (rnx o) ∧ Below w.heap.size w w'

def foldc (c : Int) : List UInt8 → Int
  | [] => c
  | b :: r => foldc (64 * c + (b.toNat : Int) % 64) r
theorem foldc_snoc (c : Int) (r : List UInt8) (b : UInt8) : foldc c (r ++ [b]) = 64 * foldc c r + (b.toNat : Int) % 64 := by
  induction r generalizing c with
  | nil => rfl
  | cons d r ih => exact ih _
def FoldRel (c0 : Int) (r : List UInt8) (n : Nat) (cv iv : Value) : Prop :=
  ∃ (j : Nat) (c : Int), j < n ∧ iv = .int .i64 ((j + 1 : Nat) : Int) ∧ cv = .int .i64 c ∧ c = foldc c0 (r.take j) ∧ 0 ≤ c ∧ ((j = 0 ∧ c < 256) ∨ (j = 1 ∧ c < 16384) ∨ (j = 2 ∧ c < 1048576) ∨ (j = 3 ∧ c < 67108864))
theorem FoldRel.next {c0 c : Int} {r : List UInt8} {n j : Nat} (hj : j + 1 < n) (hn : n ≤ 4) (hr : j < r.length) (hc : c = foldc c0 (r.take j)) (h0 : 0 ≤ c) (hd : (j = 0 ∧ c < 256) ∨ (j = 1 ∧ c < 16384) ∨ (j = 2 ∧ c < 1048576) ∨ (j = 3 ∧ c < 67108864)) :
    FoldRel c0 r n (.int .i64 (64 * c + (r[j].toNat : Int) % 64)) (.int .i64 ((j : Int) + 1 + 1)) := by
  refine ⟨j + 1, _, hj, by congr 1, rfl, ?_, by omega, by omega⟩
  rw [List.take_succ_eq_append_getElem hr, foldc_snoc, ← hc]

def tailOk (c : Int) (n : Nat) (l : List UInt8) : Option (Int × Int) := if ptB c = true ∧ enc c = l.take n then some (c, (n : Int)) else none

theorem tail_pt {c c0 : Int} {r l : List UInt8} {j : Nat} (hc : c = foldc c0 (r.take j)) (hp : ptB c = false) : tailOk (foldc c0 (r.take (j + 1 - 1))) (j + 1) l = none := by
  unfold tailOk
  rw [Nat.add_sub_cancel, ← hc, hp]
  simp
theorem tail_ne {c c0 : Int} {a : UInt8} {r : List UInt8} {j : Nat} (hc : c = foldc c0 (r.take j)) (h : (!enc c == a :: r.take j) = true) : tailOk (foldc c0 (r.take (j + 1 - 1))) (j + 1) (a :: r) = none := by
  unfold tailOk
  rw [Nat.add_sub_cancel, ← hc]
  simp at h
  simp [h]
theorem tail_eq {c c0 : Int} {a : UInt8} {r : List UInt8} {j : Nat} (hc : c = foldc c0 (r.take j)) (hp : ptB c = true) (h : (!enc c == a :: r.take j) = false) : tailOk (foldc c0 (r.take (j + 1 - 1))) (j + 1) (a :: r) = some (c, (j : Int) + 1) := by
  unfold tailOk
  rw [Nat.add_sub_cancel, ← hc, hp]
  simp at h
  simp [h]
theorem nxp_none {w w' : World} {o : Option (Int × Int)} (h : o = none) (hb : Below w.heap.size w w') : NxPost w o (.returned (.tuple #[.int .i64 0, .int .i64 0])) w' := by
  rw [h]; exact ⟨rfl, hb⟩
theorem nxp_some {w w' : World} {o : Option (Int × Int)} {c n : Int} (h : o = some (c, n)) (hb : Below w.heap.size w w') : NxPost w o (.returned (.tuple #[.int .i64 c, .int .i64 n])) w' := by
  rw [h]; exact ⟨rfl, hb⟩

set_option maxRecDepth 100000 in
set_option maxHeartbeats 400000 in
theorem rnext_main (a : UInt8) (r : List UInt8) (w : World) (n : Nat) (hl : r.length + 1 ≤ 140737488351232) (hn : shN (a.toNat : Int) = n) (h1 : 1 ≤ n) (h4 : n ≤ 4) (hnl : n ≤ r.length + 1) :
    Calls Try.prog 109 #[.string ⟨(a :: r).toArray⟩] w (NxPost w (tailOk (foldc (shC (a.toNat : Int)) (r.take (n - 1))) n (a :: r))) := by
  have hc0 : 0 ≤ shC (a.toNat : Int) ∧ shC (a.toNat : Int) < 256 := by
    have := a.toNat_lt
    unfold shC
    (repeat' split) <;> omega
  have hnz : ((n : Int) == 0) = false := by simp; omega
  have ha : (a.toNat : Int) ≤ 255 := by have := a.toNat_lt; omega
  have E1 := Lib.hid hn
  clear hn
  go_enter Try.func109, Try.ntmps109
  go_wp2_with fail
  refine (lead_any _ _ (by omega) (by omega)).mono ?_
  rintro e w' ⟨rfl, rfl⟩
  rw [E1.out]
  generalize shC (a.toNat : Int) = c0 at *
  go_wp2_with fail
  go_loop [5, 6] (fun c i => FoldRel c0 r n c i) (fun _ i => n - (intOf i).toNat)
  case atStart => exact ⟨0, c0, h1, rfl, rfl, rfl, hc0.1, .inl ⟨rfl, hc0.2⟩⟩
  case round =>
    obtain ⟨j, c, hj, rfl, rfl, hc, hc1, hd⟩ := hrel
    have Hc := Lib.hid hc
    clear hc
    by_cases hlt : j + 1 < n
    · have hr : j < r.length := by omega
      have hcb : c < 1048576 := by omega
      have hbb : (r[j].toNat : Int) ≤ 255 := by have := r[j].toNat_lt; omega
      have R := FoldRel.next (c0 := c0) hlt h4 hr Hc.out hc1 hd
      have hi : ((j + 1 : Nat) : Int) < (n : Int) := by omega
      go_wp2
      go_round
      case rel => exact R
      case measure => simp [intOf]; omega
    · obtain rfl : n = j + 1 := by omega
      have hcb : c < 67108864 := by omega
      rcases hp : ptB c
      · have Hp := Lib.hid hp
        clear hp
        go_wp2_with fail
        go_quiet ((go_at_call 113; exact quiet_v (vbool Hp.out) (refpoint_any _ _)))
        go_wp2
        go_ret2
        exact nxp_none (tail_pt Hc.out Hp.out) (below_drewN (Below.refl _ _) _)
      · have hpb := ptB_bd hp
        have Hp := Lib.hid hp
        clear hp
        go_wp2_with fail
        go_region_with (first | (go_at_call 113; refine (refpoint_any _ _).mono ?_; rintro e w' ⟨rfl, rfl⟩; rw [Hp.out]) | (go_at_call 114; refine (bytes_any _ _ (by omega) (by omega)).mono ?_; rintro e w1 ⟨v, rfl, hsl, hbel⟩; have hcv := str_of_sl Try.underlying62 Try.underlying5 Try.underlying9 hsl))
        all_goals go_wp2
        all_goals go_ret2
        all_goals first | exact nxp_none (tail_ne Hc.out (by assumption)) (bel_drew hbel) | exact nxp_some (tail_eq Hc.out Hp.out (by assumption)) (bel_drew hbel) | go_show
end Go.Proofs.Ytnelaegjcpkmdaa
