/- The contract of ascii.Lower. -/
import Derived.Test.YtnelaegjcpkmdaaDomJ
import Derived.Laws.IdiomStrings
namespace Go.Proofs.Ytnelaegjcpkmdaa
open Go.RowKit
attribute [local go_sem] ba_get ext_take ext_drop

/-- block g holds l's bytes, the first k of them folded. -/
def LowBlk (W : World) (g c : Nat) (l : List UInt8) (k : Nat) : Prop :=
  ∃ cur : Array Value, W.heap[g]? = some (.cells cur 5 (c, c + 1)) ∧ l.length ≤ c ∧ ∀ (j : Nat) (hj : j < l.length), cur[j]? = some (byv (if j < k then sm l[j] else l[j]))
theorem LowBlk.cell {W : World} {g c k j : Nat} {l : List UInt8} (h : LowBlk W g c l k) (hj : j < l.length) : W.cell? ⟨g, j, none⟩ = some (byv (if j < k then sm l[j] else l[j])) := by
  obtain ⟨cur, h1, _, h3⟩ := h
  rw [cell_of_row W g j cur 5 (c, c + 1) h1]
  exact h3 j hj
theorem LowBlk.free {W : World} {g c k j : Nat} {l : List UInt8} (h : LowBlk W g c l k) (hj : j < l.length) : W.frozen? ⟨g, j, none⟩ = false := by
  obtain ⟨cur, h1, h2, _⟩ := h
  simp [World.frozen?, h1]
  omega
theorem LowBlk.store {W : World} {g c k : Nat} {l : List UInt8} (h : LowBlk W g c l k) (hk : k < l.length) : LowBlk (W.setCell ⟨g, k, none⟩ (byv (sm l[k]))) g c l (k + 1) := by
  obtain ⟨cur, h1, h2, h3⟩ := h
  refine ⟨cur.setIfInBounds k (byv (sm l[k])), by simp [World.setCell, Array.getElem?_modify, h1], h2, fun j hj => ?_⟩
  have hs : k < cur.size := (Array.getElem?_eq_some_iff.1 (h3 k hk)).1
  rw [Array.getElem?_setIfInBounds]
  by_cases e : k = j
  · subst e
    rw [if_pos rfl, if_pos hs, if_pos (by omega)]
  · rw [if_neg e, h3 j hj]
    by_cases hjk : j < k
    · rw [if_pos hjk, if_pos (by omega)]
    · rw [if_neg hjk, if_neg (by omega)]
theorem LowBlk.lt {W : World} {g c k : Nat} {l : List UInt8} (h : LowBlk W g c l k) : g < W.heap.size := by
  obtain ⟨cur, h1, _, _⟩ := h
  rcases Nat.lt_or_ge g W.heap.size with hlt | hge
  · exact hlt
  · rw [Array.getElem?_eq_none hge] at h1; cases h1
theorem LowBlk.str {W : World} {g c : Nat} {l : List UInt8} (h : LowBlk W g c l l.length) (cap : Nat) (hc : l.length ≤ cap) : (convert 62 9 (.slice (some ⟨g, 0, none⟩) l.length cap)).run Try.prog W = .ok (.string ⟨(low l).toArray⟩) W := by
  have hs : Sl W 1 (.slice (some ⟨g, 0, none⟩) (low l).length cap) (low l).length ((low l).map byv) := by
    refine ⟨by simp, _, cap, rfl, by rw [low_len]; exact hc, fun h => (by cases h), fun ad had _ => ?_⟩
    injection had with had
    subst had
    refine ⟨h.lt, rfl, fun j u hu => ?_⟩
    unfold low at hu
    rw [List.map_map, List.getElem?_map, Option.map_eq_some_iff] at hu
    obtain ⟨x, hx, rfl⟩ := hu
    obtain ⟨hj, rfl⟩ := List.getElem?_eq_some_iff.1 hx
    have := h.cell hj
    rw [if_pos hj] at this
    simpa using this
  have := str_run hs
  rwa [low_len] at this
theorem bytes_size (l : List UInt8) (cap : Nat) : l.length ≤ (bytesRow ⟨l.toArray⟩ cap).size := by
  rcases Nat.eq_zero_or_pos l.length with h | h
  · omega
  · have := bytesRow_at ⟨l.toArray⟩ cap (l.length - 1) (by simp; omega)
    have := (Array.getElem?_eq_some_iff.1 this).1
    omega
theorem LowBlk.start (W : World) (l : List UInt8) (cap k : Nat) (hm : ∀ (j : Nat) (hj : j < l.length), j < k → sm l[j] = l[j]) :
    LowBlk (W.alloc (.cells (bytesRow ⟨l.toArray⟩ cap) 5 ((bytesRow ⟨l.toArray⟩ cap).size, (bytesRow ⟨l.toArray⟩ cap).size + 1))) W.heap.size (bytesRow ⟨l.toArray⟩ cap).size l k := by
  refine ⟨_, heap_alloc_new W _, bytes_size l cap, fun j hj => ?_⟩
  have := bytesRow_at ⟨l.toArray⟩ cap j (by simpa using hj)
  rw [this]
  by_cases h : j < k
  · rw [if_pos h, hm j hj h]; rfl
  · rw [if_neg h]; rfl
theorem low_self {l : List UInt8} (h : ∀ (j : Nat) (hj : j < l.length), sm l[j] = l[j]) : low l = l := by
  unfold low
  apply List.ext_getElem
  · simp
  · intro i h1 h2
    simp [h i h2]

set_option maxRecDepth 100000 in
set_option maxHeartbeats 1000000 in
theorem lower_any (l : List UInt8) (w : World) (hl : l.length ≤ 1000000000) : Calls Try.prog 72 #[.string ⟨l.toArray⟩] w (StrPost w (low l)) := by
  have hcv := fun W : World => run_bytes_of_string (P := Try.prog) W 9 62 5 ⟨l.toArray⟩ Try.underlying9 Try.underlying62 Try.underlying5
  have Hcv := Lib.hid hcv
  clear hcv
  go_enter Try.func72, Try.ntmps72
  go_wp2
  go_loopw [3] (fun i wr => ∃ k : Nat, k ≤ l.length ∧ i = .int .i64 k ∧ (∀ (j : Nat) (hj : j < l.length), j < k → sm l[j] = l[j]) ∧ Below w.heap.size w wr) (fun i _ => l.length - (intOf i).toNat)
  case atStart => exact ⟨0, Nat.zero_le _, rfl, (fun j _ h => absurd h (by omega)), Below.refl _ _⟩
  case round =>
    obtain ⟨k, hk, rfl, hm, hbw⟩ := hrel
    have Hm := Lib.hid hm
    clear hm
    by_cases hlt : k < l.length
    · have i1 : (k : Int) < (l.length : Int) := by omega
      have i0 : (0 : Int) ≤ (k : Int) := by omega
      by_cases he : sm l[k] = l[k]
      · have i2 : (((sm l[k]).toNat : Int) == ((l[k].toNat : Nat) : Int)) = true := by simp [he]
        have He := Lib.hid he
        clear he
        go_wp2
        go_quiet ((go_at_call 107; exact quiet_l (small_any _ _)))
        go_wp2
        go_roundw
        case rel =>
          refine ⟨k + 1, by omega, by go_num, (fun j hj hjk => ?_), below_drewN hbw _⟩
          by_cases hjk2 : j < k
          · exact Hm.out j hj hjk2
          · obtain rfl : j = k := by omega
            exact He.out
        case measure => simp [intOf]; omega
      · have i2 : (((sm l[k]).toNat : Int) == ((l[k].toNat : Nat) : Int)) = false := by
          rw [beq_eq_false_iff_ne]
          intro h
          exact he (UInt8.toNat.inj (by omega))
        have i3 : (((k : Nat) : Int) == ((l.length : Nat) : Int)) = false := by rw [beq_eq_false_iff_ne]; omega
        clear he
        have hcv := Hcv.out
        go_wp2
        go_quiet ((go_at_call 107; exact quiet_l (small_any _ _)))
        go_wp2
        have hcap := grownCap_ge (wr.drewN nq) l.length 0 5
        generalize grownCap (wr.drewN nq) l.length 0 5 = cap at *
        have hst := LowBlk.start (wr.drewN (nq + 1)) l cap k Hm.out
        have hbw0 : Below w.heap.size w ((wr.drewN (nq + 1)).alloc (.cells (bytesRow ⟨l.toArray⟩ cap) 5 ((bytesRow ⟨l.toArray⟩ cap).size, (bytesRow ⟨l.toArray⟩ cap).size + 1))) := (below_drewN hbw (nq + 1)).alloc hbw.size _
        have hg : w.heap.size ≤ wr.heap.size := hbw.size
        generalize (bytesRow ⟨l.toArray⟩ cap).size = c at *
        generalize (wr.drewN (nq + 1)).alloc (.cells (bytesRow ⟨l.toArray⟩ cap) 5 (c, c + 1)) = W0 at *
        have hst' : LowBlk W0 wr.heap.size c l k := hst
        clear hcv hst Hcv
        generalize wr.heap.size = g at *
        go_loopw [3] (fun i W => ∃ j : Nat, j ≤ l.length ∧ i = .int .i64 j ∧ LowBlk W g c l j ∧ Below w.heap.size w W) (fun i _ => l.length - (intOf i).toNat)
        case atStart => exact ⟨k, hk, rfl, hst', hbw0⟩
        case round =>
          obtain ⟨j, hj, rfl, hL, hbj⟩ := hrel
          by_cases hjl : j < l.length
          · have i4 : (j : Int) < (l.length : Int) := by omega
            have q0 := hL.cell hjl
            rw [if_neg (by omega)] at q0
            have q1 : wr.cell? ⟨g, j, none⟩ = some (.int .u8 ((l[j].toNat : Nat) : Int)) := q0
            have q2 := hL.free hjl
            have hS := hL.store hjl
            clear q0
            go_wp2_with fail
            refine (small_any _ _).mono ?_
            rintro e w' ⟨rfl, rfl⟩
            go_wp2_with fail
            go_roundw
            case rel => exact ⟨j + 1, by omega, by go_num, hS, hbj.setCell (by exact hg) _⟩
            case measure => simp [intOf]; omega
          · have i4 : ¬ (j : Int) < (l.length : Int) := by omega
            obtain rfl : j = l.length := by omega
            have hcs := hL.str cap hcap
            go_wp2
            go_ret
            exact ⟨rfl, hbj⟩
    · obtain rfl : k = l.length := by omega
      have i1 : decide (((l.length : Nat) : Int) < (l.length : Int)) = false := by simp
      have i3 : (((l.length : Nat) : Int) == ((l.length : Nat) : Int)) = true := by simp
      have hfin : low l = l := low_self (fun j hj => Hm.out j hj hj)
      have Hfin := Lib.hid hfin
      clear hfin
      go_wp2
      go_quiet (fail)
      go_wp2
      go_ret
      exact ⟨congrArg Ending.returned (vstr Hfin.out.symm), below_drewN hbw _⟩
end Go.Proofs.Ytnelaegjcpkmdaa
