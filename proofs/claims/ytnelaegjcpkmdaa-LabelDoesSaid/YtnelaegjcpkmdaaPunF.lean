/- Plain words for the walks of Encode. -/
import Derived.Test.YtnelaegjcpkmdaaPunE
namespace Go.Proofs.Ytnelaegjcpkmdaa
open Go.RowKit

namespace Pu
theorem pass_done {l : List Nat} {n basic : Nat} {s : ES} (h : s.done = (bel l n).length) : ∀ (i : Nat), i ≤ l.length → ∀ s', pass n basic s (l.take i) = some s' → s'.done = (Lp l n i).length := by
  intro i
  induction i with
  | zero =>
    intro _ s' hs
    have : s = s' := by simpa [pass] using hs
    rw [← this, (Lp_zero l n).1, h]
  | succ i ih =>
    intro hi s' hs
    rw [pass_next (by omega)] at hs
    obtain ⟨s1, e1, e2⟩ := Option.bind_eq_some_iff.1 hs
    have h1 := ih (by omega) s1 e1
    unfold pstep at e2
    rcases Nat.lt_trichotomy l[i] n with hc | hc | hc
    · rw [if_pos hc] at e2
      split at e2
      · cases e2
      · injection e2 with e2
        rw [← e2, (Lp_lt (by omega) hc).1]
        exact h1
    · rw [if_neg (by omega), if_pos hc] at e2
      injection e2 with e2
      rw [← e2, (Lp_eq (by omega) hc).1]
      have := (Lp_len l n i).1
      simp only [List.length_append, List.length_cons, List.length_take, List.length_drop]
      omega
    · rw [if_neg (by omega), if_neg (by omega)] at e2
      injection e2 with e2
      rw [← e2, (Lp_gt (by omega) hc).1]
      exact h1
theorem pass_none {l : List Nat} {n basic : Nat} {s s1 : ES} {i : Nat} (hi : i < l.length) (h1 : pass n basic s (l.take i) = some s1) (h2 : pstep n basic s1 l[i] = none) : pass n basic s l = none := by
  have h3 : pass n basic s (l.take (i + 1)) = none := by rw [pass_next hi, h1]; exact h2
  have h4 : ∀ d : Nat, i + 1 + d ≤ l.length → pass n basic s (l.take (i + 1 + d)) = none := by
    intro d
    induction d with
    | zero => intro _; exact h3
    | succ d ih =>
      intro hd
      rw [show i + 1 + (d + 1) = (i + 1 + d) + 1 by omega, pass_next (by omega), ih (by omega)]
      rfl
  have := h4 (l.length - (i + 1)) (by omega)
  rw [show i + 1 + (l.length - (i + 1)) = l.length by omega, pass_all] at this
  exact this
/-- what is known of a writer's numbers. -/
structure Small (s : ES) : Prop where
  steps : s.steps ≤ 4294967295
  bias : s.bias ≤ 1000000000000
  b : s.b.length ≤ 5000 + 11 * s.done
theorem Small.emit {s : ES} {basic : Nat} (h : Small s) : Small ⟨s.b ++ figs s.steps s.bias 1, 0, beh s.steps (s.done + 1) (decide (s.done = basic)), s.done + 1⟩ := by
  have h1 := figs_len 10 s.steps s.bias 1 (by have := h.steps; simp; omega)
  have h2 := beh_le s.steps (s.done + 1) (decide (s.done = basic))
  have h3 := h.steps
  have h4 := h.b
  refine ⟨by simp, by dsimp only; omega, ?_⟩
  simp only [List.length_append]
  omega
theorem pstep_lt {n basic : Nat} {s : ES} {c : Nat} (h : c < n) (h2 : s.steps + 1 ≤ 4294967295) : pstep n basic s c = some { s with steps := s.steps + 1 } := by unfold pstep; rw [if_pos h, if_neg (by omega)]
theorem pstep_over {n basic : Nat} {s : ES} {c : Nat} (h : c < n) (h2 : ¬ s.steps + 1 ≤ 4294967295) : pstep n basic s c = none := by unfold pstep; rw [if_pos h, if_pos (by omega)]
theorem pstep_eq {n basic : Nat} {s : ES} {c : Nat} (h : c = n) : pstep n basic s c = some ⟨s.b ++ figs s.steps s.bias 1, 0, beh s.steps (s.done + 1) (decide (s.done = basic)), s.done + 1⟩ := by unfold pstep; rw [if_neg (by omega), if_pos h]
theorem pstep_gt {n basic : Nat} {s : ES} {c : Nat} (h : n < c) : pstep n basic s c = some s := by unfold pstep; rw [if_neg (by omega), if_neg (by omega)]
theorem pass_step {l : List Nat} {n basic : Nat} {s s1 s2 : ES} {i : Nat} (hi : i < l.length) (h1 : pass n basic s (l.take i) = some s1) (h2 : pstep n basic s1 l[i] = some s2) : pass n basic s (l.take (i + 1)) = some s2 := by rw [pass_next hi, h1]; exact h2
theorem encF_done {l : List Nat} {basic f n : Nat} {s : ES} (h : ¬ s.done < l.length) : encF l basic f n s = some s.b := by
  cases f with
  | zero => rfl
  | succ f => rw [encF, if_neg h]
theorem encF_over {l : List Nat} {basic f n : Nat} {s : ES} (h : s.done < l.length) (h2 : 4294967295 < s.steps + (least l n - n) * (s.done + 1)) : encF l basic (f + 1) n s = none := by rw [encF, if_pos h, if_pos h2]
theorem encF_none {l : List Nat} {basic f n : Nat} {s : ES} (h : s.done < l.length) (h2 : ¬ 4294967295 < s.steps + (least l n - n) * (s.done + 1)) (h3 : pass (least l n) basic { s with steps := s.steps + (least l n - n) * (s.done + 1) } l = none) : encF l basic (f + 1) n s = none := by
  rw [encF, if_pos h, if_neg h2, h3]
theorem encF_some {l : List Nat} {basic f n : Nat} {s s' : ES} (h : s.done < l.length) (h2 : ¬ 4294967295 < s.steps + (least l n - n) * (s.done + 1)) (h3 : pass (least l n) basic { s with steps := s.steps + (least l n - n) * (s.done + 1) } l = some s') : encF l basic (f + 1) n s = encF l basic f (least l n + 1) { s' with steps := s'.steps + 1 } := by
  rw [encF, if_pos h, if_neg h2, h3]
end Pu

def okp (c : Int) : Bool := decide (0 ≤ c ∧ c ≤ 1114111)
def nats (l : List Int) : List Nat := l.map Int.toNat
theorem nats_len (l : List Int) : (nats l).length = l.length := by simp [nats]
def encR (l : List Int) : Int ⊕ List UInt8 :=
  if 4096 < l.length then .inl 3 else if l.all okp = true then (match Pu.enc (nats l) with | none => .inl 6 | some b => .inr b) else .inl 4
def encT : Int ⊕ List UInt8 → Value
  | .inl c => .tuple #[.string ⟨([] : List UInt8).toArray⟩, .int .i64 c]
  | .inr b => .tuple #[.string ⟨b.toArray⟩, .int .i64 0]
def EncPost (w : World) (l : List Int) (e : Ending) (w' : World) : Prop := e = .returned (encT (encR l)) ∧ Below w.heap.size w w'
theorem EncPost.long {w w' : World} {l : List Int} (h : 4096 < l.length) (hb : Below w.heap.size w w') : EncPost w l (.returned (.tuple #[.string ⟨#[]⟩, .int .i64 3])) w' := ⟨by unfold encR; rw [if_pos h]; rfl, hb⟩
theorem EncPost.bad {w w' : World} {l : List Int} (h : ¬ 4096 < l.length) (h2 : ¬ l.all okp = true) (hb : Below w.heap.size w w') : EncPost w l (.returned (.tuple #[.string ⟨#[]⟩, .int .i64 4])) w' := ⟨by unfold encR; rw [if_neg h, if_neg h2]; rfl, hb⟩
theorem EncPost.over {w w' : World} {l : List Int} (h : ¬ 4096 < l.length) (h2 : l.all okp = true) (h3 : Pu.enc (nats l) = none) (hb : Below w.heap.size w w') : EncPost w l (.returned (.tuple #[.string ⟨#[]⟩, .int .i64 6])) w' := ⟨by unfold encR; rw [if_neg h, if_pos h2, h3]; rfl, hb⟩
theorem EncPost.ok {w w' : World} {l : List Int} {b : List UInt8} (h : ¬ 4096 < l.length) (h2 : l.all okp = true) (h3 : Pu.enc (nats l) = some b) (hb : Below w.heap.size w w') : EncPost w l (.returned (.tuple #[.string ⟨b.toArray⟩, .int .i64 0])) w' := ⟨by unfold encR; rw [if_neg h, if_pos h2, h3]; rfl, hb⟩
theorem okp_t {c : Int} (h : okp c = true) : 0 ≤ c ∧ c ≤ 1114111 := of_decide_eq_true h
theorem nats_back {l : List Int} (h : l.all okp = true) : l = (nats l).map (fun c : Nat => (c : Int)) ∧ ∀ c ∈ nats l, c ≤ 1114111 := by
  rw [List.all_eq_true] at h
  constructor
  · unfold nats
    rw [List.map_map]
    conv => lhs; rw [← List.map_id l]
    apply List.map_congr_left
    intro c hc
    have := okp_t (h c hc)
    simp
    omega
  · intro c hc
    obtain ⟨x, hx, rfl⟩ := List.mem_map.1 hc
    have := okp_t (h x hx)
    omega
theorem bas1_next {l : List Int} {k : Nat} (h : k < l.length) : Pu.bas1 (nats (l.take (k + 1))) = if l[k].toNat < 128 then Pu.bas1 (nats (l.take k)) ++ [UInt8.ofNat l[k].toNat] else Pu.bas1 (nats (l.take k)) := by
  unfold nats Pu.bas1
  rw [List.take_succ_eq_append_getElem h, List.map_append, List.filter_append]
  by_cases hc : l[k].toNat < 128
  · rw [if_pos hc]; simp [hc]
  · rw [if_neg hc]; simp [hc]
theorem bas1_le (l : List Nat) : (Pu.bas1 l).length ≤ l.length := by unfold Pu.bas1; rw [List.length_map]; exact List.length_filter_le _ _
/-- at the head of a round of Encode's great loop. -/
def EoRel (P : List Nat) (E : Option (List UInt8)) (steps n bias done : Value) (s : Pu.ES) : Prop :=
  ∃ (m f : Nat), steps = .int .i64 (s.steps : Int) ∧ n = .int .i64 (m : Int) ∧ bias = .int .i64 (s.bias : Int) ∧ done = .int .i64 (s.done : Int) ∧
    s.done = (Pu.bel P m).length ∧ m ≤ 1114112 ∧ s.steps ≤ 4294967296 ∧ s.bias ≤ 1000000000000 ∧ s.b.length ≤ 5000 + 11 * s.done ∧ P.length - s.done ≤ f ∧ Pu.encF P (Pu.bas1 P).length f m s = E
/-- inside its pass. -/
def EiRel (P : List Nat) (s0 : Pu.ES) (m i : Nat) (steps bias done : Value) (s : Pu.ES) : Prop :=
  steps = .int .i64 (s.steps : Int) ∧ bias = .int .i64 (s.bias : Int) ∧ done = .int .i64 (s.done : Int) ∧ Pu.Small s ∧ Pu.pass m (Pu.bas1 P).length s0 (P.take i) = some s
theorem jump_le {P : List Nat} {n d : Nat} (hd : d ≤ 4096) : (Pu.least P n - n) * (d + 1) ≤ 4564516864 := by
  have := least_le P n
  have h1 : (Pu.least P n - n) * (d + 1) ≤ 1114112 * (d + 1) := Nat.mul_le_mul_right _ (by omega)
  omega
end Go.Proofs.Ytnelaegjcpkmdaa
