/- Punycode in plain words: what is written, what is read; and what is written is read. No program in sight. -/
import Derived.Lib.Hide
namespace Go.Proofs.Ytnelaegjcpkmdaa
namespace Pu

def bnd (k bias : Nat) : Nat := min (max (36 * k - bias) 1) 26
theorem bnd_le (k bias : Nat) : bnd k bias ≤ 26 := by unfold bnd; omega
theorem bnd_pos (k bias : Nat) : 1 ≤ bnd k bias := by unfold bnd; omega
theorem bnd_mono (k bias : Nat) (h : bnd (k + 1) bias = 1) : bnd k bias = 1 := by unfold bnd at *; omega

def red (d j : Nat) : Nat × Nat := if 455 < d then red (d / 35) (j + 1) else (d, j)
termination_by d
decreasing_by omega
theorem red_stop {d j : Nat} (h : ¬ 455 < d) : red d j = (d, j) := by rw [red, if_neg h]
theorem red_go {d j : Nat} (h : 455 < d) : red d j = red (d / 35) (j + 1) := by rw [red, if_pos h]
theorem red_bds (d : Nat) : ∀ j : Nat, (red d j).1 ≤ 455 ∧ (red d j).2 ≤ j + d := by
  induction d using Nat.strongRecOn with
  | ind d ih =>
    intro j
    by_cases h : 455 < d
    · rw [red_go h]
      have := ih (d / 35) (by omega) (j + 1)
      omega
    · rw [red_stop h]
      dsimp only
      omega
def first2 (d : Nat) (first : Bool) : Nat := if first then d / 700 else d / 2
def beh (d n : Nat) (first : Bool) : Nat :=
  36 * (red (first2 d first + first2 d first / n) 0).2 + 36 * (red (first2 d first + first2 d first / n) 0).1 / ((red (first2 d first + first2 d first / n) 0).1 + 38)
theorem first2_le (d : Nat) (first : Bool) : first2 d first ≤ d := by unfold first2; cases first <;> simp <;> omega
theorem beh_le (d n : Nat) (first : Bool) : beh d n first ≤ 36 * (2 * d) + 36 * 455 := by
  unfold beh
  obtain ⟨h1, h2⟩ := red_bds (first2 d first + first2 d first / n) 0
  have h3 := first2_le d first
  have h4 : first2 d first / n ≤ first2 d first := Nat.div_le_self _ _
  have h5 : 36 * (red (first2 d first + first2 d first / n) 0).1 / ((red (first2 d first + first2 d first / n) 0).1 + 38) ≤ 36 * (red (first2 d first + first2 d first / n) 0).1 := Nat.div_le_self _ _
  omega

/-- a figure, written. -/
def lt1 (n : Nat) : UInt8 := UInt8.ofNat (if n < 26 then 97 + n else 22 + n)
def fig (c : UInt8) : Option Nat :=
  if 97 ≤ c.toNat ∧ c.toNat ≤ 122 then some (c.toNat - 97) else if 65 ≤ c.toNat ∧ c.toNat ≤ 90 then some (c.toNat - 65) else if 48 ≤ c.toNat ∧ c.toNat ≤ 57 then some (c.toNat - 22) else none
theorem fig_lt1 {n : Nat} (h : n < 36) : fig (lt1 n) = some n := by
  have : ∀ n : Fin 36, fig (lt1 n.val) = some n.val := by decide +kernel
  exact this ⟨n, h⟩
theorem lt1_ok {n : Nat} (h : n < 36) : (lt1 n).toNat < 128 ∧ lt1 n ≠ 45 := by
  have : ∀ n : Fin 36, (lt1 n.val).toNat < 128 ∧ lt1 n.val ≠ 45 := by decide +kernel
  exact this ⟨n, h⟩
theorem fig_bd {c : UInt8} {f : Nat} (h : fig c = some f) : f ≤ 35 := by
  unfold fig at h
  split at h
  · injection h with h; omega
  · split at h
    · injection h with h; omega
    · split at h
      · injection h with h; omega
      · cases h

theorem div_lt {n t : Nat} (h1 : 1 ≤ t) (h : ¬ n < t) : (n - t) / (36 - t) < n := by
  have : (n - t) / (36 - t) ≤ n - t := Nat.div_le_self _ _
  omega
def figs (n bias k : Nat) : List UInt8 :=
  if h : n < bnd k bias then [lt1 n] else lt1 (bnd k bias + (n - bnd k bias) % (36 - bnd k bias)) :: figs ((n - bnd k bias) / (36 - bnd k bias)) bias (k + 1)
termination_by n
decreasing_by exact div_lt (bnd_pos k bias) h
theorem figs_stop {n bias k : Nat} (h : n < bnd k bias) : figs n bias k = [lt1 n] := by rw [figs, dif_pos h]
theorem figs_go {n bias k : Nat} (h : ¬ n < bnd k bias) : figs n bias k = lt1 (bnd k bias + (n - bnd k bias) % (36 - bnd k bias)) :: figs ((n - bnd k bias) / (36 - bnd k bias)) bias (k + 1) := by rw [figs, dif_neg h]
theorem figs_zero (bias k : Nat) : figs 0 bias k = [97] := by rw [figs_stop (by have := bnd_pos k bias; omega)]; rfl
theorem fg_lt {n t : Nat} (h : t ≤ 26) : t + (n - t) % (36 - t) < 36 := by have := Nat.mod_lt (n - t) (show 0 < 36 - t by omega); omega
theorem figs_ok (n : Nat) : ∀ bias k : Nat, (∀ c ∈ figs n bias k, c.toNat < 128 ∧ c ≠ 45) ∧ 1 ≤ (figs n bias k).length := by
  induction n using Nat.strongRecOn with
  | ind n ih =>
    intro bias k
    by_cases h : n < bnd k bias
    · rw [figs_stop h]
      have := bnd_le k bias
      refine ⟨fun c hc => ?_, by simp⟩
      rw [List.mem_singleton] at hc
      subst hc
      exact lt1_ok (by omega)
    · rw [figs_go h]
      obtain ⟨i1, i2⟩ := ih _ (div_lt (bnd_pos k bias) h) bias (k + 1)
      refine ⟨fun c hc => ?_, by simp⟩
      rcases List.mem_cons.1 hc with rfl | hc
      · exact lt1_ok (fg_lt (bnd_le k bias))
      · exact i1 c hc
theorem figs_len (j : Nat) : ∀ n bias k : Nat, n < 10 ^ j → (figs n bias k).length ≤ j + 1 := by
  induction j with
  | zero => intro n bias k h; rw [figs_stop (by have := bnd_pos k bias; simp at h; omega)]; simp
  | succ j ih =>
    intro n bias k h
    by_cases h1 : n < bnd k bias
    · rw [figs_stop h1]; simp
    · rw [figs_go h1, List.length_cons]
      have hb := bnd_le k bias
      have : (n - bnd k bias) / (36 - bnd k bias) < 10 ^ j := by
        have h2 : (n - bnd k bias) / (36 - bnd k bias) ≤ (n - bnd k bias) / 10 := Nat.div_le_div_left (by omega) (by omega)
        have h3 : (n - bnd k bias) / 10 < 10 ^ j := by
          rw [Nat.pow_succ] at h
          omega
        omega
      have := ih _ bias (k + 1) this
      omega

/-- the number of the figures that bytes begin with, and the bytes behind them. -/
def numb (bias : Nat) : List UInt8 → Nat → Nat → Nat → Int ⊕ (Nat × List UInt8)
  | [], _, _, _ => .inl 5
  | c :: r, k, sum, w =>
    match fig c with
    | none => .inl 5
    | some f =>
      if 4294967295 < sum + f * w then .inl 6
      else if f < bnd k bias then .inr (sum + f * w, r)
      else if 4294967295 < w * (36 - bnd k bias) then .inl 6
      else numb bias r (k + 1) (sum + f * w) (w * (36 - bnd k bias))

theorem wt_ok {d w t f k : Nat} (hd : d ≤ 250000000) (hf : f * w ≤ d) (ht : t ≤ f) (h1 : 1 ≤ t) (hk : t = 1 → w = 35 ^ (k - 1)) : w * (36 - t) ≤ 4294967295 := by
  have h2 : t * w ≤ d := Nat.le_trans (Nat.mul_le_mul_right w ht) hf
  by_cases h : t = 1
  · have hw := hk h
    subst h
    have h3 : w ≤ 250000000 := by omega
    have h4 : k - 1 ≤ 5 := by
      rcases Nat.lt_or_ge 5 (k - 1) with h5 | h5
      · have : 35 ^ 6 ≤ 35 ^ (k - 1) := Nat.pow_le_pow_right (by omega) (by omega)
        rw [← hw] at this
        simp at this
        omega
      · exact h5
    have : w ≤ 35 ^ 5 := by rw [hw]; exact Nat.pow_le_pow_right (by omega) h4
    simp at this
    omega
  · have h3 : 2 * w ≤ d := Nat.le_trans (Nat.mul_le_mul_right w (show 2 ≤ t by omega)) h2
    have h4 : w * (36 - t) ≤ w * 34 := Nat.mul_le_mul_left w (by omega)
    omega

theorem numb_figs (bias : Nat) (r : List UInt8) (d : Nat) (hd : d ≤ 250000000) (n : Nat) : ∀ k sum w : Nat, sum + n * w = d → 1 ≤ k → (bnd k bias = 1 → w = 35 ^ (k - 1)) → numb bias (figs n bias k ++ r) k sum w = .inr (d, r) := by
  induction n using Nat.strongRecOn with
  | ind n ih =>
    intro k sum w h hk hw
    have hbl := bnd_le k bias
    have hbp := bnd_pos k bias
    by_cases h1 : n < bnd k bias
    · rw [figs_stop h1]
      simp only [List.cons_append, List.nil_append, numb]
      rw [fig_lt1 (by omega)]
      simp only
      rw [if_neg (by omega), if_pos h1, h]
    · rw [figs_go h1]
      obtain ⟨t, ht⟩ : ∃ t, t = bnd k bias := ⟨_, rfl⟩
      rw [← ht] at h1 hbl hbp hw ⊢
      have hm := Nat.div_add_mod (n - t) (36 - t)
      obtain ⟨q, hq⟩ : ∃ q, q = (n - t) / (36 - t) := ⟨_, rfl⟩
      obtain ⟨f, hf⟩ : ∃ f, f = t + (n - t) % (36 - t) := ⟨_, rfl⟩
      have hfl : f < 36 := by rw [hf]; exact fg_lt hbl
      rw [← hq] at hm
      have hn : n = f + (36 - t) * q := by rw [hf]; omega
      have hs : sum + f * w + q * (w * (36 - t)) = d := by
        rw [← h, hn, Nat.add_mul, Nat.add_assoc]
        congr 2
        rw [Nat.mul_comm w, ← Nat.mul_assoc, Nat.mul_comm q]
      have hlt : q < n := by rw [hq]; exact div_lt hbp h1
      rw [← hf, ← hq, List.cons_append, numb, fig_lt1 hfl]
      simp only
      have hwt := wt_ok (d := d) (w := w) (t := t) (f := f) (k := k) hd (by omega) (by omega) hbp hw
      rw [if_neg (by omega), ← ht, if_neg (by omega), if_neg (by omega)]
      refine ih q hlt (k + 1) _ _ hs (by omega) ?_
      intro h2
      have h3 := bnd_mono k bias h2
      rw [← ht] at h3
      have := hw h3
      rw [h3, this, Nat.add_sub_cancel]
      obtain ⟨j, rfl⟩ : ∃ j, k = j + 1 := ⟨k - 1, by omega⟩
      rw [Nat.add_sub_cancel, Nat.pow_succ]

/-- where a writer stands. -/
structure ES where
  b : List UInt8
  steps : Nat
  bias : Nat
  done : Nat
def pstep (n basic : Nat) (s : ES) (c : Nat) : Option ES :=
  if c < n then (if 4294967295 < s.steps + 1 then none else some { s with steps := s.steps + 1 })
  else if c = n then some ⟨s.b ++ figs s.steps s.bias 1, 0, beh s.steps (s.done + 1) (decide (s.done = basic)), s.done + 1⟩
  else some s
def pass (n basic : Nat) (s : ES) (l : List Nat) : Option ES := l.foldlM (pstep n basic) s
def least (l : List Nat) (n : Nat) : Nat := l.foldl (fun m c => if n ≤ c ∧ c < m then c else m) 1114112
def encF (l : List Nat) (basic : Nat) : Nat → Nat → ES → Option (List UInt8)
  | 0, _, s => some s.b
  | f + 1, n, s =>
    if s.done < l.length then
      if 4294967295 < s.steps + (least l n - n) * (s.done + 1) then none
      else match pass (least l n) basic { s with steps := s.steps + (least l n - n) * (s.done + 1) } l with
        | none => none
        | some s' => encF l basic f (least l n + 1) { s' with steps := s'.steps + 1 }
    else some s.b
def bas1 (l : List Nat) : List UInt8 := (l.filter (fun c => decide (c < 128))).map UInt8.ofNat
def head (l : List Nat) : List UInt8 := if bas1 l = [] then [] else bas1 l ++ [45]
def enc (l : List Nat) : Option (List UInt8) := encF l (bas1 l).length l.length 128 ⟨head l, 0, 72, (bas1 l).length⟩

/-- where a reader stands. -/
structure DS where
  l : List Nat
  n : Nat
  pos : Nat
  bias : Nat
  first : Bool
  s : List UInt8
def decF : Nat → DS → Int ⊕ List Nat
  | 0, d => .inr d.l
  | f + 1, d =>
    if d.s = [] then .inr d.l
    else match numb d.bias d.s 1 0 1 with
      | .inl e => .inl e
      | .inr (x, r) =>
        if 4294967295 < d.pos + x then .inl 6
        else if 1114111 < d.n + (d.pos + x) / (d.l.length + 1) then .inl 4
        else if 4096 < d.l.length + 1 then .inl 3
        else decF f ⟨d.l.take ((d.pos + x) % (d.l.length + 1)) ++ (d.n + (d.pos + x) / (d.l.length + 1)) :: d.l.drop ((d.pos + x) % (d.l.length + 1)), d.n + (d.pos + x) / (d.l.length + 1), (d.pos + x) % (d.l.length + 1) + 1, beh x (d.l.length + 1) d.first, false, r⟩
/-- where the last hyphen stands, and one more; 0: nowhere. -/
def dash : List UInt8 → Nat
  | [] => 0
  | c :: r => if dash r ≠ 0 then dash r + 1 else if c = 45 then 1 else 0
theorem dash_le (s : List UInt8) : dash s ≤ s.length := by
  induction s with
  | nil => simp [dash]
  | cons c r ih => simp only [dash, List.length_cons]; split <;> (try split) <;> omega
theorem dash_none {s : List UInt8} (h : ∀ c ∈ s, c ≠ 45) : dash s = 0 := by
  induction s with
  | nil => rfl
  | cons c r ih =>
    have := ih (fun x hx => h x (List.mem_cons_of_mem _ hx))
    simp only [dash, this]
    rw [if_neg (by simp), if_neg (h c List.mem_cons_self)]
theorem dash_snoc (s : List UInt8) (c : UInt8) : dash (s ++ [c]) = if c = 45 then s.length + 1 else dash s := by
  induction s with
  | nil => simp [dash]
  | cons x r ih =>
    rw [List.cons_append]
    simp only [dash, ih, List.length_cons]
    by_cases h : c = 45
    · simp [h]
    · simp [h]
theorem dash_app (a e : List UInt8) (h : ∀ c ∈ e, c ≠ 45) : dash (a ++ 45 :: e) = a.length + 1 := by
  induction a with
  | nil => simp [dash, dash_none h]
  | cons x r ih =>
    rw [List.cons_append]
    simp only [dash, ih, List.length_cons]
    simp
def bas (s : List UInt8) : Int ⊕ (List Nat × List UInt8) :=
  if (s.take (dash s - 1)).all (fun c => decide (c.toNat < 128)) = true then
    if 4096 < dash s - 1 then .inl 3 else .inr ((s.take (dash s - 1)).map UInt8.toNat, s.drop (dash s))
  else .inl 5
def dec (s : List UInt8) : Int ⊕ List Nat :=
  if 32768 < s.length then .inl 3
  else match bas s with
    | .inl e => .inl e
    | .inr (l, r) => decF r.length ⟨l, 128, 0, 72, true, r⟩
end Pu
end Go.Proofs.Ytnelaegjcpkmdaa
