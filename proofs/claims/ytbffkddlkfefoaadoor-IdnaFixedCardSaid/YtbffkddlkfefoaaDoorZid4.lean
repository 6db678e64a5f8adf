/- Contracts and plain lemmas of our own, merged. -/
import Derived.Lib.Hide
/- Punycode in plain words: what is written, what is read; and what is written is read. No program in sight. -/
namespace Go.Proofs.YtbffkddlkfefoaaDoor
namespace Pu

def bnd (k bias : Nat) : Nat := min (max (36 * k - bias) 1) 26
theorem bnd_le (k bias : Nat) : bnd k bias ≤ 26 := by unfold bnd; omega
theorem bnd_pos (k bias : Nat) : 1 ≤ bnd k bias := by unfold bnd; omega
theorem bnd_mono (k bias : Nat) (h : bnd (k + 1) bias = 1) : bnd k bias = 1 := by unfold bnd at *; omega

def red (d j : Nat) : Nat × Nat := if 455 < d then red (d / 35) (j + 1) else (d, j)
termination_by d
decreasing_by omega
theorem red_stop {d j : Nat} (h : ¬ 455 < d) : red d j = (d, j) := by rw [red, if_neg h]
theorem red_go {d j : Nat} (h : 455 < d) : red d j = red (d / 35) (j + 1) := by rw [red, if_pos h]
theorem red_bds (d : Nat) : ∀ j : Nat, (red d j).1 ≤ 455 ∧ (red d j).2 ≤ j + d := by
  induction d using Nat.strongRecOn with
  | ind d ih =>
    intro j
    by_cases h : 455 < d
    · rw [red_go h]
      have := ih (d / 35) (by omega) (j + 1)
      omega
    · rw [red_stop h]
      dsimp only
      omega
def first2 (d : Nat) (first : Bool) : Nat := if first then d / 700 else d / 2
def beh (d n : Nat) (first : Bool) : Nat :=
  36 * (red (first2 d first + first2 d first / n) 0).2 + 36 * (red (first2 d first + first2 d first / n) 0).1 / ((red (first2 d first + first2 d first / n) 0).1 + 38)
theorem first2_le (d : Nat) (first : Bool) : first2 d first ≤ d := by unfold first2; cases first <;> simp <;> omega
theorem beh_le (d n : Nat) (first : Bool) : beh d n first ≤ 36 * (2 * d) + 36 * 455 := by
  unfold beh
  obtain ⟨h1, h2⟩ := red_bds (first2 d first + first2 d first / n) 0
  have h3 := first2_le d first
  have h4 : first2 d first / n ≤ first2 d first := Nat.div_le_self _ _
  have h5 : 36 * (red (first2 d first + first2 d first / n) 0).1 / ((red (first2 d first + first2 d first / n) 0).1 + 38) ≤ 36 * (red (first2 d first + first2 d first / n) 0).1 := Nat.div_le_self _ _
  omega

/-- a figure, written. -/
def lt1 (n : Nat) : UInt8 := UInt8.ofNat (if n < 26 then 97 + n else 22 + n)
def fig (c : UInt8) : Option Nat :=
  if 97 ≤ c.toNat ∧ c.toNat ≤ 122 then some (c.toNat - 97) else if 65 ≤ c.toNat ∧ c.toNat ≤ 90 then some (c.toNat - 65) else if 48 ≤ c.toNat ∧ c.toNat ≤ 57 then some (c.toNat - 22) else none
theorem fig_lt1 {n : Nat} (h : n < 36) : fig (lt1 n) = some n := by
  have : ∀ n : Fin 36, fig (lt1 n.val) = some n.val := by decide +kernel
  exact this ⟨n, h⟩
theorem lt1_ok {n : Nat} (h : n < 36) : (lt1 n).toNat < 128 ∧ lt1 n ≠ 45 := by
  have : ∀ n : Fin 36, (lt1 n.val).toNat < 128 ∧ lt1 n.val ≠ 45 := by decide +kernel
  exact this ⟨n, h⟩
theorem fig_bd {c : UInt8} {f : Nat} (h : fig c = some f) : f ≤ 35 := by
  unfold fig at h
  split at h
  · injection h with h; omega
  · split at h
    · injection h with h; omega
    · split at h
      · injection h with h; omega
      · cases h

theorem div_lt {n t : Nat} (h1 : 1 ≤ t) (h : ¬ n < t) : (n - t) / (36 - t) < n := by
  have : (n - t) / (36 - t) ≤ n - t := Nat.div_le_self _ _
  omega
def figs (n bias k : Nat) : List UInt8 :=
  if h : n < bnd k bias then [lt1 n] else lt1 (bnd k bias + (n - bnd k bias) % (36 - bnd k bias)) :: figs ((n - bnd k bias) / (36 - bnd k bias)) bias (k + 1)
termination_by n
decreasing_by exact div_lt (bnd_pos k bias) h
theorem figs_stop {n bias k : Nat} (h : n < bnd k bias) : figs n bias k = [lt1 n] := by rw [figs, dif_pos h]
theorem figs_go {n bias k : Nat} (h : ¬ n < bnd k bias) : figs n bias k = lt1 (bnd k bias + (n - bnd k bias) % (36 - bnd k bias)) :: figs ((n - bnd k bias) / (36 - bnd k bias)) bias (k + 1) := by rw [figs, dif_neg h]
theorem fg_lt {n t : Nat} (h : t ≤ 26) : t + (n - t) % (36 - t) < 36 := by have := Nat.mod_lt (n - t) (show 0 < 36 - t by omega); omega
theorem figs_ok (n : Nat) : ∀ bias k : Nat, (∀ c ∈ figs n bias k, c.toNat < 128 ∧ c ≠ 45) ∧ 1 ≤ (figs n bias k).length := by
  induction n using Nat.strongRecOn with
  | ind n ih =>
    intro bias k
    by_cases h : n < bnd k bias
    · rw [figs_stop h]
      have := bnd_le k bias
      refine ⟨fun c hc => ?_, by simp⟩
      rw [List.mem_singleton] at hc
      subst hc
      exact lt1_ok (by omega)
    · rw [figs_go h]
      obtain ⟨i1, i2⟩ := ih _ (div_lt (bnd_pos k bias) h) bias (k + 1)
      refine ⟨fun c hc => ?_, by simp⟩
      rcases List.mem_cons.1 hc with rfl | hc
      · exact lt1_ok (fg_lt (bnd_le k bias))
      · exact i1 c hc
theorem figs_len (j : Nat) : ∀ n bias k : Nat, n < 10 ^ j → (figs n bias k).length ≤ j + 1 := by
  induction j with
  | zero => intro n bias k h; rw [figs_stop (by have := bnd_pos k bias; simp at h; omega)]; simp
  | succ j ih =>
    intro n bias k h
    by_cases h1 : n < bnd k bias
    · rw [figs_stop h1]; simp
    · rw [figs_go h1, List.length_cons]
      have hb := bnd_le k bias
      have : (n - bnd k bias) / (36 - bnd k bias) < 10 ^ j := by
        have h2 : (n - bnd k bias) / (36 - bnd k bias) ≤ (n - bnd k bias) / 10 := Nat.div_le_div_left (by omega) (by omega)
        have h3 : (n - bnd k bias) / 10 < 10 ^ j := by
          rw [Nat.pow_succ] at h
          omega
        omega
      have := ih _ bias (k + 1) this
      omega

/-- the number of the figures that bytes begin with, and the bytes behind them. -/
def numb (bias : Nat) : List UInt8 → Nat → Nat → Nat → Int ⊕ (Nat × List UInt8)
  | [], _, _, _ => .inl 5
  | c :: r, k, sum, w =>
    match fig c with
    | none => .inl 5
    | some f =>
      if 4294967295 < sum + f * w then .inl 6
      else if f < bnd k bias then .inr (sum + f * w, r)
      else if 4294967295 < w * (36 - bnd k bias) then .inl 6
      else numb bias r (k + 1) (sum + f * w) (w * (36 - bnd k bias))

theorem wt_ok {d w t f k : Nat} (hd : d ≤ 250000000) (hf : f * w ≤ d) (ht : t ≤ f) (h1 : 1 ≤ t) (hk : t = 1 → w = 35 ^ (k - 1)) : w * (36 - t) ≤ 4294967295 := by
  have h2 : t * w ≤ d := Nat.le_trans (Nat.mul_le_mul_right w ht) hf
  by_cases h : t = 1
  · have hw := hk h
    subst h
    have h3 : w ≤ 250000000 := by omega
    have h4 : k - 1 ≤ 5 := by
      rcases Nat.lt_or_ge 5 (k - 1) with h5 | h5
      · have : 35 ^ 6 ≤ 35 ^ (k - 1) := Nat.pow_le_pow_right (by omega) (by omega)
        rw [← hw] at this
        simp at this
        omega
      · exact h5
    have : w ≤ 35 ^ 5 := by rw [hw]; exact Nat.pow_le_pow_right (by omega) h4
    simp at this
    omega
  · have h3 : 2 * w ≤ d := Nat.le_trans (Nat.mul_le_mul_right w (show 2 ≤ t by omega)) h2
    have h4 : w * (36 - t) ≤ w * 34 := Nat.mul_le_mul_left w (by omega)
    omega

theorem numb_figs (bias : Nat) (r : List UInt8) (d : Nat) (hd : d ≤ 250000000) (n : Nat) : ∀ k sum w : Nat, sum + n * w = d → 1 ≤ k → (bnd k bias = 1 → w = 35 ^ (k - 1)) → numb bias (figs n bias k ++ r) k sum w = .inr (d, r) := by
  induction n using Nat.strongRecOn with
  | ind n ih =>
    intro k sum w h hk hw
    have hbl := bnd_le k bias
    have hbp := bnd_pos k bias
    by_cases h1 : n < bnd k bias
    · rw [figs_stop h1]
      simp only [List.cons_append, List.nil_append, numb]
      rw [fig_lt1 (by omega)]
      simp only
      rw [if_neg (by omega), if_pos h1, h]
    · rw [figs_go h1]
      obtain ⟨t, ht⟩ : ∃ t, t = bnd k bias := ⟨_, rfl⟩
      rw [← ht] at h1 hbl hbp hw ⊢
      have hm := Nat.div_add_mod (n - t) (36 - t)
      obtain ⟨q, hq⟩ : ∃ q, q = (n - t) / (36 - t) := ⟨_, rfl⟩
      obtain ⟨f, hf⟩ : ∃ f, f = t + (n - t) % (36 - t) := ⟨_, rfl⟩
      have hfl : f < 36 := by rw [hf]; exact fg_lt hbl
      rw [← hq] at hm
      have hn : n = f + (36 - t) * q := by rw [hf]; omega
      have hs : sum + f * w + q * (w * (36 - t)) = d := by
        rw [← h, hn, Nat.add_mul, Nat.add_assoc]
        congr 2
        rw [Nat.mul_comm w, ← Nat.mul_assoc, Nat.mul_comm q]
      have hlt : q < n := by rw [hq]; exact div_lt hbp h1
      rw [← hf, ← hq, List.cons_append, numb, fig_lt1 hfl]
      simp only
      have hwt := wt_ok (d := d) (w := w) (t := t) (f := f) (k := k) hd (by omega) (by omega) hbp hw
      rw [if_neg (by omega), ← ht, if_neg (by omega), if_neg (by omega)]
      refine ih q hlt (k + 1) _ _ hs (by omega) ?_
      intro h2
      have h3 := bnd_mono k bias h2
      rw [← ht] at h3
      have := hw h3
      rw [h3, this, Nat.add_sub_cancel]
      obtain ⟨j, rfl⟩ : ∃ j, k = j + 1 := ⟨k - 1, by omega⟩
      rw [Nat.add_sub_cancel, Nat.pow_succ]

/-- where a writer stands. -/
structure ES where
  b : List UInt8
  steps : Nat
  bias : Nat
  done : Nat
def pstep (n basic : Nat) (s : ES) (c : Nat) : Option ES :=
  if c < n then (if 4294967295 < s.steps + 1 then none else some { s with steps := s.steps + 1 })
  else if c = n then some ⟨s.b ++ figs s.steps s.bias 1, 0, beh s.steps (s.done + 1) (decide (s.done = basic)), s.done + 1⟩
  else some s
def pass (n basic : Nat) (s : ES) (l : List Nat) : Option ES := l.foldlM (pstep n basic) s
def least (l : List Nat) (n : Nat) : Nat := l.foldl (fun m c => if n ≤ c ∧ c < m then c else m) 1114112
def encF (l : List Nat) (basic : Nat) : Nat → Nat → ES → Option (List UInt8)
  | 0, _, s => some s.b
  | f + 1, n, s =>
    if s.done < l.length then
      if 4294967295 < s.steps + (least l n - n) * (s.done + 1) then none
      else match pass (least l n) basic { s with steps := s.steps + (least l n - n) * (s.done + 1) } l with
        | none => none
        | some s' => encF l basic f (least l n + 1) { s' with steps := s'.steps + 1 }
    else some s.b
def bas1 (l : List Nat) : List UInt8 := (l.filter (fun c => decide (c < 128))).map UInt8.ofNat
def head (l : List Nat) : List UInt8 := if bas1 l = [] then [] else bas1 l ++ [45]
def enc (l : List Nat) : Option (List UInt8) := encF l (bas1 l).length l.length 128 ⟨head l, 0, 72, (bas1 l).length⟩

/-- where a reader stands. -/
structure DS where
  l : List Nat
  n : Nat
  pos : Nat
  bias : Nat
  first : Bool
  s : List UInt8
def decF : Nat → DS → Int ⊕ List Nat
  | 0, d => .inr d.l
  | f + 1, d =>
    if d.s = [] then .inr d.l
    else match numb d.bias d.s 1 0 1 with
      | .inl e => .inl e
      | .inr (x, r) =>
        if 4294967295 < d.pos + x then .inl 6
        else if 1114111 < d.n + (d.pos + x) / (d.l.length + 1) then .inl 4
        else if 4096 < d.l.length + 1 then .inl 3
        else decF f ⟨d.l.take ((d.pos + x) % (d.l.length + 1)) ++ (d.n + (d.pos + x) / (d.l.length + 1)) :: d.l.drop ((d.pos + x) % (d.l.length + 1)), d.n + (d.pos + x) / (d.l.length + 1), (d.pos + x) % (d.l.length + 1) + 1, beh x (d.l.length + 1) d.first, false, r⟩
/-- where the last hyphen stands, and one more; 0: nowhere. -/
def dash : List UInt8 → Nat
  | [] => 0
  | c :: r => if dash r ≠ 0 then dash r + 1 else if c = 45 then 1 else 0
theorem dash_le (s : List UInt8) : dash s ≤ s.length := by
  induction s with
  | nil => simp [dash]
  | cons c r ih => simp only [dash, List.length_cons]; split <;> (try split) <;> omega
theorem dash_none {s : List UInt8} (h : ∀ c ∈ s, c ≠ 45) : dash s = 0 := by
  induction s with
  | nil => rfl
  | cons c r ih =>
    have := ih (fun x hx => h x (List.mem_cons_of_mem _ hx))
    simp only [dash, this]
    rw [if_neg (by simp), if_neg (h c List.mem_cons_self)]
theorem dash_app (a e : List UInt8) (h : ∀ c ∈ e, c ≠ 45) : dash (a ++ 45 :: e) = a.length + 1 := by
  induction a with
  | nil => simp [dash, dash_none h]
  | cons x r ih =>
    rw [List.cons_append]
    simp only [dash, ih, List.length_cons]
    simp
def bas (s : List UInt8) : Int ⊕ (List Nat × List UInt8) :=
  if (s.take (dash s - 1)).all (fun c => decide (c.toNat < 128)) = true then
    if 4096 < dash s - 1 then .inl 3 else .inr ((s.take (dash s - 1)).map UInt8.toNat, s.drop (dash s))
  else .inl 5
def dec (s : List UInt8) : Int ⊕ List Nat :=
  if 32768 < s.length then .inl 3
  else match bas s with
    | .inl e => .inl e
    | .inr (l, r) => decF r.length ⟨l, 128, 0, 72, true, r⟩
end Pu
end Go.Proofs.YtbffkddlkfefoaaDoor

/- Punycode in plain words: what is written is read. No program in sight. -/
namespace Go.Proofs.YtbffkddlkfefoaaDoor
namespace Pu

theorem foldlM_app {α β : Type} (g : β → α → Option β) (s : β) (l : List α) (c : α) : (l ++ [c]).foldlM g s = (l.foldlM g s).bind (fun s' => g s' c) := by
  induction l generalizing s with
  | nil => simp [List.foldlM]
  | cons x r ih =>
    rw [List.cons_append]
    simp only [List.foldlM]
    cases h : g s x with
    | none => rfl
    | some y => exact ih y
theorem pass_next {n basic : Nat} {s : ES} {l : List Nat} {i : Nat} (h : i < l.length) : pass n basic s (l.take (i + 1)) = (pass n basic s (l.take i)).bind (fun s' => pstep n basic s' l[i]) := by
  unfold pass
  rw [List.take_succ_eq_append_getElem h, foldlM_app]
theorem pass_all (n basic : Nat) (s : ES) (l : List Nat) : pass n basic s (l.take l.length) = pass n basic s l := by rw [List.take_length]

theorem least_from (n : Nat) (l : List Nat) : ∀ M : Nat, (l.foldl (fun m c => if n ≤ c ∧ c < m then c else m) M = M ∨ (l.foldl (fun m c => if n ≤ c ∧ c < m then c else m) M ∈ l ∧ n ≤ l.foldl (fun m c => if n ≤ c ∧ c < m then c else m) M)) ∧
    l.foldl (fun m c => if n ≤ c ∧ c < m then c else m) M ≤ M ∧ ∀ c ∈ l, n ≤ c → l.foldl (fun m c => if n ≤ c ∧ c < m then c else m) M ≤ c := by
  induction l with
  | nil => intro M; simp
  | cons x r ih =>
    intro M
    rw [List.foldl_cons]
    by_cases h : n ≤ x ∧ x < M
    · rw [if_pos h]
      obtain ⟨i1, i2, i3⟩ := ih x
      refine ⟨Or.inr ?_, by omega, fun c hc hn => ?_⟩
      · rcases i1 with i1 | ⟨i1, i1'⟩
        · rw [i1]; exact ⟨List.mem_cons_self, h.1⟩
        · exact ⟨List.mem_cons_of_mem _ i1, i1'⟩
      · rcases List.mem_cons.1 hc with rfl | hc
        · exact i2
        · exact i3 c hc hn
    · rw [if_neg h]
      obtain ⟨i1, i2, i3⟩ := ih M
      refine ⟨?_, i2, fun c hc hn => ?_⟩
      · rcases i1 with i1 | ⟨i1, i1'⟩
        · exact Or.inl i1
        · exact Or.inr ⟨List.mem_cons_of_mem _ i1, i1'⟩
      · rcases List.mem_cons.1 hc with rfl | hc
        · have : M ≤ c := by omega
          omega
        · exact i3 c hc hn
theorem filt_lt {l : List Nat} {p r : Nat → Bool} (h : ∀ x, p x = true → r x = true) {a : Nat} (ha : a ∈ l) (h1 : p a = false) (h2 : r a = true) : (l.filter p).length < (l.filter r).length := by
  have hle : ∀ m : List Nat, (m.filter p).length ≤ (m.filter r).length := by
    intro m
    induction m with
    | nil => simp
    | cons x m ih =>
      rcases hp : p x with _ | _
      · rcases hr : r x with _ | _ <;> simp [hp, hr] <;> omega
      · simp [hp, h x hp]; omega
  induction l with
  | nil => simp at ha
  | cons x m ih =>
    rcases List.mem_cons.1 ha with rfl | ha
    · simp only [List.filter_cons, h1, h2, if_true, List.length_cons]
      have := hle m
      simp
      omega
    · have := ih ha
      rcases hp : p x with _ | _
      · rcases hr : r x with _ | _ <;> simp [hp, hr] <;> omega
      · simp [hp, h x hp]; omega
/-- the points below n. -/
def bel (l : List Nat) (n : Nat) : List Nat := l.filter (fun c => decide (c < n))
theorem bel_le (l : List Nat) (n : Nat) : (bel l n).length ≤ l.length := List.length_filter_le _ _
theorem bel_some {l : List Nat} {n : Nat} (h : (bel l n).length < l.length) : ∃ c ∈ l, n ≤ c := by
  apply Classical.byContradiction
  intro hno
  have : bel l n = l := by
    unfold bel
    rw [List.filter_eq_self]
    intro c hc
    simp
    exact Classical.byContradiction fun h' => hno ⟨c, hc, by omega⟩
  rw [this] at h
  omega
theorem bel_all {l : List Nat} {n : Nat} (h : l.length ≤ (bel l n).length) : bel l n = l := by
  unfold bel at *
  rw [List.filter_eq_self]
  exact List.length_filter_eq_length_iff.1 (by have := List.length_filter_le (fun c => decide (c < n)) l; omega)
theorem least_spec {l : List Nat} {n : Nat} (hl : ∀ c ∈ l, c < 1114112) (h : (bel l n).length < l.length) : least l n ∈ l ∧ n ≤ least l n ∧ (∀ c ∈ l, n ≤ c → least l n ≤ c) := by
  obtain ⟨c, hc, hn⟩ := bel_some h
  obtain ⟨h1, h2, h3⟩ := least_from n l 1114112
  have h4 := h3 c hc hn
  have h5 := hl c hc
  have : least l n = l.foldl (fun m c => if n ≤ c ∧ c < m then c else m) 1114112 := rfl
  rw [← this] at h1 h2 h3 h4
  rcases h1 with h1 | ⟨h1, h1'⟩
  · omega
  · exact ⟨h1, h1', h3⟩
theorem bel_jump {l : List Nat} {n m : Nat} (hnm : n ≤ m) (h : ∀ c ∈ l, n ≤ c → m ≤ c) : bel l m = bel l n := by
  unfold bel
  apply List.filter_congr
  intro c hc
  have := h c hc
  rw [Bool.eq_iff_iff]
  simp
  omega
theorem bel_more {l : List Nat} {n m : Nat} (hm : m ∈ l) (hnm : n ≤ m) : (bel l n).length < (bel l (m + 1)).length := by
  unfold bel
  exact filt_lt (a := m) (fun x hx => by simp at hx ⊢; omega) hm (by simp; omega) (by simp)

/-- what the reader has when the writer stands at place i of the pass of n. -/
def Lp (l : List Nat) (n i : Nat) : List Nat := (l.take i).filter (fun c => decide (c ≤ n)) ++ (l.drop i).filter (fun c => decide (c < n))
def qp (l : List Nat) (n i : Nat) : Nat := ((l.take i).filter (fun c => decide (c ≤ n))).length
theorem Lp_zero (l : List Nat) (n : Nat) : Lp l n 0 = bel l n ∧ qp l n 0 = 0 := by simp [Lp, qp, bel]
theorem Lp_all (l : List Nat) (n : Nat) : Lp l n l.length = bel l (n + 1) ∧ qp l n l.length = (bel l (n + 1)).length := by
  have : (l.filter fun c => decide (c ≤ n)) = bel l (n + 1) := by
    unfold bel
    apply List.filter_congr
    intro c _
    rw [Bool.eq_iff_iff]; simp; omega
  simp [Lp, qp, this]
theorem Lp_len (l : List Nat) (n i : Nat) : qp l n i ≤ (Lp l n i).length ∧ (Lp l n i).length ≤ l.length := by
  unfold Lp qp
  rw [List.length_append]
  have h1 := List.length_filter_le (fun c => decide (c ≤ n)) (l.take i)
  have h2 := List.length_filter_le (fun c => decide (c < n)) (l.drop i)
  rw [List.length_take] at h1
  rw [List.length_drop] at h2
  omega
theorem take_nx {l : List Nat} {i : Nat} (h : i < l.length) : l.take (i + 1) = l.take i ++ [l[i]] := List.take_succ_eq_append_getElem h
theorem drop_nx {l : List Nat} {i : Nat} (h : i < l.length) : l.drop i = l[i] :: l.drop (i + 1) := List.drop_eq_getElem_cons h
theorem Lp_lt {l : List Nat} {n i : Nat} (h : i < l.length) (hc : l[i] < n) : Lp l n (i + 1) = Lp l n i ∧ qp l n (i + 1) = qp l n i + 1 := by
  unfold Lp qp
  have h1 : decide (l[i] ≤ n) = true := by simp; omega
  have h2 : decide (l[i] < n) = true := by simp; omega
  rw [take_nx h, drop_nx h]
  simp only [List.filter_append, List.filter_cons, List.filter_nil, h1, h2, if_true, List.append_assoc, List.cons_append, List.nil_append, List.length_append, List.length_cons, List.length_nil, and_self]
theorem Lp_gt {l : List Nat} {n i : Nat} (h : i < l.length) (hc : n < l[i]) : Lp l n (i + 1) = Lp l n i ∧ qp l n (i + 1) = qp l n i := by
  unfold Lp qp
  have h1 : decide (l[i] ≤ n) = false := by simp; omega
  have h2 : decide (l[i] < n) = false := by simp; omega
  rw [take_nx h, drop_nx h]
  simp only [List.filter_append, List.filter_cons, List.filter_nil, h1, h2, List.append_nil, and_self, Bool.false_eq_true, if_false]
theorem Lp_eq {l : List Nat} {n i : Nat} (h : i < l.length) (hc : l[i] = n) : Lp l n (i + 1) = (Lp l n i).take (qp l n i) ++ n :: (Lp l n i).drop (qp l n i) ∧ qp l n (i + 1) = qp l n i + 1 := by
  unfold Lp qp
  have h1 : decide (l[i] ≤ n) = true := by simp; omega
  have h2 : decide (l[i] < n) = false := by simp; omega
  rw [take_nx h, drop_nx h]
  simp only [List.filter_append, List.filter_cons, List.filter_nil, h1, h2, if_true, Bool.false_eq_true, if_false]
  rw [List.take_left' rfl, List.drop_left' rfl]
  simp [hc]

/-- one number more is read. -/
theorem decF_step {L : List Nat} {n0 p0 bias steps n q : Nat} {first : Bool} {R : List UInt8} {f : Nat} (hs : steps ≤ 250000000) (hq : q ≤ L.length) (hn : n0 ≤ n) (hN : n ≤ 1114111) (hL : L.length + 1 ≤ 4096)
    (he : steps + n0 * (L.length + 1) + p0 = n * (L.length + 1) + q) (hp : p0 + steps ≤ 4294967295) :
    decF (f + 1) ⟨L, n0, p0, bias, first, figs steps bias 1 ++ R⟩ = decF f ⟨L.take q ++ n :: L.drop q, n, q + 1, beh steps (L.length + 1) first, false, R⟩ := by
  have hne : ¬ figs steps bias 1 ++ R = [] := by
    intro h
    have h1 := (figs_ok steps bias 1).2
    have := (List.append_eq_nil_iff.1 h).1
    rw [this] at h1
    simp at h1
  have hpe : p0 + steps = (L.length + 1) * (n - n0) + q := by
    obtain ⟨j, rfl⟩ : ∃ j, n = n0 + j := ⟨n - n0, by omega⟩
    rw [Nat.add_mul] at he
    rw [Nat.add_sub_cancel_left, Nat.mul_comm]
    omega
  have hdiv : (p0 + steps) / (L.length + 1) = n - n0 := by
    rw [hpe, Nat.mul_add_div (by omega), Nat.div_eq_of_lt (by omega), Nat.add_zero]
  have hmod : (p0 + steps) % (L.length + 1) = q := by
    rw [hpe, Nat.mul_add_mod, Nat.mod_eq_of_lt (by omega)]
  rw [decF]
  simp only
  rw [if_neg hne, numb_figs bias R steps hs steps 1 0 1 (by omega) (by omega) (fun _ => rfl)]
  simp only
  rw [if_neg (by omega), hdiv, hmod, if_neg (by omega), if_neg (by omega), show n0 + (n - n0) = n by omega]

/-- the writer's state, and what the reader has made of what is written so far. -/
def Inv (l : List Nat) (basic : Nat) (hd : List UInt8) (n i : Nat) (s : ES) : Prop :=
  ∃ (em : List UInt8) (k n0 p0 : Nat), s.b = hd ++ em ∧ s.done = basic + k ∧ k ≤ em.length ∧ em.length ≤ 10 * k ∧ (∀ c ∈ em, c.toNat < 128 ∧ c ≠ 45) ∧ n0 ≤ n ∧
    s.steps + n0 * (s.done + 1) + p0 = n * (s.done + 1) + qp l n i ∧ s.done = (Lp l n i).length ∧
    ∀ (R : List UInt8) (f : Nat), decF (f + k) ⟨bel l 128, 128, 0, 72, true, em ++ R⟩ = decF f ⟨Lp l n i, n0, p0, s.bias, decide (s.done = basic), R⟩

theorem bound_le {n d q len N : Nat} (hn : n < N) (hd : d ≤ len) (hq : q ≤ len) (hN : N * (len + 1) ≤ 250000000) : n * (d + 1) + q ≤ 250000000 := by
  have h1 : n * (d + 1) ≤ n * (len + 1) := Nat.mul_le_mul_left n (by omega)
  have h2 : (n + 1) * (len + 1) ≤ N * (len + 1) := Nat.mul_le_mul_right _ (by omega)
  rw [Nat.add_mul] at h2
  omega

theorem Inv.step {l : List Nat} {basic : Nat} {hd : List UInt8} {n i N : Nat} {s : ES} (h : Inv l basic hd n i s) (hi : i < l.length) (hn : n < N) (hN : N * (l.length + 1) ≤ 250000000) (hN2 : N ≤ 1114112) (hlen : l.length ≤ 4096) :
    ∃ s', pstep n basic s l[i] = some s' ∧ Inv l basic hd n (i + 1) s' := by
  obtain ⟨em, k, n0, p0, h1, h2, h3, h3', h4, h5, h6, h7, h8⟩ := h
  obtain ⟨g1, g2⟩ := Lp_len l n i
  unfold pstep
  rcases Nat.lt_trichotomy l[i] n with hc | hc | hc
  · obtain ⟨e1, e2⟩ := Lp_lt hi hc
    obtain ⟨g3, g4⟩ := Lp_len l n (i + 1)
    have hb := bound_le (d := s.done) (q := qp l n (i + 1)) hn (by omega) (by omega) hN
    rw [if_pos hc, if_neg (by omega)]
    refine ⟨_, rfl, em, k, n0, p0, h1, h2, h3, h3', h4, h5, ?_, ?_, ?_⟩
    · dsimp only; omega
    · rw [e1]; exact h7
    · rw [e1]; exact h8
  · obtain ⟨e1, e2⟩ := Lp_eq hi hc
    obtain ⟨g3, g4⟩ := Lp_len l n (i + 1)
    have hb := bound_le (d := s.done) (q := qp l n i) hn (by omega) (by omega) hN
    have hl1 : (Lp l n (i + 1)).length = s.done + 1 := by
      rw [e1, List.length_append, List.length_cons, List.length_take, List.length_drop]; omega
    have hfl := figs_len 9 s.steps s.bias 1 (by simp; omega)
    have hfk := figs_ok s.steps s.bias 1
    rw [if_neg (by omega), if_pos hc]
    refine ⟨_, rfl, em ++ figs s.steps s.bias 1, k + 1, n, qp l n (i + 1), ?_, ?_, ?_, ?_, ?_, Nat.le_refl _, ?_, hl1.symm, ?_⟩
    · simp [h1]
    · dsimp only; omega
    · rw [List.length_append]; omega
    · rw [List.length_append]; omega
    · intro c hc
      rcases List.mem_append.1 hc with hc | hc
      · exact h4 c hc
      · exact hfk.1 c hc
    · dsimp only; omega
    · intro R f
      have e0 := h8 (figs s.steps s.bias 1 ++ R) (f + 1)
      rw [List.append_assoc, show f + (k + 1) = f + 1 + k by omega, e0]
      rw [decF_step (n := n) (q := qp l n i) (by omega) g1 h5 (by omega) (by omega) (by rw [← h7]; exact h6) (by omega), ← e1, e2]
      dsimp only
      rw [h7, show decide ((Lp l n i).length + 1 = basic) = false by simp; omega]
  · obtain ⟨e1, e2⟩ := Lp_gt hi hc
    rw [if_neg (by omega), if_neg (by omega)]
    refine ⟨_, rfl, em, k, n0, p0, h1, h2, h3, h3', h4, h5, ?_, ?_, ?_⟩
    · rw [e2]; exact h6
    · rw [e1]; exact h7
    · rw [e1]; exact h8

theorem Inv.pass {l : List Nat} {basic : Nat} {hd : List UInt8} {n N : Nat} {s : ES} (h : Inv l basic hd n 0 s) (hn : n < N) (hN : N * (l.length + 1) ≤ 250000000) (hN2 : N ≤ 1114112) (hlen : l.length ≤ 4096) :
    ∃ s', Pu.pass n basic s l = some s' ∧ Inv l basic hd n l.length s' := by
  have hall : ∀ i, i ≤ l.length → ∃ s', Pu.pass n basic s (l.take i) = some s' ∧ Inv l basic hd n i s' := by
    intro i
    induction i with
    | zero => intro _; exact ⟨s, by simp [Pu.pass], h⟩
    | succ i ih =>
      intro hi
      obtain ⟨s1, e1, i1⟩ := ih (by omega)
      obtain ⟨s2, e2, i2⟩ := i1.step (by omega) hn hN hN2 hlen
      exact ⟨s2, by rw [pass_next (by omega), e1]; exact e2, i2⟩
  have := hall l.length (Nat.le_refl _)
  rwa [pass_all] at this

theorem enc_rounds {l : List Nat} {basic : Nat} {hd : List UInt8} {N : Nat} (hl : ∀ c ∈ l, c < N) (hN : N * (l.length + 1) ≤ 250000000) (hN2 : N ≤ 1114112) (hlen : l.length ≤ 4096) (f : Nat) :
    ∀ (n : Nat) (s : ES), Inv l basic hd n 0 s → l.length - s.done ≤ f → ∃ em k, encF l basic f n s = some (hd ++ em) ∧ k ≤ em.length ∧ em.length ≤ 10 * k ∧ k ≤ l.length ∧ (∀ c ∈ em, c.toNat < 128 ∧ c ≠ 45) ∧ ∀ f', decF (f' + k) ⟨bel l 128, 128, 0, 72, true, em⟩ = .inr l := by
  have fin : ∀ (n : Nat) (s : ES), Inv l basic hd n 0 s → l.length ≤ s.done → ∃ em k, some s.b = some (hd ++ em) ∧ k ≤ em.length ∧ em.length ≤ 10 * k ∧ k ≤ l.length ∧ (∀ c ∈ em, c.toNat < 128 ∧ c ≠ 45) ∧ ∀ f', decF (f' + k) ⟨bel l 128, 128, 0, 72, true, em⟩ = .inr l := by
    rintro n s ⟨em, k, n0, p0, h1, h2, h3, h3', h4, h5, h6, h7, h8⟩ hd
    rw [(Lp_zero l n).1] at h7 h8
    have hA := bel_all (l := l) (n := n) (by omega)
    rw [hA] at h7 h8
    refine ⟨em, k, by rw [h1], h3, h3', by omega, h4, fun f' => ?_⟩
    have := h8 [] f'
    rw [List.append_nil] at this
    rw [this]
    cases f' <;> simp [decF]
  induction f with
  | zero =>
    intro n s h hf
    rw [encF]
    exact fin n s h (by omega)
  | succ f ih =>
    intro n s h hf
    rw [encF]
    by_cases hd1 : s.done < l.length
    · rw [if_pos hd1]
      have h' := h
      obtain ⟨em, k, n0, p0, h1, h2, h3, h3', h4, h5, h6, h7, h8⟩ := h
      obtain ⟨z1, z2⟩ := Lp_zero l n
      rw [z1] at h7
      obtain ⟨m1, m2, m3⟩ := least_spec (l := l) (n := n) (fun c hc => by have := hl c hc; omega) (by omega)
      have hmN := hl _ m1
      have hj := bel_jump m2 m3
      obtain ⟨y1, y2⟩ := Lp_zero l (least l n)
      have hinv : Inv l basic hd (least l n) 0 { s with steps := s.steps + (least l n - n) * (s.done + 1) } := by
        refine ⟨em, k, n0, p0, h1, h2, h3, h3', h4, by omega, ?_, ?_, ?_⟩
        · dsimp only
          rw [y2]
          rw [z2] at h6
          obtain ⟨j, hj'⟩ : ∃ j, least l n = n + j := ⟨least l n - n, by omega⟩
          rw [hj', Nat.add_sub_cancel_left, Nat.add_mul]
          omega
        · rw [y1, hj]; exact h7
        · rw [y1, hj, ← z1]; exact h8
      have hb : s.steps + (least l n - n) * (s.done + 1) ≤ 250000000 := by
        obtain ⟨_, _, _, _, _, _, _, _, _, _, b6, _, _⟩ := hinv
        have := bound_le (d := s.done) (q := qp l (least l n) 0) hmN (by omega) (by omega) hN
        dsimp only at b6
        omega
      rw [if_neg (by omega)]
      obtain ⟨s1, e1, i1⟩ := hinv.pass hmN hN hN2 hlen
      rw [e1]
      simp only
      obtain ⟨em1, k1, n1, p1, c1, c2, c3, c3', c4, c5, c6, c7, c8⟩ := i1
      obtain ⟨x1, x2⟩ := Lp_all l (least l n)
      obtain ⟨v1, v2⟩ := Lp_zero l (least l n + 1)
      rw [x1] at c7 c8
      rw [x2] at c6
      refine ih (least l n + 1) _ ⟨em1, k1, n1, p1, c1, c2, c3, c3', c4, by omega, ?_, ?_, ?_⟩ ?_
      · dsimp only
        rw [v2, Nat.add_mul]
        omega
      · rw [v1]; exact c7
      · rw [v1]; exact c8
      · dsimp only
        have := bel_more (n := n) m1 m2
        omega
    · rw [if_neg hd1]
      exact fin n s h (by omega)

theorem bas1_len (l : List Nat) : (bas1 l).length = (bel l 128).length := by unfold bas1 bel; rw [List.length_map]
theorem bas1_ok (l : List Nat) : (∀ c ∈ bas1 l, c.toNat < 128) ∧ (bas1 l).map UInt8.toNat = bel l 128 := by
  unfold bas1 bel
  have h : ∀ c ∈ l.filter (fun c => decide (c < 128)), (UInt8.ofNat c).toNat = c ∧ c < 128 := by
    intro c hc
    have := (List.mem_filter.1 hc).2
    simp at this
    exact ⟨UInt8.toNat_ofNat_of_lt' (by show c < 256; omega), this⟩
  constructor
  · intro c hc
    obtain ⟨x, hx, rfl⟩ := List.mem_map.1 hc
    rw [(h x hx).1]; exact (h x hx).2
  · rw [List.map_map]
    conv => rhs; rw [← List.map_id (l.filter fun c => decide (c < 128))]
    exact List.map_congr_left fun c hc => (h c hc).1

/-- WHAT IS WRITTEN IS READ. -/
theorem enc_dec {l : List Nat} {N : Nat} (hl : ∀ c ∈ l, c < N) (hN : N * (l.length + 1) ≤ 250000000) (hN2 : N ≤ 1114112) (hlen : l.length ≤ 4096) :
    ∃ em k, enc l = some (head l ++ em) ∧ k ≤ em.length ∧ em.length ≤ 10 * k ∧ k ≤ l.length ∧ (∀ c ∈ em, c.toNat < 128 ∧ c ≠ 45) ∧ ∀ f', decF (f' + k) ⟨bel l 128, 128, 0, 72, true, em⟩ = .inr l := by
  obtain ⟨z1, z2⟩ := Lp_zero l 128
  refine enc_rounds hl hN hN2 hlen l.length 128 _ ⟨[], 0, 128, 0, by simp, rfl, Nat.le_refl _, by simp, by simp, Nat.le_refl _, ?_, ?_, ?_⟩ (by simp)
  · dsimp only; rw [z2]
    omega
  · dsimp only; rw [z1, bas1_len]
  · intro R f; rw [z1]; simp
theorem head_split {l : List Nat} {em : List UInt8} (h : ∀ c ∈ em, c.toNat < 128 ∧ c ≠ 45) (hlen : l.length ≤ 4096) : bas (head l ++ em) = .inr (bel l 128, em) := by
  obtain ⟨b1, b2⟩ := bas1_ok l
  have b3 := bas1_len l
  have b4 := bel_le l 128
  unfold bas head
  by_cases h0 : bas1 l = []
  · rw [if_pos h0, List.nil_append, dash_none (fun c hc => (h c hc).2)]
    rw [h0] at b2
    simp only [List.map_nil] at b2
    simp [← b2]
  · rw [if_neg h0, List.append_assoc, List.cons_append, List.nil_append, dash_app _ _ (fun c hc => (h c hc).2), Nat.add_sub_cancel, List.take_left']
    · rw [if_pos (by rw [List.all_eq_true]; intro c hc; simpa using b1 c hc), if_neg (by omega), b2]
      congr 2
      rw [← List.drop_drop, List.drop_left']
      · rfl
      · rfl
    · rfl
theorem dec_enc {l : List Nat} {em : List UInt8} {k : Nat} (hlen : l.length ≤ 4096) (h : ∀ c ∈ em, c.toNat < 128 ∧ c ≠ 45) (hk : k ≤ em.length) (hd : ∀ f', decF (f' + k) ⟨bel l 128, 128, 0, 72, true, em⟩ = .inr l) (hs : (head l ++ em).length ≤ 32768) : dec (head l ++ em) = .inr l := by
  unfold dec
  rw [if_neg (by omega), head_split h hlen]
  simp only
  have := hd (em.length - k)
  rwa [Nat.sub_add_cancel hk] at this

end Pu
end Go.Proofs.YtbffkddlkfefoaaDoor
