/- The contract of the reference's Parse: it answers what domain.Parse does. -/
import Derived.Test.YtnelaegjcpkmdaaDomD
namespace Go.Proofs.Ytnelaegjcpkmdaa
open Go.RowKit
attribute [local go_sem] ba_get ext_take ext_drop

/-- what is to come within a label of which b has been read. -/
def mid (n : List (List UInt8)) (b r : List UInt8) : Int ⊕ (List (List UInt8) × Bool) := match one r with
  | none => .inl 5
  | some (b', m) => if b ++ b' = [] then .inl 8 else if 63 < (b ++ b').length then .inl 7 else prsR (n ++ [b ++ b']) (decide (m < r.length)) (r.drop (m + if m < r.length then 1 else 0))
def fin (n : List (List UInt8)) (dot : Bool) : Int ⊕ (List (List UInt8) × Bool) := if 255 < sz n then .inl 3 else .inr (n, dot)
/-- what is to come, whatever was read. -/
def St (n : List (List UInt8)) (b : List UInt8) (dot : Bool) (r : List UInt8) : Int ⊕ (List (List UInt8) × Bool) := if dot = true ∧ r = [] then fin n true else mid n b r
theorem mid_prsR {n : List (List UInt8)} {r : List UInt8} (d : Bool) (hr : r ≠ []) : mid n [] r = prsR n d r := by
  by_cases he : (oneE r).1 = 0
  · rw [prsR_ok hr he]
    unfold mid
    unfold oneE at he ⊢
    rcases h : one r with _ | ⟨b, m⟩
    · rw [h] at he; cases he
    · rw [h] at he
      dsimp only at he ⊢
      by_cases h0 : b = []
      · rw [if_pos h0] at he; cases he
      · rw [if_neg h0] at he
        by_cases h1 : 63 < b.length
        · rw [if_pos h1] at he; cases he
        · simp [h0, h1]
  · rw [prsR_err hr he]
    unfold mid
    unfold oneE at he ⊢
    rcases h : one r with _ | ⟨b, m⟩
    · rfl
    · rw [h] at he
      dsimp only at he ⊢
      by_cases h0 : b = []
      · simp [h0]
      · rw [if_neg h0] at he
        by_cases h1 : 63 < b.length
        · simp [h0, h1]
        · rw [if_neg h1] at he; exact absurd rfl he
theorem mid_step {n : List (List UInt8)} {b r : List UInt8} {c : UInt8} {m : Nat} (he : ends r = false) (hs : stp r = some (c, m)) : mid n b r = mid n (b ++ [c]) (r.drop m) := by
  have hb := stp_bd hs
  unfold mid
  rw [one_some he hs]
  rcases h : one (r.drop m) with _ | ⟨b', m'⟩
  · rfl
  · have hb' := one_bd h
    rw [List.length_drop] at hb'
    simp only [Option.map_some, List.append_assoc, List.cons_append, List.nil_append, List.length_drop]
    have e : (m + m' < r.length) = (m' < r.length - m) := by rw [eq_iff_iff]; omega
    simp only [e, List.drop_drop, Nat.add_assoc]
theorem mid_none {n : List (List UInt8)} {b r : List UInt8} (he : ends r = false) (hs : stp r = none) : mid n b r = .inl 5 := by
  unfold mid; rw [one_none he hs]
theorem mid_end {n : List (List UInt8)} {b r : List UInt8} (he : ends r = true) : mid n b r = if b = [] then .inl 8 else if 63 < b.length then .inl 7 else prsR (n ++ [b]) (decide (0 < r.length)) (r.drop (if 0 < r.length then 1 else 0)) := by
  unfold mid; rw [one_end he]; simp
theorem St_mid {n : List (List UInt8)} {b : List UInt8} {dot : Bool} {r : List UInt8} (h : dot = false ∨ r ≠ []) : St n b dot r = mid n b r := by
  unfold St; rw [if_neg]; rintro ⟨h1, h2⟩; rcases h with h | h
  · rw [h] at h1; cases h1
  · exact h h2
theorem St_dot {n : List (List UInt8)} {r : List UInt8} : prsR n true r = St n [] true r := by
  unfold St
  by_cases h : r = []
  · rw [if_pos ⟨rfl, h⟩, h]; rfl
  · rw [if_neg (fun e => h e.2), mid_prsR true h]

theorem prs_St (l : List UInt8) (h : l ≠ [46]) : prs l = St [] [] false l := by
  rw [St_mid (.inl rfl)]
  unfold prs
  rw [if_neg h]
  by_cases h0 : l = []
  · subst h0
    rw [if_pos rfl, mid_end rfl, if_pos rfl]
  · rw [if_neg h0, mid_prsR false h0]; rfl

theorem own_other {w : World} {base : Nat} {e1 e2 : TypeId} {s1 s2 n1 n2 : Nat} {v1 v2 : Value} {x1 x2 : List Value} (h1 : w.ownsRow base e1 s1 v1 n1 x1) (h2 : w.ownsRow base e2 s2 v2 n2 x2) (hne : e1 ≠ e2) : v1.ownBlock = none ∨ v1.ownBlock ≠ v2.ownBlock := by
  rcases h1.2 with ⟨rfl, _⟩ | ⟨g, cap, cur, rfl, _, hh, _⟩
  · exact .inl rfl
  · refine .inr fun he => ?_
    rcases h2.2 with ⟨rfl, _⟩ | ⟨g', cap', cur', rfl, _, hh', _⟩
    · cases he
    · have : g = g' := by simpa [Value.ownBlock] using he
      subst this
      rw [hh] at hh'
      injection hh' with hh'
      injection hh' with _ ht
      exact hne ht

/-- what holds at each round's head. -/
def RpRel (w : World) (l : List UInt8) (i : Nat) (nv bv : Value) (dot : Bool) (wr : World) : Prop :=
  ∃ (n : List (List UInt8)) (b : List UInt8), ((i ≤ l.length ∧ prs l = St n b dot (l.drop i)) ∨ (i = l.length + 1 ∧ prs l = fin n dot)) ∧ (i ≤ l.length + 1) ∧ n.length + b.length ≤ i ∧ n.all lokB = true ∧
    wr.ownsRow w.heap.size 9 1 nv n.length (n.map stv) ∧ wr.ownsRow w.heap.size 5 1 bv b.length (b.map byv) ∧ Below w.heap.size w wr
theorem RpRel.char {w wr w1 : World} {l : List UInt8} {i m : Nat} {nv bv v1 : Value} {dot : Bool} {n : List (List UInt8)} {b : List UInt8} {c : UInt8} (hi : i < l.length) (h1 : prs l = St n b dot (l.drop i)) (h2 : n.length + b.length ≤ i) (ha : n.all lokB = true)
    (he : ends (l.drop i) = false) (hs : stp (l.drop i) = some (c, m)) (h3 : wr.ownsRow w.heap.size 9 1 nv n.length (n.map stv)) (h3b : wr.ownsRow w.heap.size 5 1 bv b.length (b.map byv))
    (h5 : w1.ownsRow w.heap.size 5 1 v1 (b.length + 1) (b.map byv ++ [byv c])) (h4 : Below w.heap.size w wr) (h6 : Below w.heap.size wr w1) (hg : wr.grownBy w1 bv.ownBlock) : RpRel w l (i + m) nv v1 false w1 := by
  have hb := stp_bd hs
  rw [List.length_drop] at hb
  refine ⟨n, b ++ [c], .inl ⟨by omega, ?_⟩, by omega, by simp; omega, ha, h3.kept hg (own_other h3 h3b (by decide)), by simpa using h5, h4.trans h6⟩
  rw [h1, St_mid (.inr (by simp; omega)), mid_step he hs, List.drop_drop, St_mid (.inl rfl)]
theorem RpRel.label {w w1 : World} {l : List UInt8} {i : Nat} {v1 : Value} {dot : Bool} {n : List (List UInt8)} {b : List UInt8} (hi : i < l.length) (h1 : prs l = St n b dot (l.drop i)) (h2 : n.length + b.length ≤ i) (ha : n.all lokB = true)
    (he : ends (l.drop i) = true) (hb0 : b ≠ []) (hb1 : ¬ 63 < b.length) (h5 : w1.ownsRow w.heap.size 9 1 v1 (n.length + 1) (n.map stv ++ [stv b])) (h4 : Below w.heap.size w w1) : RpRel w l (i + 1) v1 (.slice none 0 0) true w1 := by
  have hbl : 0 < b.length := List.length_pos_iff.2 hb0
  refine ⟨n ++ [b], [], .inl ⟨by omega, ?_⟩, by omega, by simp; omega, ?_, by simpa using h5, World.ownsRow_nil _ _ _ _, h4⟩
  · rw [h1, St_mid (.inr (by simp; omega)), mid_end he, if_neg hb0, if_neg hb1]
    have : 0 < (l.drop i).length := by rw [List.length_drop]; omega
    rw [if_pos this, List.drop_drop]
    simp only [this, decide_true]
    exact St_dot
  · rw [List.all_append, ha]; simp [lokB]; omega
theorem RpRel.last {w w1 : World} {l : List UInt8} {v1 : Value} {n : List (List UInt8)} {b : List UInt8} (h1 : prs l = St n b false (l.drop l.length)) (h2 : n.length + b.length ≤ l.length) (ha : n.all lokB = true)
    (hb0 : b ≠ []) (hb1 : ¬ 63 < b.length) (h5 : w1.ownsRow w.heap.size 9 1 v1 (n.length + 1) (n.map stv ++ [stv b])) (h4 : Below w.heap.size w w1) : RpRel w l (l.length + 1) v1 (.slice none 0 0) false w1 := by
  have hbl : 0 < b.length := List.length_pos_iff.2 hb0
  refine ⟨n ++ [b], [], .inr ⟨rfl, ?_⟩, by omega, by simp; omega, ?_, by simpa using h5, World.ownsRow_nil _ _ _ _, h4⟩
  · rw [h1, St_mid (.inl rfl), mid_end ends_end, if_neg hb0, if_neg hb1]
    simp [fin, prsR_nil]
  · rw [List.all_append, ha]; simp [lokB]; omega
theorem St_err8 {l : List UInt8} {i : Nat} {n : List (List UInt8)} {dot : Bool} (h : dot = false ∨ i < l.length) (h1 : prs l = St n [] dot (l.drop i)) (he : ends (l.drop i) = true) : prs l = .inl 8 := by
  rw [h1, St_mid (by rcases h with h | h; exact .inl h; exact .inr (by simp; omega)), mid_end he, if_pos rfl]
theorem St_err7 {l : List UInt8} {i : Nat} {n : List (List UInt8)} {b : List UInt8} {dot : Bool} (h : dot = false ∨ i < l.length) (h1 : prs l = St n b dot (l.drop i)) (he : ends (l.drop i) = true) (hb0 : b ≠ []) (hb1 : 63 < b.length) : prs l = .inl 7 := by
  rw [h1, St_mid (by rcases h with h | h; exact .inl h; exact .inr (by simp; omega)), mid_end he, if_neg hb0, if_pos hb1]
theorem St_err5 {l : List UInt8} {i : Nat} {n : List (List UInt8)} {b : List UInt8} {dot : Bool} (h : i < l.length) (h1 : prs l = St n b dot (l.drop i)) (he : ends (l.drop i) = false) (hs : stp (l.drop i) = none) : prs l = .inl 5 := by
  rw [h1, St_mid (.inr (by simp; omega)), mid_none he hs]
theorem fin_post {w wr : World} {l : List UInt8} {n : List (List UInt8)} {dot : Bool} {v : Value} (h : prs l = fin n dot) (h1 : ¬ 255 < sz n) (hs : Sl wr 1 v n.length (n.map stv)) (hb : Below w.heap.size w wr) : PrsPost w (prs l) (.returned (.tuple #[v, .bool dot, .int .i64 0])) wr :=
  PrsPost.ok (by rw [h]; unfold fin; rw [if_neg h1]) hs hb
theorem fin_long {w wr : World} {l : List UInt8} {n : List (List UInt8)} {dot : Bool} (h : prs l = fin n dot) (h1 : 255 < sz n) (hb : Below w.heap.size w wr) : PrsPost w (prs l) (.returned (.tuple #[.slice none 0 0, .bool false, .int .i64 3])) wr :=
  PrsPost.err (by rw [h]; unfold fin; rw [if_pos h1]) hb
end Go.Proofs.Ytnelaegjcpkmdaa
