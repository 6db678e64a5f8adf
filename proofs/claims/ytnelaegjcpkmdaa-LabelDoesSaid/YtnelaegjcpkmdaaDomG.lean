/- The contracts of domain.add, domain.Text, domain.Plain and works. -/
import Derived.Test.YtnelaegjcpkmdaaDomD
namespace Go.Proofs.Ytnelaegjcpkmdaa
open Go.RowKit
attribute [local go_sem] ba_get ext_take ext_drop

/-- a byte of a label, written. -/
def escb (c : UInt8) : List UInt8 :=
  if c.toNat = 46 ∨ c.toNat = 92 then [92, c] else if c.toNat < 33 ∨ 126 < c.toNat then [92, UInt8.ofNat (48 + c.toNat / 100), UInt8.ofNat (48 + c.toNat / 10 % 10), UInt8.ofNat (48 + c.toNat % 10)] else [c]
def escl (l : List UInt8) : List UInt8 := l.flatMap escb
def escp (l : List UInt8) (k : Nat) : List UInt8 := (l.take k).flatMap escb
theorem escp_succ {l : List UInt8} {k : Nat} (h : k < l.length) : escp l (k + 1) = escp l k ++ escb l[k] := by
  unfold escp
  rw [List.take_succ_eq_append_getElem h, List.flatMap_append, List.flatMap_singleton]
theorem escp_all (l : List UInt8) : escp l l.length = escl l := by unfold escp escl; rw [List.take_length]
theorem escb_1 {c : UInt8} (h : c.toNat = 46 ∨ c.toNat = 92) : (escb c).map byv = [.int .u8 92, .int .u8 (c.toNat : Int)] := by
  unfold escb; rw [if_pos h]; rfl
theorem escb_2 {c : UInt8} (h0 : ¬ (c.toNat = 46 ∨ c.toNat = 92)) (h : c.toNat < 33 ∨ 126 < c.toNat) : (escb c).map byv = [.int .u8 92, .int .u8 (48 + (c.toNat : Int) / 100), .int .u8 (48 + (c.toNat : Int) / 10 % 10), .int .u8 (48 + (c.toNat : Int) % 10)] := by
  have := c.toNat_lt
  unfold escb; rw [if_neg h0, if_pos h]
  simp only [List.map_cons, List.map_nil]
  rw [byv_mk (n := 48 + c.toNat / 100) (by omega) (z := 48 + (c.toNat : Int) / 100) (by omega), byv_mk (n := 48 + c.toNat / 10 % 10) (by omega) (z := 48 + (c.toNat : Int) / 10 % 10) (by omega), byv_mk (n := 48 + c.toNat % 10) (by omega) (z := 48 + (c.toNat : Int) % 10) (by omega)]
  rfl
theorem escb_3 {c : UInt8} (h0 : ¬ (c.toNat = 46 ∨ c.toNat = 92)) (h : ¬ (c.toNat < 33 ∨ 126 < c.toNat)) : (escb c).map byv = [.int .u8 (c.toNat : Int)] := by
  unfold escb; rw [if_neg h0, if_neg h]; rfl
theorem escb_len (c : UInt8) : (escb c).length ≤ 4 ∧ 1 ≤ (escb c).length := by
  unfold escb; (repeat' split) <;> simp
theorem escp_len {l : List UInt8} {k : Nat} : (escp l k).length ≤ 4 * k := by
  unfold escp
  have : ∀ m : List UInt8, (m.flatMap escb).length ≤ 4 * m.length := by
    intro m
    induction m with
    | nil => simp
    | cons c m ih => have := (escb_len c).1; rw [List.flatMap_cons, List.length_append, List.length_cons]; omega
  have h1 := this (l.take k)
  rw [List.length_take] at h1
  omega

def DaddRel (base : Nat) (w : World) (n : Nat) (xs : List Value) (l : List UInt8) (k : Nat) (v : Value) (wr : World) : Prop :=
  wr.ownsRow base 5 1 v (n + (escp l k).length) (xs ++ (escp l k).map byv) ∧ Below base w wr
theorem DaddRel.next {base : Nat} {w w0 w1 : World} {n : Nat} {xs : List Value} {l : List UInt8} {k m : Nat} {v1 : Value} {us : List Value} (hk : k < l.length) (hu : (escb l[k]).map byv = us) (hm : us.length = m) (h : w1.ownsRow base 5 1 v1 (n + (escp l k).length + m) (xs ++ (escp l k).map byv ++ us)) (h0 : Below base w w0) (h1 : Below base w0 w1) : DaddRel base w n xs l (k + 1) v1 w1 := by
  refine ⟨?_, h0.trans h1⟩
  have hl : (escb l[k]).length = m := by rw [← hm, ← hu]; simp
  rw [escp_succ hk, List.length_append, hl, List.map_append, hu, ← Nat.add_assoc, ← List.append_assoc]
  exact h

/-- a name, written. -/
def dtxt (A : List (List UInt8)) : List UInt8 := if A = [] then [46] else A.flatMap (fun l => escl l ++ [46])
def dtxs (A : List (List UInt8)) (k : Nat) : List UInt8 := (A.take k).flatMap (fun l => escl l ++ [46])
theorem dtxs_succ {A : List (List UInt8)} {k : Nat} (h : k < A.length) : dtxs A (k + 1) = dtxs A k ++ (escl A[k] ++ [46]) := by
  unfold dtxs
  rw [List.take_succ_eq_append_getElem h, List.flatMap_append, List.flatMap_singleton]
theorem dtxs_all {A : List (List UInt8)} (h : A ≠ []) : dtxs A A.length = dtxt A := by unfold dtxs dtxt; rw [if_neg h, List.take_length]
theorem escl_len (l : List UInt8) : (escl l).length ≤ 4 * l.length := by rw [← escp_all]; exact escp_len
theorem dtxs_len {A : List (List UInt8)} (k : Nat) (hk : k ≤ A.length) : (dtxs A k).length + 4 ≤ 4 * sz (A.take k) := by
  induction k with
  | zero => simp [dtxs, sz]
  | succ k ih =>
    have h1 := ih (by omega)
    have h2 := escl_len A[k]
    rw [dtxs_succ (by omega), sz_next (by omega)]
    simp only [List.length_append, List.length_cons, List.length_nil]
    omega
def DtRel (w : World) (A : List (List UInt8)) (k : Nat) (v : Value) (wr : World) : Prop :=
  wr.ownsRow w.heap.size 5 1 v (dtxs A k).length ((dtxs A k).map byv) ∧ Below w.heap.size w wr
theorem DtRel.next {w w0 w1 : World} {A : List (List UInt8)} {k : Nat} {v1 : Value} (hk : k < A.length) (h : w1.ownsRow w.heap.size 5 1 v1 ((dtxs A k).length + (escl A[k]).length + 1) ((dtxs A k).map byv ++ ((escl A[k]).map byv ++ [.int .u8 46]))) (h0 : Below w.heap.size w w0) (h1 : Below w.heap.size w0 w1) : DtRel w A (k + 1) v1 w1 := by
  refine ⟨?_, h0.trans h1⟩
  rw [dtxs_succ hk]
  simp only [List.length_append, List.map_append, List.length_cons, List.length_nil, Nat.add_assoc] at h ⊢
  exact h
def StrPost (w : World) (l : List UInt8) (e : Ending) (w' : World) : Prop := e = .returned (.string ⟨l.toArray⟩) ∧ Below w.heap.size w w'

def dpln (A : List (List UInt8)) : List UInt8 := if A = [] then [46] else (dtxt A).dropLast
theorem dtxt_pos {A : List (List UInt8)} : 1 ≤ (dtxt A).length := by
  unfold dtxt
  by_cases h : A = []
  · rw [if_pos h]; simp
  · rw [if_neg h]
    rcases A with _ | ⟨a, A⟩
    · exact absurd rfl h
    · rw [List.flatMap_cons]; simp; omega
theorem dtxt_len {A : List (List UInt8)} : (dtxt A).length ≤ 4 * sz A := by
  by_cases h : A = []
  · subst h; simp [dtxt, sz]
  · rw [← dtxs_all h]
    have := @dtxs_len A A.length (Nat.le_refl _)
    rw [sz_all] at this
    omega

theorem prs_open {o : Int ⊕ (List (List UInt8) × Bool)} {n : List (List UInt8)} {d : Bool} {w w' : World} {e : Ending} (h : PrsPost w o e w') (ho : o = .inr (n, d)) : ∃ v, e = .returned (.tuple #[v, .bool d, .int .i64 0]) ∧ Sl w' 1 v n.length (n.map stv) ∧ Below w.heap.size w w' := by
  subst ho; exact h
theorem prs_open_err {o : Int ⊕ (List (List UInt8) × Bool)} {c : Int} {w w' : World} {e : Ending} (h : PrsPost w o e w') (ho : o = .inl c) : ∃ v, e = .returned (.tuple #[v, .bool false, .int .i64 c]) ∧ Sl w' 1 v 0 [] ∧ Below w.heap.size w w' := by
  subst ho; exact h

end Go.Proofs.Ytnelaegjcpkmdaa
