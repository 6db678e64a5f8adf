/- Contracts and plain lemmas of our own, merged. -/
import Derived.Test.YtgebcifkbldfoaaGreatDoorZSB10
import Derived.Test.YtgebcifkbldfoaaGreatDoorZSB13
import Derived.Test.YtgebcifkbldfoaaGreatDoorZSB15
/- Addresses of Inet in writing, in plain words. No walk here. -/
namespace Go.Proofs.YtgebcifkbldfoaaGreatDoor
open Go.RowKit

/-- a byte's digits. -/
def itu (c : UInt8) : List UInt8 := Lib.itoa (c.toNat : Int)
theorem itu_dec (c : UInt8) : itu c = Lib.decDigits c.toNat := by unfold itu; rw [itoa_pos (by omega)]; rfl
theorem itu_dg (c : UInt8) : (itu c).all dgB = true := by rw [itu_dec]; exact (dec_val _).2
theorem itu_val (c : UInt8) : val (itu c) = c.toNat := by rw [itu_dec]; exact (dec_val _).1
theorem itu_ne (c : UInt8) : itu c ≠ [] := by
  rw [itu_dec]
  intro h
  have h2 := congrArg List.length h
  rw [Lib.decDigits] at h2
  split at h2 <;> simp at h2
theorem itu_len (c : UInt8) : (itu c).length ≤ 3 := by
  have : ∀ n : Fin 256, (Lib.decDigits n.val).length ≤ 3 := by decide +kernel
  rw [itu_dec]
  exact this ⟨c.toNat, c.toNat_lt⟩
theorem dg_no46 {l : List UInt8} (h : l.all dgB = true) : ∀ c ∈ l, c ≠ 46 := by
  intro c hc e
  have := List.all_eq_true.1 h c hc
  rw [e] at this
  revert this
  decide +kernel
theorem itu_free (c : UInt8) : ∀ x ∈ itu c, x ≠ 46 := dg_no46 (itu_dg c)

def ad4 : Ad := adOf 0 0 0 0
/-- an address of Inet, written. -/
def qtx (a : Ad) : List UInt8 := jB 46 [itu (a.b 0), itu (a.b 1), itu (a.b 2), itu (a.b 3)]
theorem qtx_eq (a : Ad) : qtx a = itu (a.b 0) ++ 46 :: (itu (a.b 1) ++ 46 :: (itu (a.b 2) ++ 46 :: itu (a.b 3))) := rfl
theorem qtx_len (a : Ad) : (qtx a).length ≤ 15 := by
  rw [qtx_eq]
  have h0 := itu_len (a.b 0)
  have h1 := itu_len (a.b 1)
  have h2 := itu_len (a.b 2)
  have h3 := itu_len (a.b 3)
  simp only [List.length_append, List.length_cons]
  omega
/-- a number of at most 255. -/
def nokB (l : List UInt8) : Bool := decide (l ≠ [] ∧ l.all dgB = true ∧ val l ≤ 255)
theorem nokB_itu (c : UInt8) : nokB (itu c) = true := by
  unfold nokB
  have := c.toNat_lt
  exact decide_eq_true ⟨itu_ne c, itu_dg c, by rw [itu_val]; omega⟩
theorem numV_ok255 {l : List UInt8} (h : nokB l = true) : numV l 255 = .tuple #[.int .i64 (val l : Int), .int .i64 0] := by
  unfold nokB at h
  obtain ⟨h1, h2, h3⟩ := of_decide_eq_true h
  unfold numV
  rw [if_pos ⟨h1, h2⟩, if_pos (by omega)]
theorem numV_no255 {l : List UInt8} (h : nokB l = false) : ∃ e : Int, numV l 255 = .tuple #[.int .i64 0, .int .i64 e] ∧ (e = 4 ∨ e = 5) := by
  unfold nokB at h
  have h1 := of_decide_eq_false h
  unfold numV
  split
  · next hh =>
    rw [if_neg (fun h2 => h1 ⟨hh.1, hh.2, by omega⟩)]
    exact ⟨4, rfl, .inl rfl⟩
  · exact ⟨5, rfl, .inr rfl⟩
/-- what is left behind k cuts, and the k-th part. -/
def qst (s : List UInt8) : Nat → List UInt8
  | 0 => s
  | k + 1 => tlB 46 (qst s k)
def qpart (s : List UInt8) (k : Nat) : List UInt8 := hdB 46 (qst s k)
theorem qst_len (s : List UInt8) (k : Nat) : (qst s k).length ≤ s.length := by
  induction k with
  | zero => exact Nat.le_refl _
  | succ k ih => exact Nat.le_trans (tlB_len 46 _) ih
theorem qpart_len (s : List UInt8) (k : Nat) : (qpart s k).length ≤ s.length := Nat.le_trans (hdB_len 46 _) (qst_len s k)
/-- the address, byte by byte. -/
def qad (p : Nat → List UInt8) : Nat → Ad
  | 0 => ad4
  | k + 1 => (qad p k).setB k (UInt8.ofNat (val (p k)))
theorem qad4 (p : Nat → List UInt8) : qad p 4 = adOf (UInt8.ofNat (val (p 0))) (UInt8.ofNat (val (p 1))) (UInt8.ofNat (val (p 2))) (UInt8.ofNat (val (p 3))) := rfl
def qokB (p : Nat → List UInt8) (k : Nat) : Bool := (List.range k).all (fun j => nokB (p j))
theorem qokB_next {p : Nat → List UInt8} {k : Nat} (h : qokB p k = true) (h2 : nokB (p k) = true) : qokB p (k + 1) = true := by
  unfold qokB at h ⊢
  rw [List.range_succ, List.all_append, h]
  simp [h2]
theorem qokB_bad {p : Nat → List UInt8} {k n : Nat} (hk : k < n) (h2 : nokB (p k) = false) : qokB p n = false := by
  unfold qokB
  rw [Bool.eq_false_iff]
  intro h
  have := List.all_eq_true.1 h k (by simpa using hk)
  rw [h2] at this
  cases this
/-- which address a text is. -/
def qpA (s : List UInt8) : Option Ad := if qokB (qpart s) 4 = true ∧ qtx (qad (qpart s) 4) = s then some (qad (qpart s) 4) else none
theorem ofval (c : UInt8) : UInt8.ofNat (val (itu c)) = c := by rw [itu_val]; simp
theorem qtx_of (a b c d : UInt8) : qtx (adOf a b c d) = itu a ++ 46 :: (itu b ++ 46 :: (itu c ++ 46 :: itu d)) := rfl
theorem qpart0 (a b c d : UInt8) : qpart (qtx (adOf a b c d)) 0 = itu a := by unfold qpart qst; rw [qtx_of, hdB_app (itu_free a)]
theorem qst1 (a b c d : UInt8) : qst (qtx (adOf a b c d)) 1 = itu b ++ 46 :: (itu c ++ 46 :: itu d) := by unfold qst qst; rw [qtx_of, tlB_app (itu_free a)]
theorem qpart1 (a b c d : UInt8) : qpart (qtx (adOf a b c d)) 1 = itu b := by unfold qpart; rw [qst1, hdB_app (itu_free b)]
theorem qst2 (a b c d : UInt8) : qst (qtx (adOf a b c d)) 2 = itu c ++ 46 :: itu d := by rw [qst, qst1, tlB_app (itu_free b)]
theorem qpart2 (a b c d : UInt8) : qpart (qtx (adOf a b c d)) 2 = itu c := by unfold qpart; rw [qst2, hdB_app (itu_free c)]
theorem qst3 (a b c d : UInt8) : qst (qtx (adOf a b c d)) 3 = itu d := by rw [qst, qst2, tlB_app (itu_free c)]
theorem qpart3 (a b c d : UInt8) : qpart (qtx (adOf a b c d)) 3 = itu d := by unfold qpart; rw [qst3, hdB_one (itu_free d)]
theorem qok4 {p : Nat → List UInt8} (h0 : nokB (p 0) = true) (h1 : nokB (p 1) = true) (h2 : nokB (p 2) = true) (h3 : nokB (p 3) = true) : qokB p 4 = true :=
  qokB_next (qokB_next (qokB_next (qokB_next rfl h0) h1) h2) h3
/-- what is written is read. -/
theorem qpA_qtx (a b c d : UInt8) : qpA (qtx (adOf a b c d)) = some (adOf a b c d) := by
  have e : qad (qpart (qtx (adOf a b c d))) 4 = adOf a b c d := by
    rw [qad4, qpart0, qpart1, qpart2, qpart3, ofval, ofval, ofval, ofval]
  unfold qpA
  rw [e, if_pos ⟨qok4 (by rw [qpart0]; exact nokB_itu a) (by rw [qpart1]; exact nokB_itu b) (by rw [qpart2]; exact nokB_itu c) (by rw [qpart3]; exact nokB_itu d), rfl⟩]
/-- an address, or none, with the error that is told. -/
def adE (o : Option Ad) (e : Int) : Value := match o with
  | some a => .tuple #[.agg (adA a), .int .i64 0]
  | none => .tuple #[.agg (adA ad0), .int .i64 e]

/-! ### as of old -/
/-- the number of digits of a base, at most 2^32. -/
def inBs (base : Int) : Int → List UInt8 → Option Int
  | n, [] => some n
  | n, c :: r => match hex (c.toNat : Int) with
    | none => none
    | some d => if base ≤ d then none else inBs base (min (n * base + d) 4294967296) r
def qnum (s : List UInt8) : Option Int :=
  if s = [] then none
  else if 2 < s.length ∧ s[0]? = some 48 ∧ (s[1]? = some 120 ∨ s[1]? = some 88) then inBs 16 0 (s.drop 2)
  else if s[0]? = some 48 then inBs 8 0 s
  else inBs 10 0 s
/-- one to four numbers. -/
def qnums (s : List UInt8) : Option (List Int) := if (spB 46 [] s).length ≤ 4 then (spB 46 [] s).mapM qnum else none
/-- the last number's bytes from place i on. -/
def qtail (last : Nat) (n : Int) : Nat → Ad → Ad
  | 0, a => a
  | k + 1, a => qtail last (n / 256) k (a.setB (last + k) (UInt8.ofNat (n % 256).toNat))
/-- the numbers ahead of the last one, as bytes. -/
def qahead (l : List Int) : Nat → Ad
  | 0 => ad4
  | k + 1 => (qahead l k).setB k (UInt8.ofNat (l.getD k 0).toNat)
def loose (s : List UInt8) : Int ⊕ Ad := match qnums s with
  | none => .inl 5
  | some l => if (l.take (l.length - 1)).all (fun n => decide (n ≤ 255)) = true then
      (if l.getD (l.length - 1) 0 < 256 ^ (4 - (l.length - 1)) then .inr (qtail (l.length - 1) (l.getD (l.length - 1) 0) (4 - (l.length - 1)) (qahead l (l.length - 1))) else .inl 4)
    else .inl 4
def adS (o : Int ⊕ Ad) : Value := match o with
  | .inr a => .tuple #[.agg (adA a), .int .i64 0]
  | .inl e => .tuple #[.agg (adA ad0), .int .i64 e]
end Go.Proofs.YtgebcifkbldfoaaGreatDoor
