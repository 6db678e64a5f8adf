/- Contracts and plain lemmas of our own, merged. -/
import Derived.Test.YtgebcifkbldfoaaDoorZNb10
import Derived.Test.YtgebcifkbldfoaaDoorZNb13
import Derived.Test.YtgebcifkbldfoaaDoorZNb16
import Derived.Test.YtgebcifkbldfoaaDoorZNb4
import Derived.Test.YtgebcifkbldfoaaDoorZNb5
import Derived.Laws.ResultCell
import Derived.Test.YtgebcifkbldfoaaDoorShelf
import Derived.Great.Walk
import Derived.Laws.CopyOwn
/- The contracts of quad.Text, quad.Parse and of their references. -/
namespace Go.Proofs.YtgebcifkbldfoaaDoor
open Go.RowKit
attribute [local go_sem] ba_get ext_take ext_drop ext_any ba_app

theorem Tab.below {w w' : World} (h : Tab w) (hb : Below w.heap.size w w') : Tab w' := Lib.tabBelow_of_tabIs h w' hb
/-! ### reading -/
def QpPost (w : World) (s : List UInt8) (e : Ending) (w' : World) : Prop := e = .returned (adE (qpA s) 5) ∧ Below w.heap.size w w'
theorem QpPost.no {w w' : World} {s : List UInt8} (h : qpA s = none) (hb : Below w.heap.size w w') : QpPost w s (.returned (.tuple #[.agg (adA ad0), .int .i64 5])) w' := ⟨by rw [h]; rfl, hb⟩
end Go.Proofs.YtgebcifkbldfoaaDoor

/- The contract of quad.Loose. -/
namespace Go.Proofs.YtgebcifkbldfoaaDoor
open Go.RowKit
attribute [local go_sem] ba_get ext_take ext_drop ext_any ba_app

def LoPost (w : World) (s : List UInt8) (e : Ending) (w' : World) : Prop := e = .returned (adS (loose s)) ∧ Below w.heap.size w w'
theorem LoPost.no {w w' : World} {s : List UInt8} {c : Int} (h : loose s = .inl c) (hb : Below w.heap.size w w') : LoPost w s (.returned (.tuple #[.agg (adA ad0), .int .i64 c])) w' := ⟨by rw [h]; rfl, hb⟩
def LoC (D : List Int) (b1 o1 : Nat) (wr : World) : Prop := ∀ (j : Nat) (hj : j < D.length), wr.cell? ⟨b1, o1 + j, none⟩ = some (.int .i64 D[j])
theorem LoC.stays {D : List Int} {b1 o1 g : Nat} {w w' : World} (h : LoC D b1 o1 w) (hs : Stays g w w') (hne : b1 ≠ g) : LoC D b1 o1 w' := fun j hj => (World.cell?_of_block (hs.block b1 hne)).trans (h j hj)
end Go.Proofs.YtgebcifkbldfoaaDoor

/- Addresses of Inet6 in writing, in plain words: groups, rows of noughts, texts. No walk here. -/
namespace Go.Proofs.YtgebcifkbldfoaaDoor
open Go.RowKit

/-- a group of an address. -/
def grp (a : Ad) (i : Nat) : Nat := 256 * (a.b (2 * i)).toNat + (a.b (2 * i + 1)).toNat
end Go.Proofs.YtgebcifkbldfoaaDoor

/- Addresses of Inet6, read, in plain words. No walk here. -/
namespace Go.Proofs.YtgebcifkbldfoaaDoor
open Go.RowKit

/-- the number of figures of the base 16, behind n. -/
def grA : Nat → List UInt8 → Option Nat
  | n, [] => some n
  | n, c :: r => match hex (c.toNat : Int) with
    | some d => grA (16 * n + d.toNat) r
    | none => none
/-- a group that is written. -/
def grV (s : List UInt8) : Option Nat := if s = [] ∨ 4 < s.length then none else grA 0 s
/-- groups between colons; where last is true the last two may be an address of Inet. -/
def sidF (last : Bool) : List (List UInt8) → Option (List Nat)
  | [] => some []
  | p :: ps => match grV p with
    | some n => (sidF last ps).map (fun l => n :: l)
    | none => match qpA p with
      | some a => if last = true ∧ ps = [] then some [grp a 0, grp a 1] else none
      | none => none
def sidV (last : Bool) (s : List UInt8) : Option (List Nat) := if s = [] then some [] else sidF last (spB 58 [] s)
/-- where two colons stand first. -/
def ddx : List UInt8 → Option Nat
  | a :: b :: r => if a = 58 ∧ b = 58 then some 0 else (ddx (b :: r)).map (· + 1)
  | _ => none
/-- the eight groups that are written. -/
def plV (s : List UInt8) : Option (List Nat) := match ddx s with
  | none => match sidV true s with
    | some l => if l.length = 8 then some l else none
    | none => none
  | some k => match sidV false (s.take k) with
    | some x => match sidV true (s.drop (k + 2)) with
      | some y => if x.length + y.length ≤ 7 then some (x ++ List.replicate (8 - x.length - y.length) 0 ++ y) else none
      | none => none
    | none => none
/-- the bytes of groups. -/
def gby : List Nat → List UInt8
  | [] => []
  | n :: r => UInt8.ofNat (n / 256) :: UInt8.ofNat (n % 256) :: gby r
theorem gby_len (l : List Nat) : (gby l).length = 2 * l.length := by
  induction l with
  | nil => rfl
  | cons n r ih => rw [gby]; simp [ih]; omega
/-- the address of groups. -/
def adG (l : List Nat) : Ad := if h : l.length = 8 then ⟨6, gby l, 0, by rw [gby_len, h], by decide, by decide⟩ else ad0
/-- a zone that is written. -/
def zoR (l : List UInt8) : Int ⊕ Int := if l ≠ [] ∧ l.all dgB = true then (if (val l : Int) ≤ 2147483647 then (if val l = 0 then .inl 4 else .inr (val l)) else .inl 4) else .inl 5
theorem zoR_bd {l : List UInt8} {n : Int} (h : zoR l = .inr n) : 0 < n ∧ n ≤ 2147483647 := by
  unfold zoR at h
  split at h
  · split at h
    · split at h
      · cases h
      · injection h with h; omega
    · cases h
  · cases h
/-- an address of Inet6 that is written. -/
def colP (s : List UInt8) : Int ⊕ Ad := match plV (hdB 37 s) with
  | none => .inl 5
  | some l => if hasB 37 s = true then (match h : zoR (tlB 37 s) with
      | .inl e => .inl e
      | .inr n => .inr ((adG l).setZ n (by have := zoR_bd h; omega))) else .inr (adG l)
end Go.Proofs.YtgebcifkbldfoaaDoor

/- The contracts of the reference's Group, empty, row, hex, Mapped, Text for addresses of Inet6. -/
namespace Go.Proofs.YtgebcifkbldfoaaDoor
open Go.RowKit
attribute [local go_sem] ba_get ext_take ext_drop ext_any ba_app

def RowPost (w : World) (p : Nat × Nat) (e : Ending) (w' : World) : Prop := e = .returned (.tuple #[.int .i64 (p.1 : Int), .int .i64 (p.2 : Int)]) ∧ Below w.heap.size w w'
theorem RowPost.mk {w w' : World} {p : Nat × Nat} {f n : Nat} (h : p = (f, n)) (hb : Below w.heap.size w w') : RowPost w p (.returned (.tuple #[.int .i64 (f : Int), .int .i64 (n : Int)])) w' := ⟨by rw [h], hb⟩
end Go.Proofs.YtgebcifkbldfoaaDoor
