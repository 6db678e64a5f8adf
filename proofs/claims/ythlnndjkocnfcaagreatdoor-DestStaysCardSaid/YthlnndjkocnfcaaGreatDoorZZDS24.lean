/- Contracts and plain lemmas of our own, merged. -/
import Derived.Test.YthlnndjkocnfcaaGreatDoorZZDS13
import Derived.Test.YthlnndjkocnfcaaGreatDoorZZDS16
import Derived.Test.YthlnndjkocnfcaaGreatDoorZZDS21
import Derived.Test.YthlnndjkocnfcaaGreatDoorZZDS23
import Derived.Test.YthlnndjkocnfcaaGreatDoorZZDS5
/- The contracts of addr.Reverse and of the reference's Reverse. -/
namespace Go.Proofs.YthlnndjkocnfcaaGreatDoor
open Go.RowKit
attribute [local go_sem] ba_get ext_take ext_drop ext_any ba_app

def inaddr : List UInt8 := [105, 110, 45, 97, 100, 100, 114]
def arpa : List UInt8 := [97, 114, 112, 97]
def ip6 : List UInt8 := [105, 112, 54]
def rv4 (a : Ad) (j : Nat) : List (List UInt8) := (List.range (4 - j)).map fun t => itu (a.b (3 - t))
def rv6 (a : Ad) (j : Nat) : List (List UInt8) := (List.range (16 - j)).flatMap fun t => [[fig ((a.b (15 - t)).toNat % 16)], [fig ((a.b (15 - t)).toNat / 16)]]
/-- the name under which an address is looked for. -/
def revA (a : Ad) : List (List UInt8) := if a.fam = 4 then rv4 a 0 ++ [inaddr, arpa] else if a.fam = 6 then rv6 a 0 ++ [ip6, arpa] else []
end Go.Proofs.YthlnndjkocnfcaaGreatDoor

/- The contract of works (9). -/
namespace Go.Proofs.YthlnndjkocnfcaaGreatDoor
open Go.RowKit
attribute [local go_sem] ba_get ext_take ext_drop ext_any ba_app

theorem yieldsIf_eqlAd {ops : Array Oper} {S : World → Prop} {o : Oper} {a : Act} (hw : Region.wanted o (yielded ops a.tmps) = true) (x y : Operand) {t : TypeId} (ho : o.op = .binOp .eql 29 x y t) {b c : Ad} (hx : a.eval x = .agg (adA b)) (hy : a.eval y = .agg (adA c)) {r : Bool} (hr : decide (b = c) = r) :
    YieldsIf Tryz.prog ops S o (.bool r) a := by
  subst hr
  refine .inl ⟨hw, fun w _ => ?_⟩
  unfold execOp
  simp only [ho, hx, hy, Sem.run_bind, run_eqGuard_agg w .eql 29 x y _ _ Tryz.eqGuardType29, Result.andThen_ok, ad_eql]
  rfl
end Go.Proofs.YthlnndjkocnfcaaGreatDoor

/- Which address is looked for under a name: both ways to read it, in plain words. No walk here. -/
namespace Go.Proofs.YthlnndjkocnfcaaGreatDoor
open Go.RowKit

def canA (a : Ad) : Prop := (a.fam = 4 ∧ a = adF a) ∨ (a.fam = 6 ∧ a.zone = 0)
/-- just that address whose name this is. -/
def UnP (n : List (List UInt8)) (o : Option Ad) : Prop := ∀ a, o = some a ↔ (canA a ∧ lows (revA a) = lows n)
theorem UnP.uniq {n : List (List UInt8)} {o o' : Option Ad} (h : UnP n o) (k : UnP n o') : o = o' := by
  cases o with
  | some a => exact ((k a).2 ((h a).1 rfl)).symm
  | none =>
    cases o' with
    | none => rfl
    | some a => exact ((h a).2 ((k a).1 rfl))
/-- a name of one figure. -/
def hexC (l : List UInt8) : Option Nat := match l with
  | [c] => (hex (c.toNat : Int)).map Int.toNat
  | _ => none
/-! ### four numbers -/
def aun (n : List (List UInt8)) : Nat → Ad
  | 0 => adOf 0 0 0 0
  | k + 1 => (aun n k).setB (3 - k) (UInt8.ofNat (val (n.getD k [])))
/-! ### thirty-two figures -/
def nib (n : List (List UInt8)) (k : Nat) : Nat := (hexC (n.getD k [])).getD 0
def byX (n : List (List UInt8)) (k j : Nat) : Nat := (if 2 * (15 - j) < k then nib n (2 * (15 - j)) else 0) + 16 * (if 2 * (15 - j) + 1 < k then nib n (2 * (15 - j) + 1) else 0)
def xun (n : List (List UInt8)) (k : Nat) : Ad := ⟨6, (List.range 16).map (fun j => UInt8.ofNat (byX n k j)), 0, by simp, by decide, by decide⟩
/-! ### what both find -/
def unr (n : List (List UInt8)) : Option Ad :=
  if n.length = 6 then (if (n.take 4).all nokB = true ∧ lows (revA (aun n 4)) = lows n then some (aun n 4) else none)
  else if n.length = 34 then (if (n.take 32).all (fun l => (hexC l).isSome) = true ∧ lows (revA (xun n 32)) = lows n then some (xun n 32) else none) else none
end Go.Proofs.YthlnndjkocnfcaaGreatDoor

/- The contract of addr.Unreverse. -/
namespace Go.Proofs.YthlnndjkocnfcaaGreatDoor
open Go.RowKit
attribute [local go_sem] ba_get ext_take ext_drop ext_any ba_app

def unV (o : Option Ad) : Value := match o with
  | some a => .tuple #[.agg (adA a), .bool true]
  | none => .tuple #[.agg (adA ad0), .bool false]
def UnPost (w : World) (n : List (List UInt8)) (e : Ending) (w' : World) : Prop := e = .returned (unV (unr n)) ∧ Below w.heap.size w w'
theorem UnPost.no {w w' : World} {n : List (List UInt8)} (h : unr n = none) (hb : Below w.heap.size w w') : UnPost w n (.returned (.tuple #[.agg (adA ad0), .bool false])) w' := ⟨by rw [h]; rfl, hb⟩
theorem UnPost.yes {w w' : World} {n : List (List UInt8)} {x : Ad} (h : unr n = some x) (hb : Below w.heap.size w w') : UnPost w n (.returned (.tuple #[.agg (adA x), .bool true])) w' := ⟨by rw [h]; rfl, hb⟩
end Go.Proofs.YthlnndjkocnfcaaGreatDoor

/- Which address is looked for under a name, by the reference, in plain words. No walk here. -/
namespace Go.Proofs.YthlnndjkocnfcaaGreatDoor
open Go.RowKit

def dtx (n : List (List UInt8)) : List UInt8 := ((((((n.getD 3 [] ++ [46]) ++ n.getD 2 []) ++ [46]) ++ n.getD 1 []) ++ [46]) ++ n.getD 0 [])
def rt (n : List (List UInt8)) : Nat → List UInt8
  | 0 => []
  | t + 1 => if (31 - t) % 4 = 0 ∧ 0 < 31 - t then (rt n t ++ n.getD (31 - t) []) ++ [58] else rt n t ++ n.getD (31 - t) []
def rtx (n : List (List UInt8)) : List UInt8 := if n.length = 6 then dtx n else if n.length = 34 then rt n 32 else []
def setZ0 (a : Ad) : Ad := a.setZ 0 (by decide)
def rur (n : List (List UInt8)) : Option Ad := match adrP (rtx n) with
  | .inl _ => none
  | .inr a => if lows (revA (setZ0 a)) = lows n then some (setZ0 a) else none
end Go.Proofs.YthlnndjkocnfcaaGreatDoor

/- The contract of the reference's Unreverse (9). -/
namespace Go.Proofs.YthlnndjkocnfcaaGreatDoor
open Go.RowKit
attribute [local go_sem] ba_get ext_take ext_drop ext_any ba_app

def RuPost (w : World) (n : List (List UInt8)) (e : Ending) (w' : World) : Prop := e = .returned (unV (rur n)) ∧ Below w.heap.size w w'
theorem RuPost.no {w w' : World} {n : List (List UInt8)} (h : rur n = none) (hb : Below w.heap.size w w') : RuPost w n (.returned (.tuple #[.agg (adA ad0), .bool false])) w' := ⟨by rw [h]; rfl, hb⟩
theorem RuPost.yes {w w' : World} {n : List (List UInt8)} {x : Ad} (h : rur n = some x) (hb : Below w.heap.size w w') : RuPost w n (.returned (.tuple #[.agg (adA x), .bool true])) w' := ⟨by rw [h]; rfl, hb⟩
theorem raparse_yes {S T : List UInt8} {x : Ad} (hS : S = T) (h : adrP T = .inr x) (w : World) (hl : T.length ≤ 1000000000) : Calls Tryz.prog 63 #[.string ⟨S.toArray⟩] w fun e w' => e = .returned (.tuple #[.agg (adA x), .int .i64 0]) ∧ Below w.heap.size w w' := by
  subst hS
  exact (raparse_any S w hl).mono fun e w' ⟨he, hb⟩ => by rw [h] at he; exact ⟨he, hb⟩
end Go.Proofs.YthlnndjkocnfcaaGreatDoor
