/- Contracts and plain lemmas of our own, merged. -/
import Derived.Test.YthlnndjkocnfcaaGreatDoorZZDS1
import Derived.Test.YthlnndjkocnfcaaGreatDoorZZDS10
import Derived.Test.YthlnndjkocnfcaaGreatDoorZZDS12
import Derived.Test.YthlnndjkocnfcaaGreatDoorZZDS13
import Derived.Test.YthlnndjkocnfcaaGreatDoorZZDS21
import Derived.Test.YthlnndjkocnfcaaGreatDoorZZDS23
import Derived.Test.YthlnndjkocnfcaaGreatDoorZZDS24
import Derived.Test.YthlnndjkocnfcaaGreatDoorZZDS29
import Derived.Deep.DeepCutAuto
/- The reference's by and Better (39), at any net (printed by mk_dsm.py). -/
namespace Go.Proofs.YthlnndjkocnfcaaGreatDoor
open Go.RowKit
attribute [local go_sem] ba_get ext_take ext_drop ext_any ba_app

theorem built_i9b (a b c d e f g h : Int) : Tryz.prog.built 60 [(0, .int .i64 a), (1, .int .i64 b), (2, .int .i64 c), (3, .int .i64 d), (4, .int .i64 e), (5, .int .i64 f), (6, .int .i64 g), (7, .int .i64 h)] = some (giA [a, b, c, d, e, f, g, h, 0]) := by kernel_rfl
set_option maxRecDepth 100000 in
theorem rby39_any (a b : Bool) (w : World) : Calls Tryz.prog 21 #[.bool a, .bool b] w (InPost w (ordB a b)) := by
  cases a <;> cases b
  all_goals
    go_enter Tryz.func21, Tryz.ntmps21
    go_wp2
    go_ret
    exact ⟨rfl, Below.refl _ _⟩
/-- like bits with the own one. -/
def comB (a : Ad) (x : Ifc) (p : Bool) : Int := if p = true then min (comA a x.ad : Int) x.bits else 0
/-- what tells, in the reference's words, the last rule aside. -/
def rd8 (N : Nt) (a b : Ad) (x y : Ifc) (p q : Bool) : List Int := [ordB p q, ordB (p && (scoA a == scoA x.ad)) (q && (scoA b == scoA y.ad)), ordB (!x.dep) (!y.dep), ordB x.hom y.hom,
      ordB (p && ((ofP a (polN N.P)).lab == (ofP x.ad (polN N.P)).lab)) (q && ((ofP b (polN N.P)).lab == (ofP y.ad (polN N.P)).lab)),
      ordB (decide ((ofP b (polN N.P)).prec < (ofP a (polN N.P)).prec)) (decide ((ofP a (polN N.P)).prec < (ofP b (polN N.P)).prec)),
      ordB (!(wayP a (rtN N.R)).1.tun) (!(wayP b (rtN N.R)).1.tun), ordB (decide (scoA a < scoA b)) (decide (scoA b < scoA a))]
def rd9 (a b : Ad) (x y : Ifc) (p q : Bool) : Int := if a.fam = b.fam then ordB (decide (comB b y q < comB a x p)) (decide (comB a x p < comB b y q)) else 0
theorem pick39_none {N : Nt} {a : Ad} {x : Ifc} {p : Bool} (h : pickN N a = (x, p)) (hp : p = false) : x = ifc0 := by
  rw [pick_find] at h
  injection h with h1 h2
  subst hp
  cases hf : (ownN N a).find? (topB N a (ownN N a)) with
  | none => rw [hf] at h1; exact h1.symm
  | some v => rw [hf] at h2; cases h2
theorem rd_eq {N : Nt} {a b : Ad} {x y : Ifc} {p q : Bool} (hx : pickN N a = (x, p)) (hy : pickN N b = (y, q)) : dtelL (dwN N a) (dwN N b) = rd8 N a b x y p q ++ [rd9 a b x y p q] :=
  dtel_rules N a b x y p q hx hy (pick39_none hx) (pick39_none hy)
structure RdS (w : World) (g3 g4 g5 g8 g10 g12 g14 g16 g17 : Nat) (vi vr vp : Value) (a b : Ad) (x y : Ifc) (r s : Rt) (P Q : Pol) (wr : World) : Prop where
  b3 : Bk wr g3 26 #[vi, vr, vp]
  b4 : Bk wr g4 29 (adA a)
  b5 : Bk wr g5 29 (adA b)
  b8 : Bk wr g8 42 (ifcA x)
  b10 : Bk wr g10 42 (ifcA y)
  b12 : Bk wr g12 46 (rtA r)
  b14 : Bk wr g14 46 (rtA s)
  b16 : Bk wr g16 56 (polA P)
  b17 : Bk wr g17 56 (polA Q)
  b : Below w.heap.size w wr
theorem RdS.bel {w wr w' : World} {g3 g4 g5 g8 g10 g12 g14 g16 g17 : Nat} {vi vr vp : Value} {a b : Ad} {x y : Ifc} {r s : Rt} {P Q : Pol} (h : RdS w g3 g4 g5 g8 g10 g12 g14 g16 g17 vi vr vp a b x y r s P Q wr) (k : Below wr.heap.size wr w') : RdS w g3 g4 g5 g8 g10 g12 g14 g16 g17 vi vr vp a b x y r s P Q w' :=
  ⟨h.b3.bel k, h.b4.bel k, h.b5.bel k, h.b8.bel k, h.b10.bel k, h.b12.bel k, h.b14.bel k, h.b16.bel k, h.b17.bel k, bel_tr h.b k⟩
/-- behind the rules: their block and all else. -/
def RdA (w : World) (g3 g4 g5 g8 g10 g12 g14 g16 g17 : Nat) (vi vr vp : Value) (a b : Ad) (x y : Ifc) (r s : Rt) (P Q : Pol) (L : List Int) (v : Value) (wr : World) : Prop :=
  ∃ g, v = .pointer (some ⟨g, 0, none⟩) ∧ w.heap.size ≤ g ∧ Bk wr g 60 (giA L) ∧ RdS w g3 g4 g5 g8 g10 g12 g14 g16 g17 vi vr vp a b x y r s P Q wr
end Go.Proofs.YthlnndjkocnfcaaGreatDoor
