/- Contracts and plain lemmas of our own, merged. -/
import Derived.Test.YtgebcifkbldfoaaGreatDoorZSB1
import Derived.Test.YtgebcifkbldfoaaGreatDoorProg
/- The contracts of ascii.Number and of the reference's Number: both answer what numV says. -/
namespace Go.Proofs.YtgebcifkbldfoaaGreatDoor
open Go.RowKit
attribute [local go_sem] ba_get

def dgB (b : UInt8) : Bool := decide (48 ≤ b.toNat ∧ b.toNat ≤ 57)
def val (l : List UInt8) : Nat := l.foldl (fun n b => 10 * n + (b.toNat - 48)) 0
def numV (l : List UInt8) (most : Int) : Value :=
  if l ≠ [] ∧ l.all dgB = true then if (val l : Int) ≤ most then .tuple #[.int .i64 (val l), .int .i64 0] else .tuple #[.int .i64 0, .int .i64 4] else .tuple #[.int .i64 0, .int .i64 5]
theorem val_snoc (l : List UInt8) (b : UInt8) : val (l ++ [b]) = 10 * val l + (b.toNat - 48) := by unfold val; rw [List.foldl_append]; rfl
theorem val_from (n : Nat) (r : List UInt8) : n ≤ r.foldl (fun n b => 10 * n + (b.toNat - 48)) n := by
  induction r generalizing n with
  | nil => exact Nat.le_refl _
  | cons b r ih => exact Nat.le_trans (by omega) (ih (10 * n + (b.toNat - 48)))
theorem val_take (l : List UInt8) (k : Nat) : val (l.take k) ≤ val l := by
  have e : l = l.take k ++ l.drop k := (List.take_append_drop k l).symm
  have : val l = (l.drop k).foldl (fun n b => 10 * n + (b.toNat - 48)) (val (l.take k)) := by
    conv => lhs; rw [e]
    unfold val
    rw [List.foldl_append]
  rw [this]
  exact val_from _ _
theorem val_next {l : List UInt8} {k : Nat} (h : k < l.length) : val (l.take (k + 1)) = 10 * val (l.take k) + (l[k].toNat - 48) := by
  rw [List.take_succ_eq_append_getElem h, val_snoc]
theorem dgB_t {b : UInt8} (h : dgB b = true) : 48 ≤ b.toNat ∧ b.toNat ≤ 57 := by simpa [dgB] using h
theorem dgB_f {b : UInt8} (h : dgB b = false) : b.toNat < 48 ∨ 57 < b.toNat := by simp [dgB] at h; omega
theorem all_next {l : List UInt8} {k : Nat} {p : UInt8 → Bool} (h : k < l.length) (h1 : (l.take k).all p = true) (h2 : p l[k] = true) : (l.take (k + 1)).all p = true := by
  rw [List.take_succ_eq_append_getElem h, List.all_append, h1]
  simp [h2]
theorem not_all {l : List UInt8} {k : Nat} {p : UInt8 → Bool} (h : k < l.length) (h2 : p l[k] = false) : ¬ l.all p = true := by
  intro h1
  rw [List.all_eq_true] at h1
  have := h1 _ (List.getElem_mem h)
  rw [h2] at this
  cases this
theorem numV_form {l : List UInt8} {most : Int} (h : ¬ (l ≠ [] ∧ l.all dgB = true)) : Ending.returned (.tuple #[.int .i64 0, .int .i64 5]) = .returned (numV l most) := by unfold numV; rw [if_neg h]
theorem numV_range {l : List UInt8} {most : Int} (h0 : l ≠ []) (h : l.all dgB = true) (hr : most < (val l : Int)) : Ending.returned (.tuple #[.int .i64 0, .int .i64 4]) = .returned (numV l most) := by
  unfold numV; rw [if_pos ⟨h0, h⟩, if_neg (by omega)]
theorem numV_ok {l : List UInt8} {most : Int} (h0 : l ≠ []) (h : l.all dgB = true) (hr : (val l : Int) ≤ most) {n : Int} (hn : n = val l) : Ending.returned (.tuple #[.int .i64 n, .int .i64 0]) = .returned (numV l most) := by
  subst hn
  unfold numV; rw [if_pos ⟨h0, h⟩, if_pos hr]

def NumRel (l : List UInt8) (most : Int) (nv iv : Value) : Prop :=
  ∃ (k n : Nat), k ≤ l.length ∧ iv = .int .i64 k ∧ nv = .int .i64 n ∧ n = val (l.take k) ∧ (k = 0 ∨ (n : Int) ≤ most)

set_option maxRecDepth 100000 in
set_option maxHeartbeats 1000000 in
theorem number_any (l : List UInt8) (most : Int) (w : World) (hl : l.length ≤ 140737488351232) (hm0 : -9223372036854775808 ≤ most) (hm1 : most ≤ 9223372036854775807) :
    Calls Tryz.prog 63 #[.string ⟨l.toArray⟩, .int .i64 most] w fun e w' => e = .returned (numV l most) ∧ w = w' := by
  by_cases h0 : l = []
  · subst h0
    go_enter Tryz.func63, Tryz.ntmps63
    go_wp2
    go_ret2
    exact ⟨numV_form (by simp), rfl⟩
  · have h1 : l.isEmpty = false := by simpa using h0
    go_enter Tryz.func63, Tryz.ntmps63
    go_wp2
    go_loop [14] (fun i => ∃ k : Nat, k ≤ l.length ∧ i = .int .i64 k ∧ (l.take k).all dgB = true) (fun i => l.length - (intOf i).toNat)
    case atStart => exact ⟨0, Nat.zero_le _, rfl, rfl⟩
    case round =>
      obtain ⟨k, hk, rfl, ha⟩ := hrel
      have Ha := Lib.hid ha
      clear ha
      by_cases hlt : k < l.length
      · have i1 : (k : Int) < (l.length : Int) := by omega
        rcases hd : dgB l[k]
        · have hb := dgB_f hd
          have Hd := Lib.hid hd
          clear hd
          rcases hb with hb | hb
          · have hb' : ((l[k].toNat : Nat) : Int) < 48 := by omega
            go_wp2
            go_ret2
            exact ⟨numV_form (fun h => not_all hlt Hd.out h.2), rfl⟩
          · have hb' : (57 : Int) < ((l[k].toNat : Nat) : Int) := by omega
            go_wp2
            go_ret2
            exact ⟨numV_form (fun h => not_all hlt Hd.out h.2), rfl⟩
        · have hb := dgB_t hd
          have hb1 : (48 : Int) ≤ ((l[k].toNat : Nat) : Int) := by omega
          have hb2 : ((l[k].toNat : Nat) : Int) ≤ 57 := by omega
          have Hd := Lib.hid hd
          clear hd hb
          go_wp2
          go_round
          case rel => exact ⟨k + 1, by omega, by go_num, all_next hlt Ha.out Hd.out⟩
          case measure => simp [intOf]; omega
      · have i1 : ¬ (k : Int) < (l.length : Int) := by omega
        obtain rfl : k = l.length := by omega
        have hal := Ha.out
        rw [List.take_length] at hal
        have Hal := Lib.hid hal
        clear hal
        go_wp2
        go_loop [7, 30] (fun n i => NumRel l most n i) (fun _ i => l.length - (intOf i).toNat)
        case atStart => exact ⟨0, 0, Nat.zero_le _, rfl, rfl, rfl, .inl rfl⟩
        case round =>
          obtain ⟨k, n, hk, rfl, rfl, hn, hle⟩ := hrel
          have Hn := Lib.hid hn
          clear hn
          by_cases hlt : k < l.length
          · have i1 : (k : Int) < (l.length : Int) := by omega
            have hdd : dgB l[k] = true := (List.all_eq_true.1 Hal.out) _ (List.getElem_mem hlt)
            have hb := dgB_t hdd
            have hb1 : (48 : Int) ≤ ((l[k].toNat : Nat) : Int) := by omega
            have hb2 : ((l[k].toNat : Nat) : Int) ≤ 57 := by omega
            clear hdd
            have hn0 : (0 : Int) ≤ (n : Int) := by omega
            have hvn := val_next hlt
            rw [← Hn.out] at hvn
            have Hvn := Lib.hid hvn
            have hvt := val_take l (k + 1)
            rw [hvn] at hvt
            clear hvn
            by_cases hr : 10 * (n : Int) + (((l[k].toNat : Nat) : Int) - 48) ≤ most
            · have t1 : ((l[k].toNat : Nat) : Int) - 48 ≤ most := by omega
              have t2 : (n : Int) ≤ (most - (((l[k].toNat : Nat) : Int) - 48)) / 10 := by omega
              clear hvt
              go_wp2
              go_round
              case rel => exact ⟨k + 1, 10 * n + (l[k].toNat - 48), by omega, by go_num, vint (by omega), Hvn.out.symm, .inr (by omega)⟩
              case measure => simp [intOf]; omega
            · have hgt : most < (val l : Int) := by omega
              have Hgt := Lib.hid hgt
              clear hgt hvt
              by_cases t1 : most < ((l[k].toNat : Nat) : Int) - 48
              · go_wp2
                go_ret2
                exact ⟨numV_range h0 Hal.out Hgt.out, rfl⟩
              · have t1' : ((l[k].toNat : Nat) : Int) - 48 ≤ most := by omega
                have t2 : (most - (((l[k].toNat : Nat) : Int) - 48)) / 10 < (n : Int) := by omega
                clear t1
                go_wp2
                go_ret2
                exact ⟨numV_range h0 Hal.out Hgt.out, rfl⟩
          · have i1 : ¬ (k : Int) < (l.length : Int) := by omega
            obtain rfl : k = l.length := by omega
            have hv := Hn.out
            rw [List.take_length] at hv
            have Hv := Lib.hid hv
            clear hv
            have hpos : l.length ≠ 0 := by intro h; exact h0 (List.eq_nil_of_length_eq_zero h)
            have hle' : (n : Int) ≤ most := by omega
            go_wp2
            go_ret2
            exact ⟨numV_ok h0 Hal.out (by rw [← Hv.out]; exact hle') (by rw [← Hv.out]), rfl⟩
end Go.Proofs.YtgebcifkbldfoaaGreatDoor

/- The contracts of domain.digit, domain.escaped and the reference's escaped. -/
namespace Go.Proofs.YtgebcifkbldfoaaGreatDoor
open Go.RowKit
attribute [local go_sem] ba_get ext_take ext_drop

def esc3 (a : UInt8) : List UInt8 → Option (UInt8 × Nat)
  | b :: c :: _ => if dgB b = true ∧ dgB c = true then (if 100 * (a.toNat - 48) + 10 * (b.toNat - 48) + (c.toNat - 48) ≤ 255 then some (UInt8.ofNat (100 * (a.toNat - 48) + 10 * (b.toNat - 48) + (c.toNat - 48)), 3) else none) else none
  | _ => none
def esc : List UInt8 → Option (UInt8 × Nat)
  | [] => none
  | a :: r => if dgB a = true then esc3 a r else some (a, 1)
end Go.Proofs.YtgebcifkbldfoaaGreatDoor

/- Contracts of the leaves of package utf and of its reference: shape, lead, Point. -/
namespace Go.Proofs.YtgebcifkbldfoaaGreatDoor
open Go.RowKit

def ptB (c : Int) : Bool := decide (0 ≤ c ∧ c ≤ 1114111 ∧ (c < 55296 ∨ 57343 < c))

end Go.Proofs.YtgebcifkbldfoaaGreatDoor

/- The contract of utf.Next: it returns the point with whose bytes a text begins, and how many they are, as the plain function nx says. -/
namespace Go.Proofs.YtgebcifkbldfoaaGreatDoor
open Go.RowKit

attribute [local go_sem] ba_get

def ck (least c n : Int) : Option (Int × Int) := if c < least ∨ ptB c = false then none else some (c, n)
def nx2 (a : Int) : List UInt8 → Option (Int × Int)
  | b :: _ => if b.toNat / 64 = 2 then ck 128 (a % 32 * 64 + (b.toNat : Int) % 64) 2 else none
  | _ => none
def nx3 (a : Int) : List UInt8 → Option (Int × Int)
  | b :: c :: _ => if b.toNat / 64 = 2 then if c.toNat / 64 = 2 then ck 2048 ((a % 16 * 64 + (b.toNat : Int) % 64) * 64 + (c.toNat : Int) % 64) 3 else none else none
  | _ => none
def nx4 (a : Int) : List UInt8 → Option (Int × Int)
  | b :: c :: d :: _ => if b.toNat / 64 = 2 then if c.toNat / 64 = 2 then if d.toNat / 64 = 2 then ck 65536 (((a % 8 * 64 + (b.toNat : Int) % 64) * 64 + (c.toNat : Int) % 64) * 64 + (d.toNat : Int) % 64) 4 else none else none else none
  | _ => none
def nx1 (a : Int) (r : List UInt8) : Option (Int × Int) :=
  if a < 128 then some (a, 1) else if a < 192 then none else if a < 224 then nx2 a r else if a < 240 then nx3 a r else if a < 248 then nx4 a r else none
def nx : List UInt8 → Option (Int × Int)
  | [] => none
  | a :: r => nx1 (a.toNat : Int) r
section
variable (a b c d : UInt8) (r : List UInt8) (w : World)

end
end Go.Proofs.YtgebcifkbldfoaaGreatDoor

/- The contract of utf.Runes. -/
namespace Go.Proofs.YtgebcifkbldfoaaGreatDoor
open Go.RowKit
attribute [local go_sem] ba_get ext_drop

def rnsF : Nat → List UInt8 → Option (List Int)
  | 0, l => if l = [] then some [] else none
  | k + 1, l => if l = [] then some [] else match nx l with
    | none => none
    | some (c, n) => (rnsF k (l.drop n.toNat)).map (c :: ·)
def rns (l : List UInt8) : Option (List Int) := rnsF l.length l

theorem rns_none {l : List UInt8} (hl : l ≠ []) (h : nx l = none) : rns l = none := by
  unfold rns
  rcases l with _ | ⟨a, r⟩
  · exact absurd rfl hl
  · simp only [List.length_cons, rnsF]; rw [if_neg hl, h]
def RnsPost (k : IntKind) (w : World) (o : Option (List Int)) (e : Ending) (w' : World) : Prop :=
  ∃ v, e = .returned (.tuple #[v, .int .i64 (if o.isSome then 0 else 5)]) ∧ Sl w' 1 v (o.getD []).length ((o.getD []).map (Value.int k)) ∧ Below w.heap.size w w'
theorem elt_ints : Elt Tryz.prog 103 3 1 8 := Elt.mk' (z := .int .i64 0) Tryz.underlying103 (by kernel_rfl) rfl (by decide)

/-- what holds at each round's head of a reader of points. -/
def RnsRel (k : IntKind) (e : TypeId) (w : World) (l : List UInt8) (r : List UInt8) (v : Value) (wr : World) : Prop :=
  ∃ done : List Int, rns l = (rns r).map (done ++ ·) ∧ done.length + r.length ≤ l.length ∧ wr.ownsRow w.heap.size e 1 v done.length (done.map (Value.int k)) ∧ Below w.heap.size w wr
theorem RnsRel.start (k : IntKind) (e : TypeId) (w : World) (l : List UInt8) : RnsRel k e w l l (.slice none 0 0) w :=
  ⟨[], by cases rns l <;> simp, by simp, World.ownsRow_nil _ _ _ _, Below.refl _ _⟩
theorem RnsRel.fail {k : IntKind} {e : TypeId} {w wr : World} {l r : List UInt8} {v : Value} (h : RnsRel k e w l r v wr) (hr : r ≠ []) (hn : nx r = none) : RnsPost k w (rns l) (.returned (.tuple #[.slice none 0 0, .int .i64 5])) wr := by
  obtain ⟨done, h1, _, h3, h4⟩ := h
  rw [rns_none hr hn] at h1
  rw [h1]
  exact ⟨_, rfl, by simpa using Sl.nil wr 1, h4⟩
end Go.Proofs.YtgebcifkbldfoaaGreatDoor
