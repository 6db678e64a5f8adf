/- Contracts and plain lemmas of our own, merged. -/
import Derived.Test.YtgebcifkbldfoaaDoorZNb1
import Derived.Test.YtgebcifkbldfoaaDoorProg
/- The contracts of ascii.Number and of the reference's Number: both answer what numV says. -/
namespace Go.Proofs.YtgebcifkbldfoaaDoor
open Go.RowKit
attribute [local go_sem] ba_get

def dgB (b : UInt8) : Bool := decide (48 ≤ b.toNat ∧ b.toNat ≤ 57)
def val (l : List UInt8) : Nat := l.foldl (fun n b => 10 * n + (b.toNat - 48)) 0
end Go.Proofs.YtgebcifkbldfoaaDoor

/- The contracts of domain.digit, domain.escaped and the reference's escaped. -/
namespace Go.Proofs.YtgebcifkbldfoaaDoor
open Go.RowKit
attribute [local go_sem] ba_get ext_take ext_drop

def esc3 (a : UInt8) : List UInt8 → Option (UInt8 × Nat)
  | b :: c :: _ => if dgB b = true ∧ dgB c = true then (if 100 * (a.toNat - 48) + 10 * (b.toNat - 48) + (c.toNat - 48) ≤ 255 then some (UInt8.ofNat (100 * (a.toNat - 48) + 10 * (b.toNat - 48) + (c.toNat - 48)), 3) else none) else none
  | _ => none
def esc : List UInt8 → Option (UInt8 × Nat)
  | [] => none
  | a :: r => if dgB a = true then esc3 a r else some (a, 1)
end Go.Proofs.YtgebcifkbldfoaaDoor

/- Contracts of the leaves of package utf and of its reference: shape, lead, Point. -/
namespace Go.Proofs.YtgebcifkbldfoaaDoor
open Go.RowKit

def ptB (c : Int) : Bool := decide (0 ≤ c ∧ c ≤ 1114111 ∧ (c < 55296 ∨ 57343 < c))

end Go.Proofs.YtgebcifkbldfoaaDoor

/- The contract of utf.Next: it returns the point with whose bytes a text begins, and how many they are, as the plain function nx says. -/
namespace Go.Proofs.YtgebcifkbldfoaaDoor
open Go.RowKit

attribute [local go_sem] ba_get

def ck (least c n : Int) : Option (Int × Int) := if c < least ∨ ptB c = false then none else some (c, n)
def nx2 (a : Int) : List UInt8 → Option (Int × Int)
  | b :: _ => if b.toNat / 64 = 2 then ck 128 (a % 32 * 64 + (b.toNat : Int) % 64) 2 else none
  | _ => none
def nx3 (a : Int) : List UInt8 → Option (Int × Int)
  | b :: c :: _ => if b.toNat / 64 = 2 then if c.toNat / 64 = 2 then ck 2048 ((a % 16 * 64 + (b.toNat : Int) % 64) * 64 + (c.toNat : Int) % 64) 3 else none else none
  | _ => none
def nx4 (a : Int) : List UInt8 → Option (Int × Int)
  | b :: c :: d :: _ => if b.toNat / 64 = 2 then if c.toNat / 64 = 2 then if d.toNat / 64 = 2 then ck 65536 (((a % 8 * 64 + (b.toNat : Int) % 64) * 64 + (c.toNat : Int) % 64) * 64 + (d.toNat : Int) % 64) 4 else none else none else none
  | _ => none
def nx1 (a : Int) (r : List UInt8) : Option (Int × Int) :=
  if a < 128 then some (a, 1) else if a < 192 then none else if a < 224 then nx2 a r else if a < 240 then nx3 a r else if a < 248 then nx4 a r else none
def nx : List UInt8 → Option (Int × Int)
  | [] => none
  | a :: r => nx1 (a.toNat : Int) r
theorem nx_cons (a : UInt8) (r : List UInt8) : nx (a :: r) = nx1 (a.toNat : Int) r := rfl
theorem nx1_1 (a : Int) (r : List UInt8) (h : a < 128) : nx1 a r = some (a, 1) := by unfold nx1; exact if_pos h
theorem nx1_0 (a : Int) (r : List UInt8) (h : (128 ≤ a ∧ a < 192) ∨ 248 ≤ a) : nx1 a r = none := by
  unfold nx1
  rcases h with ⟨h, h'⟩ | h
  · rw [if_neg (by omega), if_pos (by omega)]
  · rw [if_neg (by omega), if_neg (by omega), if_neg (by omega), if_neg (by omega), if_neg (by omega)]
theorem nx1_2 (a : Int) (r : List UInt8) (h : 192 ≤ a) (h' : a < 224) : nx1 a r = nx2 a r := by
  unfold nx1; rw [if_neg (by omega), if_neg (by omega), if_pos (by omega)]
theorem nx1_3 (a : Int) (r : List UInt8) (h : 224 ≤ a) (h' : a < 240) : nx1 a r = nx3 a r := by
  unfold nx1; rw [if_neg (by omega), if_neg (by omega), if_neg (by omega), if_pos (by omega)]
theorem nx1_4 (a : Int) (r : List UInt8) (h : 240 ≤ a) (h' : a < 248) : nx1 a r = nx4 a r := by
  unfold nx1; rw [if_neg (by omega), if_neg (by omega), if_neg (by omega), if_neg (by omega), if_pos (by omega)]
section
variable (a b c d : UInt8) (r : List UInt8) (w : World)

end
end Go.Proofs.YtgebcifkbldfoaaDoor

/- The contract of utf.Runes. -/
namespace Go.Proofs.YtgebcifkbldfoaaDoor
open Go.RowKit
attribute [local go_sem] ba_get ext_drop

def rnsF : Nat → List UInt8 → Option (List Int)
  | 0, l => if l = [] then some [] else none
  | k + 1, l => if l = [] then some [] else match nx l with
    | none => none
    | some (c, n) => (rnsF k (l.drop n.toNat)).map (c :: ·)
def rns (l : List UInt8) : Option (List Int) := rnsF l.length l

theorem ck_bd {least c n : Int} {p : Int × Int} (h : ck least c n = some p) : p = (c, n) ∧ least ≤ c ∧ ptB c = true := by
  unfold ck at h
  split at h
  · cases h
  · next hh => cases h; simp at hh; exact ⟨rfl, by omega, by simpa using hh.2⟩
theorem nx2_bd {a : Int} {r : List UInt8} {p : Int × Int} (h : nx2 a r = some p) : 1 ≤ r.length ∧ p.2 = 2 ∧ ptB p.1 = true := by
  match r, h with
  | b :: r, h =>
    simp only [nx2] at h
    split at h
    · obtain ⟨rfl, _, h⟩ := ck_bd h; exact ⟨by simp, rfl, h⟩
    · cases h
  | [], h => simp [nx2] at h
theorem nx3_bd {a : Int} {r : List UInt8} {p : Int × Int} (h : nx3 a r = some p) : 2 ≤ r.length ∧ p.2 = 3 ∧ ptB p.1 = true := by
  match r, h with
  | b :: c :: r, h =>
    simp only [nx3] at h
    split at h
    · split at h
      · obtain ⟨rfl, _, h⟩ := ck_bd h; exact ⟨by simp, rfl, h⟩
      · cases h
    · cases h
  | [_], h => simp [nx3] at h
  | [], h => simp [nx3] at h
theorem nx4_bd {a : Int} {r : List UInt8} {p : Int × Int} (h : nx4 a r = some p) : 3 ≤ r.length ∧ p.2 = 4 ∧ ptB p.1 = true := by
  match r, h with
  | b :: c :: d :: r, h =>
    simp only [nx4] at h
    split at h
    · split at h
      · split at h
        · obtain ⟨rfl, _, h⟩ := ck_bd h; exact ⟨by simp, rfl, h⟩
        · cases h
      · cases h
    · cases h
  | [_, _], h => simp [nx4] at h
  | [_], h => simp [nx4] at h
  | [], h => simp [nx4] at h
theorem nx_bd {l : List UInt8} {c n : Int} (h : nx l = some (c, n)) : 1 ≤ n ∧ n ≤ 4 ∧ n ≤ l.length ∧ ptB c = true := by
  rcases l with _ | ⟨a, r⟩
  · simp [nx] at h
  · rw [nx_cons] at h
    rcases (show ((a.toNat : Int) < 128 ∨ ((128 ≤ (a.toNat : Int) ∧ (a.toNat : Int) < 192) ∨ 248 ≤ (a.toNat : Int)) ∨ (192 ≤ (a.toNat : Int) ∧ (a.toNat : Int) < 224) ∨ (224 ≤ (a.toNat : Int) ∧ (a.toNat : Int) < 240) ∨ (240 ≤ (a.toNat : Int) ∧ (a.toNat : Int) < 248)) by omega) with h' | h' | ⟨h1, h2⟩ | ⟨h1, h2⟩ | ⟨h1, h2⟩
    · rw [nx1_1 _ _ h'] at h
      cases h
      refine ⟨by omega, by omega, by simp; omega, ?_⟩
      simp only [ptB, decide_eq_true_eq]; omega
    · rw [nx1_0 _ _ h'] at h; cases h
    · rw [nx1_2 _ _ h1 h2] at h; have := nx2_bd h; simp at this ⊢; exact ⟨by omega, by omega, by omega, this.2.2⟩
    · rw [nx1_3 _ _ h1 h2] at h; have := nx3_bd h; simp at this ⊢; exact ⟨by omega, by omega, by omega, this.2.2⟩
    · rw [nx1_4 _ _ h1 h2] at h; have := nx4_bd h; simp at this ⊢; exact ⟨by omega, by omega, by omega, this.2.2⟩
theorem rnsF_nil (k : Nat) : rnsF k [] = some [] := by cases k <;> simp [rnsF]
theorem rnsF_enough (k : Nat) : ∀ (j : Nat) (l : List UInt8), l.length ≤ k → l.length ≤ j → rnsF k l = rnsF j l := by
  induction k with
  | zero =>
    intro j l h _
    have : l = [] := List.eq_nil_of_length_eq_zero (by omega)
    subst this
    rw [rnsF_nil, rnsF_nil]
  | succ k ih =>
    intro j l h hj
    match j with
    | 0 =>
      have : l = [] := List.eq_nil_of_length_eq_zero (by omega)
      subst this
      rw [rnsF_nil, rnsF_nil]
    | j + 1 =>
      simp only [rnsF]
      by_cases hl : l = []
      · rw [if_pos hl, if_pos hl]
      · rw [if_neg hl, if_neg hl]
        rcases hn : nx l with _ | ⟨c, n⟩
        · rfl
        · have hb := nx_bd hn
          have hd : (l.drop n.toNat).length ≤ l.length - 1 := by rw [List.length_drop]; omega
          dsimp only
          rw [ih j (l.drop n.toNat) (by omega) (by omega)]
theorem rns_none {l : List UInt8} (hl : l ≠ []) (h : nx l = none) : rns l = none := by
  unfold rns
  rcases l with _ | ⟨a, r⟩
  · exact absurd rfl hl
  · simp only [List.length_cons, rnsF]; rw [if_neg hl, h]
theorem rns_some {l : List UInt8} {c n : Int} (h : nx l = some (c, n)) : rns l = (rns (l.drop n.toNat)).map (c :: ·) := by
  have hb := nx_bd h
  unfold rns
  rcases l with _ | ⟨a, r⟩
  · simp [nx] at h
  · simp only [List.length_cons, rnsF]; rw [if_neg (by simp), h]
    dsimp only
    rw [rnsF_enough r.length ((a :: r).drop n.toNat).length _ (by rw [List.length_drop]; simp at hb ⊢; omega) (Nat.le_refl _)]

def RnsPost (k : IntKind) (w : World) (o : Option (List Int)) (e : Ending) (w' : World) : Prop :=
  ∃ v, e = .returned (.tuple #[v, .int .i64 (if o.isSome then 0 else 5)]) ∧ Sl w' 1 v (o.getD []).length ((o.getD []).map (Value.int k)) ∧ Below w.heap.size w w'
/-- what holds at each round's head of a reader of points. -/
def RnsRel (k : IntKind) (e : TypeId) (w : World) (l : List UInt8) (r : List UInt8) (v : Value) (wr : World) : Prop :=
  ∃ done : List Int, rns l = (rns r).map (done ++ ·) ∧ done.length + r.length ≤ l.length ∧ wr.ownsRow w.heap.size e 1 v done.length (done.map (Value.int k)) ∧ Below w.heap.size w wr
theorem RnsRel.start (k : IntKind) (e : TypeId) (w : World) (l : List UInt8) : RnsRel k e w l l (.slice none 0 0) w :=
  ⟨[], by cases rns l <;> simp, by simp, World.ownsRow_nil _ _ _ _, Below.refl _ _⟩
theorem RnsRel.fail {k : IntKind} {e : TypeId} {w wr : World} {l r : List UInt8} {v : Value} (h : RnsRel k e w l r v wr) (hr : r ≠ []) (hn : nx r = none) : RnsPost k w (rns l) (.returned (.tuple #[.slice none 0 0, .int .i64 5])) wr := by
  obtain ⟨done, h1, _, h3, h4⟩ := h
  rw [rns_none hr hn] at h1
  rw [h1]
  exact ⟨_, rfl, by simpa using Sl.nil wr 1, h4⟩
theorem RnsRel.step {k : IntKind} {e : TypeId} {w wr w1 : World} {l r : List UInt8} {v1 : Value} {c n : Int} {done : List Int} (hn : nx r = some (c, n)) (h1 : rns l = (rns r).map (done ++ ·)) (h2 : done.length + r.length ≤ l.length)
    (h3 : w1.ownsRow w.heap.size e 1 v1 (done.length + 1) (done.map (Value.int k) ++ [.int k c])) (h4 : Below w.heap.size w wr) (h5 : Below w.heap.size wr w1) : RnsRel k e w l (r.drop n.toNat) v1 w1 := by
  have hb := nx_bd hn
  refine ⟨done ++ [c], ?_, ?_, by simpa using h3, h4.trans h5⟩
  · rw [h1, rns_some hn]
    cases rns (r.drop n.toNat) <;> simp
  · simp; omega

end Go.Proofs.YtgebcifkbldfoaaDoor
