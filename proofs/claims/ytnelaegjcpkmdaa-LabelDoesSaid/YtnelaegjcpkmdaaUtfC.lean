/- The contract of utf.Runes. -/
import Derived.Test.YtnelaegjcpkmdaaUtfB
namespace Go.Proofs.Ytnelaegjcpkmdaa
open Go.RowKit
attribute [local go_sem] ba_get ext_drop

def rnsF : Nat → List UInt8 → Option (List Int)
  | 0, l => if l = [] then some [] else none
  | k + 1, l => if l = [] then some [] else match nx l with
    | none => none
    | some (c, n) => (rnsF k (l.drop n.toNat)).map (c :: ·)
def rns (l : List UInt8) : Option (List Int) := rnsF l.length l

theorem ck_bd {least c n : Int} {p : Int × Int} (h : ck least c n = some p) : p = (c, n) ∧ least ≤ c ∧ ptB c = true := by
  unfold ck at h
  split at h
  · cases h
  · next hh => cases h; simp at hh; exact ⟨rfl, by omega, by simpa using hh.2⟩
theorem nx2_bd {a : Int} {r : List UInt8} {p : Int × Int} (h : nx2 a r = some p) : 1 ≤ r.length ∧ p.2 = 2 ∧ ptB p.1 = true := by
  match r, h with
  | b :: r, h =>
    simp only [nx2] at h
    split at h
    · obtain ⟨rfl, _, h⟩ := ck_bd h; exact ⟨by simp, rfl, h⟩
    · cases h
  | [], h => simp [nx2] at h
theorem nx3_bd {a : Int} {r : List UInt8} {p : Int × Int} (h : nx3 a r = some p) : 2 ≤ r.length ∧ p.2 = 3 ∧ ptB p.1 = true := by
  match r, h with
  | b :: c :: r, h =>
    simp only [nx3] at h
    split at h
    · split at h
      · obtain ⟨rfl, _, h⟩ := ck_bd h; exact ⟨by simp, rfl, h⟩
      · cases h
    · cases h
  | [_], h => simp [nx3] at h
  | [], h => simp [nx3] at h
theorem nx4_bd {a : Int} {r : List UInt8} {p : Int × Int} (h : nx4 a r = some p) : 3 ≤ r.length ∧ p.2 = 4 ∧ ptB p.1 = true := by
  match r, h with
  | b :: c :: d :: r, h =>
    simp only [nx4] at h
    split at h
    · split at h
      · split at h
        · obtain ⟨rfl, _, h⟩ := ck_bd h; exact ⟨by simp, rfl, h⟩
        · cases h
      · cases h
    · cases h
  | [_, _], h => simp [nx4] at h
  | [_], h => simp [nx4] at h
  | [], h => simp [nx4] at h
theorem nx_bd {l : List UInt8} {c n : Int} (h : nx l = some (c, n)) : 1 ≤ n ∧ n ≤ 4 ∧ n ≤ l.length ∧ ptB c = true := by
  rcases l with _ | ⟨a, r⟩
  · simp [nx] at h
  · rw [nx_cons] at h
    rcases (show ((a.toNat : Int) < 128 ∨ ((128 ≤ (a.toNat : Int) ∧ (a.toNat : Int) < 192) ∨ 248 ≤ (a.toNat : Int)) ∨ (192 ≤ (a.toNat : Int) ∧ (a.toNat : Int) < 224) ∨ (224 ≤ (a.toNat : Int) ∧ (a.toNat : Int) < 240) ∨ (240 ≤ (a.toNat : Int) ∧ (a.toNat : Int) < 248)) by omega) with h' | h' | ⟨h1, h2⟩ | ⟨h1, h2⟩ | ⟨h1, h2⟩
    · rw [nx1_1 _ _ h'] at h
      cases h
      refine ⟨by omega, by omega, by simp; omega, ?_⟩
      simp only [ptB, decide_eq_true_eq]; omega
    · rw [nx1_0 _ _ h'] at h; cases h
    · rw [nx1_2 _ _ h1 h2] at h; have := nx2_bd h; simp at this ⊢; exact ⟨by omega, by omega, by omega, this.2.2⟩
    · rw [nx1_3 _ _ h1 h2] at h; have := nx3_bd h; simp at this ⊢; exact ⟨by omega, by omega, by omega, this.2.2⟩
    · rw [nx1_4 _ _ h1 h2] at h; have := nx4_bd h; simp at this ⊢; exact ⟨by omega, by omega, by omega, this.2.2⟩
theorem ptB_bd {c : Int} (h : ptB c = true) : 0 ≤ c ∧ c ≤ 1114111 := by
  simp [ptB] at h; omega

theorem rnsF_nil (k : Nat) : rnsF k [] = some [] := by cases k <;> simp [rnsF]
theorem rnsF_enough (k : Nat) : ∀ (j : Nat) (l : List UInt8), l.length ≤ k → l.length ≤ j → rnsF k l = rnsF j l := by
  induction k with
  | zero =>
    intro j l h _
    have : l = [] := List.eq_nil_of_length_eq_zero (by omega)
    subst this
    rw [rnsF_nil, rnsF_nil]
  | succ k ih =>
    intro j l h hj
    match j with
    | 0 =>
      have : l = [] := List.eq_nil_of_length_eq_zero (by omega)
      subst this
      rw [rnsF_nil, rnsF_nil]
    | j + 1 =>
      simp only [rnsF]
      by_cases hl : l = []
      · rw [if_pos hl, if_pos hl]
      · rw [if_neg hl, if_neg hl]
        rcases hn : nx l with _ | ⟨c, n⟩
        · rfl
        · have hb := nx_bd hn
          have hd : (l.drop n.toNat).length ≤ l.length - 1 := by rw [List.length_drop]; omega
          dsimp only
          rw [ih j (l.drop n.toNat) (by omega) (by omega)]
theorem rns_nil : rns [] = some [] := rfl
theorem rns_none {l : List UInt8} (hl : l ≠ []) (h : nx l = none) : rns l = none := by
  unfold rns
  rcases l with _ | ⟨a, r⟩
  · exact absurd rfl hl
  · simp only [List.length_cons, rnsF]; rw [if_neg hl, h]
theorem rns_some {l : List UInt8} {c n : Int} (h : nx l = some (c, n)) : rns l = (rns (l.drop n.toNat)).map (c :: ·) := by
  have hb := nx_bd h
  unfold rns
  rcases l with _ | ⟨a, r⟩
  · simp [nx] at h
  · simp only [List.length_cons, rnsF]; rw [if_neg (by simp), h]
    dsimp only
    rw [rnsF_enough r.length ((a :: r).drop n.toNat).length _ (by rw [List.length_drop]; simp at hb ⊢; omega) (Nat.le_refl _)]

def RnsPost (k : IntKind) (w : World) (o : Option (List Int)) (e : Ending) (w' : World) : Prop :=
  ∃ v, e = .returned (.tuple #[v, .int .i64 (if o.isSome then 0 else 5)]) ∧ Sl w' 1 v (o.getD []).length ((o.getD []).map (Value.int k)) ∧ Below w.heap.size w w'
theorem elt_runes : Elt Try.prog 46 21 1 4 := Elt.mk' (z := .int .i32 0) Try.underlying46 (by kernel_rfl) rfl (by decide)
theorem elt_ints : Elt Try.prog 51 3 1 8 := Elt.mk' (z := .int .i64 0) Try.underlying51 (by kernel_rfl) rfl (by decide)

/-- what holds at each round's head of a reader of points. -/
def RnsRel (k : IntKind) (e : TypeId) (w : World) (l : List UInt8) (r : List UInt8) (v : Value) (wr : World) : Prop :=
  ∃ done : List Int, rns l = (rns r).map (done ++ ·) ∧ done.length + r.length ≤ l.length ∧ wr.ownsRow w.heap.size e 1 v done.length (done.map (Value.int k)) ∧ Below w.heap.size w wr
theorem RnsRel.start (k : IntKind) (e : TypeId) (w : World) (l : List UInt8) : RnsRel k e w l l (.slice none 0 0) w :=
  ⟨[], by cases rns l <;> simp, by simp, World.ownsRow_nil _ _ _ _, Below.refl _ _⟩
theorem RnsRel.finish {k : IntKind} {e : TypeId} {w wr : World} {l : List UInt8} {v : Value} (h : RnsRel k e w l [] v wr) : RnsPost k w (rns l) (.returned (.tuple #[v, .int .i64 0])) wr := by
  obtain ⟨done, h1, _, h3, h4⟩ := h
  rw [rns_nil] at h1
  rw [h1]
  exact ⟨v, rfl, by simpa using Sl.own h3, h4⟩
theorem RnsRel.fail {k : IntKind} {e : TypeId} {w wr : World} {l r : List UInt8} {v : Value} (h : RnsRel k e w l r v wr) (hr : r ≠ []) (hn : nx r = none) : RnsPost k w (rns l) (.returned (.tuple #[.slice none 0 0, .int .i64 5])) wr := by
  obtain ⟨done, h1, _, h3, h4⟩ := h
  rw [rns_none hr hn] at h1
  rw [h1]
  exact ⟨_, rfl, by simpa using Sl.nil wr 1, h4⟩
theorem RnsRel.step {k : IntKind} {e : TypeId} {w wr w1 : World} {l r : List UInt8} {v1 : Value} {c n : Int} {done : List Int} (hn : nx r = some (c, n)) (h1 : rns l = (rns r).map (done ++ ·)) (h2 : done.length + r.length ≤ l.length)
    (h3 : w1.ownsRow w.heap.size e 1 v1 (done.length + 1) (done.map (Value.int k) ++ [.int k c])) (h4 : Below w.heap.size w wr) (h5 : Below w.heap.size wr w1) : RnsRel k e w l (r.drop n.toNat) v1 w1 := by
  have hb := nx_bd hn
  refine ⟨done ++ [c], ?_, ?_, by simpa using h3, h4.trans h5⟩
  · rw [h1, rns_some hn]
    cases rns (r.drop n.toNat) <;> simp
  · simp; omega

set_option maxRecDepth 100000 in
set_option maxHeartbeats 400000 in
theorem runes_any (l : List UInt8) (w : World) (hl : l.length ≤ 1000000000) :
    Calls Try.prog 73 #[.string ⟨l.toArray⟩] w (RnsPost .i32 w (rns l)) := by
  go_enter Try.func73, Try.ntmps73
  go_wp2
  go_loopw [0, 4] (fun s v wr => ∃ r : List UInt8, s = .string ⟨r.toArray⟩ ∧ RnsRel .i32 21 w l r v wr) (fun s _ _ => strLen s)
  case atStart => exact ⟨l, rfl, RnsRel.start _ _ _ _⟩
  case round =>
    obtain ⟨r, rfl, hrel⟩ := hrel
    obtain ⟨done, h1, h2, h3, h4⟩ := hrel
    have H1 := Lib.hid h1
    clear h1
    by_cases hr : r = []
    · subst hr
      go_wp2
      go_ret2
      exact RnsRel.finish ⟨done, H1.out, h2, h3, h4⟩
    · have hr1 : r.isEmpty = false := by simpa using hr
      have hsz := h4.size
      rcases hn : nx r with _ | ⟨c, n⟩
      · have Hn := Lib.hid hn
        clear hn
        go_wp2_with fail
        refine (next_any _ _ (by omega)).mono ?_
        rintro e w' ⟨rfl, rfl⟩
        rw [Hn.out]
        unfold nextV
        go_wp2
        go_ret2
        exact RnsRel.fail ⟨done, H1.out, h2, h3, h4⟩ hr Hn.out
      · have hb := nx_bd hn
        have hp := ptB_bd hb.2.2.2
        have Hn := Lib.hid hn
        clear hn
        go_wp2_with fail
        refine (next_any _ _ (by omega)).mono ?_
        rintro e w' ⟨rfl, rfl⟩
        rw [Hn.out]
        unfold nextV
        go_wp2_with (at_builtin; refine wpList_appLit rfl _ _ _ rfl elt_runes rfl h3 [.int .i32 c] (m := 1) rfl rfl (by simp [Value.oneCell']) ?c1 ?c2 ?c3 ?_)
        case c1 => omega
        case c2 => omega
        case c3 => omega
        · intro v1 w1 ho1 hb1 _
          have R := RnsRel.step (k := .i32) (e := 21) Hn.out H1.out h2 ho1 h4 hb1
          clear ho1 hb1
          go_wp2
          go_roundw
          case rel => exact ⟨_, rfl, R⟩
          case measure => simp only [strLen_mk, List.length_drop]; omega
end Go.Proofs.Ytnelaegjcpkmdaa
