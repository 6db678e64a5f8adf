/- The contract of domain.one: the label that a text begins with. -/
import Derived.Test.YtnelaegjcpkmdaaDomA
import Derived.Test.YtnelaegjcpkmdaaKB
namespace Go.Proofs.Ytnelaegjcpkmdaa
open Go.RowKit
attribute [local go_sem] ba_get ext_take ext_drop

/-- one byte of a label, and in how many bytes it is written. -/
def stp : List UInt8 → Option (UInt8 × Nat)
  | [] => none
  | a :: r => if a = 92 then (esc r).map (fun p => (p.1, p.2 + 1)) else some (a, 1)
/-- at the end, or at a dot. -/
def ends (l : List UInt8) : Bool := l.isEmpty || l.head? == some 46
def oneF : Nat → List UInt8 → Option (List UInt8 × Nat)
  | 0, _ => some ([], 0)
  | k + 1, l => if ends l = true then some ([], 0) else match stp l with
    | none => none
    | some (c, n) => (oneF k (l.drop n)).map (fun p => (c :: p.1, n + p.2))
def one (l : List UInt8) : Option (List UInt8 × Nat) := oneF l.length l

theorem esc3_bd {a : UInt8} {r : List UInt8} {c : UInt8} {n : Nat} (h : esc3 a r = some (c, n)) : n = 3 ∧ 2 ≤ r.length := by
  rcases r with _ | ⟨b, _ | ⟨d, r⟩⟩
  · cases h
  · cases h
  · simp only [esc3] at h
    split at h
    · split at h
      · cases h; exact ⟨rfl, by simp⟩
      · cases h
    · cases h
theorem esc_bd {l : List UInt8} {c : UInt8} {n : Nat} (h : esc l = some (c, n)) : 1 ≤ n ∧ n ≤ 3 ∧ n ≤ l.length := by
  rcases l with _ | ⟨a, r⟩
  · cases h
  · simp only [esc] at h
    split at h
    · have := esc3_bd h; simp; omega
    · cases h; simp
theorem stp_bd {l : List UInt8} {c : UInt8} {n : Nat} (h : stp l = some (c, n)) : 1 ≤ n ∧ n ≤ 4 ∧ n ≤ l.length := by
  rcases l with _ | ⟨a, r⟩
  · cases h
  · simp only [stp] at h
    split at h
    · obtain ⟨⟨c', m⟩, hp, he⟩ := Option.map_eq_some_iff.1 h
      have := esc_bd hp
      cases he
      simp; omega
    · cases h; simp
theorem oneF_nil (k : Nat) : oneF k [] = some ([], 0) := by cases k <;> rfl
theorem oneF_enough (k : Nat) : ∀ (j : Nat) (l : List UInt8), l.length ≤ k → l.length ≤ j → oneF k l = oneF j l := by
  induction k with
  | zero =>
    intro j l h _
    have : l = [] := List.eq_nil_of_length_eq_zero (by omega)
    subst this
    rw [oneF_nil, oneF_nil]
  | succ k ih =>
    intro j l h hj
    rcases j with _ | j
    · have : l = [] := List.eq_nil_of_length_eq_zero (by omega)
      subst this
      rw [oneF_nil, oneF_nil]
    · simp only [oneF]
      by_cases he : ends l = true
      · rw [if_pos he, if_pos he]
      · rw [if_neg he, if_neg he]
        rcases hn : stp l with _ | ⟨c, n⟩
        · rfl
        · have hb := stp_bd hn
          have hd : (l.drop n).length ≤ l.length - 1 := by rw [List.length_drop]; omega
          dsimp only
          rw [ih j (l.drop n) (by omega) (by omega)]
theorem one_end {l : List UInt8} (h : ends l = true) : one l = some ([], 0) := by
  unfold one
  rcases l with _ | ⟨a, r⟩
  · rfl
  · simp only [List.length_cons, oneF]; rw [if_pos h]
theorem one_none {l : List UInt8} (h : ends l = false) (hs : stp l = none) : one l = none := by
  unfold one
  rcases l with _ | ⟨a, r⟩
  · cases h
  · simp only [List.length_cons, oneF]; rw [if_neg (by simp [h]), hs]
theorem one_some {l : List UInt8} {c : UInt8} {n : Nat} (h : ends l = false) (hs : stp l = some (c, n)) : one l = (one (l.drop n)).map (fun p => (c :: p.1, n + p.2)) := by
  have hb := stp_bd hs
  unfold one
  rcases l with _ | ⟨a, r⟩
  · cases h
  · simp only [List.length_cons, oneF]; rw [if_neg (by simp [h]), hs]
    dsimp only
    rw [oneF_enough r.length ((a :: r).drop n).length _ (by rw [List.length_drop]; simp at hb ⊢; omega) (Nat.le_refl _)]
theorem oneF_bd (k : Nat) : ∀ (l b : List UInt8) (m : Nat), oneF k l = some (b, m) → m ≤ l.length ∧ b.length ≤ m ∧ m ≤ 4 * b.length := by
  induction k with
  | zero => intro l b m h; cases h; exact ⟨Nat.zero_le _, Nat.le_refl _, Nat.zero_le _⟩
  | succ k ih =>
    intro l b m h
    simp only [oneF] at h
    split at h
    · cases h; exact ⟨Nat.zero_le _, Nat.le_refl _, Nat.zero_le _⟩
    · rcases hn : stp l with _ | ⟨c, n⟩
      · rw [hn] at h; cases h
      · rw [hn] at h
        dsimp only at h
        obtain ⟨⟨b', m'⟩, hp, he⟩ := Option.map_eq_some_iff.1 h
        cases he
        have hb := stp_bd hn
        obtain ⟨h1, h2, h3⟩ := ih _ _ _ hp
        rw [List.length_drop] at h1
        simp
        omega
theorem one_bd {l b : List UInt8} {m : Nat} (h : one l = some (b, m)) : m ≤ l.length ∧ b.length ≤ m ∧ m ≤ 4 * b.length := oneF_bd _ _ _ _ h
theorem one_pos {l b : List UInt8} {m : Nat} (h : one l = some (b, m)) (hb : b ≠ []) : 1 ≤ m := by
  have := one_bd h
  have : 0 < b.length := List.length_pos_iff.2 hb
  omega

/-- what domain.one answers: the label, how many bytes, the error. -/
def oneE (l : List UInt8) : Int × List UInt8 × Nat := match one l with
  | none => (5, [], 0)
  | some (b, m) => if b = [] then (8, [], 0) else if 63 < b.length then (7, [], 0) else (0, b, m)
def oneV (p : Int × List UInt8 × Nat) : Value := .tuple #[.string ⟨p.2.1.toArray⟩, .int .i64 (p.2.2 : Int), .int .i64 p.1]
def OnePost (w : World) (l : List UInt8) (e : Ending) (w' : World) : Prop := e = .returned (oneV (oneE l)) ∧ Below w.heap.size w w'

def OneRel (w : World) (l : List UInt8) (k : Nat) (v : Value) (wr : World) : Prop :=
  ∃ done : List UInt8, one l = (one (l.drop k)).map (fun p => (done ++ p.1, k + p.2)) ∧ done.length ≤ k ∧ wr.ownsRow w.heap.size 5 1 v done.length (done.map byv) ∧ Below w.heap.size w wr
theorem OneRel.start (w : World) (l : List UInt8) : OneRel w l 0 (.slice none 0 0) w :=
  ⟨[], by rw [List.drop_zero]; cases one l <;> simp, Nat.le_refl _, World.ownsRow_nil _ _ _ _, Below.refl _ _⟩
theorem one_fail {w wr : World} {l : List UInt8} {k : Nat} {done : List UInt8} (h : one l = (one (l.drop k)).map (fun p => (done ++ p.1, k + p.2))) (he : ends (l.drop k) = false) (hs : stp (l.drop k) = none) (hb : Below w.heap.size w wr) :
    OnePost w l (.returned (.tuple #[.string ⟨#[]⟩, .int .i64 0, .int .i64 5])) wr := by
  rw [one_none he hs] at h
  unfold OnePost oneE
  rw [h]
  exact ⟨rfl, hb⟩
theorem OneRel.step {w w0 w1 : World} {l : List UInt8} {k n : Nat} {c : UInt8} {v1 : Value} {done : List UInt8} (h : one l = (one (l.drop k)).map (fun p => (done ++ p.1, k + p.2))) (hk : done.length ≤ k) (he : ends (l.drop k) = false) (hs : stp (l.drop k) = some (c, n))
    (h3 : w1.ownsRow w.heap.size 5 1 v1 (done.length + 1) (done.map byv ++ [byv c])) (h4 : Below w.heap.size w w0) (h5 : Below w.heap.size w0 w1) : OneRel w l (k + n) v1 w1 := by
  have hb := stp_bd hs
  refine ⟨done ++ [c], ?_, by simp; omega, by simpa using h3, h4.trans h5⟩
  rw [h, one_some he hs, List.drop_drop]
  cases one (l.drop (k + n)) <;> simp [Nat.add_assoc]
theorem one_done {l : List UInt8} {k : Nat} {done : List UInt8} (h : one l = (one (l.drop k)).map (fun p => (done ++ p.1, k + p.2))) (he : ends (l.drop k) = true) : one l = some (done, k) := by
  rw [one_end he] at h
  rw [h]
  simp

theorem drop_cons {l : List UInt8} {k : Nat} (h : k < l.length) : l.drop k = l[k] :: l.drop (k + 1) := List.drop_eq_getElem_cons h
theorem u8eq {a : UInt8} {n : Nat} (h : n < 256) : a = UInt8.ofNat n ↔ a.toNat = n := by
  constructor
  · intro e; rw [e, UInt8.toNat_ofNat_of_lt' h]
  · intro e; rw [← e]; simp
theorem is46 {a : UInt8} : a = 46 ↔ a.toNat = 46 := u8eq (n := 46) (by omega)
theorem is92 {a : UInt8} : a = 92 ↔ a.toNat = 92 := u8eq (n := 92) (by omega)
theorem ends_cons (a : UInt8) (r : List UInt8) : ends (a :: r) = (a == 46) := by simp [ends]
theorem ends_at {l : List UInt8} {k : Nat} (h : k < l.length) : ends (l.drop k) = (l[k] == 46) := by
  rw [drop_cons h, ends_cons]
theorem ends_end {l : List UInt8} : ends (l.drop l.length) = true := by simp [ends]
theorem stp_at {l : List UInt8} {k : Nat} (h : k < l.length) : stp (l.drop k) = if l[k] = 92 then (esc (l.drop (k + 1))).map (fun p => (p.1, p.2 + 1)) else some (l[k], 1) := by
  rw [drop_cons h]
  rfl
theorem fin_name {w wr : World} {l : List UInt8} {k : Nat} (h : one l = some ([], k)) (hb : Below w.heap.size w wr) : OnePost w l (.returned (.tuple #[.string ⟨#[]⟩, .int .i64 0, .int .i64 8])) wr := by
  unfold OnePost oneE; rw [h]; exact ⟨rfl, hb⟩
theorem fin_label {w wr : World} {l b : List UInt8} {k : Nat} (h : one l = some (b, k)) (h0 : b ≠ []) (h1 : 63 < b.length) (hb : Below w.heap.size w wr) : OnePost w l (.returned (.tuple #[.string ⟨#[]⟩, .int .i64 0, .int .i64 7])) wr := by
  unfold OnePost oneE; rw [h]; dsimp only; rw [if_neg h0, if_pos h1]; exact ⟨rfl, hb⟩
theorem fin_ok {w wr : World} {l b : List UInt8} {k : Nat} (h : one l = some (b, k)) (h0 : b ≠ []) (h1 : ¬ 63 < b.length) (hb : Below w.heap.size w wr) : OnePost w l (.returned (.tuple #[.string ⟨b.toArray⟩, .int .i64 (k : Int), .int .i64 0])) wr := by
  unfold OnePost oneE; rw [h]; dsimp only; rw [if_neg h0, if_neg h1]; exact ⟨rfl, hb⟩

theorem escaped_bel (l : List UInt8) (w : World) (hl : l.length ≤ 140737488351232) : Calls Try.prog 116 #[.string ⟨l.toArray⟩] w fun e w' => e = .returned (escV (esc l)) ∧ Below w.heap.size w w' :=
  (escaped_any l w hl).mono fun _ _ ⟨h, n, hn⟩ => ⟨h, by rw [hn]; exact below_drewN (Below.refl _ _) _⟩

set_option maxRecDepth 100000 in
set_option maxHeartbeats 1000000 in
theorem one_any (l : List UInt8) (w : World) (hl : l.length ≤ 1000000000) : Calls Try.prog 89 #[.string ⟨l.toArray⟩] w (OnePost w l) := by
  go_enter Try.func89, Try.ntmps89
  go_wp2
  go_loopw [5, 6] (fun v i wr => ∃ k : Nat, k ≤ l.length ∧ i = .int .i64 k ∧ OneRel w l k v wr) (fun _ i _ => l.length - (intOf i).toNat)
  case atStart => exact ⟨0, Nat.zero_le _, rfl, OneRel.start _ _⟩
  case round =>
    obtain ⟨k, hk, rfl, done, h1, h2, h3, h4⟩ := hrel
    have H1 := Lib.hid h1
    clear h1
    have hsz := h4.size
    by_cases hgo : ∃ h : k < l.length, l[k].toNat ≠ 46
    · obtain ⟨hlt, h46⟩ := hgo
      have i1 : (k : Int) < (l.length : Int) := by omega
      have i2 : (((l[k].toNat : Nat) : Int) != 46) = true := by simp; omega
      have he : ends (l.drop k) = false := by
        rw [ends_at hlt]
        simp only [beq_eq_false_iff_ne, ne_eq]
        intro h
        exact h46 (is46.1 h)
      have He := Lib.hid he
      clear he
      by_cases h92 : l[k].toNat = 92
      · have i3 : (((l[k].toNat : Nat) : Int) == 92) = true := by simp; omega
        have hst : stp (l.drop k) = (esc (l.drop (k + 1))).map (fun p => (p.1, p.2 + 1)) := by
          rw [stp_at hlt, if_pos (is92.2 h92)]
        clear h46 h92
        have hdl : (l.drop (k + 1)).length ≤ l.length := by rw [List.length_drop]; omega
        rcases hes : esc (l.drop (k + 1)) with _ | ⟨c, n⟩
        · rw [hes] at hst
          have Hst := Lib.hid hst
          have Hes := Lib.hid hes
          clear hst hes
          go_wp2_with fail
          refine (escaped_bel _ _ (by omega)).mono ?_
          rintro e w0 ⟨rfl, hb0⟩
          rw [Hes.out]
          unfold escV
          go_wp2
          go_ret3
          exact one_fail H1.out He.out Hst.out (h4.trans (hb0.mono hsz))
        · rw [hes] at hst
          have hst' : stp (l.drop k) = some (c, n + 1) := hst
          have heb := esc_bd hes
          rw [List.length_drop] at heb
          have Hst := Lib.hid hst'
          have Hes := Lib.hid hes
          clear hst hes hst'
          have hcb := c.toNat_lt
          go_wp2_with fail
          refine (escaped_bel _ _ (by omega)).mono ?_
          rintro e w0 ⟨rfl, hb0⟩
          rw [Hes.out]
          unfold escV
          have h3' := own_below h3 hb0
          have h4' := h4.trans (hb0.mono hsz)
          have hsz' := h4'.size
          clear h3
          go_wp2_with (at_builtin; refine wpList_appLit rfl _ _ _ rfl elt_bytes (n := done.length) rfl h3' [byv c] (m := 1) rfl rfl (by simp [Value.oneCell', byv]) hsz' (by omega) (by omega) ?_; intro v1 w1 ho1 hb1 hg1)
          have R := OneRel.step H1.out h2 He.out Hst.out ho1 h4' hb1
          clear ho1 hb1
          go_roundw
          case rel => exact ⟨k + (n + 1), by omega, vint (by omega), R⟩
          case measure => simp [intOf]; omega
      · have i3 : (((l[k].toNat : Nat) : Int) == 92) = false := by simp; omega
        have hst : stp (l.drop k) = some (l[k], 1) := by
          rw [stp_at hlt, if_neg (fun h => h92 (is92.1 h))]
        have Hst := Lib.hid hst
        clear h46 h92 hst
        go_wp2_with (at_builtin; refine wpList_appLit rfl _ _ _ rfl elt_bytes (n := done.length) rfl h3 [byv l[k]] (m := 1) rfl rfl (by simp [Value.oneCell', byv]) hsz (by omega) (by omega) ?_; intro v1 w1 ho1 hb1 hg1)
        have R := OneRel.step H1.out h2 He.out Hst.out ho1 h4 hb1
        clear ho1 hb1
        go_roundw
        case rel => exact ⟨k + 1, by omega, by go_num, R⟩
        case measure => simp [intOf]; omega
    · have hend : ends (l.drop k) = true := by
        by_cases hlt : k < l.length
        · rw [ends_at hlt]
          have : l[k].toNat = 46 := Decidable.byContradiction fun h => hgo ⟨hlt, h⟩
          simpa using is46.2 this
        · obtain rfl : k = l.length := by omega
          exact ends_end
      have hone := one_done H1.out hend
      have Ho := Lib.hid hone
      have hcv := str_run (Sl.own h3)
      obtain ⟨A5, c5, hv5, _⟩ := (Sl.own h3).any
      subst hv5
      clear hone hend
      by_cases hlt : k < l.length
      all_goals
        by_cases hd0 : done = []
      all_goals
        try have i1 : (k : Int) < (l.length : Int) := by omega
        try have i1 : ¬ (k : Int) < (l.length : Int) := by omega
        try
          have i2 : (((l[k].toNat : Nat) : Int) != 46) = false := by
            have : l[k].toNat = 46 := Decidable.byContradiction fun h => hgo ⟨hlt, h⟩
            simp; omega
        clear hgo
      · subst hd0
        go_wp2
        go_ret3
        exact fin_name Ho.out h4
      · have hd1 : 0 < done.length := List.length_pos_iff.2 hd0
        have hd2 : ((done.length : Int) == 0) = false := by simp; omega
        by_cases h63 : 63 < done.length
        · go_wp2
          go_ret3
          exact fin_label Ho.out hd0 h63 h4
        · go_wp2
          go_ret3
          exact fin_ok Ho.out hd0 h63 h4
      · subst hd0
        go_wp2
        go_ret3
        exact fin_name Ho.out h4
      · have hd1 : 0 < done.length := List.length_pos_iff.2 hd0
        have hd2 : ((done.length : Int) == 0) = false := by simp; omega
        by_cases h63 : 63 < done.length
        · go_wp2
          go_ret3
          exact fin_label Ho.out hd0 h63 h4
        · go_wp2
          go_ret3
          exact fin_ok Ho.out hd0 h63 h4
end Go.Proofs.Ytnelaegjcpkmdaa
