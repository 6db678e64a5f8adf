/- Contracts and plain lemmas of our own, merged. -/
import Derived.Test.YtbffkddlkfefoaaDoorZid1
import Derived.Test.YtbffkddlkfefoaaDoorZid4
import Derived.Test.YtbffkddlkfefoaaDoorZid5
import Derived.Test.YtbffkddlkfefoaaDoorProg
import Derived.Lib.BufferRead
import Derived.Laws.IdiomStrings
/- Words of our own for rows of bytes and of texts. -/
namespace Go.Proofs.YtbffkddlkfefoaaDoor
open Go.RowKit

theorem ba_app (a b : List UInt8) : ByteArray.mk a.toArray ++ ByteArray.mk b.toArray = ⟨(a ++ b).toArray⟩ := by
  apply ByteArray.ext
  simp [ByteArray.data_append]
/-- a byte as a value. -/
def byv (b : UInt8) : Value := .int .u8 (b.toNat : Int)
theorem str_of_sl {P : Program} {w : World} {v : Value} {l : List UInt8} {src dst e : TypeId} (hs : P.underlying src = some (.slice e)) (he : P.underlying e = some (.int .u8)) (hd : P.underlying dst = some .string)
    (h : Sl w 1 v l.length (l.map byv)) : (convert src dst v).run P w = .ok (.string ⟨l.toArray⟩) w := by
  obtain ⟨_, A, c, rfl, hc, hA, hcell⟩ := h
  match A, hA, hcell with
  | none, hA, _ =>
    have : l = [] := List.eq_nil_of_length_eq_zero (by have := hA rfl; omega)
    subst this
    exact Lib.run_convert_nil_bytes w src dst e c hs he hd
  | some ad, _, hcell =>
    refine run_convert_bytes_back w src dst e ad c l hs he hd fun j hj => ?_
    obtain ⟨_, hsp, hh⟩ := hcell ad rfl (by omega)
    obtain ⟨b, off, sp⟩ := ad
    dsimp only at hsp hh
    subst hsp
    rw [add_none]
    refine hh j _ ?_
    simp [byv, hj]

theorem byv_mk {n : Nat} (h : n < 256) {z : Int} (hz : z = n) : Value.int .u8 z = byv (UInt8.ofNat n) := by
  subst hz
  unfold byv
  rw [UInt8.toNat_ofNat_of_lt' h]

theorem elt_bytes : Elt Tryd.prog 156 5 1 1 := Elt.mk' (z := .int .u8 0) Tryd.underlying156 (by kernel_rfl) rfl (by decide)

/-- what an adder leaves: the row, with these behind it. -/
def AddPost (base : Nat) (e : TypeId) (w : World) (n : Nat) (xs us : List Value) (ed : Ending) (w' : World) : Prop :=
  ∃ v', ed = .returned v' ∧ w'.ownsRow base e 1 v' (n + us.length) (xs ++ us) ∧ Below base w w'


/-- a text as a value. -/
def stv (l : List UInt8) : Value := .string ⟨l.toArray⟩
theorem sl_at {w : World} {α : Type} {f : α → Value} {A : List α} {b off j : Nat} (hc : ∀ j u, (A.map f)[j]? = some u → w.cell? ⟨b, off + j, none⟩ = some u) (hj : j < A.length) : w.cell? ⟨b, off + j, none⟩ = some (f A[j]) :=
  hc j _ (by simp [hj])
theorem str_run {w : World} {v : Value} {l : List UInt8} (h : Sl w 1 v l.length (l.map byv)) : (convert 156 9 v).run Tryd.prog w = .ok (.string ⟨l.toArray⟩) w :=
  str_of_sl Tryd.underlying156 Tryd.underlying5 Tryd.underlying9 h
theorem elt_strs : Elt Tryd.prog 61 9 1 16 := Elt.mk' (z := .string ⟨#[]⟩) Tryd.underlying61 (by kernel_rfl) rfl (by decide)
theorem elt_name : Elt Tryd.prog 62 9 1 16 := Elt.mk' (z := .string ⟨#[]⟩) Tryd.underlying62 (by kernel_rfl) rfl (by decide)
def Good (w : World) (e : Ending) (w' : World) : Prop := e = .returned (.bool true) ∧ Below w.heap.size w w'
theorem bel_tr {a b c : World} (h : Below a.heap.size a b) (k : Below b.heap.size b c) : Below a.heap.size a c := h.trans (k.mono h.size)
end Go.Proofs.YtbffkddlkfefoaaDoor

/- The contracts of the small functions of puny and of its reference. -/
namespace Go.Proofs.YtbffkddlkfefoaaDoor
open Go.RowKit
attribute [local go_sem] ba_get

set_option maxHeartbeats 400000 in
theorem pbound_any (k bias : Nat) (w : World) (hk : k ≤ 1000000) (hb : bias ≤ 1000000000000) : Calls Tryd.prog 218 #[.int .i64 (k : Int), .int .i64 (bias : Int)] w fun e w' => e = .returned (.int .i64 ((Pu.bnd k bias : Nat) : Int)) ∧ w = w' := by
  go_enter Tryd.func218, Tryd.ntmps218
  go_wp2
  all_goals
    go_ret
    refine ⟨reti ?_, rfl⟩
    unfold Pu.bnd
    omega

set_option maxRecDepth 100000 in
set_option maxHeartbeats 800000 in
theorem behind_any (d n : Nat) (first : Bool) (w : World) (hd : d ≤ 100000000000) (hn : 1 ≤ n) (hn2 : n ≤ 1000000) : Calls Tryd.prog 196 #[.int .i64 (d : Int), .int .i64 (n : Int), .bool first] w fun e w' => e = .returned (.int .i64 ((Pu.beh d n first : Nat) : Int)) ∧ w = w' := by
  obtain ⟨D, hD⟩ : ∃ D, D = Pu.first2 d first + Pu.first2 d first / n := ⟨_, rfl⟩
  have hDl : D ≤ 200000000000 := by
    have h3 := Pu.first2_le d first
    have h4 : Pu.first2 d first / n ≤ Pu.first2 d first := Nat.div_le_self _ _
    omega
  have HB := Lib.hid (show 36 * (Pu.red D 0).2 + 36 * (Pu.red D 0).1 / ((Pu.red D 0).1 + 38) = Pu.beh d n first by rw [hD]; rfl)
  have HD := Lib.hid hD
  clear hD
  have q1 : (0 : Int) ≤ (d : Int) / 2 / (n : Int) := Int.ediv_nonneg (by omega) (by omega)
  have q2 : (d : Int) / 2 / (n : Int) ≤ (d : Int) / 2 := Int.ediv_le_self _ (by omega)
  have q3 : (0 : Int) ≤ (d : Int) / 700 / (n : Int) := Int.ediv_nonneg (by omega) (by omega)
  have q4 : (d : Int) / 700 / (n : Int) ≤ (d : Int) / 700 := Int.ediv_le_self _ (by omega)
  cases first
  all_goals
    go_enter Tryd.func196, Tryd.ntmps196
    go_wp2
    go_loop [0, 7] (fun x y => ∃ d' j' : Nat, x = .int .i64 (d' : Int) ∧ y = .int .i64 (j' : Int) ∧ Pu.red d' j' = Pu.red D 0 ∧ d' ≤ D ∧ j' ≤ D ∧ d' + j' ≤ D) (fun x _ => (intOf x).toNat)
    case atStart =>
      refine ⟨D, 0, vint ?_, rfl, rfl, Nat.le_refl _, Nat.zero_le _, Nat.le_refl _⟩
      rw [HD.out]
      unfold Pu.first2
      simp
    case round =>
      obtain ⟨d', j', rfl, rfl, hr, h1, h2, h3⟩ := hrel
      have Hr := Lib.hid hr
      clear hr
      by_cases hlt : 455 < d'
      · have i1 : (455 : Int) < (d' : Int) := by omega
        have HR := Lib.hid ((Pu.red_go hlt).symm.trans Hr.out)
        go_wp2
        go_round
        case rel => exact ⟨d' / 35, j' + 1, by go_num, by go_num, HR.out, by omega, by omega, by omega⟩
        case measure => simp [intOf]; omega
      · have i1 : ¬ (455 : Int) < (d' : Int) := by omega
        have HR := Lib.hid ((Pu.red_stop hlt).symm.trans Hr.out)
        have q5 : (0 : Int) ≤ 36 * (d' : Int) / ((d' : Int) + 38) := Int.ediv_nonneg (by omega) (by omega)
        have q6 : 36 * (d' : Int) / ((d' : Int) + 38) ≤ 36 * (d' : Int) := Int.ediv_le_self _ (by omega)
        go_wp2
        go_ret
        refine ⟨reti ?_, rfl⟩
        rw [← HB.out, ← HR.out]
        simp

theorem behind_z (d n : Int) (first : Bool) (w : World) (h0 : 0 ≤ d) (hd : d ≤ 100000000000) (hn : 1 ≤ n) (hn2 : n ≤ 1000000) : Calls Tryd.prog 196 #[.int .i64 d, .int .i64 n, .bool first] w fun e w' => e = .returned (.int .i64 ((Pu.beh d.toNat n.toNat first : Nat) : Int)) ∧ w = w' := by
  obtain ⟨a, rfl⟩ := Int.eq_ofNat_of_zero_le h0
  obtain ⟨b, rfl⟩ := Int.eq_ofNat_of_zero_le (show 0 ≤ n by omega)
  exact behind_any a b first w (by omega) (by omega) (by omega)
end Go.Proofs.YtbffkddlkfefoaaDoor

/- The contracts of small, blank, Hex and the reference's Hex. -/
namespace Go.Proofs.YtbffkddlkfefoaaDoor
open Go.RowKit
attribute [local go_sem] ba_get

/-- a byte, a great letter made small. -/
def sm (b : UInt8) : UInt8 := if 65 ≤ b.toNat ∧ b.toNat ≤ 90 then UInt8.ofNat (b.toNat + 32) else b
theorem sm_up {b : UInt8} (h : 65 ≤ b.toNat ∧ b.toNat ≤ 90) : (sm b).toNat = b.toNat + 32 := by
  unfold sm; rw [if_pos h, UInt8.toNat_ofNat_of_lt' (show _ < 256 by omega)]
theorem sm_id {b : UInt8} (h : ¬ (65 ≤ b.toNat ∧ b.toNat ≤ 90)) : sm b = b := by unfold sm; rw [if_neg h]
set_option maxHeartbeats 400000 in
theorem small_any (b : UInt8) (w : World) : Calls Tryd.prog 188 #[.int .u8 (b.toNat : Int)] w fun e w' => e = .returned (.int .u8 ((sm b).toNat : Int)) ∧ w = w' := by
  have hb := b.toNat_lt
  by_cases h : 65 ≤ b.toNat ∧ b.toNat ≤ 90
  · have h1 : (65 : Int) ≤ (b.toNat : Int) := by omega
    have h2 : (b.toNat : Int) ≤ 90 := by omega
    have hs := sm_up h
    have Hs := Lib.hid hs
    clear h hs
    go_enter Tryd.func188, Tryd.ntmps188
    go_wp2
    go_ret
    exact ⟨reti (by rw [Hs.out]; omega), rfl⟩
  · have hs := sm_id h
    have Hs := Lib.hid hs
    clear hs
    by_cases h1 : 65 ≤ b.toNat
    · have i1 : (65 : Int) ≤ (b.toNat : Int) := by omega
      have i2 : ¬ (b.toNat : Int) ≤ 90 := by omega
      clear h
      go_enter Tryd.func188, Tryd.ntmps188
      go_wp2
      go_ret
      exact ⟨reti (by rw [Hs.out]), rfl⟩
    · have i1 : ¬ (65 : Int) ≤ (b.toNat : Int) := by omega
      clear h
      go_enter Tryd.func188, Tryd.ntmps188
      go_wp2
      go_ret
      exact ⟨reti (by rw [Hs.out]), rfl⟩

end Go.Proofs.YtbffkddlkfefoaaDoor

/- The contracts of Size, Check, Few, SameTexts and Exact. -/
namespace Go.Proofs.YtbffkddlkfefoaaDoor
open Go.RowKit
attribute [local go_sem] ba_get

/-- how many octets a name has. -/
def sz (A : List (List UInt8)) : Nat := A.foldl (fun n l => n + l.length + 1) 1
theorem sz_from (n : Nat) (A : List (List UInt8)) : n ≤ A.foldl (fun n l => n + l.length + 1) n := by
  induction A generalizing n with
  | nil => exact Nat.le_refl _
  | cons b r ih => exact Nat.le_trans (show n ≤ n + b.length + 1 by omega) (ih _)
theorem sz_app (A B : List (List UInt8)) : sz (A ++ B) = B.foldl (fun n l => n + l.length + 1) (sz A) := by unfold sz; rw [List.foldl_append]
theorem sz_next {A : List (List UInt8)} {k : Nat} (h : k < A.length) : sz (A.take (k + 1)) = sz (A.take k) + A[k].length + 1 := by
  rw [List.take_succ_eq_append_getElem h, sz_app]; rfl
theorem sz_take (A : List (List UInt8)) (k : Nat) : sz (A.take k) ≤ sz A := by
  conv => rhs; rw [← List.take_append_drop k A]
  rw [sz_app]
  exact sz_from _ _
theorem sz_all (A : List (List UInt8)) : sz (A.take A.length) = sz A := by rw [List.take_length]
def lokB (l : List UInt8) : Bool := decide (1 ≤ l.length ∧ l.length ≤ 63)
theorem lokB_t {l : List UInt8} (h : lokB l = true) : 1 ≤ l.length ∧ l.length ≤ 63 := by simpa [lokB] using h
/-- what is wrong with a name. -/
def chk (A : List (List UInt8)) : Int := if A.all lokB = true then if 255 < sz A then 3 else 0 else 7
theorem fold_ok (A : List (List UInt8)) (n : Nat) (h : A.all lokB = true) : A.foldl (fun n l => n + l.length + 1) n ≤ n + 64 * A.length := by
  induction A generalizing n with
  | nil => simp
  | cons l A ih =>
    rw [List.all_cons, Bool.and_eq_true] at h
    have h1 := lokB_t h.1
    have h2 := ih (n + l.length + 1) h.2
    rw [List.foldl_cons, List.length_cons]
    omega
theorem sz_ok {A : List (List UInt8)} (h : A.all lokB = true) : sz A ≤ 1 + 64 * A.length := fold_ok A 1 h
set_option maxRecDepth 100000 in
set_option maxHeartbeats 800000 in
theorem size_any (A : List (List UInt8)) (v : Value) (w : World) (ha : Sl w 1 v A.length (A.map stv)) (hn : A.length ≤ 1000000000) (hs : sz A ≤ 1000000000000000) :
    Calls Tryd.prog 111 #[v] w fun e w' => e = .returned (.int .i64 (sz A)) ∧ w = w' := by
  rcases Nat.eq_zero_or_pos A.length with h0 | hpos
  · have hA : A = [] := List.eq_nil_of_length_eq_zero h0
    subst hA
    obtain ⟨a1, c1, rfl, _⟩ := ha.zero
    clear ha
    go_enter Tryd.func111, Tryd.ntmps111
    go_wp2
    refine wp_loop_rounds 1 ?_
    rw [rounds_succ]; go_wp2
    go_ret
    exact ⟨rfl, rfl⟩
  · obtain ⟨b1, o1, c1, rfl, hc1, hb1, hcA⟩ := ha.pos hpos
    have HcA := Lib.hid hcA
    clear hcA ha
    go_enter Tryd.func111, Tryd.ntmps111
    go_wp2
    go_loop [3, 8] (fun n i => ∃ k m : Nat, k ≤ A.length ∧ i = .int .i64 k ∧ n = .int .i64 m ∧ m = sz (A.take k)) (fun _ i => A.length - (intOf i).toNat)
    case atStart => exact ⟨0, 1, Nat.zero_le _, rfl, rfl, rfl⟩
    case round =>
      obtain ⟨k, m, hk, rfl, rfl, hm⟩ := hrel
      have Hm := Lib.hid hm
      clear hm
      by_cases hlt : k < A.length
      · have i1 : (k : Int) < (A.length : Int) := by omega
        have q1 : w.cell? ⟨b1, o1 + k, none⟩ = some (.string ⟨A[k].toArray⟩) := sl_at HcA.out hlt
        have hnx := sz_next hlt
        rw [← Hm.out] at hnx
        have hle := sz_take A (k + 1)
        rw [hnx] at hle
        have Hnx := Lib.hid hnx
        clear hnx
        go_wp2
        go_round
        case rel => exact ⟨k + 1, m + A[k].length + 1, by omega, by go_num, vint (by omega), Hnx.out.symm⟩
        case measure => simp [intOf]; omega
      · have i1 : ¬ (k : Int) < (A.length : Int) := by omega
        obtain rfl : k = A.length := by omega
        have hm := Hm.out
        rw [sz_all] at hm
        have Hm2 := Lib.hid hm
        clear hm
        go_wp2
        go_ret
        exact ⟨reti (by rw [Hm2.out]), rfl⟩

set_option maxRecDepth 100000 in
set_option maxHeartbeats 800000 in
theorem rsize_any (A : List (List UInt8)) (v : Value) (w : World) (ha : Sl w 1 v A.length (A.map stv)) (hn : A.length ≤ 1000000000) (hs : sz A ≤ 1000000000000000) :
    Calls Tryd.prog 116 #[v] w fun e w' => e = .returned (.int .i64 (sz A)) ∧ w = w' := by
  rcases Nat.eq_zero_or_pos A.length with h0 | hpos
  · have hA : A = [] := List.eq_nil_of_length_eq_zero h0
    subst hA
    obtain ⟨a1, c1, rfl, _⟩ := ha.zero
    clear ha
    go_enter Tryd.func116, Tryd.ntmps116
    go_wp2
    refine wp_loop_rounds 1 ?_
    rw [rounds_succ]; go_wp2
    go_ret
    exact ⟨rfl, rfl⟩
  · obtain ⟨b1, o1, c1, rfl, hc1, hb1, hcA⟩ := ha.pos hpos
    have HcA := Lib.hid hcA
    clear hcA ha
    go_enter Tryd.func116, Tryd.ntmps116
    go_wp2
    go_loop [3, 4] (fun n i => ∃ k m : Nat, k ≤ A.length ∧ i = .int .i64 k ∧ n = .int .i64 m ∧ m = sz (A.take k)) (fun _ i => A.length - (intOf i).toNat)
    case atStart => exact ⟨0, 1, Nat.zero_le _, rfl, rfl, rfl⟩
    case round =>
      obtain ⟨k, m, hk, rfl, rfl, hm⟩ := hrel
      have Hm := Lib.hid hm
      clear hm
      by_cases hlt : k < A.length
      · have i1 : (k : Int) < (A.length : Int) := by omega
        have q1 : w.cell? ⟨b1, o1 + k, none⟩ = some (.string ⟨A[k].toArray⟩) := sl_at HcA.out hlt
        have hnx := sz_next hlt
        rw [← Hm.out] at hnx
        have hle := sz_take A (k + 1)
        rw [hnx] at hle
        have Hnx := Lib.hid hnx
        clear hnx
        go_wp2
        go_round
        case rel => exact ⟨k + 1, m + A[k].length + 1, by omega, by go_num, vint (by omega), Hnx.out.symm⟩
        case measure => simp [intOf]; omega
      · have i1 : ¬ (k : Int) < (A.length : Int) := by omega
        obtain rfl : k = A.length := by omega
        have hm := Hm.out
        rw [sz_all] at hm
        have Hm2 := Lib.hid hm
        clear hm
        go_wp2
        go_ret
        exact ⟨reti (by rw [Hm2.out]), rfl⟩

end Go.Proofs.YtbffkddlkfefoaaDoor

/- The contracts of ascii.Same, ascii.Fields and the reference's Lower, Same and Fields. -/
namespace Go.Proofs.YtbffkddlkfefoaaDoor
open Go.RowKit
attribute [local go_sem] ba_get ext_take ext_drop ext_any

def low (l : List UInt8) : List UInt8 := l.map sm
def TextsPost (w : World) (A : List (List UInt8)) (e : Ending) (w' : World) : Prop := ∃ v, e = .returned v ∧ Sl w' 1 v A.length (A.map stv) ∧ Below w.heap.size w w'
end Go.Proofs.YtbffkddlkfefoaaDoor

/- The contract of domain.one: the label that a text begins with. -/
namespace Go.Proofs.YtbffkddlkfefoaaDoor
open Go.RowKit
attribute [local go_sem] ba_get ext_take ext_drop

/-- one byte of a label, and in how many bytes it is written. -/
def stp : List UInt8 → Option (UInt8 × Nat)
  | [] => none
  | a :: r => if a = 92 then (esc r).map (fun p => (p.1, p.2 + 1)) else some (a, 1)
/-- at the end, or at a dot. -/
def ends (l : List UInt8) : Bool := l.isEmpty || l.head? == some 46
def oneF : Nat → List UInt8 → Option (List UInt8 × Nat)
  | 0, _ => some ([], 0)
  | k + 1, l => if ends l = true then some ([], 0) else match stp l with
    | none => none
    | some (c, n) => (oneF k (l.drop n)).map (fun p => (c :: p.1, n + p.2))
def one (l : List UInt8) : Option (List UInt8 × Nat) := oneF l.length l

theorem esc3_bd {a : UInt8} {r : List UInt8} {c : UInt8} {n : Nat} (h : esc3 a r = some (c, n)) : n = 3 ∧ 2 ≤ r.length := by
  rcases r with _ | ⟨b, _ | ⟨d, r⟩⟩
  · cases h
  · cases h
  · simp only [esc3] at h
    split at h
    · split at h
      · cases h; exact ⟨rfl, by simp⟩
      · cases h
    · cases h
theorem esc_bd {l : List UInt8} {c : UInt8} {n : Nat} (h : esc l = some (c, n)) : 1 ≤ n ∧ n ≤ 3 ∧ n ≤ l.length := by
  rcases l with _ | ⟨a, r⟩
  · cases h
  · simp only [esc] at h
    split at h
    · have := esc3_bd h; simp; omega
    · cases h; simp
theorem stp_bd {l : List UInt8} {c : UInt8} {n : Nat} (h : stp l = some (c, n)) : 1 ≤ n ∧ n ≤ 4 ∧ n ≤ l.length := by
  rcases l with _ | ⟨a, r⟩
  · cases h
  · simp only [stp] at h
    split at h
    · obtain ⟨⟨c', m⟩, hp, he⟩ := Option.map_eq_some_iff.1 h
      have := esc_bd hp
      cases he
      simp; omega
    · cases h; simp
theorem oneF_nil (k : Nat) : oneF k [] = some ([], 0) := by cases k <;> rfl
theorem oneF_enough (k : Nat) : ∀ (j : Nat) (l : List UInt8), l.length ≤ k → l.length ≤ j → oneF k l = oneF j l := by
  induction k with
  | zero =>
    intro j l h _
    have : l = [] := List.eq_nil_of_length_eq_zero (by omega)
    subst this
    rw [oneF_nil, oneF_nil]
  | succ k ih =>
    intro j l h hj
    rcases j with _ | j
    · have : l = [] := List.eq_nil_of_length_eq_zero (by omega)
      subst this
      rw [oneF_nil, oneF_nil]
    · simp only [oneF]
      by_cases he : ends l = true
      · rw [if_pos he, if_pos he]
      · rw [if_neg he, if_neg he]
        rcases hn : stp l with _ | ⟨c, n⟩
        · rfl
        · have hb := stp_bd hn
          have hd : (l.drop n).length ≤ l.length - 1 := by rw [List.length_drop]; omega
          dsimp only
          rw [ih j (l.drop n) (by omega) (by omega)]
theorem one_end {l : List UInt8} (h : ends l = true) : one l = some ([], 0) := by
  unfold one
  rcases l with _ | ⟨a, r⟩
  · rfl
  · simp only [List.length_cons, oneF]; rw [if_pos h]
theorem one_none {l : List UInt8} (h : ends l = false) (hs : stp l = none) : one l = none := by
  unfold one
  rcases l with _ | ⟨a, r⟩
  · cases h
  · simp only [List.length_cons, oneF]; rw [if_neg (by simp [h]), hs]
theorem one_some {l : List UInt8} {c : UInt8} {n : Nat} (h : ends l = false) (hs : stp l = some (c, n)) : one l = (one (l.drop n)).map (fun p => (c :: p.1, n + p.2)) := by
  have hb := stp_bd hs
  unfold one
  rcases l with _ | ⟨a, r⟩
  · cases h
  · simp only [List.length_cons, oneF]; rw [if_neg (by simp [h]), hs]
    dsimp only
    rw [oneF_enough r.length ((a :: r).drop n).length _ (by rw [List.length_drop]; simp at hb ⊢; omega) (Nat.le_refl _)]
theorem oneF_bd (k : Nat) : ∀ (l b : List UInt8) (m : Nat), oneF k l = some (b, m) → m ≤ l.length ∧ b.length ≤ m ∧ m ≤ 4 * b.length := by
  induction k with
  | zero => intro l b m h; cases h; exact ⟨Nat.zero_le _, Nat.le_refl _, Nat.zero_le _⟩
  | succ k ih =>
    intro l b m h
    simp only [oneF] at h
    split at h
    · cases h; exact ⟨Nat.zero_le _, Nat.le_refl _, Nat.zero_le _⟩
    · rcases hn : stp l with _ | ⟨c, n⟩
      · rw [hn] at h; cases h
      · rw [hn] at h
        dsimp only at h
        obtain ⟨⟨b', m'⟩, hp, he⟩ := Option.map_eq_some_iff.1 h
        cases he
        have hb := stp_bd hn
        obtain ⟨h1, h2, h3⟩ := ih _ _ _ hp
        rw [List.length_drop] at h1
        simp
        omega
theorem one_bd {l b : List UInt8} {m : Nat} (h : one l = some (b, m)) : m ≤ l.length ∧ b.length ≤ m ∧ m ≤ 4 * b.length := oneF_bd _ _ _ _ h
theorem one_pos {l b : List UInt8} {m : Nat} (h : one l = some (b, m)) (hb : b ≠ []) : 1 ≤ m := by
  have := one_bd h
  have : 0 < b.length := List.length_pos_iff.2 hb
  omega

/-- what domain.one answers: the label, how many bytes, the error. -/
def oneE (l : List UInt8) : Int × List UInt8 × Nat := match one l with
  | none => (5, [], 0)
  | some (b, m) => if b = [] then (8, [], 0) else if 63 < b.length then (7, [], 0) else (0, b, m)
def oneV (p : Int × List UInt8 × Nat) : Value := .tuple #[.string ⟨p.2.1.toArray⟩, .int .i64 (p.2.2 : Int), .int .i64 p.1]
def OnePost (w : World) (l : List UInt8) (e : Ending) (w' : World) : Prop := e = .returned (oneV (oneE l)) ∧ Below w.heap.size w w'

def OneRel (w : World) (l : List UInt8) (k : Nat) (v : Value) (wr : World) : Prop :=
  ∃ done : List UInt8, one l = (one (l.drop k)).map (fun p => (done ++ p.1, k + p.2)) ∧ done.length ≤ k ∧ wr.ownsRow w.heap.size 5 1 v done.length (done.map byv) ∧ Below w.heap.size w wr
theorem OneRel.start (w : World) (l : List UInt8) : OneRel w l 0 (.slice none 0 0) w :=
  ⟨[], by rw [List.drop_zero]; cases one l <;> simp, Nat.le_refl _, World.ownsRow_nil _ _ _ _, Below.refl _ _⟩
theorem one_fail {w wr : World} {l : List UInt8} {k : Nat} {done : List UInt8} (h : one l = (one (l.drop k)).map (fun p => (done ++ p.1, k + p.2))) (he : ends (l.drop k) = false) (hs : stp (l.drop k) = none) (hb : Below w.heap.size w wr) :
    OnePost w l (.returned (.tuple #[.string ⟨#[]⟩, .int .i64 0, .int .i64 5])) wr := by
  rw [one_none he hs] at h
  unfold OnePost oneE
  rw [h]
  exact ⟨rfl, hb⟩
theorem OneRel.step {w w0 w1 : World} {l : List UInt8} {k n : Nat} {c : UInt8} {v1 : Value} {done : List UInt8} (h : one l = (one (l.drop k)).map (fun p => (done ++ p.1, k + p.2))) (hk : done.length ≤ k) (he : ends (l.drop k) = false) (hs : stp (l.drop k) = some (c, n))
    (h3 : w1.ownsRow w.heap.size 5 1 v1 (done.length + 1) (done.map byv ++ [byv c])) (h4 : Below w.heap.size w w0) (h5 : Below w.heap.size w0 w1) : OneRel w l (k + n) v1 w1 := by
  have hb := stp_bd hs
  refine ⟨done ++ [c], ?_, by simp; omega, by simpa using h3, h4.trans h5⟩
  rw [h, one_some he hs, List.drop_drop]
  cases one (l.drop (k + n)) <;> simp [Nat.add_assoc]
theorem one_done {l : List UInt8} {k : Nat} {done : List UInt8} (h : one l = (one (l.drop k)).map (fun p => (done ++ p.1, k + p.2))) (he : ends (l.drop k) = true) : one l = some (done, k) := by
  rw [one_end he] at h
  rw [h]
  simp

theorem drop_cons {l : List UInt8} {k : Nat} (h : k < l.length) : l.drop k = l[k] :: l.drop (k + 1) := List.drop_eq_getElem_cons h
theorem u8eq {a : UInt8} {n : Nat} (h : n < 256) : a = UInt8.ofNat n ↔ a.toNat = n := by
  constructor
  · intro e; rw [e, UInt8.toNat_ofNat_of_lt' h]
  · intro e; rw [← e]; simp
theorem is46 {a : UInt8} : a = 46 ↔ a.toNat = 46 := u8eq (n := 46) (by omega)
theorem is92 {a : UInt8} : a = 92 ↔ a.toNat = 92 := u8eq (n := 92) (by omega)
theorem ends_cons (a : UInt8) (r : List UInt8) : ends (a :: r) = (a == 46) := by simp [ends]
theorem ends_at {l : List UInt8} {k : Nat} (h : k < l.length) : ends (l.drop k) = (l[k] == 46) := by
  rw [drop_cons h, ends_cons]
theorem ends_end {l : List UInt8} : ends (l.drop l.length) = true := by simp [ends]
theorem stp_at {l : List UInt8} {k : Nat} (h : k < l.length) : stp (l.drop k) = if l[k] = 92 then (esc (l.drop (k + 1))).map (fun p => (p.1, p.2 + 1)) else some (l[k], 1) := by
  rw [drop_cons h]
  rfl
theorem fin_name {w wr : World} {l : List UInt8} {k : Nat} (h : one l = some ([], k)) (hb : Below w.heap.size w wr) : OnePost w l (.returned (.tuple #[.string ⟨#[]⟩, .int .i64 0, .int .i64 8])) wr := by
  unfold OnePost oneE; rw [h]; exact ⟨rfl, hb⟩
theorem fin_label {w wr : World} {l b : List UInt8} {k : Nat} (h : one l = some (b, k)) (h0 : b ≠ []) (h1 : 63 < b.length) (hb : Below w.heap.size w wr) : OnePost w l (.returned (.tuple #[.string ⟨#[]⟩, .int .i64 0, .int .i64 7])) wr := by
  unfold OnePost oneE; rw [h]; dsimp only; rw [if_neg h0, if_pos h1]; exact ⟨rfl, hb⟩
theorem fin_ok {w wr : World} {l b : List UInt8} {k : Nat} (h : one l = some (b, k)) (h0 : b ≠ []) (h1 : ¬ 63 < b.length) (hb : Below w.heap.size w wr) : OnePost w l (.returned (.tuple #[.string ⟨b.toArray⟩, .int .i64 (k : Int), .int .i64 0])) wr := by
  unfold OnePost oneE; rw [h]; dsimp only; rw [if_neg h0, if_neg h1]; exact ⟨rfl, hb⟩

theorem escaped_bel (l : List UInt8) (w : World) (hl : l.length ≤ 140737488351232) : Calls Tryd.prog 162 #[.string ⟨l.toArray⟩] w fun e w' => e = .returned (escV (esc l)) ∧ Below w.heap.size w w' :=
  (escaped_any l w hl).mono fun _ _ ⟨h, n, hn⟩ => ⟨h, by rw [hn]; exact below_drewN (Below.refl _ _) _⟩

set_option maxRecDepth 100000 in
set_option maxHeartbeats 1000000 in
theorem one_any (l : List UInt8) (w : World) (hl : l.length ≤ 1000000000) : Calls Tryd.prog 114 #[.string ⟨l.toArray⟩] w (OnePost w l) := by
  go_enter Tryd.func114, Tryd.ntmps114
  go_wp2
  go_loopw [5, 6] (fun v i wr => ∃ k : Nat, k ≤ l.length ∧ i = .int .i64 k ∧ OneRel w l k v wr) (fun _ i _ => l.length - (intOf i).toNat)
  case atStart => exact ⟨0, Nat.zero_le _, rfl, OneRel.start _ _⟩
  case round =>
    obtain ⟨k, hk, rfl, done, h1, h2, h3, h4⟩ := hrel
    have H1 := Lib.hid h1
    clear h1
    have hsz := h4.size
    by_cases hgo : ∃ h : k < l.length, l[k].toNat ≠ 46
    · obtain ⟨hlt, h46⟩ := hgo
      have i1 : (k : Int) < (l.length : Int) := by omega
      have i2 : (((l[k].toNat : Nat) : Int) != 46) = true := by simp; omega
      have he : ends (l.drop k) = false := by
        rw [ends_at hlt]
        simp only [beq_eq_false_iff_ne, ne_eq]
        intro h
        exact h46 (is46.1 h)
      have He := Lib.hid he
      clear he
      by_cases h92 : l[k].toNat = 92
      · have i3 : (((l[k].toNat : Nat) : Int) == 92) = true := by simp; omega
        have hst : stp (l.drop k) = (esc (l.drop (k + 1))).map (fun p => (p.1, p.2 + 1)) := by
          rw [stp_at hlt, if_pos (is92.2 h92)]
        clear h46 h92
        have hdl : (l.drop (k + 1)).length ≤ l.length := by rw [List.length_drop]; omega
        rcases hes : esc (l.drop (k + 1)) with _ | ⟨c, n⟩
        · rw [hes] at hst
          have Hst := Lib.hid hst
          have Hes := Lib.hid hes
          clear hst hes
          go_wp2_with fail
          refine (escaped_bel _ _ (by omega)).mono ?_
          rintro e w0 ⟨rfl, hb0⟩
          rw [Hes.out]
          unfold escV
          go_wp2
          go_ret3
          exact one_fail H1.out He.out Hst.out (h4.trans (hb0.mono hsz))
        · rw [hes] at hst
          have hst' : stp (l.drop k) = some (c, n + 1) := hst
          have heb := esc_bd hes
          rw [List.length_drop] at heb
          have Hst := Lib.hid hst'
          have Hes := Lib.hid hes
          clear hst hes hst'
          have hcb := c.toNat_lt
          go_wp2_with fail
          refine (escaped_bel _ _ (by omega)).mono ?_
          rintro e w0 ⟨rfl, hb0⟩
          rw [Hes.out]
          unfold escV
          have h3' := own_below h3 hb0
          have h4' := h4.trans (hb0.mono hsz)
          have hsz' := h4'.size
          clear h3
          go_wp2_with (at_builtin; refine wpList_appLit rfl _ _ _ rfl elt_bytes (n := done.length) rfl h3' [byv c] (m := 1) rfl rfl (by simp [Value.oneCell', byv]) hsz' (by omega) (by omega) ?_; intro v1 w1 ho1 hb1 hg1)
          have R := OneRel.step H1.out h2 He.out Hst.out ho1 h4' hb1
          clear ho1 hb1
          go_roundw
          case rel => exact ⟨k + (n + 1), by omega, vint (by omega), R⟩
          case measure => simp [intOf]; omega
      · have i3 : (((l[k].toNat : Nat) : Int) == 92) = false := by simp; omega
        have hst : stp (l.drop k) = some (l[k], 1) := by
          rw [stp_at hlt, if_neg (fun h => h92 (is92.1 h))]
        have Hst := Lib.hid hst
        clear h46 h92 hst
        go_wp2_with (at_builtin; refine wpList_appLit rfl _ _ _ rfl elt_bytes (n := done.length) rfl h3 [byv l[k]] (m := 1) rfl rfl (by simp [Value.oneCell', byv]) hsz (by omega) (by omega) ?_; intro v1 w1 ho1 hb1 hg1)
        have R := OneRel.step H1.out h2 He.out Hst.out ho1 h4 hb1
        clear ho1 hb1
        go_roundw
        case rel => exact ⟨k + 1, by omega, by go_num, R⟩
        case measure => simp [intOf]; omega
    · have hend : ends (l.drop k) = true := by
        by_cases hlt : k < l.length
        · rw [ends_at hlt]
          have : l[k].toNat = 46 := Decidable.byContradiction fun h => hgo ⟨hlt, h⟩
          simpa using is46.2 this
        · obtain rfl : k = l.length := by omega
          exact ends_end
      have hone := one_done H1.out hend
      have Ho := Lib.hid hone
      have hcv := str_run (Sl.own h3)
      obtain ⟨A5, c5, hv5, _⟩ := (Sl.own h3).any
      subst hv5
      clear hone hend
      by_cases hlt : k < l.length
      all_goals
        by_cases hd0 : done = []
      all_goals
        try have i1 : (k : Int) < (l.length : Int) := by omega
        try have i1 : ¬ (k : Int) < (l.length : Int) := by omega
        try
          have i2 : (((l[k].toNat : Nat) : Int) != 46) = false := by
            have : l[k].toNat = 46 := Decidable.byContradiction fun h => hgo ⟨hlt, h⟩
            simp; omega
        clear hgo
      · subst hd0
        go_wp2
        go_ret3
        exact fin_name Ho.out h4
      · have hd1 : 0 < done.length := List.length_pos_iff.2 hd0
        have hd2 : ((done.length : Int) == 0) = false := by simp; omega
        by_cases h63 : 63 < done.length
        · go_wp2
          go_ret3
          exact fin_label Ho.out hd0 h63 h4
        · go_wp2
          go_ret3
          exact fin_ok Ho.out hd0 h63 h4
      · subst hd0
        go_wp2
        go_ret3
        exact fin_name Ho.out h4
      · have hd1 : 0 < done.length := List.length_pos_iff.2 hd0
        have hd2 : ((done.length : Int) == 0) = false := by simp; omega
        by_cases h63 : 63 < done.length
        · go_wp2
          go_ret3
          exact fin_label Ho.out hd0 h63 h4
        · go_wp2
          go_ret3
          exact fin_ok Ho.out hd0 h63 h4
end Go.Proofs.YtbffkddlkfefoaaDoor

/- The contract of domain.Parse. -/
namespace Go.Proofs.YtbffkddlkfefoaaDoor
open Go.RowKit
attribute [local go_sem] ba_get ext_take ext_drop

/-- what a reading of names comes to: an error; or the labels, and whether a dot stood last. -/
def prsF : Nat → List (List UInt8) → Bool → List UInt8 → Int ⊕ (List (List UInt8) × Bool)
  | 0, n, dot, _ => if 255 < sz n then .inl 3 else .inr (n, dot)
  | k + 1, n, dot, r => if r = [] then (if 255 < sz n then .inl 3 else .inr (n, dot)) else
    if (oneE r).1 = 0 then prsF k (n ++ [(oneE r).2.1]) (decide ((oneE r).2.2 < r.length)) (r.drop ((oneE r).2.2 + if (oneE r).2.2 < r.length then 1 else 0)) else .inl (oneE r).1
def prs (l : List UInt8) : Int ⊕ (List (List UInt8) × Bool) := if l = [46] then .inr ([], true) else if l = [] then .inl 8 else prsF l.length [] false l
theorem oneE_bd (r : List UInt8) : (oneE r).2.2 ≤ r.length ∧ ((oneE r).1 = 0 → 1 ≤ (oneE r).2.2 ∧ lokB (oneE r).2.1 = true) ∧ ((oneE r).1 = 0 ∨ (oneE r).1 = 5 ∨ (oneE r).1 = 7 ∨ (oneE r).1 = 8) := by
  unfold oneE
  rcases h : one r with _ | ⟨b, m⟩
  · exact ⟨Nat.zero_le _, (fun h => by cases h), .inr (.inl rfl)⟩
  · have hb := one_bd h
    dsimp only
    by_cases h0 : b = []
    · rw [if_pos h0]; exact ⟨Nat.zero_le _, (fun h => by cases h), .inr (.inr (.inr rfl))⟩
    · rw [if_neg h0]
      by_cases h1 : 63 < b.length
      · rw [if_pos h1]; exact ⟨Nat.zero_le _, (fun h => by cases h), .inr (.inr (.inl rfl))⟩
      · rw [if_neg h1]
        have : 0 < b.length := List.length_pos_iff.2 h0
        refine ⟨hb.1, fun _ => ⟨one_pos h h0, ?_⟩, .inl rfl⟩
        simp [lokB]; omega
theorem prsF_enough (k : Nat) : ∀ (j : Nat) (n : List (List UInt8)) (dot : Bool) (r : List UInt8), r.length ≤ k → r.length ≤ j → prsF k n dot r = prsF j n dot r := by
  induction k with
  | zero =>
    intro j n dot r h _
    have : r = [] := List.eq_nil_of_length_eq_zero (by omega)
    subst this
    rcases j with _ | j
    · rfl
    · simp [prsF]
  | succ k ih =>
    intro j n dot r h hj
    rcases j with _ | j
    · have : r = [] := List.eq_nil_of_length_eq_zero (by omega)
      subst this
      simp [prsF]
    · simp only [prsF]
      by_cases hr : r = []
      · rw [if_pos hr, if_pos hr]
      · rw [if_neg hr, if_neg hr]
        by_cases he : (oneE r).1 = 0
        · rw [if_pos he, if_pos he]
          have hb := (oneE_bd r).2.1 he
          refine ih j _ _ _ ?_ ?_ <;> rw [List.length_drop] <;> omega
        · rw [if_neg he, if_neg he]
/-- from a rest on, with labels that were read. -/
def prsR (n : List (List UInt8)) (dot : Bool) (r : List UInt8) : Int ⊕ (List (List UInt8) × Bool) := prsF r.length n dot r
theorem prsR_nil (n : List (List UInt8)) (dot : Bool) : prsR n dot [] = if 255 < sz n then .inl 3 else .inr (n, dot) := rfl
theorem prsR_err {n : List (List UInt8)} {dot : Bool} {r : List UInt8} (hr : r ≠ []) (he : (oneE r).1 ≠ 0) : prsR n dot r = .inl (oneE r).1 := by
  unfold prsR
  rcases r with _ | ⟨a, r⟩
  · exact absurd rfl hr
  · simp only [List.length_cons, prsF]; rw [if_neg hr, if_neg he]
theorem prsR_ok {n : List (List UInt8)} {dot : Bool} {r : List UInt8} (hr : r ≠ []) (he : (oneE r).1 = 0) :
    prsR n dot r = prsR (n ++ [(oneE r).2.1]) (decide ((oneE r).2.2 < r.length)) (r.drop ((oneE r).2.2 + if (oneE r).2.2 < r.length then 1 else 0)) := by
  unfold prsR
  have hb := (oneE_bd r).2.1 he
  rcases r with _ | ⟨a, r⟩
  · exact absurd rfl hr
  · simp only [List.length_cons, prsF]; rw [if_neg hr, if_pos he]
    refine prsF_enough _ _ _ _ _ ?_ (Nat.le_refl _)
    rw [List.length_drop]
    have e : (a :: r).length = r.length + 1 := rfl
    generalize (if (oneE (a :: r)).2.2 < (a :: r).length then 1 else 0) = x
    omega

/-- the labels that a reading came to (none, of an error), whether a dot stood last, and the error. -/
def pA (o : Int ⊕ (List (List UInt8) × Bool)) : List (List UInt8) := match o with | .inl _ => [] | .inr p => p.1
def pD (o : Int ⊕ (List (List UInt8) × Bool)) : Bool := match o with | .inl _ => false | .inr p => p.2
def pE (o : Int ⊕ (List (List UInt8) × Bool)) : Int := match o with | .inl e => e | .inr _ => 0
def PrsPost (w : World) (o : Int ⊕ (List (List UInt8) × Bool)) (e : Ending) (w' : World) : Prop :=
  ∃ v, e = .returned (.tuple #[v, .bool (pD o), .int .i64 (pE o)]) ∧ Sl w' 1 v (pA o).length ((pA o).map stv) ∧ Below w.heap.size w w'

theorem PrsPost.err {w w' : World} {o : Int ⊕ (List (List UInt8) × Bool)} {e : Int} (h : o = .inl e) (hb : Below w.heap.size w w') : PrsPost w o (.returned (.tuple #[.slice none 0 0, .bool false, .int .i64 e])) w' := by
  rw [h]; exact ⟨_, rfl, Sl.nil _ _, hb⟩
theorem PrsPost.ok {w w' : World} {o : Int ⊕ (List (List UInt8) × Bool)} {n : List (List UInt8)} {d : Bool} {v : Value} (h : o = .inr (n, d)) (hs : Sl w' 1 v n.length (n.map stv)) (hb : Below w.heap.size w w') : PrsPost w o (.returned (.tuple #[v, .bool d, .int .i64 0])) w' := by
  rw [h]; exact ⟨_, rfl, hs, hb⟩

def PrsRel (w : World) (l r : List UInt8) (v : Value) (dot : Bool) (wr : World) : Prop :=
  ∃ n : List (List UInt8), prsF l.length [] false l = prsR n dot r ∧ n.length + r.length ≤ l.length ∧ n.all lokB = true ∧ wr.ownsRow w.heap.size 9 1 v n.length (n.map stv) ∧ Below w.heap.size w wr
theorem PrsRel.step {w w0 w1 : World} {l r : List UInt8} {dot : Bool} {v1 : Value} {n : List (List UInt8)} (hr : r ≠ []) (he : (oneE r).1 = 0) (h1 : prsF l.length [] false l = prsR n dot r) (h2 : n.length + r.length ≤ l.length) (ha : n.all lokB = true)
    (h3 : w1.ownsRow w.heap.size 9 1 v1 (n.length + 1) (n.map stv ++ [stv (oneE r).2.1])) (h4 : Below w.heap.size w w0) (h5 : Below w.heap.size w0 w1) {d : Bool} {m : Nat} (hd : d = decide ((oneE r).2.2 < r.length)) (hm : m = (oneE r).2.2 + if (oneE r).2.2 < r.length then 1 else 0) : PrsRel w l (r.drop m) v1 d w1 := by
  have hb := (oneE_bd r).2.1 he
  subst hd hm
  refine ⟨n ++ [(oneE r).2.1], by rw [h1, prsR_ok hr he], ?_, by rw [List.all_append, ha]; simp [hb.2], by simpa using h3, h4.trans h5⟩
  rw [List.length_append, List.length_drop]
  simp
  have : 0 < r.length := List.length_pos_iff.2 hr
  omega

set_option maxRecDepth 100000 in
set_option maxHeartbeats 1000000 in
theorem parse_any (l : List UInt8) (w : World) (hl : l.length ≤ 1000000) : Calls Tryd.prog 57 #[.string ⟨l.toArray⟩] w (PrsPost w (prs l)) := by
  by_cases hd : l = [46]
  · subst hd
    go_enter Tryd.func57, Tryd.ntmps57
    go_wp2
    go_ret3
    exact ⟨_, rfl, Sl.nil _ _, Below.refl _ _⟩
  · have hd1 : (l == [46]) = false := by simpa using hd
    by_cases h0 : l = []
    · subst h0
      clear hd hd1
      go_enter Tryd.func57, Tryd.ntmps57
      go_wp2
      go_ret3
      exact ⟨_, rfl, Sl.nil _ _, Below.refl _ _⟩
    · have h01 : l.isEmpty = false := by simpa using h0
      have hP : prs l = prsF l.length [] false l := by unfold prs; rw [if_neg hd, if_neg h0]
      have HP := Lib.hid hP
      clear hP hd
      go_enter Tryd.func57, Tryd.ntmps57
      go_wp2
      go_loopw [0, 5, 6] (fun s v d wr => ∃ (r : List UInt8) (dot : Bool), s = .string ⟨r.toArray⟩ ∧ d = .bool dot ∧ PrsRel w l r v dot wr) (fun s _ _ _ => strLen s)
      case atStart => exact ⟨l, false, rfl, rfl, [], rfl, by simp, rfl, World.ownsRow_nil _ _ _ _, Below.refl _ _⟩
      case round =>
        obtain ⟨r, dot, rfl, rfl, n, h1, h2, ha, h3, h4⟩ := hrel
        have H1 := Lib.hid h1
        have HA := Lib.hid ha
        clear h1 ha
        have hsz := h4.size
        by_cases hr : r = []
        · subst hr
          have hso := sz_ok HA.out
          have hown := Sl.own h3
          obtain ⟨A5, c5, hv5, _⟩ := hown.any
          subst hv5
          have Ho := Lib.hid hown
          clear hown
          by_cases h255 : 255 < sz n
          · have hfin : prs l = .inl 3 := by rw [HP.out, H1.out, prsR_nil, if_pos h255]
            have Hfin := Lib.hid hfin
            clear hfin
            go_wp2_with fail
            refine (size_any n _ _ Ho.out (by simp at h2; omega) (by simp at h2; omega)).mono ?_
            rintro e w' ⟨rfl, rfl⟩
            go_wp2
            go_ret3
            exact PrsPost.err Hfin.out h4
          · have hfin : prs l = .inr (n, dot) := by rw [HP.out, H1.out, prsR_nil, if_neg h255]
            have Hfin := Lib.hid hfin
            clear hfin
            go_wp2_with fail
            refine (size_any n _ _ Ho.out (by simp at h2; omega) (by simp at h2; omega)).mono ?_
            rintro e w' ⟨rfl, rfl⟩
            go_wp2
            go_ret3
            exact PrsPost.ok Hfin.out Ho.out h4
        · have hr1 : r.isEmpty = false := by simpa using hr
          obtain ⟨hb1, hb2, hb3⟩ := oneE_bd r
          by_cases he : (oneE r).1 = 0
          · obtain ⟨hb4, hb5⟩ := hb2 he
            have He := Lib.hid he
            clear he hb2 hb3 hb5
            by_cases hdot : (oneE r).2.2 < r.length
            · have Hif : Hid ((oneE r).2.2 + 1 = (oneE r).2.2 + if (oneE r).2.2 < r.length then 1 else 0) := Lib.hid (by rw [if_pos hdot])
              have Hd : Hid (true = decide ((oneE r).2.2 < r.length)) := Lib.hid (by simp [hdot])
              go_wp2_with fail
              refine (one_any _ _ (by omega)).mono ?_
              rintro e w0 ⟨rfl, hb0⟩
              unfold oneV
              rw [He.out]
              have h3' := own_below h3 hb0
              have h4' := h4.trans (hb0.mono hsz)
              have hsz' := h4'.size
              clear h3
              go_wp2_with (at_builtin; refine wpList_appLit rfl _ _ _ rfl elt_name (n := n.length) rfl h3' [stv (oneE r).2.1] (m := 1) rfl rfl (by simp [Value.oneCell', stv]) hsz' (by omega) (by omega) ?_; intro v1 w1 ho1 hbw1 hg1)
              have R := PrsRel.step hr He.out H1.out h2 HA.out ho1 h4' hbw1 (d := true) (m := (oneE r).2.2 + 1) Hd.out Hif.out
              clear ho1 hbw1
              go_roundw
              case rel => exact ⟨_, _, rfl, rfl, R⟩
              case measure => simp only [strLen_mk, List.length_drop]; omega
            · have Hif : Hid ((oneE r).2.2 = (oneE r).2.2 + if (oneE r).2.2 < r.length then 1 else 0) := Lib.hid (by rw [if_neg hdot, Nat.add_zero])
              have Hd : Hid (false = decide ((oneE r).2.2 < r.length)) := Lib.hid (by simp [hdot])
              go_wp2_with fail
              refine (one_any _ _ (by omega)).mono ?_
              rintro e w0 ⟨rfl, hb0⟩
              unfold oneV
              rw [He.out]
              have h3' := own_below h3 hb0
              have h4' := h4.trans (hb0.mono hsz)
              have hsz' := h4'.size
              clear h3
              go_wp2_with (at_builtin; refine wpList_appLit rfl _ _ _ rfl elt_name (n := n.length) rfl h3' [stv (oneE r).2.1] (m := 1) rfl rfl (by simp [Value.oneCell', stv]) hsz' (by omega) (by omega) ?_; intro v1 w1 ho1 hbw1 hg1)
              have R := PrsRel.step hr He.out H1.out h2 HA.out ho1 h4' hbw1 (d := false) (m := (oneE r).2.2) Hd.out Hif.out
              clear ho1 hbw1
              go_roundw
              case rel => exact ⟨_, _, rfl, rfl, R⟩
              case measure => simp only [strLen_mk, List.length_drop]; omega
          · have hne : (((oneE r).1 : Int) != 0) = true := by simpa using he
            have hfin : prs l = .inl (oneE r).1 := by rw [HP.out, H1.out, prsR_err hr he]
            have Hfin := Lib.hid hfin
            clear hfin he hb2 hb3
            go_wp2_with fail
            refine (one_any _ _ (by omega)).mono ?_
            rintro e w0 ⟨rfl, hb0⟩
            unfold oneV
            go_wp2
            go_ret3
            exact PrsPost.err Hfin.out (h4.trans (hb0.mono hsz))
end Go.Proofs.YtbffkddlkfefoaaDoor

/- The contract of the reference's Parse: it answers what domain.Parse does. -/
namespace Go.Proofs.YtbffkddlkfefoaaDoor
open Go.RowKit
attribute [local go_sem] ba_get ext_take ext_drop

/-- what is to come within a label of which b has been read. -/
def mid (n : List (List UInt8)) (b r : List UInt8) : Int ⊕ (List (List UInt8) × Bool) := match one r with
  | none => .inl 5
  | some (b', m) => if b ++ b' = [] then .inl 8 else if 63 < (b ++ b').length then .inl 7 else prsR (n ++ [b ++ b']) (decide (m < r.length)) (r.drop (m + if m < r.length then 1 else 0))
def fin (n : List (List UInt8)) (dot : Bool) : Int ⊕ (List (List UInt8) × Bool) := if 255 < sz n then .inl 3 else .inr (n, dot)
/-- what is to come, whatever was read. -/
def St (n : List (List UInt8)) (b : List UInt8) (dot : Bool) (r : List UInt8) : Int ⊕ (List (List UInt8) × Bool) := if dot = true ∧ r = [] then fin n true else mid n b r
theorem mid_end {n : List (List UInt8)} {b r : List UInt8} (he : ends r = true) : mid n b r = if b = [] then .inl 8 else if 63 < b.length then .inl 7 else prsR (n ++ [b]) (decide (0 < r.length)) (r.drop (if 0 < r.length then 1 else 0)) := by
  unfold mid; rw [one_end he]; simp
theorem St_mid {n : List (List UInt8)} {b : List UInt8} {dot : Bool} {r : List UInt8} (h : dot = false ∨ r ≠ []) : St n b dot r = mid n b r := by
  unfold St; rw [if_neg]; rintro ⟨h1, h2⟩; rcases h with h | h
  · rw [h] at h1; cases h1
  · exact h h2
/-- what holds at each round's head. -/
def RpRel (w : World) (l : List UInt8) (i : Nat) (nv bv : Value) (dot : Bool) (wr : World) : Prop :=
  ∃ (n : List (List UInt8)) (b : List UInt8), ((i ≤ l.length ∧ prs l = St n b dot (l.drop i)) ∨ (i = l.length + 1 ∧ prs l = fin n dot)) ∧ (i ≤ l.length + 1) ∧ n.length + b.length ≤ i ∧ n.all lokB = true ∧
    wr.ownsRow w.heap.size 9 1 nv n.length (n.map stv) ∧ wr.ownsRow w.heap.size 5 1 bv b.length (b.map byv) ∧ Below w.heap.size w wr
theorem RpRel.last {w w1 : World} {l : List UInt8} {v1 : Value} {n : List (List UInt8)} {b : List UInt8} (h1 : prs l = St n b false (l.drop l.length)) (h2 : n.length + b.length ≤ l.length) (ha : n.all lokB = true)
    (hb0 : b ≠ []) (hb1 : ¬ 63 < b.length) (h5 : w1.ownsRow w.heap.size 9 1 v1 (n.length + 1) (n.map stv ++ [stv b])) (h4 : Below w.heap.size w w1) : RpRel w l (l.length + 1) v1 (.slice none 0 0) false w1 := by
  have hbl : 0 < b.length := List.length_pos_iff.2 hb0
  refine ⟨n ++ [b], [], .inr ⟨rfl, ?_⟩, by omega, by simp; omega, ?_, by simpa using h5, World.ownsRow_nil _ _ _ _, h4⟩
  · rw [h1, St_mid (.inl rfl), mid_end ends_end, if_neg hb0, if_neg hb1]
    simp [fin, prsR_nil]
  · rw [List.all_append, ha]; simp [lokB]; omega
end Go.Proofs.YtbffkddlkfefoaaDoor

/- The contracts of domain.add, domain.Text, domain.Plain and works. -/
namespace Go.Proofs.YtbffkddlkfefoaaDoor
open Go.RowKit
attribute [local go_sem] ba_get ext_take ext_drop

/-- a byte of a label, written. -/
def escb (c : UInt8) : List UInt8 :=
  if c.toNat = 46 ∨ c.toNat = 92 then [92, c] else if c.toNat < 33 ∨ 126 < c.toNat then [92, UInt8.ofNat (48 + c.toNat / 100), UInt8.ofNat (48 + c.toNat / 10 % 10), UInt8.ofNat (48 + c.toNat % 10)] else [c]
def escl (l : List UInt8) : List UInt8 := l.flatMap escb
def escp (l : List UInt8) (k : Nat) : List UInt8 := (l.take k).flatMap escb
theorem escp_succ {l : List UInt8} {k : Nat} (h : k < l.length) : escp l (k + 1) = escp l k ++ escb l[k] := by
  unfold escp
  rw [List.take_succ_eq_append_getElem h, List.flatMap_append, List.flatMap_singleton]
theorem escb_len (c : UInt8) : (escb c).length ≤ 4 ∧ 1 ≤ (escb c).length := by
  unfold escb; (repeat' split) <;> simp
def DaddRel (base : Nat) (w : World) (n : Nat) (xs : List Value) (l : List UInt8) (k : Nat) (v : Value) (wr : World) : Prop :=
  wr.ownsRow base 5 1 v (n + (escp l k).length) (xs ++ (escp l k).map byv) ∧ Below base w wr
theorem DaddRel.next {base : Nat} {w w0 w1 : World} {n : Nat} {xs : List Value} {l : List UInt8} {k m : Nat} {v1 : Value} {us : List Value} (hk : k < l.length) (hu : (escb l[k]).map byv = us) (hm : us.length = m) (h : w1.ownsRow base 5 1 v1 (n + (escp l k).length + m) (xs ++ (escp l k).map byv ++ us)) (h0 : Below base w w0) (h1 : Below base w0 w1) : DaddRel base w n xs l (k + 1) v1 w1 := by
  refine ⟨?_, h0.trans h1⟩
  have hl : (escb l[k]).length = m := by rw [← hm, ← hu]; simp
  rw [escp_succ hk, List.length_append, hl, List.map_append, hu, ← Nat.add_assoc, ← List.append_assoc]
  exact h

/-- a name, written. -/
def dtxt (A : List (List UInt8)) : List UInt8 := if A = [] then [46] else A.flatMap (fun l => escl l ++ [46])
def dtxs (A : List (List UInt8)) (k : Nat) : List UInt8 := (A.take k).flatMap (fun l => escl l ++ [46])
theorem dtxs_succ {A : List (List UInt8)} {k : Nat} (h : k < A.length) : dtxs A (k + 1) = dtxs A k ++ (escl A[k] ++ [46]) := by
  unfold dtxs
  rw [List.take_succ_eq_append_getElem h, List.flatMap_append, List.flatMap_singleton]
def DtRel (w : World) (A : List (List UInt8)) (k : Nat) (v : Value) (wr : World) : Prop :=
  wr.ownsRow w.heap.size 5 1 v (dtxs A k).length ((dtxs A k).map byv) ∧ Below w.heap.size w wr
theorem DtRel.next {w w0 w1 : World} {A : List (List UInt8)} {k : Nat} {v1 : Value} (hk : k < A.length) (h : w1.ownsRow w.heap.size 5 1 v1 ((dtxs A k).length + (escl A[k]).length + 1) ((dtxs A k).map byv ++ ((escl A[k]).map byv ++ [.int .u8 46]))) (h0 : Below w.heap.size w w0) (h1 : Below w.heap.size w0 w1) : DtRel w A (k + 1) v1 w1 := by
  refine ⟨?_, h0.trans h1⟩
  rw [dtxs_succ hk]
  simp only [List.length_append, List.map_append, List.length_cons, List.length_nil, Nat.add_assoc] at h ⊢
  exact h
def StrPost (w : World) (l : List UInt8) (e : Ending) (w' : World) : Prop := e = .returned (.string ⟨l.toArray⟩) ∧ Below w.heap.size w w'

def dpln (A : List (List UInt8)) : List UInt8 := if A = [] then [46] else (dtxt A).dropLast
end Go.Proofs.YtbffkddlkfefoaaDoor

/- The plain law of names: what is written is read; and the walks of DomainParses and DomainAgain. -/
namespace Go.Proofs.YtbffkddlkfefoaaDoor
open Go.RowKit
attribute [local go_sem] ba_get ext_take ext_drop

theorem u8back (c : UInt8) : UInt8.ofNat c.toNat = c := by simp
theorem esc_written {c : UInt8} (r : List UInt8) :
    esc ([UInt8.ofNat (48 + c.toNat / 100), UInt8.ofNat (48 + c.toNat / 10 % 10), UInt8.ofNat (48 + c.toNat % 10)] ++ r) = some (c, 3) := by
  have hc := c.toNat_lt
  have a1 : (UInt8.ofNat (48 + c.toNat / 100)).toNat = 48 + c.toNat / 100 := UInt8.toNat_ofNat_of_lt' (show _ < 256 by omega)
  have a2 : (UInt8.ofNat (48 + c.toNat / 10 % 10)).toNat = 48 + c.toNat / 10 % 10 := UInt8.toNat_ofNat_of_lt' (show _ < 256 by omega)
  have a3 : (UInt8.ofNat (48 + c.toNat % 10)).toNat = 48 + c.toNat % 10 := UInt8.toNat_ofNat_of_lt' (show _ < 256 by omega)
  generalize UInt8.ofNat (48 + c.toNat / 100) = x at *
  generalize UInt8.ofNat (48 + c.toNat / 10 % 10) = y at *
  generalize UInt8.ofNat (48 + c.toNat % 10) = z at *
  simp only [List.cons_append, List.nil_append]
  rw [esc_t (by simp [dgB]; omega), esc3, if_pos ⟨by simp [dgB]; omega, by simp [dgB]; omega⟩, if_pos (by omega)]
  rw [show 100 * (x.toNat - 48) + 10 * (y.toNat - 48) + (z.toNat - 48) = c.toNat by omega, u8back]
theorem ends_esc (c : UInt8) (r : List UInt8) : ends (escb c ++ r) = false := by
  unfold escb
  by_cases h1 : c.toNat = 46 ∨ c.toNat = 92
  · rw [if_pos h1, List.cons_append, ends_cons]; decide
  · rw [if_neg h1]
    by_cases h2 : c.toNat < 33 ∨ 126 < c.toNat
    · rw [if_pos h2, List.cons_append, ends_cons]; decide
    · rw [if_neg h2, List.cons_append, ends_cons, beq_eq_false_iff_ne]
      intro h
      exact h1 (.inl (is46.1 h))
theorem stp_esc (c : UInt8) (r : List UInt8) : stp (escb c ++ r) = some (c, (escb c).length) := by
  unfold escb
  by_cases h1 : c.toNat = 46 ∨ c.toNat = 92
  · rw [if_pos h1]
    simp only [List.cons_append, List.nil_append, stp, if_true]
    rw [esc_f (by simp [dgB]; omega)]
    rfl
  · rw [if_neg h1]
    by_cases h2 : c.toNat < 33 ∨ 126 < c.toNat
    · rw [if_pos h2, List.cons_append]
      simp only [stp, if_true]
      rw [esc_written]
      rfl
    · rw [if_neg h2]
      simp only [List.cons_append, List.nil_append, stp]
      rw [if_neg (fun h => h1 (.inr (is92.1 h)))]
      rfl
theorem escl_cons (c : UInt8) (b : List UInt8) : escl (c :: b) = escb c ++ escl b := rfl
theorem one_written (b r : List UInt8) (h : ends r = true) : one (escl b ++ r) = some (b, (escl b).length) := by
  induction b with
  | nil => exact one_end h
  | cons c b ih =>
    rw [escl_cons, List.append_assoc, one_some (ends_esc _ _) (stp_esc _ _), List.drop_left, ih]
    simp
theorem oneE_written {b r : List UInt8} (h : ends r = true) (hb : lokB b = true) : oneE (escl b ++ r) = (0, b, (escl b).length) := by
  have h2 := lokB_t hb
  unfold oneE
  rw [one_written b r h]
  dsimp only
  rw [if_neg (by intro e; rw [e] at h2; simp at h2), if_neg (by omega)]
theorem escl_pos {b : List UInt8} (h : lokB b = true) : 1 ≤ (escl b).length := by
  have h2 := lokB_t h
  rcases b with _ | ⟨c, b⟩
  · simp at h2
  · rw [escl_cons, List.length_append]; have := (escb_len c).2; omega
def dots (A : List (List UInt8)) : List UInt8 := A.flatMap (fun l => escl l ++ [46])
theorem dots_cons (b : List UInt8) (A : List (List UInt8)) : dots (b :: A) = escl b ++ 46 :: dots A := by unfold dots; rw [List.flatMap_cons]; simp
theorem prsR_label {n : List (List UInt8)} {d : Bool} {b r : List UInt8} (hb : lokB b = true) : prsR n d (escl b ++ 46 :: r) = prsR (n ++ [b]) true r := by
  have hp := escl_pos hb
  have hne : escl b ++ 46 :: r ≠ [] := by simp
  have he := oneE_written (r := 46 :: r) (b := b) (by rw [ends_cons]; rfl) hb
  have hlt : (escl b).length < (escl b ++ 46 :: r).length := by simp
  rw [prsR_ok hne (by rw [he]), he]
  dsimp only
  rw [if_pos hlt]
  simp only [hlt, decide_true]
  rw [← List.drop_drop, List.drop_left]
  rfl
theorem prsR_last {n : List (List UInt8)} {d : Bool} {b : List UInt8} (hb : lokB b = true) : prsR n d (escl b) = fin (n ++ [b]) false := by
  have hp := escl_pos hb
  have hne : escl b ≠ [] := by intro h; rw [h] at hp; simp at hp
  have he := oneE_written (r := []) (b := b) rfl hb
  rw [List.append_nil] at he
  have hlt : ¬ (escl b).length < (escl b).length := by omega
  rw [prsR_ok hne (by rw [he]), he]
  dsimp only
  rw [if_neg hlt]
  simp only [hlt, decide_false, Nat.add_zero, List.drop_length]
  rfl
theorem prsR_dots {A : List (List UInt8)} (h : A.all lokB = true) (n : List (List UInt8)) (d : Bool) (r : List UInt8) : prsR n d (dots A ++ r) = if A = [] then prsR n d r else prsR (n ++ A) true r := by
  induction A generalizing n d with
  | nil => rfl
  | cons b A ih =>
    rw [List.all_cons, Bool.and_eq_true] at h
    rw [dots_cons, List.append_assoc, List.cons_append, prsR_label h.1, ih h.2, if_neg (show ¬ (b :: A = []) by simp)]
    by_cases hA : A = []
    · rw [if_pos hA, hA]
    · rw [if_neg hA, List.append_assoc]; rfl
theorem chk_ok {A : List (List UInt8)} (h : chk A = 0) : A.all lokB = true ∧ sz A ≤ 255 := by
  unfold chk at h
  split at h
  · next h1 =>
    split at h
    · cases h
    · exact ⟨h1, by omega⟩
  · cases h
theorem chk_of {A : List (List UInt8)} (h : A.all lokB = true) (hs : sz A ≤ 255) : chk A = 0 := by unfold chk; rw [if_pos h, if_neg (by omega)]
theorem prs_eq {l : List UInt8} (h1 : l ≠ [46]) (h2 : l ≠ []) : prs l = prsR [] false l := by unfold prs; rw [if_neg h1, if_neg h2]; rfl
theorem fin_small {A : List (List UInt8)} {d : Bool} (h : sz A ≤ 255) : fin A d = .inr (A, d) := by unfold fin; rw [if_neg (by omega)]
/-- what is written is read. -/
theorem prs_dtxt {A : List (List UInt8)} (h : chk A = 0) : prs (dtxt A) = .inr (A, true) := by
  obtain ⟨h1, h2⟩ := chk_ok h
  unfold dtxt
  by_cases hA : A = []
  · subst hA; rfl
  · rw [if_neg hA]
    have hd : prsR [] false (dots A) = fin A true := by
      have := prsR_dots h1 [] false []
      rw [List.append_nil, if_neg hA] at this
      rw [this]; rfl
    show prs (dots A) = _
    rcases A with _ | ⟨b, A⟩
    · exact absurd rfl hA
    · rw [List.all_cons, Bool.and_eq_true] at h1
      have hp := escl_pos h1.1
      have hl : 2 ≤ (dots (b :: A)).length := by rw [dots_cons, List.length_append, List.length_cons]; omega
      rw [prs_eq (by intro e; rw [e] at hl; simp at hl) (by intro e; rw [e] at hl; simp at hl), hd, fin_small h2]
theorem dots_app (A B : List (List UInt8)) : dots (A ++ B) = dots A ++ dots B := by unfold dots; rw [List.flatMap_append]
theorem prs_dpln {A : List (List UInt8)} (h : chk A = 0) : prs (dpln A) = .inr (A, decide (A = [])) := by
  obtain ⟨h1, h2⟩ := chk_ok h
  unfold dpln
  by_cases hA : A = []
  · subst hA; rfl
  · rw [if_neg hA]
    have : dtxt A = dots A := by unfold dtxt; rw [if_neg hA]; rfl
    rw [this]
    rcases List.eq_nil_or_concat A with rfl | ⟨B, b, rfl⟩
    · exact absurd rfl hA
    · rw [List.concat_eq_append] at *
      rw [List.all_append, Bool.and_eq_true] at h1
      have hb : lokB b = true := by simpa using h1.2
      have hp := escl_pos hb
      have e : dots (B ++ [b]) = (dots B ++ escl b) ++ [46] := by rw [dots_app, dots_cons]; simp [dots]
      rw [e, List.dropLast_concat]
      have hne : dots B ++ escl b ≠ [] := by intro h; have := congrArg List.length h; rw [List.length_append, List.length_nil] at this; omega
      have hn46 : dots B ++ escl b ≠ [46] := by
        intro h
        rcases B with _ | ⟨c, B⟩
        · have hone := oneE_written (r := []) (b := b) rfl hb
          rw [List.append_nil] at hone
          have e2 : escl b = [46] := by simpa [dots] using h
          rw [e2] at hone
          have : (oneE [46]).1 = 8 := by decide
          rw [hone] at this
          cases this
        · rw [dots_cons] at h
          have hc : lokB c = true := by rw [List.all_cons, Bool.and_eq_true] at h1; exact h1.1.1
          have := escl_pos hc
          have := congrArg List.length h
          simp at this
          omega
      rw [prs_eq hn46 hne, prsR_dots h1.1]
      by_cases hB : B = []
      · subst hB
        rw [if_pos rfl, prsR_last hb, fin_small h2]; simp
      · rw [if_neg hB, prsR_last hb, List.nil_append, fin_small h2]; simp
end Go.Proofs.YtbffkddlkfefoaaDoor

/- The contracts of the reference's Lower and Same, of names' Same, Lower, Under and Cat. -/
namespace Go.Proofs.YtbffkddlkfefoaaDoor
open Go.RowKit
attribute [local go_sem] ba_get ext_take ext_drop

theorem low_len (l : List UInt8) : (low l).length = l.length := by simp [low]
theorem low_next {l : List UInt8} {k : Nat} (h : k < l.length) : low (l.take (k + 1)) = low (l.take k) ++ [sm l[k]] := by
  unfold low; rw [List.take_succ_eq_append_getElem h, List.map_append]; rfl
def RlRel (w : World) (l : List UInt8) (k : Nat) (v : Value) (wr : World) : Prop :=
  wr.ownsRow w.heap.size 5 1 v k ((low (l.take k)).map byv) ∧ Below w.heap.size w wr
theorem RlRel.next {w w0 w1 : World} {l : List UInt8} {k : Nat} {v1 : Value} {u : Value} (hk : k < l.length) (hu : u = byv (sm l[k])) (h : w1.ownsRow w.heap.size 5 1 v1 (k + 1) ((low (l.take k)).map byv ++ [u])) (h0 : Below w.heap.size w w0) (h1 : Below w.heap.size w0 w1) : RlRel w l (k + 1) v1 w1 := by
  subst hu
  refine ⟨?_, h0.trans h1⟩
  rw [low_next hk, List.map_append]
  exact h
def lows (A : List (List UInt8)) : List (List UInt8) := A.map low
def RdRel (w : World) (A : List (List UInt8)) (k : Nat) (v : Value) (wr : World) : Prop :=
  wr.ownsRow w.heap.size 9 1 v k ((lows (A.take k)).map stv) ∧ Below w.heap.size w wr
theorem RdRel.next {w w0 w1 : World} {A : List (List UInt8)} {k : Nat} {v1 : Value} (hk : k < A.length) (h : w1.ownsRow w.heap.size 9 1 v1 (k + 1) ((lows (A.take k)).map stv ++ [stv (low A[k])])) (h0 : Below w.heap.size w w0) (h1 : Below w.heap.size w0 w1) : RdRel w A (k + 1) v1 w1 := by
  refine ⟨?_, h0.trans h1⟩
  unfold lows at h ⊢
  rw [List.take_succ_eq_append_getElem hk, List.map_append, List.map_append]
  exact h
end Go.Proofs.YtbffkddlkfefoaaDoor

/- The contracts of puny.letter, figure, add, least, and of the reference's over, figures, value. -/
namespace Go.Proofs.YtbffkddlkfefoaaDoor
open Go.RowKit
attribute [local go_sem] ba_get ext_any ba_app

set_option maxHeartbeats 400000 in
theorem letter_any (z : Int) (w : World) (h0 : 0 ≤ z) (h1 : z < 36) : Calls Tryd.prog 219 #[.int .i64 z] w fun e w' => e = .returned (.int .u8 (((Pu.lt1 z.toNat).toNat : Nat) : Int)) ∧ w = w' := by
  have hl : ∀ n : Nat, n < 36 → ((Pu.lt1 n).toNat : Int) = if n < 26 then 97 + (n : Int) else 22 + (n : Int) := by
    intro n hn
    have : ∀ n : Fin 36, ((Pu.lt1 n.val).toNat : Int) = if n.val < 26 then 97 + (n.val : Int) else 22 + (n.val : Int) := by decide +kernel
    exact this ⟨n, hn⟩
  have Hl := Lib.hid (hl z.toNat (by omega))
  clear hl
  by_cases h : z < 26
  · go_enter Tryd.func219, Tryd.ntmps219
    go_wp2
    go_ret
    refine ⟨reti ?_, rfl⟩
    rw [Hl.out, if_pos (by omega)]; omega
  · go_enter Tryd.func219, Tryd.ntmps219
    go_wp2
    go_ret
    refine ⟨reti ?_, rfl⟩
    rw [Hl.out, if_neg (by omega)]; omega

def figV : Option Nat → Value
  | none => .tuple #[.int .i64 0, .bool false]
  | some f => .tuple #[.int .i64 (f : Int), .bool true]
theorem figr {c : UInt8} {o : Option Nat} {v : Value} (h : Pu.fig c = o) (hv : v = figV o) : Ending.returned v = .returned (figV (Pu.fig c)) := by rw [h, hv]
theorem figr1 {c : UInt8} {f : Nat} {x : Int} (h : Pu.fig c = some f) (hx : x = (f : Int)) : Ending.returned (.tuple #[.int .i64 x, .bool true]) = .returned (figV (Pu.fig c)) := by rw [h, hx]; rfl
set_option maxRecDepth 100000 in
set_option maxHeartbeats 800000 in
theorem figure_any (c : UInt8) (w : World) : Calls Tryd.prog 223 #[.int .u8 ((c.toNat : Nat) : Int)] w fun e w' => e = .returned (figV (Pu.fig c)) ∧ w = w' := by
  have hb := c.toNat_lt
  rcases (show c.toNat < 48 ∨ (48 ≤ c.toNat ∧ c.toNat ≤ 57) ∨ (58 ≤ c.toNat ∧ c.toNat ≤ 64) ∨ (65 ≤ c.toNat ∧ c.toNat ≤ 90) ∨ (91 ≤ c.toNat ∧ c.toNat ≤ 96) ∨ (97 ≤ c.toNat ∧ c.toNat ≤ 122) ∨ 122 < c.toNat by omega) with h | h | h | h | h | h | h
  all_goals
    first
      | have R := Lib.hid (show Pu.fig c = none by unfold Pu.fig; rw [if_neg (by omega), if_neg (by omega), if_neg (by omega)])
      | have R := Lib.hid (show Pu.fig c = some (c.toNat - 97) by unfold Pu.fig; rw [if_pos (by omega)])
      | have R := Lib.hid (show Pu.fig c = some (c.toNat - 65) by unfold Pu.fig; rw [if_neg (by omega), if_pos (by omega)])
      | have R := Lib.hid (show Pu.fig c = some (c.toNat - 22) by unfold Pu.fig; rw [if_neg (by omega), if_neg (by omega), if_pos (by omega)])
    first | have a1 : (97 : Int) ≤ ((c.toNat : Nat) : Int) := by omega
          | have a1 : ¬ (97 : Int) ≤ ((c.toNat : Nat) : Int) := by omega
    first | have a2 : ((c.toNat : Nat) : Int) ≤ 122 := by omega
          | have a2 : ¬ ((c.toNat : Nat) : Int) ≤ 122 := by omega
    first | have a3 : (65 : Int) ≤ ((c.toNat : Nat) : Int) := by omega
          | have a3 : ¬ (65 : Int) ≤ ((c.toNat : Nat) : Int) := by omega
    first | have a4 : ((c.toNat : Nat) : Int) ≤ 90 := by omega
          | have a4 : ¬ ((c.toNat : Nat) : Int) ≤ 90 := by omega
    first | have a5 : (48 : Int) ≤ ((c.toNat : Nat) : Int) := by omega
          | have a5 : ¬ (48 : Int) ≤ ((c.toNat : Nat) : Int) := by omega
    first | have a6 : ((c.toNat : Nat) : Int) ≤ 57 := by omega
          | have a6 : ¬ ((c.toNat : Nat) : Int) ≤ 57 := by omega
    go_enter Tryd.func223, Tryd.ntmps223
    go_wp2
    go_ret2
    first | exact ⟨figr R.out rfl, rfl⟩ | (refine ⟨figr1 R.out ?_, rfl⟩; omega)

theorem fgz {n t : Nat} (h : t ≤ n) (ht : t ≤ 26) : ((t : Int) + ((n : Int) - (t : Int)) % (36 - (t : Int))).toNat = t + (n - t) % (36 - t) := by
  have e1 : (n : Int) - (t : Int) = ((n - t : Nat) : Int) := by omega
  have e2 : (36 : Int) - (t : Int) = ((36 - t : Nat) : Int) := by omega
  rw [e1, e2, ← Int.natCast_emod]
  omega
theorem fgq {n t : Nat} (h : t ≤ n) (ht : t ≤ 26) : ((n : Int) - (t : Int)) / (36 - (t : Int)) = (((n - t) / (36 - t) : Nat) : Int) := by
  have e1 : (n : Int) - (t : Int) = ((n - t : Nat) : Int) := by omega
  have e2 : (36 : Int) - (t : Int) = ((36 - t : Nat) : Int) := by omega
  rw [e1, e2, ← Int.natCast_ediv]
theorem fgb {n t : Nat} (h : t ≤ n) (ht : t ≤ 26) : (0 : Int) ≤ ((n : Int) - (t : Int)) % (36 - (t : Int)) ∧ ((n : Int) - (t : Int)) % (36 - (t : Int)) < 36 - (t : Int) ∧ (0 : Int) ≤ ((n : Int) - (t : Int)) / (36 - (t : Int)) ∧ ((n : Int) - (t : Int)) / (36 - (t : Int)) ≤ (n : Int) - (t : Int) :=
  ⟨Int.emod_nonneg _ (by omega), Int.emod_lt_of_pos _ (by omega), Int.ediv_nonneg (by omega) (by omega), Int.ediv_le_self _ (by omega)⟩

def PaRel (base : Nat) (w : World) (zs : List Value) (bias : Nat) (n k : Nat) (v : Value) (wr : World) : Prop :=
  ∃ ys : List Value, wr.ownsRow base 5 1 v ys.length ys ∧ ys ++ (Pu.figs n bias k).map byv = zs ∧ Below base w wr
set_option maxRecDepth 100000 in
set_option maxHeartbeats 1000000 in
theorem padd_any (n0 bias : Nat) (base : Nat) (v : Value) (n : Nat) (xs : List Value) (w : World) (h0 : n0 ≤ 9999999999) (hbias : bias ≤ 1000000000000) (hb : base ≤ w.heap.size) (hn : n ≤ 1000000000) (hown : w.ownsRow base 5 1 v n xs) :
    Calls Tryd.prog 195 #[v, .int .i64 (n0 : Int), .int .i64 (bias : Int)] w (AddPost base 5 w n xs ((Pu.figs n0 bias 1).map byv)) := by
  have hfl := Pu.figs_len 10 n0 bias 1 (by simp; omega)
  have hxl : xs.length = n := by have := hown.1; omega
  obtain ⟨zs, hzs⟩ : ∃ zs, zs = xs ++ (Pu.figs n0 bias 1).map byv := ⟨_, rfl⟩
  have hzl : zs.length ≤ n + 11 := by rw [hzs, List.length_append, List.length_map]; omega
  have Hzs := Lib.hid hzs
  have hown' : w.ownsRow base 5 1 v xs.length xs := by rw [hxl]; exact hown
  have Hown := Lib.hid hown'
  have Hxl := Lib.hid hxl
  clear hzs hown hown' hxl
  go_enter Tryd.func195, Tryd.ntmps195
  go_wp2
  go_loopw [0, 1, 7, 8] (fun v x y _ wr => ∃ m k : Nat, x = .int .i64 (m : Int) ∧ y = .int .i64 (k : Int) ∧ m ≤ n0 ∧ 1 ≤ k ∧ k + (Pu.figs m bias k).length ≤ 12 ∧ PaRel base w zs bias m k v wr) (fun _ x _ _ _ => (intOf x).toNat)
  case atStart => exact ⟨n0, 1, rfl, rfl, Nat.le_refl _, Nat.le_refl _, by omega, xs, Hown.out, Hzs.out.symm, Below.refl _ _⟩
  case round =>
    obtain ⟨m, k, rfl, rfl, hm, hk1, hk, ys, h3, he, h4⟩ := hrel
    have hsz : base ≤ wr.heap.size := Nat.le_trans hb h4.size
    have hyl : ys.length ≤ n + 11 := by
      have := congrArg List.length he
      rw [List.length_append] at this
      omega
    have He := Lib.hid he
    clear he
    have hbl := Pu.bnd_le k bias
    have hbp := Pu.bnd_pos k bias
    go_wp2_with fail
    refine (pbound_any _ _ _ (by omega) hbias).mono ?_
    rintro e w' ⟨rfl, rfl⟩
    by_cases hlt : m < Pu.bnd k bias
    · have HF := Lib.hid (Pu.figs_stop hlt)
      have i1 : (m : Int) < ((Pu.bnd k bias : Nat) : Int) := by omega
      generalize Pu.bnd k bias = t at *
      go_wp2_with fail
      refine (letter_any _ _ (by omega) (by omega)).mono ?_
      rintro e w' ⟨rfl, rfl⟩
      rw [Int.toNat_natCast]
      obtain ⟨c, hc⟩ : ∃ c, c = Pu.lt1 m := ⟨_, rfl⟩
      rw [← hc]
      have Hc := Lib.hid hc
      clear hc
      go_wp2_with (at_builtin; refine wpList_appLit rfl _ _ _ rfl elt_bytes (n := ys.length) rfl h3 [.int .u8 ((c.toNat : Nat) : Int)] (m := 1) rfl rfl (by simp [Value.oneCell']) hsz (by omega) (by omega) ?_; intro v1 w1 ho1 hb1 hg1)
      go_ret
      refine ⟨_, rfl, ?_, h4.trans hb1⟩
      have e1 := He.out
      rw [HF.out, ← Hc.out] at e1
      rw [← Hzs.out, ← e1]
      have e2 : n + ((Pu.figs n0 bias 1).map byv).length = ys.length + 1 := by
        have := congrArg List.length e1
        rw [Hzs.out, List.length_append, List.length_append, List.length_map, List.length_map, Hxl.out] at this
        rw [List.length_map]
        simpa using this.symm
      rw [e2]
      exact ho1
    · have HF := Lib.hid (Pu.figs_go hlt)
      have hdl := Pu.div_lt hbp hlt
      have i1 : ¬ (m : Int) < ((Pu.bnd k bias : Nat) : Int) := by omega
      have hfl2 : (Pu.figs m bias k).length = (Pu.figs ((m - Pu.bnd k bias) / (36 - Pu.bnd k bias)) bias (k + 1)).length + 1 := by rw [HF.out]; simp
      have Hfl2 := Lib.hid hfl2
      clear hfl2
      obtain ⟨b1, b2, b3, b4⟩ := fgb (n := m) (t := Pu.bnd k bias) (by omega) hbl
      have Z1 := Lib.hid (fgz (n := m) (t := Pu.bnd k bias) (by omega) hbl)
      have Z2 := Lib.hid (fgq (n := m) (t := Pu.bnd k bias) (by omega) hbl)
      generalize Pu.bnd k bias = t at *
      have i2 : ((36 - (t : Int)) == 0) = false := by rw [beq_eq_false_iff_ne]; omega
      go_wp2_with fail
      refine (letter_any _ _ (by omega) (by omega)).mono ?_
      rintro e w' ⟨rfl, rfl⟩
      rw [Z1.out]
      obtain ⟨c, hg⟩ : ∃ c, c = Pu.lt1 (t + (m - t) % (36 - t)) := ⟨_, rfl⟩
      rw [← hg]
      have Hg := Lib.hid hg
      clear hg
      go_wp2_with (at_builtin; refine wpList_appLit rfl _ _ _ rfl elt_bytes (n := ys.length) rfl h3 [.int .u8 ((c.toNat : Nat) : Int)] (m := 1) rfl rfl (by simp [Value.oneCell']) hsz (by omega) (by omega) ?_; intro v1 w1 ho1 hb1 hg1)
      go_roundw
      case rel =>
        refine ⟨(m - t) / (36 - t), k + 1, vint Z2.out, by go_num, by omega, by omega, by have := Hfl2.out; omega, ys ++ [byv c], ?_, ?_, h4.trans hb1⟩
        · rw [List.length_append]; exact ho1
        · have e1 := He.out
          rw [HF.out, ← Hg.out] at e1
          rw [← e1]
          simp
      case measure => simp [intOf]; rw [Z2.out]; omega
end Go.Proofs.YtbffkddlkfefoaaDoor

/- The contracts of the reference's figures and value, and of puny.least. -/
namespace Go.Proofs.YtbffkddlkfefoaaDoor
open Go.RowKit
attribute [local go_sem] ba_get ba_app

attribute [local go_sem] ext_any
def rnv (c : Nat) : Value := .int .i32 (c : Int)
theorem least_next {l : List Nat} {n k : Nat} (h : k < l.length) : Pu.least (l.take (k + 1)) n = if n ≤ l[k] ∧ l[k] < Pu.least (l.take k) n then l[k] else Pu.least (l.take k) n := by
  unfold Pu.least
  rw [List.take_succ_eq_append_getElem h, List.foldl_append]
  rfl
theorem least_le (l : List Nat) (n : Nat) : Pu.least l n ≤ 1114112 := (Pu.least_from n l 1114112).2.1
set_option maxRecDepth 100000 in
set_option maxHeartbeats 800000 in
theorem least_any (l : List Nat) (v : Value) (n : Nat) (w : World) (ha : Sl w 1 v l.length (l.map rnv)) (hn : l.length ≤ 1000000000) (hll : ∀ c ∈ l, c ≤ 1114111) :
    Calls Tryd.prog 194 #[v, .int .i64 (n : Int)] w fun e w' => e = .returned (.int .i64 ((Pu.least l n : Nat) : Int)) ∧ w = w' := by
  rcases Nat.eq_zero_or_pos l.length with h0 | hpos
  · have hA : l = [] := List.eq_nil_of_length_eq_zero h0
    subst hA
    obtain ⟨a1, c1, rfl, _⟩ := ha.zero
    clear ha hll
    go_enter Tryd.func194, Tryd.ntmps194
    go_wp2
    refine wp_loop_rounds 1 ?_
    rw [rounds_succ]; go_wp2
    go_ret
    exact ⟨rfl, rfl⟩
  · obtain ⟨b1, o1, c1, rfl, hc1, hb1, hcA⟩ := ha.pos hpos
    have HcA := Lib.hid hcA
    have Hll := Lib.hid hll
    clear hcA ha hll
    go_enter Tryd.func194, Tryd.ntmps194
    go_wp2
    go_loop [5, 7, 10] (fun m _ i => ∃ k m' : Nat, k ≤ l.length ∧ i = .int .i64 (k : Int) ∧ m = .int .i64 (m' : Int) ∧ m' = Pu.least (l.take k) n) (fun _ _ i => l.length - (intOf i).toNat)
    case atStart => exact ⟨0, 1114112, Nat.zero_le _, rfl, rfl, rfl⟩
    case round =>
      obtain ⟨k, m, hk, rfl, rfl, hm⟩ := hrel
      have hml : m ≤ 1114112 := by rw [hm]; exact least_le _ _
      have Hm := Lib.hid hm
      clear hm
      by_cases hlt : k < l.length
      · have i1 : (k : Int) < (l.length : Int) := by omega
        have q1 : w.cell? ⟨b1, o1 + k, none⟩ = some (.int .i32 ((l[k] : Nat) : Int)) := sl_at HcA.out hlt
        have hlk := Hll.out l[k] (List.getElem_mem _)
        have HN := Lib.hid (show Pu.least (l.take (k + 1)) n = if n ≤ l[k] ∧ l[k] < m then l[k] else m by rw [least_next hlt, ← Hm.out])
        generalize l[k] = c at *
        by_cases h1 : n ≤ c
        · have j1 : (n : Int) ≤ (c : Int) := by omega
          by_cases h2 : c < m
          · have j2 : (c : Int) < (m : Int) := by omega
            go_wp2
            go_round
            case rel => exact ⟨k + 1, c, by omega, by go_num, rfl, by rw [HN.out, if_pos ⟨h1, h2⟩]⟩
            case measure => simp [intOf]; omega
          · have j2 : ¬ (c : Int) < (m : Int) := by omega
            go_wp2
            go_round
            case rel => exact ⟨k + 1, m, by omega, by go_num, rfl, by rw [HN.out, if_neg (by omega)]⟩
            case measure => simp [intOf]; omega
        · have j1 : ¬ (n : Int) ≤ (c : Int) := by omega
          go_wp2
          go_round
          case rel => exact ⟨k + 1, m, by omega, by go_num, rfl, by rw [HN.out, if_neg (by omega)]⟩
          case measure => simp [intOf]; omega
      · have i1 : ¬ (k : Int) < (l.length : Int) := by omega
        obtain rfl : k = l.length := by omega
        go_wp2
        go_ret
        exact ⟨reti (by rw [Hm.out, List.take_length]), rfl⟩
end Go.Proofs.YtbffkddlkfefoaaDoor

/- Plain words for the walks of Encode. -/
namespace Go.Proofs.YtbffkddlkfefoaaDoor
open Go.RowKit

namespace Pu
theorem pass_done {l : List Nat} {n basic : Nat} {s : ES} (h : s.done = (bel l n).length) : ∀ (i : Nat), i ≤ l.length → ∀ s', pass n basic s (l.take i) = some s' → s'.done = (Lp l n i).length := by
  intro i
  induction i with
  | zero =>
    intro _ s' hs
    have : s = s' := by simpa [pass] using hs
    rw [← this, (Lp_zero l n).1, h]
  | succ i ih =>
    intro hi s' hs
    rw [pass_next (by omega)] at hs
    obtain ⟨s1, e1, e2⟩ := Option.bind_eq_some_iff.1 hs
    have h1 := ih (by omega) s1 e1
    unfold pstep at e2
    rcases Nat.lt_trichotomy l[i] n with hc | hc | hc
    · rw [if_pos hc] at e2
      split at e2
      · cases e2
      · injection e2 with e2
        rw [← e2, (Lp_lt (by omega) hc).1]
        exact h1
    · rw [if_neg (by omega), if_pos hc] at e2
      injection e2 with e2
      rw [← e2, (Lp_eq (by omega) hc).1]
      have := (Lp_len l n i).1
      simp only [List.length_append, List.length_cons, List.length_take, List.length_drop]
      omega
    · rw [if_neg (by omega), if_neg (by omega)] at e2
      injection e2 with e2
      rw [← e2, (Lp_gt (by omega) hc).1]
      exact h1
theorem pass_none {l : List Nat} {n basic : Nat} {s s1 : ES} {i : Nat} (hi : i < l.length) (h1 : pass n basic s (l.take i) = some s1) (h2 : pstep n basic s1 l[i] = none) : pass n basic s l = none := by
  have h3 : pass n basic s (l.take (i + 1)) = none := by rw [pass_next hi, h1]; exact h2
  have h4 : ∀ d : Nat, i + 1 + d ≤ l.length → pass n basic s (l.take (i + 1 + d)) = none := by
    intro d
    induction d with
    | zero => intro _; exact h3
    | succ d ih =>
      intro hd
      rw [show i + 1 + (d + 1) = (i + 1 + d) + 1 by omega, pass_next (by omega), ih (by omega)]
      rfl
  have := h4 (l.length - (i + 1)) (by omega)
  rw [show i + 1 + (l.length - (i + 1)) = l.length by omega, pass_all] at this
  exact this
/-- what is known of a writer's numbers. -/
structure Small (s : ES) : Prop where
  steps : s.steps ≤ 4294967295
  bias : s.bias ≤ 1000000000000
  b : s.b.length ≤ 5000 + 11 * s.done
theorem Small.emit {s : ES} {basic : Nat} (h : Small s) : Small ⟨s.b ++ figs s.steps s.bias 1, 0, beh s.steps (s.done + 1) (decide (s.done = basic)), s.done + 1⟩ := by
  have h1 := figs_len 10 s.steps s.bias 1 (by have := h.steps; simp; omega)
  have h2 := beh_le s.steps (s.done + 1) (decide (s.done = basic))
  have h3 := h.steps
  have h4 := h.b
  refine ⟨by simp, by dsimp only; omega, ?_⟩
  simp only [List.length_append]
  omega
theorem pstep_lt {n basic : Nat} {s : ES} {c : Nat} (h : c < n) (h2 : s.steps + 1 ≤ 4294967295) : pstep n basic s c = some { s with steps := s.steps + 1 } := by unfold pstep; rw [if_pos h, if_neg (by omega)]
theorem pstep_over {n basic : Nat} {s : ES} {c : Nat} (h : c < n) (h2 : ¬ s.steps + 1 ≤ 4294967295) : pstep n basic s c = none := by unfold pstep; rw [if_pos h, if_pos (by omega)]
theorem pstep_eq {n basic : Nat} {s : ES} {c : Nat} (h : c = n) : pstep n basic s c = some ⟨s.b ++ figs s.steps s.bias 1, 0, beh s.steps (s.done + 1) (decide (s.done = basic)), s.done + 1⟩ := by unfold pstep; rw [if_neg (by omega), if_pos h]
theorem pstep_gt {n basic : Nat} {s : ES} {c : Nat} (h : n < c) : pstep n basic s c = some s := by unfold pstep; rw [if_neg (by omega), if_neg (by omega)]
theorem pass_step {l : List Nat} {n basic : Nat} {s s1 s2 : ES} {i : Nat} (hi : i < l.length) (h1 : pass n basic s (l.take i) = some s1) (h2 : pstep n basic s1 l[i] = some s2) : pass n basic s (l.take (i + 1)) = some s2 := by rw [pass_next hi, h1]; exact h2
theorem encF_done {l : List Nat} {basic f n : Nat} {s : ES} (h : ¬ s.done < l.length) : encF l basic f n s = some s.b := by
  cases f with
  | zero => rfl
  | succ f => rw [encF, if_neg h]
theorem encF_over {l : List Nat} {basic f n : Nat} {s : ES} (h : s.done < l.length) (h2 : 4294967295 < s.steps + (least l n - n) * (s.done + 1)) : encF l basic (f + 1) n s = none := by rw [encF, if_pos h, if_pos h2]
theorem encF_none {l : List Nat} {basic f n : Nat} {s : ES} (h : s.done < l.length) (h2 : ¬ 4294967295 < s.steps + (least l n - n) * (s.done + 1)) (h3 : pass (least l n) basic { s with steps := s.steps + (least l n - n) * (s.done + 1) } l = none) : encF l basic (f + 1) n s = none := by
  rw [encF, if_pos h, if_neg h2, h3]
theorem encF_some {l : List Nat} {basic f n : Nat} {s s' : ES} (h : s.done < l.length) (h2 : ¬ 4294967295 < s.steps + (least l n - n) * (s.done + 1)) (h3 : pass (least l n) basic { s with steps := s.steps + (least l n - n) * (s.done + 1) } l = some s') : encF l basic (f + 1) n s = encF l basic f (least l n + 1) { s' with steps := s'.steps + 1 } := by
  rw [encF, if_pos h, if_neg h2, h3]
end Pu

def okp (c : Int) : Bool := decide (0 ≤ c ∧ c ≤ 1114111)
def nats (l : List Int) : List Nat := l.map Int.toNat
theorem nats_len (l : List Int) : (nats l).length = l.length := by simp [nats]
def encR (l : List Int) : Int ⊕ List UInt8 :=
  if 4096 < l.length then .inl 3 else if l.all okp = true then (match Pu.enc (nats l) with | none => .inl 6 | some b => .inr b) else .inl 4
def encT : Int ⊕ List UInt8 → Value
  | .inl c => .tuple #[.string ⟨([] : List UInt8).toArray⟩, .int .i64 c]
  | .inr b => .tuple #[.string ⟨b.toArray⟩, .int .i64 0]
def EncPost (w : World) (l : List Int) (e : Ending) (w' : World) : Prop := e = .returned (encT (encR l)) ∧ Below w.heap.size w w'
theorem EncPost.long {w w' : World} {l : List Int} (h : 4096 < l.length) (hb : Below w.heap.size w w') : EncPost w l (.returned (.tuple #[.string ⟨#[]⟩, .int .i64 3])) w' := ⟨by unfold encR; rw [if_pos h]; rfl, hb⟩
theorem EncPost.bad {w w' : World} {l : List Int} (h : ¬ 4096 < l.length) (h2 : ¬ l.all okp = true) (hb : Below w.heap.size w w') : EncPost w l (.returned (.tuple #[.string ⟨#[]⟩, .int .i64 4])) w' := ⟨by unfold encR; rw [if_neg h, if_neg h2]; rfl, hb⟩
theorem EncPost.over {w w' : World} {l : List Int} (h : ¬ 4096 < l.length) (h2 : l.all okp = true) (h3 : Pu.enc (nats l) = none) (hb : Below w.heap.size w w') : EncPost w l (.returned (.tuple #[.string ⟨#[]⟩, .int .i64 6])) w' := ⟨by unfold encR; rw [if_neg h, if_pos h2, h3]; rfl, hb⟩
theorem EncPost.ok {w w' : World} {l : List Int} {b : List UInt8} (h : ¬ 4096 < l.length) (h2 : l.all okp = true) (h3 : Pu.enc (nats l) = some b) (hb : Below w.heap.size w w') : EncPost w l (.returned (.tuple #[.string ⟨b.toArray⟩, .int .i64 0])) w' := ⟨by unfold encR; rw [if_neg h, if_pos h2, h3]; rfl, hb⟩
theorem okp_t {c : Int} (h : okp c = true) : 0 ≤ c ∧ c ≤ 1114111 := of_decide_eq_true h
theorem nats_back {l : List Int} (h : l.all okp = true) : l = (nats l).map (fun c : Nat => (c : Int)) ∧ ∀ c ∈ nats l, c ≤ 1114111 := by
  rw [List.all_eq_true] at h
  constructor
  · unfold nats
    rw [List.map_map]
    conv => lhs; rw [← List.map_id l]
    apply List.map_congr_left
    intro c hc
    have := okp_t (h c hc)
    simp
    omega
  · intro c hc
    obtain ⟨x, hx, rfl⟩ := List.mem_map.1 hc
    have := okp_t (h x hx)
    omega
theorem bas1_next {l : List Int} {k : Nat} (h : k < l.length) : Pu.bas1 (nats (l.take (k + 1))) = if l[k].toNat < 128 then Pu.bas1 (nats (l.take k)) ++ [UInt8.ofNat l[k].toNat] else Pu.bas1 (nats (l.take k)) := by
  unfold nats Pu.bas1
  rw [List.take_succ_eq_append_getElem h, List.map_append, List.filter_append]
  by_cases hc : l[k].toNat < 128
  · rw [if_pos hc]; simp [hc]
  · rw [if_neg hc]; simp [hc]
theorem bas1_le (l : List Nat) : (Pu.bas1 l).length ≤ l.length := by unfold Pu.bas1; rw [List.length_map]; exact List.length_filter_le _ _
/-- at the head of a round of Encode's great loop. -/
def EoRel (P : List Nat) (E : Option (List UInt8)) (steps n bias done : Value) (s : Pu.ES) : Prop :=
  ∃ (m f : Nat), steps = .int .i64 (s.steps : Int) ∧ n = .int .i64 (m : Int) ∧ bias = .int .i64 (s.bias : Int) ∧ done = .int .i64 (s.done : Int) ∧
    s.done = (Pu.bel P m).length ∧ m ≤ 1114112 ∧ s.steps ≤ 4294967296 ∧ s.bias ≤ 1000000000000 ∧ s.b.length ≤ 5000 + 11 * s.done ∧ P.length - s.done ≤ f ∧ Pu.encF P (Pu.bas1 P).length f m s = E
/-- inside its pass. -/
def EiRel (P : List Nat) (s0 : Pu.ES) (m i : Nat) (steps bias done : Value) (s : Pu.ES) : Prop :=
  steps = .int .i64 (s.steps : Int) ∧ bias = .int .i64 (s.bias : Int) ∧ done = .int .i64 (s.done : Int) ∧ Pu.Small s ∧ Pu.pass m (Pu.bas1 P).length s0 (P.take i) = some s
theorem jump_le {P : List Nat} {n d : Nat} (hd : d ≤ 4096) : (Pu.least P n - n) * (d + 1) ≤ 4564516864 := by
  have := least_le P n
  have h1 : (Pu.least P n - n) * (d + 1) ≤ 1114112 * (d + 1) := Nat.mul_le_mul_right _ (by omega)
  omega
end Go.Proofs.YtbffkddlkfefoaaDoor

/- The contract of puny.Encode. -/
namespace Go.Proofs.YtbffkddlkfefoaaDoor
open Go.RowKit
attribute [local go_sem] ba_get ext_any ba_app

def EbRel (w : World) (l : List Int) (k : Nat) (v : Value) (wr : World) : Prop :=
  (l.take k).all okp = true ∧ wr.ownsRow w.heap.size 5 1 v (Pu.bas1 (nats (l.take k))).length ((Pu.bas1 (nats (l.take k))).map byv) ∧ Below w.heap.size w wr
theorem okp_next {l : List Int} {k : Nat} (h : k < l.length) (h1 : (l.take k).all okp = true) (h2 : okp l[k] = true) : (l.take (k + 1)).all okp = true := by
  rw [List.take_succ_eq_append_getElem h, List.all_append, h1]; simp [h2]
theorem okp_bad {l : List Int} {k : Nat} (h : k < l.length) (h2 : okp l[k] = false) : ¬ l.all okp = true := by
  intro h1
  rw [List.all_eq_true] at h1
  have := h1 _ (List.getElem_mem h)
  rw [h2] at this
  cases this

set_option maxRecDepth 100000 in
set_option maxHeartbeats 4000000 in
theorem encode_any (l : List Int) (v : Value) (w : World) (ha : Sl w 1 v l.length (l.map (Value.int .i32))) (hn : l.length ≤ maxLen) (hr : ∀ x ∈ l, -2147483648 ≤ x ∧ x ≤ 2147483647) :
    Calls Tryd.prog 157 #[v] w (EncPost w l) := by
  unfold maxLen at hn
  by_cases h4096 : 4096 < l.length
  · obtain ⟨a1, c1, rfl, _⟩ := ha.any
    have i0 : (4096 : Int) < (l.length : Int) := by omega
    clear ha hr
    go_enter Tryd.func157, Tryd.ntmps157
    go_wp2
    go_ret2
    exact EncPost.long h4096 (Below.refl _ _)
  · have i0 : ¬ (4096 : Int) < (l.length : Int) := by omega
    rcases Nat.eq_zero_or_pos l.length with hz | hpos
    · have hA : l = [] := List.eq_nil_of_length_eq_zero hz
      subst hA
      obtain ⟨a1, c1, rfl, _⟩ := ha.zero
      have hcv := str_run (w := w) (l := []) (Sl.nil w 1)
      clear ha hr
      go_enter Tryd.func157, Tryd.ntmps157
      go_wp2
      refine wp_loop_rounds 1 ?_
      rw [rounds_succ]; go_wp2
      refine wp_loop_rounds 1 ?_
      rw [rounds_succ]; go_wp2
      go_ret2
      exact EncPost.ok h4096 rfl rfl (Below.refl _ _)
    · obtain ⟨b1, o1, c1, rfl, hc1, hb1, hcA⟩ := ha.pos hpos
      have HcA := Lib.hid hcA
      have Hr := Lib.hid hr
      clear hcA ha hr
      go_enter Tryd.func157, Tryd.ntmps157
      go_wp2
      go_loopw [4, 6, 20] (fun v _ i wr => ∃ k : Nat, k ≤ l.length ∧ i = .int .i64 (k : Int) ∧ EbRel w l k v wr) (fun _ _ i _ => l.length - (intOf i).toNat)
      case atStart => exact ⟨0, Nat.zero_le _, rfl, rfl, World.ownsRow_nil _ _ _ _, Below.refl _ _⟩
      case round =>
        obtain ⟨k, hk, rfl, hok, h3, h4⟩ := hrel
        have hsz := h4.size
        have hbl := bas1_le (nats (l.take k))
        rw [nats_len, List.length_take] at hbl
        have Hok := Lib.hid hok
        clear hok
        by_cases hlt : k < l.length
        · have i1 : (k : Int) < (l.length : Int) := by omega
          have q1 : wr.cell? ⟨b1, o1 + k, none⟩ = some (.int .i32 l[k]) := (bel_cells h4 hb1 (o1 + k)).trans (sl_at HcA.out hlt)
          have HB := Lib.hid (bas1_next hlt)
          rcases hp : okp l[k]
          · have HN := Lib.hid (okp_bad hlt hp)
            have hc : l[k] < 0 ∨ 1114111 < l[k] := by
              have := of_decide_eq_false hp
              omega
            generalize l[k] = c at *
            clear hp
            by_cases hc0 : c < 0
            · go_wp2
              go_ret2
              exact EncPost.bad h4096 HN.out h4
            · have j2 : (1114111 : Int) < c := by omega
              go_wp2
              go_ret2
              exact EncPost.bad h4096 HN.out h4
          · have HN := Lib.hid (okp_next hlt Hok.out hp)
            obtain ⟨g1, g2⟩ := okp_t hp
            clear hp
            generalize l[k] = c at *
            have j1 : ¬ c < 0 := by omega
            have j2 : ¬ (1114111 : Int) < c := by omega
            by_cases h128 : c < 128
            · have HV := Lib.hid (show Value.int .u8 c = byv (UInt8.ofNat c.toNat) from byv_mk (n := c.toNat) (by omega) (by omega))
              go_wp2_with (at_builtin; refine wpList_appLit rfl _ _ _ rfl elt_bytes (n := (Pu.bas1 (nats (l.take k))).length) rfl h3 [.int .u8 c] (m := 1) rfl rfl (by simp [Value.oneCell']) hsz (by omega) (by omega) ?_; intro v1 w1 ho1 hbw1 hg1)
              go_roundw
              case rel =>
                refine ⟨k + 1, by omega, by go_num, HN.out, ?_, h4.trans hbw1⟩
                rw [HB.out, if_pos (by omega), List.length_append, List.map_append]
                rw [HV.out] at ho1
                exact ho1
              case measure => simp [intOf]; omega
            · go_wp2
              go_roundw
              case rel => exact ⟨k + 1, by omega, by go_num, HN.out, by rw [HB.out, if_neg (by omega)]; exact h3, h4⟩
              case measure => simp [intOf]; omega
        · have i1 : ¬ (k : Int) < (l.length : Int) := by omega
          obtain rfl : k = l.length := by omega
          have Hok' := Lib.hid (show l.all okp = true by have := Hok.out; rwa [List.take_length] at this)
          rw [List.take_length] at h3 hbl
          clear Hok
          obtain ⟨e1, e2⟩ := nats_back Hok'.out
          have HcP : Hid (∀ (j : Nat) (u : Value), ((nats l).map rnv)[j]? = some u → w.cell? ⟨b1, o1 + j, none⟩ = some u) := Lib.hid (by
            have := HcA.out
            rw [e1, List.map_map] at this
            exact this)
          have hPl := nats_len l
          have HP2 := Lib.hid e2
          have HE := Lib.hid (rfl : Pu.enc (nats l) = Pu.enc (nats l))
          generalize hEE : Pu.enc (nats l) = E at HE
          have HEE := Lib.hid hEE
          have Hst := Lib.hid (show Pu.encF (nats l) (Pu.bas1 (nats l)).length (nats l).length 128 ⟨Pu.head (nats l), 0, 72, (Pu.bas1 (nats l)).length⟩ = E from hEE)
          have Hbb := Lib.hid (Pu.bas1_len (nats l))
          have Hfin0 : Hid (∀ w' : World, Below w.heap.size w w' → E = none → EncPost w l (.returned (.tuple #[.string ⟨#[]⟩, .int .i64 6])) w') := Lib.hid (fun w' hb h => EncPost.over h4096 Hok'.out (HEE.out.trans h) hb)
          have Hfin1 : Hid (∀ (w' : World) (b : List UInt8), Below w.heap.size w w' → E = some b → EncPost w l (.returned (.tuple #[.string ⟨b.toArray⟩, .int .i64 0])) w') := Lib.hid (fun w' b hb h => EncPost.ok h4096 Hok'.out (HEE.out.trans h) hb)
          clear e1 e2 HE hEE HcA Hr
          generalize nats l = P at *
          have hbl2 : (Pu.bas1 P).length ≤ 4096 := by omega
          have hlen : P.length ≤ l.length := by omega
          have hlen2 : l.length ≤ P.length := by omega
          have HPl := Lib.hid hPl
          clear hPl
          clear HEE Hok' h4096
          have HSl : Hid (∀ W : World, Below w.heap.size w W → Sl W 1 (.slice (some ⟨b1, o1, none⟩) l.length c1) P.length (P.map rnv)) := Lib.hid (fun W hW => Sl.below (w := w) ⟨by simp, some ⟨b1, o1, none⟩, c1, by rw [HPl.out], by omega, (fun h => by cases h), fun ad had _ => by
            injection had with had
            subst had
            exact ⟨hb1, rfl, HcP.out⟩⟩ hW)
          obtain ⟨va, vc, hv4, _⟩ := (Sl.own h3).any
          subst hv4
          by_cases hb0 : Pu.bas1 P = []
          case' pos =>
            have hl0 : (Pu.bas1 P).length ≤ 0 := by rw [hb0]; simp
            have j0 : ¬ (0 : Int) < ((Pu.bas1 P).length : Int) := by omega
            have ho2 : wr.ownsRow w.heap.size 5 1 (.slice va (Pu.bas1 P).length vc) (Pu.head P).length ((Pu.head P).map byv) := by
              have e : Pu.head P = [] := by unfold Pu.head; rw [if_pos hb0]
              rw [e]
              rw [hb0] at h3 ⊢
              exact h3
            have hhl : (Pu.head P).length ≤ 5000 := by unfold Pu.head; rw [if_pos hb0]; simp
            have hb2 := h4
            clear hb0 h3
            go_wp2
          case' neg =>
            have hl0 : 0 < (Pu.bas1 P).length := List.length_pos_iff.2 hb0
            have j0 : (0 : Int) < ((Pu.bas1 P).length : Int) := by omega
            have Hhd2 := Lib.hid (show Pu.head P = Pu.bas1 P ++ [45] by unfold Pu.head; rw [if_neg hb0])
            clear hb0
            go_wp2_with (at_builtin; refine wpList_appLit rfl _ _ _ rfl elt_bytes (n := (Pu.bas1 P).length) rfl h3 [.int .u8 45] (m := 1) rfl rfl (by simp [Value.oneCell']) hsz (by omega) (by omega) ?_; intro v1 w1 ho1 hbw1 hg1)
            have ho2 : w1.ownsRow w.heap.size 5 1 v1 (Pu.head P).length ((Pu.head P).map byv) := by
              rw [Hhd2.out, List.length_append, List.map_append]
              exact ho1
            have hhl : (Pu.head P).length ≤ 5000 := by rw [Hhd2.out, List.length_append]; simp; omega
            have hb2 := h4.trans hbw1
            clear ho1 hbw1 hg1 h3 Hhd2
          all_goals
            go_loopw [4, 8, 9, 10, 11, 12, 14] (fun v st n bi dn _ _ wr => ∃ s : Pu.ES, EoRel P E st n bi dn s ∧ wr.ownsRow w.heap.size 5 1 v s.b.length (s.b.map byv) ∧ Below w.heap.size w wr) (fun _ _ _ _ dn _ _ _ => P.length - (intOf dn).toNat)
            case atStart => exact ⟨⟨Pu.head P, 0, 72, (Pu.bas1 P).length⟩, ⟨128, P.length, rfl, rfl, rfl, rfl, Hbb.out, by omega, by simp, by simp, by dsimp only; omega, by omega, Hst.out⟩, ho2, hb2⟩
            case round =>
              obtain ⟨⟨sb, sst, sbi, sdn⟩, ⟨n, f, rfl, rfl, rfl, rfl, hdn, hn1, hst, hbi, hsb, hf, hE⟩, h5, h6⟩ := hrel
              dsimp only at hdn hst hbi hsb hf hE h5
              have HE := Lib.hid hE
              have Hdn := Lib.hid hdn
              have hdl : sdn ≤ P.length := by rw [hdn]; exact Pu.bel_le _ _
              clear hE hdn ho2 hb2
              have hsz6 := h6.size
              by_cases hlt : sdn < P.length
              · have k1 : (sdn : Int) < (l.length : Int) := by omega
                obtain ⟨m1, m2, m3⟩ := Pu.least_spec (l := P) (n := n) (fun c hc => by have := HP2.out c hc; omega) (by rw [← Hdn.out]; exact hlt)
                have hm112 := HP2.out _ m1
                have HL1 := Lib.hid (Pu.bel_more m1 m2)
                have HL2 := Lib.hid (Pu.bel_jump m2 m3)
                have hjl := jump_le (P := P) (n := n) (d := sdn) (by omega)
                clear m1 m3
                obtain ⟨f', rfl⟩ : ∃ f', f = f' + 1 := ⟨f - 1, by omega⟩
                go_wp2_with fail
                refine (least_any P _ _ _ (HSl.out _ h6) (by omega) HP2.out).mono ?_
                rintro e w' ⟨rfl, rfl⟩
                generalize hm : Pu.least P n = m at *
                have Hm := Lib.hid hm
                clear hm
                obtain ⟨J, hJ⟩ : ∃ J : Nat, J = (m - n) * (sdn + 1) := ⟨_, rfl⟩
                have hJz : ((m : Int) - (n : Int)) * ((sdn : Int) + 1) = (J : Int) := by
                  rw [hJ, Int.natCast_mul, Int.natCast_sub m2, Int.natCast_add]; rfl
                rw [← hJ] at hjl
                have HJ := Lib.hid hJ
                clear hJ
                by_cases hov : 4294967295 < sst + J
                · have k2 : (4294967295 : Int) < (sst : Int) + (J : Int) := by omega
                  have HE2 := Lib.hid (HE.out.symm.trans (Pu.encF_over (s := ⟨sb, sst, sbi, sdn⟩) hlt (by dsimp only; rw [Hm.out, ← HJ.out]; exact hov)))
                  go_wp2
                  go_ret2
                  exact Hfin0.out _ h6 HE2.out
                · have k2 : ¬ (4294967295 : Int) < (sst : Int) + (J : Int) := by omega
                  have HnE : Hid (Pu.pass m (Pu.bas1 P).length ⟨sb, sst + J, sbi, sdn⟩ P = none → E = none) := Lib.hid (fun h => HE.out.symm.trans (Pu.encF_none (s := ⟨sb, sst, sbi, sdn⟩) hlt (by dsimp only; rw [Hm.out, ← HJ.out]; exact hov) (by dsimp only; rw [Hm.out, ← HJ.out]; exact h)))
                  have HsE : Hid (∀ s' : Pu.ES, Pu.pass m (Pu.bas1 P).length ⟨sb, sst + J, sbi, sdn⟩ P = some s' → Pu.encF P (Pu.bas1 P).length f' (m + 1) ⟨s'.b, s'.steps + 1, s'.bias, s'.done⟩ = E) := Lib.hid (fun s' h => by
                    rw [← HE.out, Pu.encF_some (s := ⟨sb, sst, sbi, sdn⟩) hlt (by dsimp only; rw [Hm.out, ← HJ.out]; exact hov) (s' := s') (by dsimp only; rw [Hm.out, ← HJ.out]; exact h), Hm.out])
                  have Hps : Hid (∀ (i : Nat), i ≤ P.length → ∀ s', Pu.pass m (Pu.bas1 P).length ⟨sb, sst + J, sbi, sdn⟩ (P.take i) = some s' → s'.done = (Pu.Lp P m i).length) := Lib.hid (Pu.pass_done (by dsimp only; rw [HL2.out]; exact Hdn.out))
                  clear HE hov
                  go_wp2
                  go_loopw [4, 8, 10, 11, 14, 66] (fun v st bi dn _ i wr => ∃ (k : Nat) (s : Pu.ES), k ≤ P.length ∧ i = .int .i64 (k : Int) ∧ EiRel P ⟨sb, sst + J, sbi, sdn⟩ m k st bi dn s ∧ wr.ownsRow w.heap.size 5 1 v s.b.length (s.b.map byv) ∧ Below w.heap.size w wr) (fun _ _ _ _ _ i _ => P.length - (intOf i).toNat)
                  case atStart => exact ⟨0, ⟨sb, sst + J, sbi, sdn⟩, Nat.zero_le _, rfl, ⟨by simp, rfl, rfl, ⟨by dsimp only; omega, hbi, hsb⟩, rfl⟩, h5, h6⟩
                  case round =>
                    obtain ⟨k, ⟨tb, tst, tbi, tdn⟩, hk, rfl, ⟨rfl, rfl, rfl, hsm, hp⟩, h7, h8⟩ := hrel
                    obtain ⟨t1, t2, t3⟩ := hsm
                    have Hsm : Hid (Pu.Small ⟨tb, tst, tbi, tdn⟩) := Lib.hid ⟨t1, t2, t3⟩
                    dsimp only at t1 t2 t3 h7
                    have Hp := Lib.hid hp
                    have htd := Hps.out k hk _ hp
                    have htl := (Pu.Lp_len P m k).2
                    dsimp only at htd
                    have htdn : tdn ≤ P.length := by omega
                    clear htd htl hp h5 h6
                    have hsz8 := h8.size
                    by_cases hkl : k < P.length
                    · have k3 : (k : Int) < (l.length : Int) := by omega
                      have q1 : wr.cell? ⟨b1, o1 + k, none⟩ = some (.int .i32 ((P[k] : Nat) : Int)) := (bel_cells h8 hb1 (o1 + k)).trans (sl_at HcP.out hkl)
                      have hck := HP2.out P[k] (List.getElem_mem _)
                      have HPS : Hid (∀ s2, Pu.pstep m (Pu.bas1 P).length ⟨tb, tst, tbi, tdn⟩ P[k] = some s2 → Pu.pass m (Pu.bas1 P).length ⟨sb, sst + J, sbi, sdn⟩ (P.take (k + 1)) = some s2) := Lib.hid (fun s2 h => Pu.pass_step hkl Hp.out h)
                      have HPN : Hid (Pu.pstep m (Pu.bas1 P).length ⟨tb, tst, tbi, tdn⟩ P[k] = none → E = none) := Lib.hid (fun h => HnE.out (Pu.pass_none hkl Hp.out h))
                      generalize P[k] = c at *
                      rcases Nat.lt_trichotomy c m with hc | hc | hc
                      · have k4 : (c : Int) < (m : Int) := by omega
                        have k5 : ((c : Int) == (m : Int)) = false := by rw [beq_eq_false_iff_ne]; omega
                        by_cases hov2 : tst + 1 ≤ 4294967295
                        · have k6 : ¬ (4294967295 : Int) < (tst : Int) + 1 := by omega
                          have HS := Lib.hid (HPS.out _ (Pu.pstep_lt (s := ⟨tb, tst, tbi, tdn⟩) hc hov2))
                          go_wp2
                          go_roundw
                          case rel => exact ⟨k + 1, ⟨tb, tst + 1, tbi, tdn⟩, by omega, by go_num, ⟨by go_num, rfl, rfl, ⟨hov2, t2, t3⟩, HS.out⟩, h7, h8⟩
                          case measure => simp [intOf]; omega
                        · have k6 : (4294967295 : Int) < (tst : Int) + 1 := by omega
                          have HS := Lib.hid (HPN.out (Pu.pstep_over (s := ⟨tb, tst, tbi, tdn⟩) hc hov2))
                          go_wp2
                          go_ret2
                          exact Hfin0.out _ h8 HS.out
                      · have k4 : ¬ (c : Int) < (m : Int) := by omega
                        have k5 : ((c : Int) == (m : Int)) = true := by rw [beq_iff_eq]; omega
                        have HS := Lib.hid (HPS.out _ (Pu.pstep_eq (s := ⟨tb, tst, tbi, tdn⟩) hc))
                        have HSm := Lib.hid (Hsm.out.emit (basic := (Pu.bas1 P).length))
                        obtain ⟨fb, hfb⟩ : ∃ fb, fb = decide (tdn = (Pu.bas1 P).length) := ⟨_, rfl⟩
                        have k7 : (((tdn : Nat) : Int) == (((Pu.bas1 P).length : Nat) : Int)) = fb := by
                          rw [hfb, Bool.eq_iff_iff]; simp; omega
                        rw [← hfb] at HS HSm
                        clear hfb
                        go_wp2_with fail
                        refine (padd_any _ _ _ _ _ _ _ (by omega) t2 hsz8 (by omega) h7).mono ?_
                        rintro e w0 ⟨v0, rfl, ho0, hb0⟩
                        have h9 := h8.trans hb0
                        go_wp2_with fail
                        refine (behind_z _ _ _ _ (by omega) (by omega) (by omega) (by omega)).mono ?_
                        rintro e w' ⟨rfl, rfl⟩
                        rw [Int.toNat_natCast, show ((tdn : Int) + 1).toNat = tdn + 1 by omega]
                        go_wp2
                        go_roundw
                        case rel =>
                          refine ⟨k + 1, ⟨tb ++ Pu.figs tst tbi 1, 0, Pu.beh tst (tdn + 1) fb, tdn + 1⟩, by omega, by go_num, ⟨rfl, rfl, by go_num, HSm.out, HS.out⟩, ?_, h9⟩
                          dsimp only
                          rw [List.length_map] at ho0
                          rw [List.length_append, List.map_append]
                          exact ho0
                        case measure => simp [intOf]; omega
                      · have k4 : ¬ (c : Int) < (m : Int) := by omega
                        have k5 : ((c : Int) == (m : Int)) = false := by rw [beq_eq_false_iff_ne]; omega
                        have HS := Lib.hid (HPS.out _ (Pu.pstep_gt (s := ⟨tb, tst, tbi, tdn⟩) hc))
                        go_wp2
                        go_roundw
                        case rel => exact ⟨k + 1, ⟨tb, tst, tbi, tdn⟩, by omega, by go_num, ⟨rfl, rfl, rfl, ⟨t1, t2, t3⟩, HS.out⟩, h7, h8⟩
                        case measure => simp [intOf]; omega
                    · have k3 : ¬ (k : Int) < (l.length : Int) := by omega
                      obtain rfl : k = P.length := by omega
                      have hpa : Pu.pass m (Pu.bas1 P).length ⟨sb, sst + J, sbi, sdn⟩ P = some ⟨tb, tst, tbi, tdn⟩ := by rw [← Pu.pass_all]; exact Hp.out
                      have HS := Lib.hid (HsE.out _ hpa)
                      have hdn2 := Hps.out _ (Nat.le_refl _) _ Hp.out
                      rw [(Pu.Lp_all P m).1] at hdn2
                      dsimp only at hdn2
                      have Hdn2 := Lib.hid hdn2
                      have hgt : sdn < tdn := by rw [hdn2, Hdn.out]; exact HL1.out
                      clear hpa hdn2
                      go_wp2
                      go_roundw
                      case rel => exact ⟨⟨tb, tst + 1, tbi, tdn⟩, ⟨m + 1, f', by go_num, by go_num, rfl, rfl, Hdn2.out, by omega, by dsimp only; omega, t2, t3, by dsimp only; omega, HS.out⟩, h7, h8⟩
                      case measure => simp [intOf]; omega
              · have k1 : ¬ (sdn : Int) < (l.length : Int) := by omega
                have HE2 := Lib.hid (HE.out.symm.trans (Pu.encF_done (s := ⟨sb, sst, sbi, sdn⟩) hlt))
                have hcv := str_run (Sl.own h5)
                go_wp2
                go_ret2
                exact Hfin1.out _ _ h6 HE2.out
end Go.Proofs.YtbffkddlkfefoaaDoor

/- The contracts of puny.number and of the reference's number. -/
namespace Go.Proofs.YtbffkddlkfefoaaDoor
open Go.RowKit
theorem ext_tail (c : UInt8) (r : List UInt8) : (ByteArray.mk (c :: r).toArray).extract 1 (r.length + 1) = ⟨r.toArray⟩ := by
  rw [ext_any]; simp
attribute [local go_sem] ba_get ext_drop ba_app ext_tail

def numT : Int ⊕ (Nat × List UInt8) → Value
  | .inl e => .tuple #[.int .i64 0, .string ⟨([] : List UInt8).toArray⟩, .int .i64 e]
  | .inr (x, r) => .tuple #[.int .i64 (x : Int), .string ⟨r.toArray⟩, .int .i64 0]
theorem numT_err {N : Int ⊕ (Nat × List UInt8)} {e : Int} (h : N = .inl e) : Ending.returned (.tuple #[.int .i64 0, .string ⟨#[]⟩, .int .i64 e]) = .returned (numT N) := by rw [h]; rfl
theorem numT_ok {N : Int ⊕ (Nat × List UInt8)} {x : Nat} {r : List UInt8} {z : Int} (h : N = .inr (x, r)) (hz : z = (x : Int)) : Ending.returned (.tuple #[.int .i64 z, .string ⟨r.toArray⟩, .int .i64 0]) = .returned (numT N) := by rw [h, hz]; rfl
theorem numb_cons {bias : Nat} {c : UInt8} {r : List UInt8} {k sum w f : Nat} (h : Pu.fig c = some f) : Pu.numb bias (c :: r) k sum w = if 4294967295 < sum + f * w then .inl 6 else if f < Pu.bnd k bias then .inr (sum + f * w, r) else if 4294967295 < w * (36 - Pu.bnd k bias) then .inl 6 else Pu.numb bias r (k + 1) (sum + f * w) (w * (36 - Pu.bnd k bias)) := by
  rw [Pu.numb, h]
theorem numb_none {bias : Nat} {c : UInt8} {r : List UInt8} {k sum w : Nat} (h : Pu.fig c = none) : Pu.numb bias (c :: r) k sum w = .inl 5 := by rw [Pu.numb, h]

set_option maxRecDepth 100000 in
set_option maxHeartbeats 2000000 in
theorem number3_any (s : List UInt8) (bias : Nat) (w : World) (hs : s.length ≤ 100000) (hbias : bias ≤ 1000000000000) :
    Calls Tryd.prog 201 #[.string ⟨s.toArray⟩, .int .i64 (bias : Int)] w fun e w' => e = .returned (numT (Pu.numb bias s 1 0 1)) ∧ w = w' := by
  generalize hN : Pu.numb bias s 1 0 1 = N
  have HN := Lib.hid hN
  clear hN
  go_enter Tryd.func201, Tryd.ntmps201
  go_wp2
  go_loop [0, 7, 8, 9, 10, 11, 12] (fun x y z k _ _ _ => ∃ (r : List UInt8) (sum wt kk : Nat), x = .string ⟨r.toArray⟩ ∧ y = .int .i64 (sum : Int) ∧ z = .int .i64 (wt : Int) ∧ k = .int .i64 (kk : Int) ∧ sum ≤ 4294967295 ∧ wt ≤ 4294967295 ∧ kk + r.length ≤ 100001 ∧ Pu.numb bias r kk sum wt = N) (fun x _ _ _ _ _ _ => strLen x)
  case atStart => exact ⟨s, 0, 1, 1, rfl, rfl, rfl, rfl, by omega, by omega, by omega, HN.out⟩
  case round =>
    obtain ⟨r, sum, wt, kk, rfl, rfl, rfl, rfl, h1, h2, h3, hE⟩ := hrel
    have HE := Lib.hid hE
    clear hE
    rcases r with _ | ⟨c, r⟩
    · have HE2 := Lib.hid (show N = .inl 5 from HE.out.symm)
      go_wp2
      go_ret3
      exact ⟨numT_err HE2.out, rfl⟩
    · rw [List.length_cons] at h3
      rcases hf : Pu.fig c with _ | f
      · have HE2 := Lib.hid (HE.out.symm.trans (numb_none hf))
        have Hf := Lib.hid hf
        clear hf
        go_wp2_with fail
        refine (figure_any _ _).mono ?_
        rintro e w' ⟨rfl, rfl⟩
        rw [Hf.out]
        unfold figV
        go_wp2
        go_ret3
        exact ⟨numT_err HE2.out, rfl⟩
      · have HE2 := Lib.hid (HE.out.symm.trans (numb_cons hf))
        have hf35 := Pu.fig_bd hf
        have Hf := Lib.hid hf
        clear hf HE
        obtain ⟨J, hJ⟩ : ∃ J, J = f * wt := ⟨_, rfl⟩
        have hJz : (f : Int) * (wt : Int) = (J : Int) := by rw [hJ, Int.natCast_mul]
        have hJl : J ≤ 35 * 4294967295 := by rw [hJ]; exact Nat.mul_le_mul hf35 h2
        rw [← hJ] at HE2
        clear hJ
        have hbl := Pu.bnd_le kk bias
        have hbp := Pu.bnd_pos kk bias
        go_wp2_with fail
        refine (figure_any _ _).mono ?_
        rintro e w' ⟨rfl, rfl⟩
        rw [Hf.out]
        unfold figV
        by_cases ho : 4294967295 < sum + J
        · have i1 : (4294967295 : Int) < (sum : Int) + (J : Int) := by omega
          have HE3 := Lib.hid (show N = .inl 6 by rw [HE2.out, if_pos ho])
          go_wp2
          go_ret3
          exact ⟨numT_err HE3.out, rfl⟩
        · have i1 : ¬ (4294967295 : Int) < (sum : Int) + (J : Int) := by omega
          have HE3 := HE2.out
          rw [if_neg ho] at HE3
          have HE4 := Lib.hid HE3
          clear HE2 HE3
          go_wp2_with fail
          refine (pbound_any _ _ _ (by omega) hbias).mono ?_
          rintro e w' ⟨rfl, rfl⟩
          generalize Pu.bnd kk bias = t at *
          by_cases hft : f < t
          · have i2 : (f : Int) < (t : Int) := by omega
            have HE5 := Lib.hid (show N = .inr (sum + J, r) by rw [HE4.out, if_pos hft])
            go_wp2
            go_ret3
            exact ⟨numT_ok (z := (sum : Int) + (J : Int)) HE5.out (by omega), rfl⟩
          · have i2 : ¬ (f : Int) < (t : Int) := by omega
            obtain ⟨Q, hQ⟩ : ∃ Q, Q = wt * (36 - t) := ⟨_, rfl⟩
            have hQz : (wt : Int) * (36 - (t : Int)) = (Q : Int) := by rw [hQ, Int.natCast_mul, Int.natCast_sub (by omega)]; rfl
            have hQl : Q ≤ 4294967295 * 36 := by rw [hQ]; exact Nat.mul_le_mul h2 (by omega)
            have HE5 := HE4.out
            rw [if_neg hft, ← hQ] at HE5
            have HE6 := Lib.hid HE5
            clear hQ HE4 HE5
            by_cases hov : 4294967295 < Q
            · have i3 : (4294967295 : Int) < (Q : Int) := by omega
              have HE7 := Lib.hid (show N = .inl 6 by rw [HE6.out, if_pos hov])
              go_wp2
              go_ret3
              exact ⟨numT_err HE7.out, rfl⟩
            · have i3 : ¬ (4294967295 : Int) < (Q : Int) := by omega
              have HE7 := Lib.hid (show Pu.numb bias r (kk + 1) (sum + J) Q = N by rw [HE6.out, if_neg hov])
              go_wp2
              go_round
              case rel => exact ⟨r, sum + J, Q, kk + 1, rfl, by go_num, rfl, by go_num, by omega, by omega, by omega, HE7.out⟩
              case measure => rw [strLen_mk, strLen_mk]; simp
end Go.Proofs.YtbffkddlkfefoaaDoor

/- The contracts of Under and Cat, and the walk of DomainHolds. -/
namespace Go.Proofs.YtbffkddlkfefoaaDoor
open Go.RowKit
attribute [local go_sem] ba_get ext_take ext_drop

theorem Sl.empty {w : World} {X : Option Addr} {c : Nat} {α : Type} {f : α → Value} (h : X = none → c = 0) : Sl w 1 (.slice X 0 c) 0 (([] : List α).map f) :=
  ⟨by simp, X, c, rfl, Nat.zero_le _, h, fun _ _ h => absurd h (by omega)⟩

/-- both together: the labels, of an error none; and the error. -/
def CatPost (w : World) (A B : List (List UInt8)) (e : Ending) (w' : World) : Prop :=
  ∃ v, e = .returned (.tuple #[v, .int .i64 (chk (A ++ B))]) ∧ (∃ C : List (List UInt8), C = (if chk (A ++ B) = 0 then A ++ B else []) ∧ Sl w' 1 v C.length (C.map stv)) ∧ Below w.heap.size w w'
theorem CatPost.ok {w w' : World} {A B : List (List UInt8)} {v : Value} (h : chk (A ++ B) = 0) (hs : Sl w' 1 v (A ++ B).length ((A ++ B).map stv)) (hb : Below w.heap.size w w') : CatPost w A B (.returned (.tuple #[v, .int .i64 0])) w' :=
  ⟨v, by rw [h], ⟨_, rfl, by rw [if_pos h]; exact hs⟩, hb⟩
end Go.Proofs.YtbffkddlkfefoaaDoor

/- The contracts of the reference's Bytes, Next and Runes. -/
namespace Go.Proofs.YtbffkddlkfefoaaDoor
open Go.RowKit
attribute [local go_sem] ba_get ext_drop ext_take

/-- a point's bytes. -/
def enc (c : Int) : List UInt8 :=
  if c < 128 then [UInt8.ofNat c.toNat]
  else if c < 2048 then [UInt8.ofNat (192 + c.toNat / 64), UInt8.ofNat (128 + c.toNat % 64)]
  else if c < 65536 then [UInt8.ofNat (224 + c.toNat / 4096), UInt8.ofNat (128 + c.toNat / 64 % 64), UInt8.ofNat (128 + c.toNat % 64)]
  else [UInt8.ofNat (240 + c.toNat / 262144), UInt8.ofNat (128 + c.toNat / 4096 % 64), UInt8.ofNat (128 + c.toNat / 64 % 64), UInt8.ofNat (128 + c.toNat % 64)]
theorem enc_1 {c : Int} (h0 : 0 ≤ c) (h : c < 128) : (enc c).map byv = [.int .u8 c] := by
  unfold enc
  rw [if_pos (by omega)]
  simp only [List.map_cons, List.map_nil]
  rw [byv_mk (n := c.toNat) (by omega) (by omega)]
theorem enc_2 {c : Int} (h0 : 128 ≤ c) (h : c < 2048) : (enc c).map byv = [.int .u8 (192 + c / 64), .int .u8 (128 + c % 64)] := by
  unfold enc
  rw [if_neg (by omega), if_pos (by omega)]
  simp only [List.map_cons, List.map_nil]
  rw [byv_mk (n := 192 + c.toNat / 64) (by omega) (by omega), byv_mk (n := 128 + c.toNat % 64) (by omega) (by omega)]
theorem enc_3 {c : Int} (h0 : 2048 ≤ c) (h : c < 65536) : (enc c).map byv = [.int .u8 (224 + c / 4096), .int .u8 (128 + c / 64 % 64), .int .u8 (128 + c % 64)] := by
  unfold enc
  rw [if_neg (by omega), if_neg (by omega), if_pos (by omega)]
  simp only [List.map_cons, List.map_nil]
  rw [byv_mk (n := 224 + c.toNat / 4096) (by omega) (by omega), byv_mk (n := 128 + c.toNat / 64 % 64) (by omega) (by omega), byv_mk (n := 128 + c.toNat % 64) (by omega) (by omega)]
theorem enc_4 {c : Int} (h0 : 65536 ≤ c) (h : c ≤ 1114111) : (enc c).map byv = [.int .u8 (240 + c / 262144), .int .u8 (128 + c / 4096 % 64), .int .u8 (128 + c / 64 % 64), .int .u8 (128 + c % 64)] := by
  unfold enc
  rw [if_neg (by omega), if_neg (by omega), if_neg (by omega)]
  simp only [List.map_cons, List.map_nil]
  rw [byv_mk (n := 240 + c.toNat / 262144) (by omega) (by omega), byv_mk (n := 128 + c.toNat / 4096 % 64) (by omega) (by omega), byv_mk (n := 128 + c.toNat / 64 % 64) (by omega) (by omega), byv_mk (n := 128 + c.toNat % 64) (by omega) (by omega)]

def foldc (c : Int) : List UInt8 → Int
  | [] => c
  | b :: r => foldc (64 * c + (b.toNat : Int) % 64) r
theorem foldc_snoc (c : Int) (r : List UInt8) (b : UInt8) : foldc c (r ++ [b]) = 64 * foldc c r + (b.toNat : Int) % 64 := by
  induction r generalizing c with
  | nil => rfl
  | cons d r ih => exact ih _
def FoldRel (c0 : Int) (r : List UInt8) (n : Nat) (cv iv : Value) : Prop :=
  ∃ (j : Nat) (c : Int), j < n ∧ iv = .int .i64 ((j + 1 : Nat) : Int) ∧ cv = .int .i64 c ∧ c = foldc c0 (r.take j) ∧ 0 ≤ c ∧ ((j = 0 ∧ c < 256) ∨ (j = 1 ∧ c < 16384) ∨ (j = 2 ∧ c < 1048576) ∨ (j = 3 ∧ c < 67108864))
theorem FoldRel.next {c0 c : Int} {r : List UInt8} {n j : Nat} (hj : j + 1 < n) (hn : n ≤ 4) (hr : j < r.length) (hc : c = foldc c0 (r.take j)) (h0 : 0 ≤ c) (hd : (j = 0 ∧ c < 256) ∨ (j = 1 ∧ c < 16384) ∨ (j = 2 ∧ c < 1048576) ∨ (j = 3 ∧ c < 67108864)) :
    FoldRel c0 r n (.int .i64 (64 * c + (r[j].toNat : Int) % 64)) (.int .i64 ((j : Int) + 1 + 1)) := by
  refine ⟨j + 1, _, hj, by congr 1, rfl, ?_, by omega, by omega⟩
  rw [List.take_succ_eq_append_getElem hr, foldc_snoc, ← hc]

def tailOk (c : Int) (n : Nat) (l : List UInt8) : Option (Int × Int) := if ptB c = true ∧ enc c = l.take n then some (c, (n : Int)) else none

end Go.Proofs.YtbffkddlkfefoaaDoor

/- That the reference's Next answers what utf.Next does; the reference's Runes. -/
namespace Go.Proofs.YtbffkddlkfefoaaDoor
open Go.RowKit
attribute [local go_sem] ba_get ext_drop ext_take

theorem ofNat_iff {n : Nat} (h : n < 256) (b : UInt8) : UInt8.ofNat n = b ↔ n = b.toNat := by
  constructor
  · intro e; rw [← e, UInt8.toNat_ofNat_of_lt' h]
  · intro e; rw [e]; simp
theorem enc_len1 {c : Int} (h : c < 128) : (enc c).length = 1 := by unfold enc; rw [if_pos h]; rfl
theorem enc_len2 {c : Int} (h : c < 2048) : (enc c).length ≤ 2 := by
  unfold enc
  by_cases h1 : c < 128
  · rw [if_pos h1]; simp
  · rw [if_neg h1, if_pos h]; simp
theorem enc_len3 {c : Int} (h : c < 65536) : (enc c).length ≤ 3 := by
  unfold enc
  by_cases h1 : c < 128
  · rw [if_pos h1]; simp
  · by_cases h2 : c < 2048
    · rw [if_neg h1, if_pos h2]; simp
    · rw [if_neg h1, if_neg h2, if_pos h]; simp
theorem enc_of2 {c : Int} (h : 128 ≤ c) (h' : c < 2048) : enc c = [UInt8.ofNat (192 + c.toNat / 64), UInt8.ofNat (128 + c.toNat % 64)] := by
  unfold enc; rw [if_neg (by omega), if_pos h']
theorem enc_of3 {c : Int} (h : 2048 ≤ c) (h' : c < 65536) : enc c = [UInt8.ofNat (224 + c.toNat / 4096), UInt8.ofNat (128 + c.toNat / 64 % 64), UInt8.ofNat (128 + c.toNat % 64)] := by
  unfold enc; rw [if_neg (by omega), if_neg (by omega), if_pos h']
theorem enc_of4 {c : Int} (h : 65536 ≤ c) : enc c = [UInt8.ofNat (240 + c.toNat / 262144), UInt8.ofNat (128 + c.toNat / 4096 % 64), UInt8.ofNat (128 + c.toNat / 64 % 64), UInt8.ofNat (128 + c.toNat % 64)] := by
  unfold enc; rw [if_neg (by omega), if_neg (by omega), if_neg (by omega)]

theorem tail_iff {c : Int} {n : Nat} {l : List UInt8} {p : Prop} [Decidable p] {o : Option (Int × Int)} (hp : ptB c = true → (enc c = l.take n ↔ p)) (ho : o = if ptB c = true ∧ p then some (c, (n : Int)) else none) : tailOk c n l = o := by
  rw [ho]
  unfold tailOk
  by_cases h : ptB c = true
  · by_cases h2 : p
    · rw [if_pos ⟨h, (hp h).2 h2⟩, if_pos ⟨h, h2⟩]
    · rw [if_neg (fun e => h2 ((hp h).1 e.2)), if_neg (fun e => h2 e.2)]
  · rw [if_neg (fun e => h e.1), if_neg (fun e => h e.1)]
theorem ck_if (least c n : Int) : ck least c n = if ptB c = true ∧ least ≤ c then some (c, n) else none := by
  unfold ck
  by_cases h : ptB c = true
  · by_cases h2 : least ≤ c
    · rw [if_neg (by simp [h]; omega), if_pos ⟨h, h2⟩]
    · rw [if_pos (by omega), if_neg (fun e => h2 e.2)]
  · rw [if_pos (by simp at h; exact .inr h), if_neg (fun e => h e.1)]

theorem nx_tail1 (a : UInt8) (r : List UInt8) (h : (a.toNat : Int) < 128) : tailOk (foldc (shC (a.toNat : Int)) (r.take 0)) 1 (a :: r) = nx (a :: r) := by
  rw [nx_cons, nx1_1 _ _ h]
  have hs : shC (a.toNat : Int) = (a.toNat : Int) := by unfold shC; rw [if_pos h]
  refine tail_iff (p := True) ?_ ?_
  · intro _
    simp [foldc, hs, enc, h]
  · have hp : ptB (a.toNat : Int) = true := by simp [ptB]; omega
    simp [foldc, hs, hp]
theorem nx_tail2 (a b : UInt8) (r : List UInt8) (h : 192 ≤ (a.toNat : Int)) (h' : (a.toNat : Int) < 224) : tailOk (foldc (shC (a.toNat : Int)) ((b :: r).take 1)) 2 (a :: b :: r) = nx (a :: b :: r) := by
  rw [nx_cons, nx1_2 _ _ h h']
  have hb := b.toNat_lt
  have hs : shC (a.toNat : Int) = (a.toNat : Int) % 32 := by unfold shC; rw [if_neg (by omega), if_neg (by omega), if_pos (by omega)]
  have e : foldc (shC (a.toNat : Int)) ((b :: r).take 1) = (a.toNat : Int) % 32 * 64 + (b.toNat : Int) % 64 := by simp [foldc, hs]; omega
  rw [e]
  generalize hc : (a.toNat : Int) % 32 * 64 + (b.toNat : Int) % 64 = c
  refine tail_iff (p := b.toNat / 64 = 2 ∧ 128 ≤ c) ?_ ?_
  · intro _
    by_cases h1 : c < 128
    · have := enc_len1 h1
      constructor
      · intro e; rw [e] at this; simp at this
      · intro e; omega
    · rw [enc_of2 (by omega) (by omega)]
      simp only [List.take_succ_cons, List.take_zero, List.cons.injEq, and_true]
      rw [ofNat_iff (by omega), ofNat_iff (by omega)]
      omega
  · simp only [nx2]
    rw [hc, ck_if]
    by_cases h1 : b.toNat / 64 = 2 <;> simp [h1]
theorem nx_tail3 (a b d : UInt8) (r : List UInt8) (h : 224 ≤ (a.toNat : Int)) (h' : (a.toNat : Int) < 240) : tailOk (foldc (shC (a.toNat : Int)) ((b :: d :: r).take 2)) 3 (a :: b :: d :: r) = nx (a :: b :: d :: r) := by
  rw [nx_cons, nx1_3 _ _ h h']
  have hb := b.toNat_lt
  have hd := d.toNat_lt
  have hs : shC (a.toNat : Int) = (a.toNat : Int) % 16 := by unfold shC; rw [if_neg (by omega), if_neg (by omega), if_neg (by omega), if_pos (by omega)]
  have e : foldc (shC (a.toNat : Int)) ((b :: d :: r).take 2) = ((a.toNat : Int) % 16 * 64 + (b.toNat : Int) % 64) * 64 + (d.toNat : Int) % 64 := by simp [foldc, hs]; omega
  rw [e]
  generalize hc : ((a.toNat : Int) % 16 * 64 + (b.toNat : Int) % 64) * 64 + (d.toNat : Int) % 64 = c
  refine tail_iff (p := (b.toNat / 64 = 2 ∧ d.toNat / 64 = 2) ∧ 2048 ≤ c) ?_ ?_
  · intro _
    by_cases h1 : c < 2048
    · have := enc_len2 h1
      constructor
      · intro e; rw [e] at this; simp at this
      · intro e; omega
    · rw [enc_of3 (by omega) (by omega)]
      simp only [List.take_succ_cons, List.take_zero, List.cons.injEq, and_true]
      rw [ofNat_iff (by omega), ofNat_iff (by omega), ofNat_iff (by omega)]
      omega
  · simp only [nx3]
    rw [hc, ck_if]
    by_cases h1 : b.toNat / 64 = 2 <;> by_cases h2 : d.toNat / 64 = 2 <;> simp [h1, h2]
theorem nx_tail4 (a b d f : UInt8) (r : List UInt8) (h : 240 ≤ (a.toNat : Int)) (h' : (a.toNat : Int) < 248) : tailOk (foldc (shC (a.toNat : Int)) ((b :: d :: f :: r).take 3)) 4 (a :: b :: d :: f :: r) = nx (a :: b :: d :: f :: r) := by
  rw [nx_cons, nx1_4 _ _ h h']
  have hb := b.toNat_lt
  have hd := d.toNat_lt
  have hf := f.toNat_lt
  have hs : shC (a.toNat : Int) = (a.toNat : Int) % 8 := by unfold shC; rw [if_neg (by omega), if_neg (by omega), if_neg (by omega), if_neg (by omega), if_pos (by omega)]
  have e : foldc (shC (a.toNat : Int)) ((b :: d :: f :: r).take 3) = (((a.toNat : Int) % 8 * 64 + (b.toNat : Int) % 64) * 64 + (d.toNat : Int) % 64) * 64 + (f.toNat : Int) % 64 := by simp [foldc, hs]; omega
  rw [e]
  generalize hc : (((a.toNat : Int) % 8 * 64 + (b.toNat : Int) % 64) * 64 + (d.toNat : Int) % 64) * 64 + (f.toNat : Int) % 64 = c
  refine tail_iff (p := (b.toNat / 64 = 2 ∧ d.toNat / 64 = 2 ∧ f.toNat / 64 = 2) ∧ 65536 ≤ c) ?_ ?_
  · intro _
    by_cases h1 : c < 65536
    · have := enc_len3 h1
      constructor
      · intro e; rw [e] at this; simp at this
      · intro e; omega
    · rw [enc_of4 (by omega)]
      simp only [List.take_succ_cons, List.take_zero, List.cons.injEq, and_true]
      rw [ofNat_iff (by omega), ofNat_iff (by omega), ofNat_iff (by omega), ofNat_iff (by omega)]
      omega
  · simp only [nx4]
    rw [hc, ck_if]
    by_cases h1 : b.toNat / 64 = 2 <;> by_cases h2 : d.toNat / 64 = 2 <;> by_cases h3 : f.toNat / 64 = 2 <;> simp [h1, h2, h3]

section
variable (a : UInt8) (r : List UInt8) (w : World)
end

end Go.Proofs.YtbffkddlkfefoaaDoor

/- The contracts of works, utf.add, utf.Text and the reference's Text. -/
namespace Go.Proofs.YtbffkddlkfefoaaDoor
open Go.RowKit
attribute [local go_sem] ba_get

set_option maxRecDepth 100000 in
set_option maxHeartbeats 800000 in
theorem add_any (c : Int) (base : Nat) (v : Value) (n : Nat) (xs : List Value) (w : World) (h0 : 0 ≤ c) (h1 : c ≤ 1114111) (hb : base ≤ w.heap.size) (hn : n ≤ 1000000000) (hown : w.ownsRow base 5 1 v n xs) :
    Calls Tryd.prog 202 #[v, .int .i32 c] w (AddPost base 5 w n xs ((enc c).map byv)) := by
  have a1 : bits .and .i32 c 63 = c % 64 := and63 h0 (by omega)
  have a2 : bits .and .i32 (c / 64) 63 = c / 64 % 64 := and63 (by omega) (by omega)
  have a3 : bits .and .i32 (c / 4096) 63 = c / 4096 % 64 := and63 (by omega) (by omega)
  have o1 : bits .or .i32 128 (c % 64) = 128 + c % 64 := or128 (by omega) (by omega)
  rcases (show c < 128 ∨ (128 ≤ c ∧ c < 2048) ∨ (2048 ≤ c ∧ c < 65536) ∨ 65536 ≤ c by omega) with h | ⟨h, h'⟩ | ⟨h, h'⟩ | h
  · rw [enc_1 h0 h]
    go_enter Tryd.func202, Tryd.ntmps202
    go_wp2_with (at_builtin; refine wpList_appLit rfl _ _ _ rfl elt_bytes (n := n) rfl hown [.int .u8 c] (m := 1) rfl rfl (by simp [Value.oneCell']) hb (by omega) (by omega) ?_; intro v1 w1 q1 q2 q3)
    go_ret
    exact ⟨_, rfl, q1, q2⟩
  · have o2 : bits .or .i32 192 (c / 64) = 192 + c / 64 := or192 (by omega) (by omega)
    rw [enc_2 h h']
    go_enter Tryd.func202, Tryd.ntmps202
    go_wp2_with (at_builtin; refine wpList_appLit rfl _ _ _ rfl elt_bytes (n := n) rfl hown [.int .u8 (192 + c / 64), .int .u8 (128 + c % 64)] (m := 2) rfl rfl (by simp [Value.oneCell']) hb (by omega) (by omega) ?_; intro v1 w1 q1 q2 q3)
    go_ret
    exact ⟨_, rfl, q1, q2⟩
  · have o2 : bits .or .i32 224 (c / 4096) = 224 + c / 4096 := or224 (by omega) (by omega)
    have o3 : bits .or .i32 128 (c / 64 % 64) = 128 + c / 64 % 64 := or128 (by omega) (by omega)
    rw [enc_3 h h']
    go_enter Tryd.func202, Tryd.ntmps202
    go_wp2_with (at_builtin; refine wpList_appLit rfl _ _ _ rfl elt_bytes (n := n) rfl hown [.int .u8 (224 + c / 4096), .int .u8 (128 + c / 64 % 64), .int .u8 (128 + c % 64)] (m := 3) rfl rfl (by simp [Value.oneCell']) hb (by omega) (by omega) ?_; intro v1 w1 q1 q2 q3)
    go_ret
    exact ⟨_, rfl, q1, q2⟩
  · have o2 : bits .or .i32 240 (c / 262144) = 240 + c / 262144 := or240 (by omega) (by omega)
    have o3 : bits .or .i32 128 (c / 64 % 64) = 128 + c / 64 % 64 := or128 (by omega) (by omega)
    have o4 : bits .or .i32 128 (c / 4096 % 64) = 128 + c / 4096 % 64 := or128 (by omega) (by omega)
    rw [enc_4 h h1]
    go_enter Tryd.func202, Tryd.ntmps202
    go_wp2_with (at_builtin; refine wpList_appLit rfl _ _ _ rfl elt_bytes (n := n) rfl hown [.int .u8 (240 + c / 262144), .int .u8 (128 + c / 4096 % 64), .int .u8 (128 + c / 64 % 64), .int .u8 (128 + c % 64)] (m := 4) rfl rfl (by simp [Value.oneCell']) hb (by omega) (by omega) ?_; intro v1 w1 q1 q2 q3)
    go_ret
    exact ⟨_, rfl, q1, q2⟩
end Go.Proofs.YtbffkddlkfefoaaDoor

/- The contracts of utf.Text and the reference's Text. -/
namespace Go.Proofs.YtbffkddlkfefoaaDoor
open Go.RowKit
attribute [local go_sem] ba_get

def txt (A : List Int) : Option (List UInt8) := if A.all ptB then some (A.flatMap enc) else none
def txtV : Option (List UInt8) → Value
  | none => .tuple #[.string ⟨([] : List UInt8).toArray⟩, .int .i64 4]
  | some l => .tuple #[.string ⟨l.toArray⟩, .int .i64 0]
def TxtPost (w : World) (o : Option (List UInt8)) (e : Ending) (w' : World) : Prop := e = .returned (txtV o) ∧ Below w.heap.size w w'
def encs (A : List Int) (j : Nat) : List UInt8 := (A.take j).flatMap enc
theorem encs_succ {A : List Int} {j : Nat} (hj : j < A.length) : encs A (j + 1) = encs A j ++ enc A[j] := by
  unfold encs
  rw [List.take_succ_eq_append_getElem hj, List.flatMap_append, List.flatMap_singleton]
theorem encs_all (A : List Int) : encs A A.length = A.flatMap enc := by unfold encs; rw [List.take_length]
def TxtRel (w : World) (A : List Int) (j : Nat) (v : Value) (wr : World) : Prop :=
  (A.take j).all ptB = true ∧ (encs A j).length ≤ 4 * j ∧ wr.ownsRow w.heap.size 5 1 v (encs A j).length ((encs A j).map byv) ∧ Below w.heap.size w wr
theorem enc_len (c : Int) : (enc c).length ≤ 4 := by
  unfold enc
  by_cases h1 : c < 128
  · rw [if_pos h1]; simp
  · by_cases h2 : c < 2048
    · rw [if_neg h1, if_pos h2]; simp
    · by_cases h3 : c < 65536
      · rw [if_neg h1, if_neg h2, if_pos h3]; simp
      · rw [if_neg h1, if_neg h2, if_neg h3]; simp
theorem TxtRel.next {w w1 : World} {A : List Int} {j : Nat} {v1 : Value} (hj : j < A.length) (hp : ptB A[j] = true) (h1 : (A.take j).all ptB = true) (h2 : (encs A j).length ≤ 4 * j)
    (h3 : w1.ownsRow w.heap.size 5 1 v1 ((encs A j).length + ((enc A[j]).map byv).length) ((encs A j).map byv ++ (enc A[j]).map byv)) (h4 : Below w.heap.size w w1) : TxtRel w A (j + 1) v1 w1 := by
  have := enc_len A[j]
  unfold TxtRel
  rw [encs_succ hj]
  refine ⟨?_, by rw [List.length_append]; omega, ?_, h4⟩
  · rw [List.take_succ_eq_append_getElem hj, List.all_append, h1]
    simp [hp]
  · rw [List.length_append, List.map_append]
    rwa [List.length_map] at h3
theorem TxtRel.bad {w wr : World} {A : List Int} {j : Nat} (hj : j < A.length) (hp : ptB A[j] = false) (h4 : Below w.heap.size w wr) : TxtPost w (txt A) (.returned (.tuple #[.string ⟨([] : List UInt8).toArray⟩, .int .i64 4])) wr := by
  have : txt A = none := by
    unfold txt
    rw [if_neg]
    intro h
    rw [List.all_eq_true] at h
    have := h A[j] (List.getElem_mem _)
    rw [hp] at this
    cases this
  rw [this]
  exact ⟨rfl, h4⟩
theorem TxtRel.done {w wr : World} {A : List Int} {v : Value} (h : TxtRel w A A.length v wr) : txt A = some (A.flatMap enc) ∧ Sl wr 1 v (A.flatMap enc).length ((A.flatMap enc).map byv) ∧ Below w.heap.size w wr := by
  obtain ⟨h1, _, h3, h4⟩ := h
  rw [List.take_length] at h1
  rw [encs_all] at h3
  refine ⟨by unfold txt; rw [if_pos h1], Sl.own h3, h4⟩
theorem TxtRel.fin {w wr : World} {A : List Int} (h : txt A = some (A.flatMap enc)) (h4 : Below w.heap.size w wr) : TxtPost w (txt A) (.returned (.tuple #[.string ⟨(A.flatMap enc).toArray⟩, .int .i64 0])) wr := by
  rw [h]; exact ⟨rfl, h4⟩

set_option maxRecDepth 100000 in
set_option maxHeartbeats 800000 in
theorem text_any (A : List Int) (va : Value) (w : World) (ha : Sl w 1 va A.length (A.map (Value.int .i32))) (hr : ∀ x ∈ A, -2147483648 ≤ x ∧ x ≤ 2147483647) (hl : A.length ≤ 100000000) :
    Calls Tryd.prog 161 #[va] w (TxtPost w (txt A)) := by
  rcases Nat.eq_zero_or_pos A.length with h0 | hpos
  · have hA : A = [] := List.eq_nil_of_length_eq_zero h0
    subst hA
    obtain ⟨a1, c1, rfl, _⟩ := ha.zero
    clear ha hr
    have hk : ∀ W, (Instr.makeSlice 156 (.int .i64 0) (.int .i64 0)).run Tryd.prog W = .ok (.slice (some ⟨W.heap.size, 0, none⟩) 0 0) (W.alloc (.cells #[] 5)) := fun _ => by kernel_rfl
    go_enter Tryd.func161, Tryd.ntmps161
    go_wp2
    refine wp_loop_rounds 1 ?_
    have hcv : (convert 156 9 (.slice (some ⟨w.heap.size, 0, none⟩) 0 0)).run Tryd.prog (w.alloc (.cells #[] 5)) = .ok (.string ⟨#[]⟩) (w.alloc (.cells #[] 5)) := str_of_sl (l := []) Tryd.underlying156 Tryd.underlying5 Tryd.underlying9 (Sl.new w [] 5)
    rw [rounds_succ]; go_wp2
    go_ret2
    exact ⟨rfl, (Below.refl _ _).alloc (Nat.le_refl _) _⟩
  · obtain ⟨b1, o1, c1, rfl, hc1, hb1, hcA⟩ := ha.pos hpos
    have HcA := Lib.hid hcA
    have Hr := Lib.hid hr
    clear hcA ha hr
    go_enter Tryd.func161, Tryd.ntmps161
    go_wp2_with (at_make; refine wpList_mk0 rfl _ _ _ rfl elt_bytes (base := w.heap.size) A.length rfl rfl rfl (by omega) (by omega) (Nat.le_refl _) ?_; intro w0 ho0 hbw0)
    go_loopw [4, 12] (fun v i wr => ∃ k : Nat, k ≤ A.length ∧ i = .int .i64 k ∧ TxtRel w A k v wr) (fun _ i _ => A.length - (intOf i).toNat)
    case atStart => exact ⟨0, Nat.zero_le _, rfl, rfl, Nat.le_refl _, ho0, hbw0⟩
    case round =>
      clear ho0
      obtain ⟨k, hk, rfl, hrel⟩ := hrel
      by_cases hlt : k < A.length
      · obtain ⟨h1, h2, h3, h4⟩ := hrel
        have H1 := Lib.hid h1
        clear h1
        have hsz := h4.size
        have q1 := (bel_cells h4 hb1 (o1 + k)).trans (sl_cell HcA.out hlt)
        have hb := Hr.out A[k] (List.getElem_mem _)
        have hb1 := hb.1
        have hb2 := hb.2
        clear hb
        have i1 : (k : Int) < (A.length : Int) := by omega
        rcases hp : ptB A[k]
        · have Hp := Lib.hid hp
          clear hp
          go_wp2_with fail
          refine (point_any _ _ (by omega) (by omega)).mono ?_
          rintro e w' ⟨rfl, rfl⟩
          rw [Hp.out]
          go_wp2
          go_ret2
          exact TxtRel.bad hlt Hp.out h4
        · have hpb := ptB_bd hp
          have Hp := Lib.hid hp
          clear hp
          go_wp2_with fail
          refine (point_any _ _ (by omega) (by omega)).mono ?_
          rintro e w' ⟨rfl, rfl⟩
          rw [Hp.out]
          go_wp2_with fail
          refine (add_any _ _ _ _ _ _ (by omega) (by omega) hsz (by omega) h3).mono ?_
          rintro e w1 ⟨v1, rfl, ho1, hbw1⟩
          have R := TxtRel.next hlt Hp.out H1.out h2 ho1 (h4.trans hbw1)
          clear ho1
          go_wp2
          go_roundw
          case rel => exact ⟨k + 1, by omega, by go_num, R⟩
          case measure => simp [intOf]; omega
      · obtain rfl : k = A.length := by omega
        obtain ⟨hd1, hd2, hd3⟩ := hrel.done
        have Hd1 := Lib.hid hd1
        have hcv := str_of_sl Tryd.underlying156 Tryd.underlying5 Tryd.underlying9 hd2
        clear hd1 hd2 hrel
        go_wp2
        go_ret2
        exact TxtRel.fin Hd1.out hd3

end Go.Proofs.YtbffkddlkfefoaaDoor

/- The contracts of label.plain, of label.Host and of their references. -/
namespace Go.Proofs.YtbffkddlkfefoaaDoor
open Go.RowKit
attribute [local go_sem] ba_get

/-- a letter, a digit or a hyphen. -/
def plnB (n : Nat) : Bool := decide ((97 ≤ n ∧ n ≤ 122) ∨ (65 ≤ n ∧ n ≤ 90) ∨ (48 ≤ n ∧ n ≤ 57) ∨ n = 45)
theorem pln_ret {n : Nat} {b : Bool} (h : plnB n = b) : Ending.returned (.bool b) = .returned (.bool (plnB n)) := by rw [h]

set_option maxRecDepth 100000 in
set_option maxHeartbeats 1000000 in
theorem lplain_any (n : Nat) (w : World) (hn : n ≤ 2000000) : Calls Tryd.prog 193 #[.int .i32 (n : Int)] w fun e w' => e = .returned (.bool (plnB n)) ∧ w = w' := by
  rcases (show n < 45 ∨ n = 45 ∨ (46 ≤ n ∧ n ≤ 47) ∨ (48 ≤ n ∧ n ≤ 57) ∨ (58 ≤ n ∧ n ≤ 64) ∨ (65 ≤ n ∧ n ≤ 90) ∨ (91 ≤ n ∧ n ≤ 96) ∨ (97 ≤ n ∧ n ≤ 122) ∨ 122 < n by omega) with h | h | h | h | h | h | h | h | h
  all_goals
    first
      | have r : plnB n = true := by unfold plnB; simp; omega
        have R := Lib.hid r
        clear r
      | have r : plnB n = false := by unfold plnB; simp; omega
        have R := Lib.hid r
        clear r
    first | have a1 : (97 : Int) ≤ (n : Int) := by omega
          | have a1 : ¬ (97 : Int) ≤ (n : Int) := by omega
    first | have a2 : (n : Int) ≤ 122 := by omega
          | have a2 : ¬ (n : Int) ≤ 122 := by omega
    first | have a3 : (65 : Int) ≤ (n : Int) := by omega
          | have a3 : ¬ (65 : Int) ≤ (n : Int) := by omega
    first | have a4 : (n : Int) ≤ 90 := by omega
          | have a4 : ¬ (n : Int) ≤ 90 := by omega
    first | have a5 : (48 : Int) ≤ (n : Int) := by omega
          | have a5 : ¬ (48 : Int) ≤ (n : Int) := by omega
    first | have a6 : (n : Int) ≤ 57 := by omega
          | have a6 : ¬ (n : Int) ≤ 57 := by omega
    first | have a7 : ((n : Int) == 45) = true := by simp; omega
          | have a7 : ((n : Int) == 45) = false := by simp; omega
    clear h
    go_enter Tryd.func193, Tryd.ntmps193
    go_wp2
    go_ret
    exact ⟨pln_ret R.out, rfl⟩
set_option maxRecDepth 100000 in
set_option maxHeartbeats 1000000 in
theorem rplain_any (n : Nat) (w : World) (hn : n ≤ 2000000) : Calls Tryd.prog 163 #[.int .i64 (n : Int)] w fun e w' => e = .returned (.bool (plnB n)) ∧ w = w' := by
  rcases (show n < 45 ∨ n = 45 ∨ (46 ≤ n ∧ n ≤ 47) ∨ (48 ≤ n ∧ n ≤ 57) ∨ (58 ≤ n ∧ n ≤ 64) ∨ (65 ≤ n ∧ n ≤ 90) ∨ (91 ≤ n ∧ n ≤ 96) ∨ (97 ≤ n ∧ n ≤ 122) ∨ 122 < n by omega) with h | h | h | h | h | h | h | h | h
  all_goals
    first
      | have r : plnB n = true := by unfold plnB; simp; omega
        have R := Lib.hid r
        clear r
      | have r : plnB n = false := by unfold plnB; simp; omega
        have R := Lib.hid r
        clear r
    first | have a1 : (97 : Int) ≤ (n : Int) := by omega
          | have a1 : ¬ (97 : Int) ≤ (n : Int) := by omega
    first | have a2 : (n : Int) ≤ 122 := by omega
          | have a2 : ¬ (n : Int) ≤ 122 := by omega
    first | have a3 : (65 : Int) ≤ (n : Int) := by omega
          | have a3 : ¬ (65 : Int) ≤ (n : Int) := by omega
    first | have a4 : (n : Int) ≤ 90 := by omega
          | have a4 : ¬ (n : Int) ≤ 90 := by omega
    first | have a5 : (48 : Int) ≤ (n : Int) := by omega
          | have a5 : ¬ (48 : Int) ≤ (n : Int) := by omega
    first | have a6 : (n : Int) ≤ 57 := by omega
          | have a6 : ¬ (n : Int) ≤ 57 := by omega
    first | have a7 : ((n : Int) == 45) = true := by simp; omega
          | have a7 : ((n : Int) == 45) = false := by simp; omega
    clear h
    go_enter Tryd.func163, Tryd.ntmps163
    go_wp2
    go_ret
    exact ⟨pln_ret R.out, rfl⟩

/-- a label that a host's name may have. -/
def hostB (l : List UInt8) : Bool := decide (1 ≤ l.length ∧ l.length ≤ 63 ∧ l[0]? ≠ some 45 ∧ l[l.length - 1]? ≠ some 45 ∧ ∀ (j : Nat) (hj : j < l.length), plnB l[j].toNat = true)
theorem host_ret {l : List UInt8} {b : Bool} (h : hostB l = b) : Ending.returned (.bool b) = .returned (.bool (hostB l)) := by rw [h]
theorem host_long {l : List UInt8} (h : ¬ l.length ≤ 63) : hostB l = false := by unfold hostB; exact decide_eq_false fun ⟨_, h2, _⟩ => h h2
theorem host_first {l : List UInt8} (hpos : 0 < l.length) (hf : l[0] = 45) : hostB l = false := by
  unfold hostB; exact decide_eq_false fun ⟨_, _, h, _⟩ => h (by rw [List.getElem?_eq_getElem hpos, hf])
theorem host_last {l : List UInt8} (hpos : 0 < l.length) (hf : l[l.length - 1] = 45) : hostB l = false := by
  unfold hostB; exact decide_eq_false fun ⟨_, _, _, h, _⟩ => h (by rw [List.getElem?_eq_getElem (by omega), hf])
theorem host_bad {l : List UInt8} {k : Nat} (hk : k < l.length) (hf : plnB l[k].toNat = false) : hostB l = false := by
  unfold hostB; exact decide_eq_false fun ⟨_, _, _, _, h⟩ => by have := h k hk; rw [hf] at this; cases this
theorem host_good {l : List UInt8} (hpos : 0 < l.length) (h63 : l.length ≤ 63) (h1 : l[0] ≠ 45) (h2 : l[l.length - 1] ≠ 45) (h3 : ∀ (j : Nat) (hj : j < l.length), plnB l[j].toNat = true) : hostB l = true := by
  unfold hostB
  refine decide_eq_true ⟨hpos, h63, ?_, ?_, h3⟩
  · rw [List.getElem?_eq_getElem hpos]; intro h; injection h with h; exact h1 h
  · rw [List.getElem?_eq_getElem (by omega)]; intro h; injection h with h; exact h2 h
theorem ne45 {b : UInt8} (h : b ≠ 45) : (((b.toNat : Nat) : Int) == 45) = false := by
  rw [beq_eq_false_iff_ne]; intro h'; exact h (UInt8.toNat.inj (by simp; omega))

set_option maxRecDepth 100000 in
set_option maxHeartbeats 1000000 in
theorem lhost_any (l : List UInt8) (w : World) (hl : l.length ≤ 140737488351232) : Calls Tryd.prog 154 #[.string ⟨l.toArray⟩] w fun e w' => e = .returned (.bool (hostB l)) ∧ w = w' := by
  rcases Nat.eq_zero_or_pos l.length with h0 | hpos
  · have hA : l = [] := List.eq_nil_of_length_eq_zero h0
    subst hA
    go_enter Tryd.func154, Tryd.ntmps154
    go_wp2
    go_ret
    exact ⟨host_ret (by simp [hostB]), rfl⟩
  · have e0 : l.isEmpty = false := by cases l with | nil => simp at hpos | cons _ _ => rfl
    have i0 : ¬ (l.length : Int) < 1 := by omega
    by_cases h63 : l.length ≤ 63
    · have i1 : ¬ (63 : Int) < (l.length : Int) := by omega
      have e1 : ((l.length : Int) - 1).toNat = l.length - 1 := by omega
      have e2 : (l.length : Int) - 1 < (l.length : Int) := by omega
      have e3 : l.length - 1 < l.length := by omega
      by_cases hf : l[0] = 45
      · have R := Lib.hid (host_first hpos hf)
        have i2 : (((l[0].toNat : Nat) : Int) == 45) = true := by simp [hf]
        clear hf
        go_enter Tryd.func154, Tryd.ntmps154
        go_wp2
        go_ret
        exact ⟨host_ret R.out, rfl⟩
      · have i2 := ne45 hf
        by_cases hg : l[l.length - 1] = 45
        · have R := Lib.hid (host_last hpos hg)
          have i3 : (((l[l.length - 1].toNat : Nat) : Int) == 45) = true := by simp [hg]
          clear hf hg
          go_enter Tryd.func154, Tryd.ntmps154
          go_wp2
          go_ret
          exact ⟨host_ret R.out, rfl⟩
        · have i3 := ne45 hg
          have R := Lib.hid (host_good hpos h63 hf hg)
          clear hf hg
          go_enter Tryd.func154, Tryd.ntmps154
          go_wp2
          go_loop [26] (fun i => ∃ k : Nat, k ≤ l.length ∧ i = .int .i64 k ∧ ∀ (j : Nat) (hj : j < l.length), j < k → plnB l[j].toNat = true) (fun i => l.length - (intOf i).toNat)
          case atStart => exact ⟨0, Nat.zero_le _, rfl, fun j _ h => absurd h (by omega)⟩
          case round =>
            obtain ⟨k, hk, rfl, hm⟩ := hrel
            have Hm := Lib.hid hm
            clear hm
            by_cases hlt : k < l.length
            · have i5 : (k : Int) < (l.length : Int) := by omega
              have hb := l[k].toNat_lt
              rcases hp : plnB l[k].toNat
              · have Hp := Lib.hid hp
                clear hp
                go_wp2_with fail
                refine (lplain_any _ _ (by omega)).mono ?_
                rintro e w' ⟨rfl, rfl⟩
                rw [Hp.out]
                go_wp2
                go_ret
                exact ⟨host_ret (host_bad hlt Hp.out), rfl⟩
              · have Hp := Lib.hid hp
                clear hp
                go_wp2_with fail
                refine (lplain_any _ _ (by omega)).mono ?_
                rintro e w' ⟨rfl, rfl⟩
                rw [Hp.out]
                go_wp2
                go_round
                case rel =>
                  refine ⟨k + 1, by omega, by go_num, fun j hj hjk => ?_⟩
                  by_cases hjk2 : j < k
                  · exact Hm.out j hj hjk2
                  · obtain rfl : j = k := by omega
                    exact Hp.out
                case measure => simp [intOf]; omega
            · have i5 : ¬ (k : Int) < (l.length : Int) := by omega
              have R2 := Lib.hid (R.out (fun j hj => Hm.out j hj (by omega)))
              go_wp2
              go_ret
              exact ⟨host_ret R2.out, rfl⟩
    · have i1 : (63 : Int) < (l.length : Int) := by omega
      have R := Lib.hid (host_long h63)
      go_enter Tryd.func154, Tryd.ntmps154
      go_wp2
      go_ret
      exact ⟨host_ret R.out, rfl⟩

set_option maxRecDepth 100000 in
set_option maxHeartbeats 1000000 in
theorem rhost_any (l : List UInt8) (w : World) (hl : l.length ≤ 140737488351232) : Calls Tryd.prog 115 #[.string ⟨l.toArray⟩] w fun e w' => e = .returned (.bool (hostB l)) ∧ w = w' := by
  rcases Nat.eq_zero_or_pos l.length with h0 | hpos
  · have hA : l = [] := List.eq_nil_of_length_eq_zero h0
    subst hA
    go_enter Tryd.func115, Tryd.ntmps115
    go_wp2
    go_ret
    exact ⟨host_ret (by simp [hostB]), rfl⟩
  · have e0 : l.isEmpty = false := by cases l with | nil => simp at hpos | cons _ _ => rfl
    have i0 : ¬ (l.length : Int) < 1 := by omega
    by_cases h63 : l.length ≤ 63
    · have i1 : ¬ (63 : Int) < (l.length : Int) := by omega
      have e1 : ((l.length : Int) - 1).toNat = l.length - 1 := by omega
      have e2 : (l.length : Int) - 1 < (l.length : Int) := by omega
      have e3 : l.length - 1 < l.length := by omega
      by_cases hf : l[0] = 45
      · have R := Lib.hid (host_first hpos hf)
        have i2 : (((l[0].toNat : Nat) : Int) == 45) = true := by simp [hf]
        clear hf
        go_enter Tryd.func115, Tryd.ntmps115
        go_wp2
        go_ret
        exact ⟨host_ret R.out, rfl⟩
      · have i2 := ne45 hf
        by_cases hg : l[l.length - 1] = 45
        · have R := Lib.hid (host_last hpos hg)
          have i3 : (((l[l.length - 1].toNat : Nat) : Int) == 45) = true := by simp [hg]
          clear hf hg
          go_enter Tryd.func115, Tryd.ntmps115
          go_wp2
          go_ret
          exact ⟨host_ret R.out, rfl⟩
        · have i3 := ne45 hg
          have R := Lib.hid (host_good hpos h63 hf hg)
          clear hf hg
          go_enter Tryd.func115, Tryd.ntmps115
          go_wp2
          go_loop [3] (fun i => ∃ k : Nat, k ≤ l.length ∧ i = .int .i64 k ∧ ∀ (j : Nat) (hj : j < l.length), j < k → plnB l[j].toNat = true) (fun i => l.length - (intOf i).toNat)
          case atStart => exact ⟨0, Nat.zero_le _, rfl, fun j _ h => absurd h (by omega)⟩
          case round =>
            obtain ⟨k, hk, rfl, hm⟩ := hrel
            have Hm := Lib.hid hm
            clear hm
            by_cases hlt : k < l.length
            · have i5 : (k : Int) < (l.length : Int) := by omega
              have hb := l[k].toNat_lt
              rcases hp : plnB l[k].toNat
              · have Hp := Lib.hid hp
                clear hp
                go_wp2_with fail
                refine (rplain_any _ _ (by omega)).mono ?_
                rintro e w' ⟨rfl, rfl⟩
                rw [Hp.out]
                go_wp2
                go_ret
                exact ⟨host_ret (host_bad hlt Hp.out), rfl⟩
              · have Hp := Lib.hid hp
                clear hp
                go_wp2_with fail
                refine (rplain_any _ _ (by omega)).mono ?_
                rintro e w' ⟨rfl, rfl⟩
                rw [Hp.out]
                go_wp2
                go_round
                case rel =>
                  refine ⟨k + 1, by omega, by go_num, fun j hj hjk => ?_⟩
                  by_cases hjk2 : j < k
                  · exact Hm.out j hj hjk2
                  · obtain rfl : j = k := by omega
                    exact Hp.out
                case measure => simp [intOf]; omega
            · have i5 : ¬ (k : Int) < (l.length : Int) := by omega
              have R2 := Lib.hid (R.out (fun j hj => Hm.out j hj (by omega)))
              go_wp2
              go_ret
              exact ⟨host_ret R2.out, rfl⟩
    · have i1 : (63 : Int) < (l.length : Int) := by omega
      have R := Lib.hid (host_long h63)
      go_enter Tryd.func115, Tryd.ntmps115
      go_wp2
      go_ret
      exact ⟨host_ret R.out, rfl⟩
end Go.Proofs.YtbffkddlkfefoaaDoor

/- The contract of ascii.Lower. -/
namespace Go.Proofs.YtbffkddlkfefoaaDoor
open Go.RowKit
attribute [local go_sem] ba_get ext_take ext_drop

/-- block g holds l's bytes, the first k of them folded. -/
def LowBlk (W : World) (g c : Nat) (l : List UInt8) (k : Nat) : Prop :=
  ∃ cur : Array Value, W.heap[g]? = some (.cells cur 5 (c, c + 1)) ∧ l.length ≤ c ∧ ∀ (j : Nat) (hj : j < l.length), cur[j]? = some (byv (if j < k then sm l[j] else l[j]))
theorem LowBlk.cell {W : World} {g c k j : Nat} {l : List UInt8} (h : LowBlk W g c l k) (hj : j < l.length) : W.cell? ⟨g, j, none⟩ = some (byv (if j < k then sm l[j] else l[j])) := by
  obtain ⟨cur, h1, _, h3⟩ := h
  rw [cell_of_row W g j cur 5 (c, c + 1) h1]
  exact h3 j hj
theorem LowBlk.free {W : World} {g c k j : Nat} {l : List UInt8} (h : LowBlk W g c l k) (hj : j < l.length) : W.frozen? ⟨g, j, none⟩ = false := by
  obtain ⟨cur, h1, h2, _⟩ := h
  simp [World.frozen?, h1]
  omega
theorem LowBlk.store {W : World} {g c k : Nat} {l : List UInt8} (h : LowBlk W g c l k) (hk : k < l.length) : LowBlk (W.setCell ⟨g, k, none⟩ (byv (sm l[k]))) g c l (k + 1) := by
  obtain ⟨cur, h1, h2, h3⟩ := h
  refine ⟨cur.setIfInBounds k (byv (sm l[k])), by simp [World.setCell, Array.getElem?_modify, h1], h2, fun j hj => ?_⟩
  have hs : k < cur.size := (Array.getElem?_eq_some_iff.1 (h3 k hk)).1
  rw [Array.getElem?_setIfInBounds]
  by_cases e : k = j
  · subst e
    rw [if_pos rfl, if_pos hs, if_pos (by omega)]
  · rw [if_neg e, h3 j hj]
    by_cases hjk : j < k
    · rw [if_pos hjk, if_pos (by omega)]
    · rw [if_neg hjk, if_neg (by omega)]
theorem LowBlk.lt {W : World} {g c k : Nat} {l : List UInt8} (h : LowBlk W g c l k) : g < W.heap.size := by
  obtain ⟨cur, h1, _, _⟩ := h
  rcases Nat.lt_or_ge g W.heap.size with hlt | hge
  · exact hlt
  · rw [Array.getElem?_eq_none hge] at h1; cases h1
theorem LowBlk.str {W : World} {g c : Nat} {l : List UInt8} (h : LowBlk W g c l l.length) (cap : Nat) (hc : l.length ≤ cap) : (convert 156 9 (.slice (some ⟨g, 0, none⟩) l.length cap)).run Tryd.prog W = .ok (.string ⟨(low l).toArray⟩) W := by
  have hs : Sl W 1 (.slice (some ⟨g, 0, none⟩) (low l).length cap) (low l).length ((low l).map byv) := by
    refine ⟨by simp, _, cap, rfl, by rw [low_len]; exact hc, fun h => (by cases h), fun ad had _ => ?_⟩
    injection had with had
    subst had
    refine ⟨h.lt, rfl, fun j u hu => ?_⟩
    unfold low at hu
    rw [List.map_map, List.getElem?_map, Option.map_eq_some_iff] at hu
    obtain ⟨x, hx, rfl⟩ := hu
    obtain ⟨hj, rfl⟩ := List.getElem?_eq_some_iff.1 hx
    have := h.cell hj
    rw [if_pos hj] at this
    simpa using this
  have := str_run hs
  rwa [low_len] at this
theorem bytes_size (l : List UInt8) (cap : Nat) : l.length ≤ (bytesRow ⟨l.toArray⟩ cap).size := by
  rcases Nat.eq_zero_or_pos l.length with h | h
  · omega
  · have := bytesRow_at ⟨l.toArray⟩ cap (l.length - 1) (by simp; omega)
    have := (Array.getElem?_eq_some_iff.1 this).1
    omega
theorem LowBlk.start (W : World) (l : List UInt8) (cap k : Nat) (hm : ∀ (j : Nat) (hj : j < l.length), j < k → sm l[j] = l[j]) :
    LowBlk (W.alloc (.cells (bytesRow ⟨l.toArray⟩ cap) 5 ((bytesRow ⟨l.toArray⟩ cap).size, (bytesRow ⟨l.toArray⟩ cap).size + 1))) W.heap.size (bytesRow ⟨l.toArray⟩ cap).size l k := by
  refine ⟨_, heap_alloc_new W _, bytes_size l cap, fun j hj => ?_⟩
  have := bytesRow_at ⟨l.toArray⟩ cap j (by simpa using hj)
  rw [this]
  by_cases h : j < k
  · rw [if_pos h, hm j hj h]; rfl
  · rw [if_neg h]; rfl
theorem low_self {l : List UInt8} (h : ∀ (j : Nat) (hj : j < l.length), sm l[j] = l[j]) : low l = l := by
  unfold low
  apply List.ext_getElem
  · simp
  · intro i h1 h2
    simp [h i h2]

set_option maxRecDepth 100000 in
set_option maxHeartbeats 1000000 in
theorem lower_any (l : List UInt8) (w : World) (hl : l.length ≤ 1000000000) : Calls Tryd.prog 155 #[.string ⟨l.toArray⟩] w (StrPost w (low l)) := by
  have hcv := fun W : World => run_bytes_of_string (P := Tryd.prog) W 9 156 5 ⟨l.toArray⟩ Tryd.underlying9 Tryd.underlying156 Tryd.underlying5
  have Hcv := Lib.hid hcv
  clear hcv
  go_enter Tryd.func155, Tryd.ntmps155
  go_wp2
  go_loopw [3] (fun i wr => ∃ k : Nat, k ≤ l.length ∧ i = .int .i64 k ∧ (∀ (j : Nat) (hj : j < l.length), j < k → sm l[j] = l[j]) ∧ Below w.heap.size w wr) (fun i _ => l.length - (intOf i).toNat)
  case atStart => exact ⟨0, Nat.zero_le _, rfl, (fun j _ h => absurd h (by omega)), Below.refl _ _⟩
  case round =>
    obtain ⟨k, hk, rfl, hm, hbw⟩ := hrel
    have Hm := Lib.hid hm
    clear hm
    by_cases hlt : k < l.length
    · have i1 : (k : Int) < (l.length : Int) := by omega
      have i0 : (0 : Int) ≤ (k : Int) := by omega
      by_cases he : sm l[k] = l[k]
      · have i2 : (((sm l[k]).toNat : Int) == ((l[k].toNat : Nat) : Int)) = true := by simp [he]
        have He := Lib.hid he
        clear he
        go_wp2
        go_quiet ((go_at_call 188; exact quiet_l (small_any _ _)))
        go_wp2
        go_roundw
        case rel =>
          refine ⟨k + 1, by omega, by go_num, (fun j hj hjk => ?_), below_drewN hbw _⟩
          by_cases hjk2 : j < k
          · exact Hm.out j hj hjk2
          · obtain rfl : j = k := by omega
            exact He.out
        case measure => simp [intOf]; omega
      · have i2 : (((sm l[k]).toNat : Int) == ((l[k].toNat : Nat) : Int)) = false := by
          rw [beq_eq_false_iff_ne]
          intro h
          exact he (UInt8.toNat.inj (by omega))
        have i3 : (((k : Nat) : Int) == ((l.length : Nat) : Int)) = false := by rw [beq_eq_false_iff_ne]; omega
        clear he
        have hcv := Hcv.out
        go_wp2
        go_quiet ((go_at_call 188; exact quiet_l (small_any _ _)))
        go_wp2
        have hcap := grownCap_ge (wr.drewN nq) l.length 0 5
        generalize grownCap (wr.drewN nq) l.length 0 5 = cap at *
        have hst := LowBlk.start (wr.drewN (nq + 1)) l cap k Hm.out
        have hbw0 : Below w.heap.size w ((wr.drewN (nq + 1)).alloc (.cells (bytesRow ⟨l.toArray⟩ cap) 5 ((bytesRow ⟨l.toArray⟩ cap).size, (bytesRow ⟨l.toArray⟩ cap).size + 1))) := (below_drewN hbw (nq + 1)).alloc hbw.size _
        have hg : w.heap.size ≤ wr.heap.size := hbw.size
        generalize (bytesRow ⟨l.toArray⟩ cap).size = c at *
        generalize (wr.drewN (nq + 1)).alloc (.cells (bytesRow ⟨l.toArray⟩ cap) 5 (c, c + 1)) = W0 at *
        have hst' : LowBlk W0 wr.heap.size c l k := hst
        clear hcv hst Hcv
        generalize wr.heap.size = g at *
        go_loopw [3] (fun i W => ∃ j : Nat, j ≤ l.length ∧ i = .int .i64 j ∧ LowBlk W g c l j ∧ Below w.heap.size w W) (fun i _ => l.length - (intOf i).toNat)
        case atStart => exact ⟨k, hk, rfl, hst', hbw0⟩
        case round =>
          obtain ⟨j, hj, rfl, hL, hbj⟩ := hrel
          by_cases hjl : j < l.length
          · have i4 : (j : Int) < (l.length : Int) := by omega
            have q0 := hL.cell hjl
            rw [if_neg (by omega)] at q0
            have q1 : wr.cell? ⟨g, j, none⟩ = some (.int .u8 ((l[j].toNat : Nat) : Int)) := q0
            have q2 := hL.free hjl
            have hS := hL.store hjl
            clear q0
            go_wp2_with fail
            refine (small_any _ _).mono ?_
            rintro e w' ⟨rfl, rfl⟩
            go_wp2_with fail
            go_roundw
            case rel => exact ⟨j + 1, by omega, by go_num, hS, hbj.setCell (by exact hg) _⟩
            case measure => simp [intOf]; omega
          · have i4 : ¬ (j : Int) < (l.length : Int) := by omega
            obtain rfl : j = l.length := by omega
            have hcs := hL.str cap hcap
            go_wp2
            go_ret
            exact ⟨rfl, hbj⟩
    · obtain rfl : k = l.length := by omega
      have i1 : decide (((l.length : Nat) : Int) < (l.length : Int)) = false := by simp
      have i3 : (((l.length : Nat) : Int) == ((l.length : Nat) : Int)) = true := by simp
      have hfin : low l = l := low_self (fun j hj => Hm.out j hj hj)
      have Hfin := Lib.hid hfin
      clear hfin
      go_wp2
      go_quiet (fail)
      go_wp2
      go_ret
      exact ⟨congrArg Ending.returned (vstr Hfin.out.symm), below_drewN hbw _⟩
end Go.Proofs.YtbffkddlkfefoaaDoor

/- The contracts of domain.Host and of its reference. -/
namespace Go.Proofs.YtbffkddlkfefoaaDoor
open Go.RowKit
attribute [local go_sem] ba_get

/-- a name that a host may have. -/
def hostsB (A : List (List UInt8)) : Bool := decide (0 < A.length ∧ sz A ≤ 255 ∧ ∀ (j : Nat) (hj : j < A.length), hostB A[j] = true)
theorem hosts_ret {A : List (List UInt8)} {b : Bool} (h : hostsB A = b) : Ending.returned (.bool b) = .returned (.bool (hostsB A)) := by rw [h]
theorem hosts_bad {A : List (List UInt8)} {k : Nat} (hk : k < A.length) (hf : hostB A[k] = false) : hostsB A = false := by
  unfold hostsB; exact decide_eq_false fun ⟨_, _, h⟩ => by have := h k hk; rw [hf] at this; cases this
theorem hosts_big {A : List (List UInt8)} (h : ¬ sz A ≤ 255) : hostsB A = false := by
  unfold hostsB; exact decide_eq_false fun ⟨_, h2, _⟩ => h h2
theorem hosts_good {A : List (List UInt8)} (hpos : 0 < A.length) (hs : sz A ≤ 255) (h : ∀ (j : Nat) (hj : j < A.length), hostB A[j] = true) : hostsB A = true := by
  unfold hostsB; exact decide_eq_true ⟨hpos, hs, h⟩

set_option maxRecDepth 100000 in
set_option maxHeartbeats 1000000 in
theorem rdhost_any (A : List (List UInt8)) (v : Value) (w : World) (ha : Sl w 1 v A.length (A.map stv)) (hn : A.length ≤ 1000000000) (hz : sz A ≤ 1000000000000000) (hll : ∀ l ∈ A, l.length ≤ 140737488351232) :
    Calls Tryd.prog 58 #[v] w fun e w' => e = .returned (.bool (hostsB A)) ∧ w = w' := by
  rcases Nat.eq_zero_or_pos A.length with h0 | hpos
  · have hA : A = [] := List.eq_nil_of_length_eq_zero h0
    subst hA
    obtain ⟨a1, c1, rfl, _⟩ := ha.zero
    clear ha hll
    go_enter Tryd.func58, Tryd.ntmps58
    go_wp2
    refine wp_loop_rounds 1 ?_
    rw [rounds_succ]; go_wp2
    go_ret
    exact ⟨hosts_ret (by simp [hostsB]), rfl⟩
  · have Ha := Lib.hid ha
    obtain ⟨b1, o1, c1, rfl, hc1, hb1, hcA⟩ := ha.pos hpos
    have HcA := Lib.hid hcA
    have Hll := Lib.hid hll
    have i0 : (0 : Int) < (A.length : Int) := by omega
    clear hcA ha hll
    go_enter Tryd.func58, Tryd.ntmps58
    go_wp2
    go_loop [3] (fun i => ∃ k : Nat, k ≤ A.length ∧ i = .int .i64 k ∧ ∀ (j : Nat) (hj : j < A.length), j < k → hostB A[j] = true) (fun i => A.length - (intOf i).toNat)
    case atStart => exact ⟨0, Nat.zero_le _, rfl, fun j _ h => absurd h (by omega)⟩
    case round =>
      obtain ⟨k, hk, rfl, hm⟩ := hrel
      have Hm := Lib.hid hm
      clear hm
      by_cases hlt : k < A.length
      · have i5 : (k : Int) < (A.length : Int) := by omega
        have q1 : w.cell? ⟨b1, o1 + k, none⟩ = some (.string ⟨A[k].toArray⟩) := sl_at HcA.out hlt
        have hlk := Hll.out A[k] (List.getElem_mem _)
        rcases hp : hostB A[k]
        · have Hp := Lib.hid hp
          clear hp
          go_wp2_with fail
          refine (rhost_any _ _ hlk).mono ?_
          rintro e w' ⟨rfl, rfl⟩
          rw [Hp.out]
          go_wp2
          go_ret
          exact ⟨hosts_ret (hosts_bad hlt Hp.out), rfl⟩
        · have Hp := Lib.hid hp
          clear hp
          go_wp2_with fail
          refine (rhost_any _ _ hlk).mono ?_
          rintro e w' ⟨rfl, rfl⟩
          rw [Hp.out]
          go_wp2
          go_round
          case rel =>
            refine ⟨k + 1, by omega, by go_num, fun j hj hjk => ?_⟩
            by_cases hjk2 : j < k
            · exact Hm.out j hj hjk2
            · obtain rfl : j = k := by omega
              exact Hp.out
          case measure => simp [intOf]; omega
      · have i5 : ¬ (k : Int) < (A.length : Int) := by omega
        have hall : ∀ (j : Nat) (hj : j < A.length), hostB A[j] = true := fun j hj => Hm.out j hj (by omega)
        by_cases hs : sz A ≤ 255
        · have R := Lib.hid (hosts_good hpos hs hall)
          have i6 : ((sz A : Nat) : Int) ≤ 255 := by omega
          clear hall
          go_wp2_with fail
          refine (rsize_any _ _ _ Ha.out hn hz).mono ?_
          rintro e w' ⟨rfl, rfl⟩
          go_wp2
          go_ret
          exact ⟨hosts_ret R.out, rfl⟩
        · have R := Lib.hid (hosts_big hs)
          have i6 : ¬ ((sz A : Nat) : Int) ≤ 255 := by omega
          clear hall
          go_wp2_with fail
          refine (rsize_any _ _ _ Ha.out hn hz).mono ?_
          rintro e w' ⟨rfl, rfl⟩
          go_wp2
          go_ret
          exact ⟨hosts_ret (by rw [R.out]; simp; omega), rfl⟩
end Go.Proofs.YtbffkddlkfefoaaDoor
