/- Contracts and plain lemmas of our own, merged. -/
import Derived.Test.YtolglcgdophcaaaGreatDoorZ1
import Derived.Test.YtolglcgdophcaaaGreatDoorZ12
import Derived.Test.YtolglcgdophcaaaGreatDoorZ13
import Derived.Test.YtolglcgdophcaaaGreatDoorZ21
import Derived.Test.YtolglcgdophcaaaGreatDoorZ24
/- Policies: the rows of the policy table as values of twenty-one cells, with their laws. -/
namespace Go.Proofs.YtolglcgdophcaaaGreatDoor
open Go.RowKit

theorem Pf.same_iff {a b : Pf} : (a.ad = b.ad ∧ a.bits = b.bits) ↔ a = b := ⟨fun ⟨h1, h2⟩ => by cases a; cases b; simp only at h1 h2; subst h1 h2; rfl, fun h => by rw [h]; exact ⟨rfl, rfl⟩⟩
instance : DecidableEq Pf := fun _ _ => decidable_of_iff _ Pf.same_iff
structure Pol where
  pf : Pf
  prec : Int
  lab : Int
  ok : (-9223372036854775808 ≤ prec ∧ prec ≤ 9223372036854775807) ∧ (-9223372036854775808 ≤ lab ∧ lab ≤ 9223372036854775807)
theorem Pol.same_iff {a b : Pol} : (a.pf = b.pf ∧ a.prec = b.prec ∧ a.lab = b.lab) ↔ a = b := ⟨fun ⟨h1, h2, h3⟩ => by cases a; cases b; simp only at h1 h2 h3; subst h1 h2 h3; rfl, fun h => by rw [h]; exact ⟨rfl, rfl, rfl⟩⟩
instance : DecidableEq Pol := fun _ _ => decidable_of_iff _ Pol.same_iff
def polL (p : Pol) : List Value := pfL p.pf ++ [.int .i64 p.prec, .int .i64 p.lab]
/-! ### built -/
theorem built_pf (a : Ad) (z : Int) (h : -9223372036854775808 ≤ z ∧ z ≤ 9223372036854775807) : Tryz.prog.built 55 [(0, .agg (adA a)), (1, .int .i64 z)] = some (pfA ⟨a, z, h⟩) := by
  obtain ⟨fam, ip, zone, ok⟩ := a
  obtain ⟨c0, c1, c2, c3, c4, c5, c6, c7, c8, c9, c10, c11, c12, c13, c14, c15, rfl⟩ := len16 ok.1
  kernel_rfl
/-! ### single operations -/
/-! ### equality -/
/-! ### in a region that draws its order -/
end Go.Proofs.YtolglcgdophcaaaGreatDoor

/- The plain policy table: policy.row, policy.Plain. -/
namespace Go.Proofs.YtolglcgdophcaaaGreatDoor
open Go.RowKit
attribute [local go_sem] ba_get ext_take ext_drop ext_any ba_app

def mk6 (l : List UInt8) (h : l.length = 16) : Ad := ⟨6, l, 0, h, by decide, by decide⟩
def al1 : Ad := mk6 [0, 0, 0, 0, 0, 0, 0, 0, 0, 0, 0, 0, 0, 0, 0, 1] rfl
def al0 : Ad := mk6 [0, 0, 0, 0, 0, 0, 0, 0, 0, 0, 0, 0, 0, 0, 0, 0] rfl
def alm : Ad := mk6 [0, 0, 0, 0, 0, 0, 0, 0, 0, 0, 255, 255, 0, 0, 0, 0] rfl
def al2 : Ad := mk6 [32, 2, 0, 0, 0, 0, 0, 0, 0, 0, 0, 0, 0, 0, 0, 0] rfl
def alt : Ad := mk6 [32, 1, 0, 0, 0, 0, 0, 0, 0, 0, 0, 0, 0, 0, 0, 0] rfl
def alf : Ad := mk6 [252, 0, 0, 0, 0, 0, 0, 0, 0, 0, 0, 0, 0, 0, 0, 0] rfl
def als : Ad := mk6 [254, 192, 0, 0, 0, 0, 0, 0, 0, 0, 0, 0, 0, 0, 0, 0] rfl
def al3 : Ad := mk6 [63, 254, 0, 0, 0, 0, 0, 0, 0, 0, 0, 0, 0, 0, 0, 0] rfl
def pl0 : Pol := ⟨⟨al1, 128, by decide⟩, 50, 0, by decide⟩
def pl1 : Pol := ⟨⟨al0, 0, by decide⟩, 40, 1, by decide⟩
def pl2 : Pol := ⟨⟨alm, 96, by decide⟩, 35, 4, by decide⟩
def pl3 : Pol := ⟨⟨al2, 16, by decide⟩, 30, 2, by decide⟩
def pl4 : Pol := ⟨⟨alt, 32, by decide⟩, 5, 5, by decide⟩
def pl5 : Pol := ⟨⟨alf, 7, by decide⟩, 3, 13, by decide⟩
def pl6 : Pol := ⟨⟨al0, 96, by decide⟩, 1, 3, by decide⟩
def pl7 : Pol := ⟨⟨als, 10, by decide⟩, 1, 11, by decide⟩
def pl8 : Pol := ⟨⟨al3, 16, by decide⟩, 1, 12, by decide⟩
def plainP : List Pol := [pl0, pl1, pl2, pl3, pl4, pl5, pl6, pl7, pl8]
/-- what is kept from call to call. -/
structure PRowInv (w0 w : World) : Prop where
  t : Tab w
  m : MaxI w
  b : Below w0.heap.size w0 w
theorem PRowInv.bel {w0 w w' : World} (h : PRowInv w0 w) (k : Below w.heap.size w w') : PRowInv w0 w' := ⟨h.t.below k, h.m.below k, bel_tr h.b k⟩
end Go.Proofs.YtolglcgdophcaaaGreatDoor

/- policy.Rows of the empty net; policy.Of. -/
namespace Go.Proofs.YtolglcgdophcaaaGreatDoor
open Go.RowKit
attribute [local go_sem] ba_get ext_take ext_drop ext_any ba_app

/-- a row of policies, one by one, in blocks not below lo. -/
def PolRow (w : World) (A : Option Addr) (R : List Pol) (lo : Nat) : Prop := ∀ k (hk : k < R.length), ∃ b off, A = some ⟨b, off, none⟩ ∧ lo ≤ b ∧ b < w.heap.size ∧ w.rangeAt b (off + k * 21) (polL R[k])
theorem PolRow.bel {w w' : World} {A : Option Addr} {R : List Pol} {lo : Nat} (h : PolRow w A R lo) (hb : Below w.heap.size w w') : PolRow w' A R lo := fun k hk => by
  obtain ⟨b, off, h1, h2, h3, h4⟩ := h k hk
  exact ⟨b, off, h1, h2, Nat.lt_of_lt_of_le h3 hb.size, fun j v hv => (bel_cells hb h3 _).trans (h4 j v hv)⟩
theorem PolRow.stays {w w' : World} {A : Option Addr} {R : List Pol} {lo g : Nat} (h : PolRow w A R lo) (hs : Stays g w w') (hg : g < lo) : PolRow w' A R lo := fun k hk => by
  obtain ⟨b, off, h1, h2, h3, h4⟩ := h k hk
  refine ⟨b, off, h1, h2, by rw [hs.size]; exact h3, fun j v hv => ?_⟩
  rw [← h4 j v hv]
  have := hs.block b (by omega)
  unfold World.cell?
  rw [this]
end Go.Proofs.YtolglcgdophcaaaGreatDoor

/- The reference's Map. -/
namespace Go.Proofs.YtolglcgdophcaaaGreatDoor
open Go.RowKit
attribute [local go_sem] ba_get ext_take ext_drop ext_any ba_app

def mpK (a : Ad) (k : Nat) : Ad := ⟨6, [0, 0, 0, 0, 0, 0, 0, 0, 0, 0, 255, 255, if 0 < k then a.b 0 else 0, if 1 < k then a.b 1 else 0, if 2 < k then a.b 2 else 0, if 3 < k then a.b 3 else 0], 0, ⟨rfl, by decide, by decide⟩⟩
theorem mpK_set {a : Ad} {k : Nat} (h : k < 4) : (mpK a k).setB (12 + k) (a.b k) = mpK a (k + 1) := by
  match k, h with
  | 0, _ => rfl
  | 1, _ => rfl
  | 2, _ => rfl
  | 3, _ => rfl
theorem mpK_4 (a : Ad) : mpK a 4 = mapA a := rfl
theorem mpK_0 (a : Ad) : ((adA al0).setIfInBounds 11 (.int .u8 255)).setIfInBounds 12 (.int .u8 255) = adA (mpK a 0) := rfl
theorem built_al0 : Tryz.prog.built 24 [(0, .int .i64 6)] = some (adA al0) := by kernel_rfl
structure MkRel (w : World) (a : Ad) (g1 g2 g3 k : Nat) (wr : World) : Prop where
  b1 : Bk wr g1 24 (adA a)
  b2 : Bk wr g2 24 (adA ad0)
  b3 : Bk wr g3 24 (adA (mpK a k))
  b : Below w.heap.size w wr
set_option maxRecDepth 100000 in
set_option maxHeartbeats 4000000 in
theorem rmap_all (a : Ad) (w : World) : Calls Tryz.prog 12 #[.agg (adA a)] w (AdPost w (mpA a)) := by
  by_cases hf : a.fam = 4
  · have i4 : (a.fam != 4) = false := by simp [hf]
    have Hf := Lib.hid (show mpA a = mapA a by unfold mpA; rw [if_pos hf])
    clear hf
    go_enter Tryz.func12, Tryz.ntmps12
    go_wp2_with (first
      | ((with_reducible refine wpList_boxB rfl _ _ rfl rfl ?_); intro g1 w1 hg hB1 hb1 hs; have hg1 : w.heap.size ≤ g1 := Nat.le_of_eq hg.symm; clear hg hs)
      | ((with_reducible refine wpList_allocAd (o := ⟨some 2, _, _, _, _, _⟩) rfl rfl ?_); intro g2 w2 hg hB2 hb2 hs; have hg2 : w1.heap.size ≤ g2 := Nat.le_of_eq hg.symm; have hB12 := hB1.bel hb2; have hb02 := bel_tr hb1 hb2; have c0 := hB12.cell 0; rw [adA_0] at c0; clear hg hs)
      | (with_reducible refine wpList_buildL rfl 24 _ rfl built_al0 rfl ?_)
      | ((with_reducible refine wpList_allocAd (o := ⟨some 3, _, _, _, _, _⟩) rfl rfl ?_); intro g3 w3 hg hB3 hb3 hs; have hg3 : w2.heap.size ≤ g3 := Nat.le_of_eq hg.symm; have hB13 := hB12.bel hb3; have hB23 := hB2.bel hb3; have hb03 := bel_tr hb02 hb3; clear hg hs)
      | ((with_reducible refine wpList_storeAd rfl (.tmp 3) _ rfl rfl rfl hB3 ?_); intro w4 hB34 hS4
         have hne : g1 < g2 ∧ g2 < g3 ∧ w.heap.size ≤ g1 := ⟨by have := hB1.lt; omega, by have := hB2.lt; omega, hg1⟩
         have hB14 := hB13.stays hS4 (by omega)
         have hB24 := hB23.stays hS4 (by omega)
         have hb04 := hb03.trans (hS4.below (by omega))
         refine hold ?_))
    refine Lib.hid ?_
    have hX1 := hB34.set_ 11 (.int .u8 255)
    have hX2 := hX1.set_ 12 (.int .u8 255)
    rw [mpK_0 a] at hX2
    have c11 : w4.cell? ⟨g3, 11, none⟩ = some (.int .u8 0) := hB34.cell 11
    have f11 := hB34.free 11
    have c12 : (w4.setCell ⟨g3, 11, none⟩ (.int .u8 255)).cell? ⟨g3, 12, none⟩ = some (.int .u8 0) := hX1.cell 12
    have f12 := hX1.free 12
    have hY := (hB14.far (p := ⟨g3, 11, none⟩) (by show g1 ≠ g3; omega) (.int .u8 255)).far (p := ⟨g3, 12, none⟩) (by show g1 ≠ g3; omega) (.int .u8 255)
    have hZ := (hB24.far (p := ⟨g3, 11, none⟩) (by show g2 ≠ g3; omega) (.int .u8 255)).far (p := ⟨g3, 12, none⟩) (by show g2 ≠ g3; omega) (.int .u8 255)
    have hby := (hb04.setCell (p := ⟨g3, 11, none⟩) (show w.heap.size ≤ g3 by omega) (.int .u8 255)).setCell (p := ⟨g3, 12, none⟩) (show w.heap.size ≤ g3 by omega) (.int .u8 255)
    have R0 : MkRel w a g1 g2 g3 0 ((w4.setCell ⟨g3, 11, none⟩ (.int .u8 255)).setCell ⟨g3, 12, none⟩ (.int .u8 255)) := ⟨hY, hZ, hX2, hby⟩
    clear hX1 hX2 hY hZ hby hB1 hB12 hB13 hB14 hB2 hB23 hB24 hB3 hB34 hb1 hb2 hb02 hb3 hb03 hb04 hS4 hg1 hg2 hg3
    go_wp2
    go_loopw [4] (fun i wr => ∃ k : Nat, k ≤ 4 ∧ i = .int .i64 k ∧ MkRel w a g1 g2 g3 k wr) (fun i _ => 4 - (intOf i).toNat)
    case atStart => exact ⟨0, by omega, rfl, R0⟩
    case round =>
      obtain ⟨k, hk, rfl, r1, r2, r3, rb⟩ := hrel
      clear R0 c11 f11 c12 f12 c0
      by_cases hlt : k < 4
      · have j0 : (k : Int) < 4 := by omega
        have j1 : (k : Int) < 16 := by omega
        have hset := mpK_set (a := a) hlt
        obtain ⟨J, hJ⟩ : ∃ J, 12 + k = J := ⟨_, rfl⟩
        rw [hJ] at hset
        have j2 : (12 : Int) + (k : Int) = (J : Int) := by omega
        have j3 : J < 16 := by omega
        have j4 : (J : Int) < 16 := by omega
        have c1 := r1.cell (k + 1)
        rw [adA_ip a (by omega), Nat.add_comm k 1] at c1
        have c3 := r3.cell (J + 1)
        rw [adA_ip (mpK a k) j3, Nat.add_comm J 1] at c3
        have f3 := r3.free (1 + J)
        have l0 := u8lt (a.b k)
        have hX : Bk (wr.setCell ⟨g3, 1 + J, none⟩ (.int .u8 ((a.b k).toNat : Int))) g3 24 (adA (mpK a (k + 1))) := by
          have := r3.set_ (1 + J) (.int .u8 ((a.b k).toNat : Int))
          rwa [show (adA (mpK a k)).setIfInBounds (1 + J) (.int .u8 ((a.b k).toNat : Int)) = adA (mpK a (k + 1)) by rw [Nat.add_comm 1 J, adA_setB _ j3, hset]] at this
        have HX := Lib.hid (show MkRel w a g1 g2 g3 (k + 1) (wr.setCell ⟨g3, 1 + J, none⟩ (.int .u8 ((a.b k).toNat : Int))) from
          ⟨r1.far (p := ⟨g3, 1 + J, none⟩) (by show g1 ≠ g3; omega) _, r2.far (p := ⟨g3, 1 + J, none⟩) (by show g2 ≠ g3; omega) _, hX, rb.setCell (p := ⟨g3, 1 + J, none⟩) (show w.heap.size ≤ g3 by omega) _⟩)
        clear hX hset hJ
        go_wp2
        go_roundw
        case rel => exact ⟨k + 1, by omega, by go_num, HX.out⟩
        case measure => simp [intOf]; omega
      · have hk4 : k = 4 := by omega
        subst hk4
        have j0 : ¬ ((4 : Nat) : Int) < 4 := by omega
        rw [mpK_4] at r3
        go_wp2_with (first
          | (with_reducible refine wpList_loadAd (o := ⟨some 26, _, _, _, _, _⟩) rfl _ rfl rfl r3 ?_)
          | ((with_reducible refine wpList_storeAd rfl (.tmp 2) _ rfl rfl rfl r2 ?_); intro w7 hB7 hS7))
        exact ret_ad Tryz.results12 rfl hB7 rfl ⟨by rw [Hf.out], rb.trans (hS7.below (by omega))⟩
  · have Hf := Lib.hid (show mpA a = a by unfold mpA; rw [if_neg hf])
    have i4 : (a.fam != 4) = true := by simpa using hf
    clear hf
    go_enter Tryz.func12, Tryz.ntmps12
    go_wp2_with (first
      | ((with_reducible refine wpList_boxB rfl _ _ rfl rfl ?_); intro g1 w1 hg hB1 hb1 hs; have hg1 : w.heap.size ≤ g1 := Nat.le_of_eq hg.symm; clear hg hs)
      | ((with_reducible refine wpList_allocAd (o := ⟨some 2, _, _, _, _, _⟩) rfl rfl ?_); intro g2 w2 hg hB2 hb2 hs; have hg2 : w1.heap.size ≤ g2 := Nat.le_of_eq hg.symm; have hB12 := hB1.bel hb2; have hb02 := bel_tr hb1 hb2; have c0 := hB12.cell 0; rw [adA_0] at c0; clear hg hs)
      | (with_reducible refine wpList_loadAd (o := ⟨some 8, _, _, _, _, _⟩) rfl _ rfl rfl hB12 ?_)
      | ((with_reducible refine wpList_storeAd rfl (.tmp 2) _ rfl rfl rfl hB2 ?_); intro w7 hB7 hS7))
    exact ret_ad Tryz.results12 rfl hB7 rfl ⟨by rw [Hf.out], hb02.trans (hS7.below (by have := hb1.size; omega))⟩
end Go.Proofs.YtolglcgdophcaaaGreatDoor

/- PolicyPlain: the plain part; law36.same, law36.works. -/
namespace Go.Proofs.YtolglcgdophcaaaGreatDoor
open Go.RowKit
attribute [local go_sem] ba_get ext_take ext_drop ext_any ba_app

structure SmRel (w : World) (A1 A2 : Option Addr) (l1 l2 : Nat) (wr : World) : Prop where
  r1 : PolRow wr A1 plainP l1
  r2 : PolRow wr A2 plainP l2
  b : Below w.heap.size w wr
theorem SmRel.bel {w wr w' : World} {A1 A2 : Option Addr} {l1 l2 : Nat} (h : SmRel w A1 A2 l1 l2 wr) (hb : Below wr.heap.size wr w') : SmRel w A1 A2 l1 l2 w' := ⟨h.r1.bel hb, h.r2.bel hb, bel_tr h.b hb⟩
end Go.Proofs.YtolglcgdophcaaaGreatDoor

/- Like bits, a byte or two of them: for Scope and Multi. No walk here. -/
namespace Go.Proofs.YtolglcgdophcaaaGreatDoor
open Go.RowKit

theorem ge_b {a b : Ad} {j m n : Nat} (hn : n ≤ 8) (h0 : 0 < n) : 8 * j + n ≤ comF a b (m + 8) (8 * j) ↔ (a.b j = b.b j ∨ n + Lib.bitLen (a.b j ^^^ b.b j).toNat ≤ 8) := by
  by_cases h : a.b j = b.b j
  · rw [comF_like h]
    have := (comF_bd a b m (8 * j + 8)).1
    exact ⟨fun _ => .inl h, fun _ => by omega⟩
  · rw [comF_else h]
    constructor
    · intro k; right; omega
    · rintro (k | k)
      · exact absurd k h
      · omega
theorem ge_8 {a b : Ad} {j m : Nat} : 8 * j + 8 ≤ comF a b (m + 8) (8 * j) ↔ a.b j = b.b j := by
  rw [ge_b (Nat.le_refl _) (by omega)]
  constructor
  · rintro (h | h)
    · exact h
    · exact xor_zero.1 (u8zero.2 (by
        rcases Nat.eq_zero_or_pos (a.b j ^^^ b.b j).toNat with h0 | h0
        · exact h0
        · have := bitLen_pos h0 (UInt8.toNat_lt _); omega))
  · exact fun h => .inl h
theorem ge_step {a b : Ad} {j m n : Nat} (hn : 8 * j + 8 < n) : n ≤ comF a b (m + 8) (8 * j) ↔ (a.b j = b.b j ∧ n ≤ comF a b m (8 * (j + 1))) := by
  by_cases h : a.b j = b.b j
  · rw [comF_like h]
    exact ⟨fun k => ⟨h, k⟩, fun k => k.2⟩
  · rw [comF_else h]
    constructor
    · intro k; omega
    · intro k; exact absurd k.1 h
theorem by_224 (c : UInt8) : (c = 224 ∨ 4 + Lib.bitLen (c ^^^ 224).toNat ≤ 8) ↔ c.toNat / 16 * 16 = 224 := by
  have : ∀ n : Fin 256, (UInt8.ofNat n.val = 224 ∨ 4 + Lib.bitLen (UInt8.ofNat n.val ^^^ 224).toNat ≤ 8) ↔ n.val / 16 * 16 = 224 := by decide +kernel
  simpa using this ⟨c.toNat, c.toNat_lt⟩
theorem by_128 (c : UInt8) : (c = 128 ∨ 2 + Lib.bitLen (c ^^^ 128).toNat ≤ 8) ↔ c.toNat / 64 * 64 = 128 := by
  have : ∀ n : Fin 256, (UInt8.ofNat n.val = 128 ∨ 2 + Lib.bitLen (UInt8.ofNat n.val ^^^ 128).toNat ≤ 8) ↔ n.val / 64 * 64 = 128 := by decide +kernel
  simpa using this ⟨c.toNat, c.toNat_lt⟩
theorem by_192 (c : UInt8) : (c = 192 ∨ 2 + Lib.bitLen (c ^^^ 192).toNat ≤ 8) ↔ c.toNat / 64 * 64 = 192 := by
  have : ∀ n : Fin 256, (UInt8.ofNat n.val = 192 ∨ 2 + Lib.bitLen (UInt8.ofNat n.val ^^^ 192).toNat ≤ 8) ↔ n.val / 64 * 64 = 192 := by decide +kernel
  simpa using this ⟨c.toNat, c.toNat_lt⟩
end Go.Proofs.YtolglcgdophcaaaGreatDoor

/- Scope and Multi as the reference says them. No walk here. -/
namespace Go.Proofs.YtolglcgdophcaaaGreatDoor
open Go.RowKit

def c127 : Ad := adOf 127 0 0 0
def c169 : Ad := adOf 169 254 0 0
def c224 : Ad := adOf 224 0 0 0
def cfe8 : Ad := mk6 [254, 128, 0, 0, 0, 0, 0, 0, 0, 0, 0, 0, 0, 0, 0, 0] rfl
def cff0 : Ad := mk6 [255, 0, 0, 0, 0, 0, 0, 0, 0, 0, 0, 0, 0, 0, 0, 0] rfl
/-- within a prefix that stands in the text. -/
def wiC (a P : Ad) (n : Nat) : Bool := (a.fam == P.fam) && decide (n ≤ comA a P)
theorem withB_c {a P : Ad} {n : Nat} {h} (hc : chkP ⟨P, (n : Int), h⟩ = 0) : withB a ⟨P, (n : Int), h⟩ = wiC a P n := by
  unfold withB wiC
  rw [hc]
  simp
theorem wi4 {a P : Ad} {n : Nat} (ha : a.fam = 4) (hP : P.fam = 4) : wiC a P n = decide (n ≤ comF a P 32 0) := by
  unfold wiC comA mostA
  rw [ha, hP]
  simp
theorem wi6 {a P : Ad} {n : Nat} (ha : a.fam = 6) (hP : P.fam = 6) : wiC a P n = decide (n ≤ comF a P 128 0) := by
  unfold wiC comA mostA
  rw [ha, hP]
  simp
theorem wiX {a P : Ad} {n : Nat} (h : a.fam ≠ P.fam) : wiC a P n = false := by
  unfold wiC
  rw [show (a.fam == P.fam) = false by simpa using h]
  rfl
theorem wi_127 {a : Ad} (h : a.fam = 4) : wiC a c127 8 = decide (a.b 0 = 127) := by
  rw [wi4 h rfl]
  exact decide_eq_decide.2 (ge_8 (j := 0) (m := 24))
theorem wi_169 {a : Ad} (h : a.fam = 4) : wiC a c169 16 = decide (a.b 0 = 169 ∧ a.b 1 = 254) := by
  rw [wi4 h rfl]
  refine decide_eq_decide.2 ((ge_step (j := 0) (m := 24) (by omega)).trans ?_)
  exact and_congr Iff.rfl (ge_8 (j := 1) (m := 16))
theorem wi_224 {a : Ad} (h : a.fam = 4) : wiC a c224 4 = decide ((a.b 0).toNat / 16 * 16 = 224) := by
  rw [wi4 h rfl]
  exact decide_eq_decide.2 ((ge_b (j := 0) (m := 24) (n := 4) (by omega) (by omega)).trans (by_224 _))
theorem wi_ff {a : Ad} (h : a.fam = 6) : wiC a cff0 8 = decide (a.b 0 = 255) := by
  rw [wi6 h rfl]
  exact decide_eq_decide.2 (ge_8 (j := 0) (m := 120))
theorem wi_fe8 {a : Ad} (h : a.fam = 6) : wiC a cfe8 10 = decide (a.b 0 = 254 ∧ (a.b 1).toNat / 64 * 64 = 128) := by
  rw [wi6 h rfl]
  refine decide_eq_decide.2 ((ge_step (j := 0) (m := 120) (by omega)).trans ?_)
  exact and_congr Iff.rfl ((ge_b (j := 1) (m := 112) (n := 2) (by omega) (by omega)).trans (by_128 _))
theorem wi_fec {a : Ad} (h : a.fam = 6) : wiC a als 10 = decide (a.b 0 = 254 ∧ (a.b 1).toNat / 64 * 64 = 192) := by
  rw [wi6 h rfl]
  refine decide_eq_decide.2 ((ge_step (j := 0) (m := 120) (by omega)).trans ?_)
  exact and_congr Iff.rfl ((ge_b (j := 1) (m := 112) (n := 2) (by omega) (by omega)).trans (by_192 _))
theorem ge_all {a P : Ad} : ∀ k j, j + k = 16 → (128 ≤ comF a P (8 * k) (8 * j) ↔ ∀ i, j ≤ i → i < 16 → a.b i = P.b i) := by
  intro k
  induction k with
  | zero =>
    intro j hj
    rw [Nat.mul_zero, comF]
    exact ⟨fun _ i h1 h2 => by omega, fun _ => by omega⟩
  | succ k ih =>
    intro j hj
    rw [show 8 * (k + 1) = 8 * k + 8 by omega]
    by_cases h : a.b j = P.b j
    · rw [comF_like h, show 8 * j + 8 = 8 * (j + 1) by omega, ih (j + 1) (by omega)]
      constructor
      · intro g i h1 h2
        rcases Nat.eq_or_lt_of_le h1 with rfl | h1
        · exact h
        · exact g i h1 h2
      · exact fun g i h1 h2 => g i (by omega) h2
    · constructor
      · intro g; exact absurd (ge_8.1 (Nat.le_trans (by omega) g)) h
      · intro g; exact absurd (g j (Nat.le_refl _) (by omega)) h
theorem ip_same {a P : Ad} : (∀ i, 0 ≤ i → i < 16 → a.b i = P.b i) ↔ a.ip = P.ip := by
  constructor
  · intro h
    refine List.ext_getElem? fun i => ?_
    by_cases hi : i < 16
    · rw [a.b_eq hi, P.b_eq hi, h i (Nat.zero_le _) hi]
    · rw [List.getElem?_eq_none (by rw [a.len]; omega), List.getElem?_eq_none (by rw [P.len]; omega)]
  · intro h i _ _
    unfold Ad.b
    rw [h]
theorem wi_1 {a : Ad} (h : a.fam = 6) : wiC a al1 128 = decide (a.ip = lo1) := by
  rw [wi6 h rfl]
  exact decide_eq_decide.2 ((ge_all 16 0 (by omega)).trans ip_same)
end Go.Proofs.YtolglcgdophcaaaGreatDoor

/- The reference's Text, in, Unmap, Multi (9); addr.Multi. -/
namespace Go.Proofs.YtolglcgdophcaaaGreatDoor
open Go.RowKit
attribute [local go_sem] ba_get ext_take ext_drop ext_any ba_app

set_option maxRecDepth 100000 in
set_option maxHeartbeats 1000000 in
theorem ratext_any (a : Ad) (w : World) : Calls Tryz.prog 10 #[.agg (adA a)] w (StrPost w (adrT a)) := by
  by_cases h4 : a.fam = 4
  · have i4 : (a.fam == 4) = true := by simpa using h4
    have Hr : Hid (adrT a = qtx a) := Lib.hid (by unfold adrT; rw [if_pos h4])
    clear h4
    go_enter Tryz.func10, Tryz.ntmps10
    go_wp2_with (first
      | ((with_reducible refine wpList_boxB rfl _ _ rfl rfl ?_); intro g w1 hg hB hb hs; clear hg hs; have c0 := hB.cell 0; rw [adA_0] at c0)
      | (with_reducible refine wpList_loadAd (o := ⟨some 6, _, _, _, _, _⟩) rfl _ rfl rfl hB ?_)
      | (go_at_call 27; refine (rqtext_any a _).mono ?_; rintro e w2 ⟨rfl, hb2⟩; have hb02 := bel_tr hb hb2))
    go_ret
    exact ⟨by rw [Hr.out]; rfl, hb02⟩
  · by_cases h6 : a.fam = 6
    · have i4 : (a.fam == 4) = false := by simpa using h4
      have i6 : (a.fam == 6) = true := by simpa using h6
      have Hr : Hid (adrT a = colT a) := Lib.hid (by unfold adrT; rw [if_neg h4, if_pos h6])
      clear h4 h6
      go_enter Tryz.func10, Tryz.ntmps10
      go_wp2_with (first
        | ((with_reducible refine wpList_boxB rfl _ _ rfl rfl ?_); intro g w1 hg hB hb hs; clear hg hs; have c0 := hB.cell 0; rw [adA_0] at c0)
        | (with_reducible refine wpList_loadAd (o := ⟨some 11, _, _, _, _, _⟩) rfl _ rfl rfl hB ?_)
        | (go_at_call 28; refine (rctext_any a _).mono ?_; rintro e w2 ⟨rfl, hb2⟩; have hb02 := bel_tr hb hb2))
      go_ret
      exact ⟨by rw [Hr.out]; rfl, hb02⟩
    · have i4 : (a.fam == 4) = false := by simpa using h4
      have i6 : (a.fam == 6) = false := by simpa using h6
      have Hr : Hid (adrT a = []) := Lib.hid (by unfold adrT; rw [if_neg h4, if_neg h6])
      clear h4 h6
      go_enter Tryz.func10, Tryz.ntmps10
      go_wp2_with (first
        | ((with_reducible refine wpList_boxB rfl _ _ rfl rfl ?_); intro g w1 hg hB hb hs; clear hg hs; have c0 := hB.cell 0; rw [adA_0] at c0))
      go_ret
      exact ⟨by rw [Hr.out]; rfl, hb⟩
def BoPost (w : World) (b : Bool) (e : Ending) (w' : World) : Prop := e = .returned (.bool b) ∧ Below w.heap.size w w'
set_option maxRecDepth 100000 in
set_option maxHeartbeats 1000000 in
theorem rin_any {P : Ad} {s : List UInt8} {n : Nat} (h : -9223372036854775808 ≤ (n : Int) ∧ (n : Int) ≤ 9223372036854775807) (hc : chkP ⟨P, (n : Int), h⟩ = 0) (hp : adrP s = .inr P) (hl : s.length ≤ 1000) (a : Ad) (w : World) :
    Calls Tryz.prog 32 #[.agg (adA a), .string ⟨s.toArray⟩, .int .i64 (n : Int)] w (BoPost w (wiC a P n)) := by
  have Hp := Lib.hid hp
  have H1 := Lib.hid (built_pf P n h)
  have Hr := Lib.hid (withB_c (a := a) hc)
  generalize hF : (⟨P, (n : Int), h⟩ : Pf) = F at *
  clear hp hc hF h
  go_enter Tryz.func32, Tryz.ntmps32
  go_wp2_with (first
    | ((with_reducible refine wpList_boxB rfl _ _ rfl rfl ?_); intro g3 w1 hg hB3 hb1 hs; clear hg hs)
    | (go_at_call 47; refine (raparse_yes rfl Hp.out _ (by omega)).mono ?_; rintro e w2 ⟨rfl, hb2⟩; have hb02 := bel_tr hb1 hb2; have hB32 := hB3.bel hb2)
    | ((with_reducible refine wpList_allocAd (o := ⟨some 7, _, _, _, _, _⟩) rfl rfl ?_); intro g7 w3 hg hB7 hb3 hs; have hg7 : w2.heap.size ≤ g7 := Nat.le_of_eq hg.symm; clear hg hs)
    | ((with_reducible refine wpList_storeAd rfl (.tmp 7) _ rfl rfl rfl hB7 ?_); intro w4 hB74 hS4; have hb24 : Below w2.heap.size w2 w4 := hb3.trans (hS4.below hg7); have hB34 := hB32.bel hb24; have hb04 := bel_tr hb02 hb24)
    | (with_reducible refine wpList_loadAd (o := ⟨some 14, _, _, _, _, _⟩) rfl _ rfl rfl hB34 ?_)
    | (with_reducible refine wpList_loadAd (o := ⟨some 15, _, _, _, _, _⟩) rfl _ rfl rfl hB74 ?_)
    | (with_reducible refine wpList_buildL rfl 55 _ rfl H1.out rfl ?_)
    | (go_at_call 48; refine (rwithin_any a F _).mono ?_; rintro e w5 ⟨rfl, hb5⟩; rw [Hr.out]; have hb05 := bel_tr hb04 hb5))
  go_ret
  exact ⟨rfl, hb05⟩
theorem rin_127 (a : Ad) (w : World) : Calls Tryz.prog 32 #[.agg (adA a), .string ⟨#[49, 50, 55, 46, 48, 46, 48, 46, 48]⟩, .int .i64 8] w (BoPost w (wiC a c127 8)) := rin_any (n := 8) (s := [49, 50, 55, 46, 48, 46, 48, 46, 48]) (by decide) (by decide +kernel) (by decide +kernel) (by decide) a w
theorem rin_169 (a : Ad) (w : World) : Calls Tryz.prog 32 #[.agg (adA a), .string ⟨#[49, 54, 57, 46, 50, 53, 52, 46, 48, 46, 48]⟩, .int .i64 16] w (BoPost w (wiC a c169 16)) := rin_any (n := 16) (s := [49, 54, 57, 46, 50, 53, 52, 46, 48, 46, 48]) (by decide) (by decide +kernel) (by decide +kernel) (by decide) a w
theorem rin_fe8 (a : Ad) (w : World) : Calls Tryz.prog 32 #[.agg (adA a), .string ⟨#[102, 101, 56, 48, 58, 58]⟩, .int .i64 10] w (BoPost w (wiC a cfe8 10)) := rin_any (n := 10) (s := [102, 101, 56, 48, 58, 58]) (by decide) (by decide +kernel) (by decide +kernel) (by decide) a w
theorem rin_1 (a : Ad) (w : World) : Calls Tryz.prog 32 #[.agg (adA a), .string ⟨#[58, 58, 49]⟩, .int .i64 128] w (BoPost w (wiC a al1 128)) := rin_any (n := 128) (s := [58, 58, 49]) (by decide) (by decide +kernel) (by decide +kernel) (by decide) a w
theorem rin_fec (a : Ad) (w : World) : Calls Tryz.prog 32 #[.agg (adA a), .string ⟨#[102, 101, 99, 48, 58, 58]⟩, .int .i64 10] w (BoPost w (wiC a als 10)) := rin_any (n := 10) (s := [102, 101, 99, 48, 58, 58]) (by decide) (by decide +kernel) (by decide +kernel) (by decide) a w
theorem rin_224 (a : Ad) (w : World) : Calls Tryz.prog 32 #[.agg (adA a), .string ⟨#[50, 50, 52, 46, 48, 46, 48, 46, 48]⟩, .int .i64 4] w (BoPost w (wiC a c224 4)) := rin_any (n := 4) (s := [50, 50, 52, 46, 48, 46, 48, 46, 48]) (by decide) (by decide +kernel) (by decide +kernel) (by decide) a w
theorem rin_ff (a : Ad) (w : World) : Calls Tryz.prog 32 #[.agg (adA a), .string ⟨#[102, 102, 48, 48, 58, 58]⟩, .int .i64 8] w (BoPost w (wiC a cff0 8)) := rin_any (n := 8) (s := [102, 102, 48, 48, 58, 58]) (by decide) (by decide +kernel) (by decide +kernel) (by decide) a w
/-- an address of many. -/
def mulA (a : Ad) : Bool := if a.fam = 4 then decide ((a.b 0).toNat / 16 * 16 = 224) else if a.fam = 6 then decide (a.b 0 = 255) else false
theorem mul_eq (a : Ad) : (wiC a c224 4 || wiC a cff0 8) = mulA a := by
  unfold mulA
  by_cases h4 : a.fam = 4
  · rw [if_pos h4, wi_224 h4, wiX (P := cff0) (by rw [h4]; decide), Bool.or_false]
  · by_cases h6 : a.fam = 6
    · rw [if_neg h4, if_pos h6, wiX (P := c224) h4, wi_ff h6, Bool.false_or]
    · rw [if_neg h4, if_neg h6, wiX (P := c224) h4, wiX (P := cff0) h6, Bool.or_false]
set_option maxRecDepth 100000 in
set_option maxHeartbeats 1000000 in
theorem rmulti_any (a : Ad) (w : World) : Calls Tryz.prog 18 #[.agg (adA a)] w (BoPost w (mulA a)) := by
  have Hm := Lib.hid (mul_eq a)
  have H1 := Lib.hid (rin_224 a)
  have H2 := Lib.hid (rin_ff a)
  generalize wiC a c224 4 = p1 at *
  generalize wiC a cff0 8 = p2 at *
  cases p1
  all_goals
    go_enter Tryz.func18, Tryz.ntmps18
    go_wp2_with (first
      | ((with_reducible refine wpList_boxB rfl _ _ rfl rfl ?_); intro g1 w1 hg hB1 hb1 hs; clear hg hs; have HB : Hid (Bk w1 g1 24 (adA a) ∧ Below w.heap.size w w1) := Lib.hid ⟨hB1, hb1⟩; clear hB1 hb1)
      | (with_reducible refine wpList_loadAd (o := ⟨some 3, _, _, _, _, _⟩) rfl _ rfl rfl HB.out.1 ?_)
      | (refine wpList_loadAdG (o := ⟨some 6, _, _, _, _, _⟩) rfl _ rfl rfl HB.out.1 ?_)
      | (go_at_call 32
         first
          | (with_reducible refine (H1.out _).mono ?_)
          | (with_reducible refine (H2.out _).mono ?_)
         rintro e w' ⟨rfl, hb'⟩
         have HB' := Lib.hid (And.intro (HB.out.1.bel hb') (bel_tr HB.out.2 hb'))
         clear HB hb'
         have HB := HB'
         clear HB'))
    go_ret
    exact ⟨by rw [← Hm.out]; rfl, HB.out.2⟩
theorem and_u8_240 (c : UInt8) : bits .and .u8 (c.toNat : Int) 240 = ((c.toNat / 16 * 16 : Nat) : Int) := by
  have : ∀ n : Fin 256, bits .and .u8 (n.val : Int) 240 = ((n.val / 16 * 16 : Nat) : Int) := by decide +kernel
  exact this ⟨c.toNat, c.toNat_lt⟩
theorem u8_eqI (c d : UInt8) : ((c.toNat : Int) == (d.toNat : Int)) = decide (c = d) := by
  rw [Bool.eq_iff_iff]
  simp only [beq_iff_eq, decide_eq_true_eq]
  constructor
  · intro h; exact UInt8.toNat_inj.1 (by omega)
  · intro h; rw [h]
set_option maxRecDepth 100000 in
set_option maxHeartbeats 1000000 in
theorem multi_any (a : Ad) (w : World) : Calls Tryz.prog 17 #[.agg (adA a)] w (BoPost w (mulA a)) := by
  have hand := and_u8_240 (a.b 0)
  have l0 := u8lt (a.b 0)
  by_cases h4 : a.fam = 4
  · have i4 : (a.fam == 4) = true := by simpa using h4
    have Hr : Hid (mulA a = (((((a.b 0).toNat / 16 * 16 : Nat) : Int)) == 224)) := Lib.hid (by
      unfold mulA; rw [if_pos h4, Bool.eq_iff_iff]; simp only [beq_iff_eq, decide_eq_true_eq]; omega)
    have hx : (((a.b 0).toNat / 16 * 16 : Nat) : Int) < 256 := by omega
    generalize (a.b 0).toNat / 16 * 16 = x at *
    clear h4
    go_enter Tryz.func17, Tryz.ntmps17
    go_wp2_with (first
      | ((with_reducible refine wpList_boxB rfl _ _ rfl rfl ?_); intro g w1 hg hB hb hs; clear hg hs; have c0 := hB.cell 0; rw [adA_0] at c0; have c1 := hB.cell 1; rw [adA_1] at c1))
    go_ret
    exact ⟨by rw [Hr.out]; rfl, hb⟩
  · by_cases h6 : a.fam = 6
    · have i4 : (a.fam == 4) = false := by simpa using h4
      have i6 : (a.fam == 6) = true := by simpa using h6
      have Hr : Hid (mulA a = (((a.b 0).toNat : Int) == 255)) := Lib.hid (by
        unfold mulA; rw [if_neg h4, if_pos h6]; exact (u8_eqI (a.b 0) 255).symm)
      clear h4 h6 hand
      go_enter Tryz.func17, Tryz.ntmps17
      go_wp2_with (first
        | ((with_reducible refine wpList_boxB rfl _ _ rfl rfl ?_); intro g w1 hg hB hb hs; clear hg hs; have c0 := hB.cell 0; rw [adA_0] at c0; have c1 := hB.cell 1; rw [adA_1] at c1))
      go_ret
      exact ⟨by rw [Hr.out]; rfl, hb⟩
    · have i4 : (a.fam == 4) = false := by simpa using h4
      have i6 : (a.fam == 6) = false := by simpa using h6
      have Hr : Hid (mulA a = false) := Lib.hid (by unfold mulA; rw [if_neg h4, if_neg h6])
      clear h4 h6 hand
      go_enter Tryz.func17, Tryz.ntmps17
      go_wp2_with (first
        | ((with_reducible refine wpList_boxB rfl _ _ rfl rfl ?_); intro g w1 hg hB hb hs; clear hg hs; have c0 := hB.cell 0; rw [adA_0] at c0; have c1 := hB.cell 1; rw [adA_1] at c1))
      go_ret
      exact ⟨by rw [Hr.out]; rfl, hb⟩
end Go.Proofs.YtolglcgdophcaaaGreatDoor

/- The reference's Unmap (9). -/
namespace Go.Proofs.YtolglcgdophcaaaGreatDoor
open Go.RowKit
attribute [local go_sem] ba_get ext_take ext_drop ext_any ba_app

theorem ip_16 (a : Ad) : a.ip = [a.b 0, a.b 1, a.b 2, a.b 3, a.b 4, a.b 5, a.b 6, a.b 7, a.b 8, a.b 9, a.b 10, a.b 11, a.b 12, a.b 13, a.b 14, a.b 15] := by
  refine List.ext_getElem? fun i => ?_
  by_cases hi : i < 16
  · rw [a.b_eq hi]
    rcases (show i = 0 ∨ i = 1 ∨ i = 2 ∨ i = 3 ∨ i = 4 ∨ i = 5 ∨ i = 6 ∨ i = 7 ∨ i = 8 ∨ i = 9 ∨ i = 10 ∨ i = 11 ∨ i = 12 ∨ i = 13 ∨ i = 14 ∨ i = 15 by omega) with rfl | rfl | rfl | rfl | rfl | rfl | rfl | rfl | rfl | rfl | rfl | rfl | rfl | rfl | rfl | rfl <;> rfl
  · rw [List.getElem?_eq_none (by rw [a.len]; omega), List.getElem?_eq_none (by simp; omega)]
theorem mapA_ip (a : Ad) : (a.ip == (mapA (ad12 a)).ip) = (a.ip.take 12 == ahd) := by
  have h2 : (mapA (ad12 a)).ip = ahd ++ [a.b 12, a.b 13, a.b 14, a.b 15] := rfl
  have h1 : a.ip = a.ip.take 12 ++ [a.b 12, a.b 13, a.b 14, a.b 15] := by
    rw [ip_16 a]; rfl
  rw [h2, Bool.eq_iff_iff]
  simp only [beq_iff_eq]
  constructor
  · intro h; rw [h]; rfl
  · intro h; rw [h1, h]
set_option maxRecDepth 100000 in
set_option maxHeartbeats 1000000 in
theorem runmap_any (a : Ad) (w : World) : Calls Tryz.prog 14 #[.agg (adA a)] w (AdPost w (unA a)) := by
  have Hm := Lib.hid (show mpA (ad12 a) = mapA (ad12 a) from if_pos rfl)
  have He := Lib.hid (mapA_ip a)
  have Hl := Lib.hid a.len
  have Hl2 := Lib.hid (mapA (ad12 a)).len
  have Hof : Hid (adOf (a.b 12) (a.b 13) (a.b 14) (a.b 15) = ad12 a) := Lib.hid rfl
  have hu : ∀ p q : Bool, (a.fam == 6) = p → (a.ip.take 12 == ahd) = q → unA a = if (p && q) = true then ad12 a else a := by
    intro p q hp hq
    unfold unA mapdB
    rw [hp, hq]
  have Hu := Lib.hid hu
  clear hu
  have l12 := u8lt (a.b 12)
  have l13 := u8lt (a.b 13)
  have l14 := u8lt (a.b 14)
  have l15 := u8lt (a.b 15)
  go_enter Tryz.func14, Tryz.ntmps14
  go_wp2_with (first
    | ((with_reducible refine wpList_boxB rfl _ _ rfl rfl ?_); intro g1 w1 hg hB1 hb1 hs; have hg1 : w.heap.size ≤ g1 := Nat.le_of_eq hg.symm; clear hg hs)
    | ((with_reducible refine wpList_allocAd (o := ⟨some 2, _, _, _, _, _⟩) rfl rfl ?_); intro g2 w2 hg hB2 hb2 hs; have hg2 : w1.heap.size ≤ g2 := Nat.le_of_eq hg.symm; have hB12 := hB1.bel hb2; have hb02 := bel_tr hb1 hb2; have hB : Hid (w.heap.size ≤ g2 ∧ g1 < g2) := Lib.hid ⟨by have := hb1.size; omega, by have := hB1.lt; omega⟩; clear hg hs
       have c13 := hB12.cell 13; rw [adA_13] at c13
       have c14 := hB12.cell 14; rw [adA_14] at c14
       have c15 := hB12.cell 15; rw [adA_15] at c15
       have c16 := hB12.cell 16; rw [adA_16] at c16
       clear hb1 hB1)
    | (go_at_call 30; refine (rof_any (a.b 12) (a.b 13) (a.b 14) (a.b 15) _).mono ?_; rintro e w3 ⟨rfl, hb3⟩; rw [Hof.out]; have hB13 := hB12.bel hb3; have hB23 := hB2.bel hb3; have hb03 := bel_tr hb02 hb3; clear c13 c14 c15 c16; refine hold ?_))
  refine Lib.hid ?_
  clear hB12 hB2 hb3 hb02
  go_wp2_with (first
    | ((with_reducible refine wpList_allocAd (o := ⟨some 3, _, _, _, _, _⟩) rfl rfl ?_); intro g3 w4 hg hB3 hb4 hs; have hg3 : w3.heap.size ≤ g3 := Nat.le_of_eq hg.symm; have hB14 := hB13.bel hb4; have hB24 := hB23.bel hb4; clear hg hs)
    | ((with_reducible refine wpList_storeAd (o := ⟨none, _, _, _, _, _⟩) rfl (.tmp 3) _ rfl rfl rfl hB3 ?_); intro w5 hB35 hS5
       have hB15 := hB14.stays hS5 (by have := hB13.lt; omega)
       have hB25 := hB24.stays hS5 (by have := hB23.lt; omega)
       have hb05 := hb03.trans ((hb4.trans (hS5.below hg3)).mono hb03.size)
       clear hB14 hB24 hB13 hB23 hB3 hS5 hb4 hg3)
    | (with_reducible refine wpList_loadAd (o := ⟨some 22, _, _, _, _, _⟩) rfl _ rfl rfl hB35 ?_)
    | (go_at_call 12; refine (rmap_all (ad12 a) _).mono ?_; rintro e w6 ⟨rfl, hb6⟩; rw [Hm.out]; have hB16 := hB15.bel hb6; have hB26 := hB25.bel hb6; have hB36 := hB35.bel hb6; have hb06 := bel_tr hb05 hb6; refine hold ?_))
  refine Lib.hid ?_
  clear hB15 hB25 hB35 hb6 hb05
  go_wp2_with (first
    | ((with_reducible refine wpList_allocAd (o := ⟨some 4, _, _, _, _, _⟩) rfl rfl ?_); intro g4 w7 hg hB4 hb7 hs; have hg4 : w6.heap.size ≤ g4 := Nat.le_of_eq hg.symm; have hB17 := hB16.bel hb7; have hB27 := hB26.bel hb7; have hB37 := hB36.bel hb7; clear hg hs)
    | ((with_reducible refine wpList_storeAd (o := ⟨none, _, _, _, _, _⟩) rfl (.tmp 4) _ rfl rfl rfl hB4 ?_); intro w8 hB48 hS8
       have hB18 := hB17.stays hS8 (by have := hB16.lt; omega)
       have hB28 := hB27.stays hS8 (by have := hB26.lt; omega)
       have hB38 := hB37.stays hS8 (by have := hB36.lt; omega)
       have hb08 := hb06.trans ((hb7.trans (hS8.below hg4)).mono hb06.size)
       clear hB17 hB27 hB37 hB4 hS8 hb7 hg4 hB16 hB26 hB36 hb06
       refine hold ?_))
  refine Lib.hid ?_
  have d0 := hB18.cell 0
  rw [adA_0] at d0
  cases i6 : (a.fam == 6) <;> cases iq : (a.ip.take 12 == ahd)
  all_goals
    have HU := Lib.hid (Hu.out _ _ i6 iq)
    have Iq := Lib.hid iq
    clear Hu iq
    go_wp2_with (first
      | (refine wpList_guarded (o := ⟨some 29, _, _, _, _, _⟩) rfl ?_; with_reducible refine wpList_loadIp (o := ⟨some 29, _, _, _, _, _⟩) rfl _ rfl rfl hB18 ?_)
      | (refine wpList_guarded (o := ⟨some 31, _, _, _, _, _⟩) rfl ?_; with_reducible refine wpList_loadIp (o := ⟨some 31, _, _, _, _, _⟩) rfl _ rfl rfl hB48 ?_)
      | (refine wpList_guarded (o := ⟨some 32, _, _, _, _, _⟩) rfl ?_; with_reducible refine wpList_eqlIp (o := ⟨some 32, _, _, _, _, _⟩) rfl _ _ rfl rfl rfl Hl.out Hl2.out ?_; rw [He.out, Iq.out])
      | (with_reducible refine wpList_loadAd (o := ⟨some 34, _, _, _, _, _⟩) rfl _ rfl rfl hB38 ?_)
      | (with_reducible refine wpList_loadAd (o := ⟨some 35, _, _, _, _, _⟩) rfl _ rfl rfl hB18 ?_)
      | ((with_reducible refine wpList_storeAd (o := ⟨none, _, _, _, _, _⟩) rfl (.tmp 2) _ rfl rfl rfl hB28 ?_); intro w9 hB9 hS9))
    exact ret_ad Tryz.results14 rfl hB9 rfl ⟨by rw [HU.out]; rfl, hb08.trans (hS9.below hB.out.1)⟩
end Go.Proofs.YtolglcgdophcaaaGreatDoor

/- The reference's Scope (9). -/
namespace Go.Proofs.YtolglcgdophcaaaGreatDoor
open Go.RowKit
attribute [local go_sem] ba_get ext_take ext_drop ext_any ba_app

theorem bo_of {P : Program} {f : FuncId} {args : Array Value} {w : World} {p q : Bool} (h : p = q) (hc : Calls P f args w (BoPost w p)) : Calls P f args w (BoPost w q) := by subst h; exact hc
set_option maxRecDepth 100000 in
set_option maxHeartbeats 1000000 in
theorem rscope4_any (a : Ad) (w : World) (h4 : a.fam = 4) : Calls Tryz.prog 16 #[.agg (adA a)] w (InPost w (sc4 a)) := by
  have i6 : (a.fam == 6) = false := by rw [h4]; rfl
  have n4 : (a.fam != 4) = false := by rw [h4]; rfl
  have E3 : Hid (wiC a cfe8 10 = false) := Lib.hid (wiX (by rw [h4]; decide))
  have E4 : Hid (wiC a al1 128 = false) := Lib.hid (wiX (by rw [h4]; decide))
  have E5 : Hid (wiC a als 10 = false) := Lib.hid (wiX (by rw [h4]; decide))
  have hr : ∀ p q : Bool, wiC a c127 8 = p → wiC a c169 16 = q → sc4 a = if (p || q) = true then 2 else 14 := by
    intro p q hp hq
    rw [← hp, ← hq, wi_127 h4, wi_169 h4]
    unfold sc4
    have e1 : (((a.b 0).toNat : Int) == 127) = decide (a.b 0 = 127) := u8_eqI (a.b 0) 127
    have e2 : (((a.b 0).toNat : Int) == 169) = decide (a.b 0 = 169) := u8_eqI (a.b 0) 169
    have e3 : (((a.b 1).toNat : Int) == 254) = decide (a.b 1 = 254) := u8_eqI (a.b 1) 254
    rw [e1, e2, e3]
    by_cases k1 : a.b 0 = 127
    · simp [k1]
    · by_cases k2 : a.b 0 = 169
      · by_cases k3 : a.b 1 = 254 <;> simp [k2, k3]
      · simp [k1, k2]
  have Hr := Lib.hid hr
  clear hr h4
  cases p1 : wiC a c127 8 <;> cases p2 : wiC a c169 16
  all_goals
    have HR := Lib.hid (Hr.out _ _ p1 p2)
    have E1 := Lib.hid p1
    have E2 := Lib.hid p2
    clear Hr p1 p2
    go_enter Tryz.func16, Tryz.ntmps16
    go_wp2_with (first
      | ((with_reducible refine wpList_boxB rfl _ _ rfl rfl ?_); intro g w1 hg hB1 hb1 hs; clear hg hs; have c0 := hB1.cell 0; rw [adA_0] at c0))
    have x0 := fun x : BelT w1 => x.cell c0
    refine wp_region_bel (by kernel_rfl) (by kernel_rfl) ?_
    repeat (first
      | go_big_quiet_skip
      | (go_big_quiet_want; (go_big_quiet_op; first | go_big_quiet_on)))
    refine wpQuiet_nil ?_
    rintro _ ⟨x, rfl⟩
    have HB : Hid (Bk x.at_ g 24 (adA a) ∧ Below w.heap.size w x.at_) := Lib.hid ⟨hB1.bel x.bel, bel_tr hb1 x.bel⟩
    have c0 := HB.out.1.cell 0
    rw [adA_0] at c0
    clear hB1 hb1 x0
    go_wp2_with (first
      | (with_reducible refine wpList_loadAd (o := ⟨some 40, _, _, _, _, _⟩) rfl _ rfl rfl HB.out.1 ?_)
      | (refine wpList_loadAdG (o := ⟨some 43, _, _, _, _, _⟩) rfl _ rfl rfl HB.out.1 ?_)
      | (refine wpList_loadAdG (o := ⟨some 47, _, _, _, _, _⟩) rfl _ rfl rfl HB.out.1 ?_)
      | (refine wpList_loadAdG (o := ⟨some 51, _, _, _, _, _⟩) rfl _ rfl rfl HB.out.1 ?_)
      | (with_reducible refine wpList_loadAd (o := ⟨some 55, _, _, _, _, _⟩) rfl _ rfl rfl HB.out.1 ?_)
      | (go_at_call 32
         first
          | (with_reducible refine (bo_of E1.out (rin_127 a _)).mono ?_)
          | (with_reducible refine (bo_of E2.out (rin_169 a _)).mono ?_)
          | (with_reducible refine (bo_of E3.out (rin_fe8 a _)).mono ?_)
          | (with_reducible refine (bo_of E4.out (rin_1 a _)).mono ?_)
          | (with_reducible refine (bo_of E5.out (rin_fec a _)).mono ?_)
         rintro e w' ⟨rfl, hb'⟩
         have HB' := Lib.hid (And.intro (HB.out.1.bel hb') (bel_tr HB.out.2 hb'))
         clear HB hb' c0
         have HB := HB'
         clear HB'
         have c0 := HB.out.1.cell 0
         rw [adA_0] at c0))
    go_ret
    exact ⟨by rw [HR.out]; rfl, HB.out.2⟩
theorem ne_of_fam {a : Ad} (h : a.fam = 6) : (!decide (ad12 a = a)) = true := by
  have : ad12 a ≠ a := fun e => by
    have := congrArg Ad.fam e
    rw [h] at this
    cases this
  simp [this]
theorem sc6_map {a : Ad} (hm : mapdB a = true) : sc6 a = sc4 (ad12 a) := by
  have hr : sc6r a = sc4 (ad12 a) := by unfold sc6r; rw [if_pos hm]
  have hq : a.ip.take 12 = ahd := by unfold mapdB at hm; simpa using (Bool.and_eq_true_iff.1 hm).2
  have b0 : a.b 0 = 0 := by
    have := congrArg (fun l => l[0]?) hq
    rw [List.getElem?_take_of_lt (by omega), a.b_eq (by omega)] at this
    injection this
  have b10 : a.b 10 = 255 := by
    have := congrArg (fun l => l[10]?) hq
    rw [List.getElem?_take_of_lt (by omega), a.b_eq (by omega)] at this
    injection this
  have hl : (a.ip == lo1) = false := by
    cases h : (a.ip == lo1) with
    | false => rfl
    | true =>
      have h := eq_of_beq h
      have := congrArg (fun l => l[10]?) h
      rw [a.b_eq (by omega), b10] at this
      injection this with this
      cases this
  unfold sc6
  rw [b0, hl, hr]
  rfl
set_option maxRecDepth 100000 in
set_option maxHeartbeats 1000000 in
theorem rscope_any (a : Ad) (w : World) : Calls Tryz.prog 16 #[.agg (adA a)] w (InPost w (scoA a)) := by
  by_cases h4 : a.fam = 4
  · have := rscope4_any a w h4
    unfold scoA
    rw [if_pos h4]
    exact this
  have n4 : (a.fam != 4) = true := by simpa using h4
  by_cases h6 : a.fam = 6
  · have i6 : (a.fam == 6) = true := by simpa using h6
    have n6 : (a.fam != 6) = false := by simp [h6]
    have hs : scoA a = sc6 a := by unfold scoA; rw [if_neg h4, if_pos h6]
    cases hm : mapdB a with
    | true =>
      have Hu : Hid (unA a = ad12 a) := Lib.hid (by unfold unA; rw [if_pos hm])
      have Hn := Lib.hid (ne_of_fam h6)
      have HR : Hid (scoA a = sc4 (ad12 a)) := Lib.hid (hs.trans (sc6_map hm))
      clear hm hs h4 h6
      go_enter Tryz.func16, Tryz.ntmps16
      go_wp2_with (first
        | ((with_reducible refine wpList_boxB rfl _ _ rfl rfl ?_); intro g w1 hg hB1 hb1 hs; clear hg hs; have c0 := hB1.cell 0; rw [adA_0] at c0))
      have x0 := fun x : BelT w1 => x.cell c0
      have hR := hB1.rangeAd
      have HU : Hid (∀ w, Calls Tryz.prog 14 #[.agg (adA a)] w (AdPost w (ad12 a))) := Lib.hid (fun w => by have := runmap_any a w; rw [Hu.out] at this; exact this)
      refine wp_region_bel (by kernel_rfl) (by kernel_rfl) ?_
      repeat (first
        | go_big_quiet_skip
        | (go_big_quiet_want; first
            | (refine quiet_loadAd _ rfl rfl hR (by simp only [Act.put, List.setIfInBounds_toArray, List.set_cons_succ, List.set_cons_zero]; exact rfl) ?_; go_big_quiet_on)
            | (refine quiet_neqAd _ _ rfl rfl rfl Hn.out (by simp only [Act.put, List.setIfInBounds_toArray, List.set_cons_succ, List.set_cons_zero]; exact rfl) ?_; go_big_quiet_on)
            | (go_big_quiet_op; first | go_big_quiet_on | go_big_quiet_call ((go_at_call 14; refine bel_call (HU.out _))))))
      refine wpQuiet_nil ?_
      rintro _ ⟨x, rfl⟩
      have hB2 := hB1.bel x.bel
      have hb2 := bel_tr hb1 x.bel
      clear hB1 hb1 x0
      go_wp2_with (first
        | (with_reducible refine wpList_loadAd (o := ⟨some 12, _, _, _, _, _⟩) rfl _ rfl rfl hB2 ?_)
        | (go_at_call 14; refine (HU.out _).mono ?_; rintro e w3 ⟨rfl, hb3⟩)
        | (go_at_call 16; refine (rscope4_any (ad12 a) _ rfl).mono ?_; rintro e w4 ⟨rfl, hb4⟩))
      go_ret
      exact ⟨by rw [HR.out]; rfl, bel_tr (bel_tr hb2 hb3) hb4⟩
    | false =>
      have Hu : Hid (unA a = a) := Lib.hid (by unfold unA; rw [if_neg (by rw [hm]; decide)])
      have HU : Hid (∀ w, Calls Tryz.prog 14 #[.agg (adA a)] w (AdPost w a)) := Lib.hid (fun w => by have := runmap_any a w; rw [Hu.out] at this; exact this)
      have hr : ∀ p3 p4 p5 : Bool, (((a.b 0).toNat : Int) == 255) = false → wiC a cfe8 10 = p3 → wiC a al1 128 = p4 → wiC a als 10 = p5 → scoA a = if (p3 || p4) = true then 2 else if p5 = true then 5 else 14 := by
        intro p3 p4 p5 k h3 h4 h5
        rw [hs, ← h3, ← h4, ← h5, wi_fe8 h6, wi_1 h6, wi_fec h6]
        unfold sc6 sc6r
        have e2 : (((a.b 0).toNat : Int) == 254) = decide (a.b 0 = 254) := u8_eqI (a.b 0) 254
        have e3 : (a.ip == lo1) = decide (a.ip = lo1) := by
          rw [Bool.eq_iff_iff]; simp
        have e4 : ((q64 a : Int) == 128) = decide ((a.b 1).toNat / 64 * 64 = 128) := by
          unfold q64; rw [Bool.eq_iff_iff]; simp only [beq_iff_eq, decide_eq_true_eq]; omega
        have e5 : ((q64 a : Int) == 192) = decide ((a.b 1).toNat / 64 * 64 = 192) := by
          unfold q64; rw [Bool.eq_iff_iff]; simp only [beq_iff_eq, decide_eq_true_eq]; omega
        rw [k, e2, e3, e4, e5, hm]
        by_cases k1 : a.ip = lo1
        · simp [k1]
        · by_cases k2 : a.b 0 = 254
          · by_cases k3 : (a.b 1).toNat / 64 * 64 = 128
            · simp [k1, k2, k3]
            · by_cases k4 : (a.b 1).toNat / 64 * 64 = 192 <;> simp [k1, k2, k3, k4]
          · simp [k1, k2]
      have Hr := Lib.hid hr
      have hr5 : (((a.b 0).toNat : Int) == 255) = true → scoA a = (((a.b 1).toNat % 16 : Nat) : Int) := by
        intro k; rw [hs]; unfold sc6; rw [if_pos k]
      have Hr5 := Lib.hid hr5
      have E1 : Hid (wiC a c127 8 = false) := Lib.hid (wiX (by rw [h6]; decide))
      have E2 : Hid (wiC a c169 16 = false) := Lib.hid (wiX (by rw [h6]; decide))
      clear hr hr5 hs hm h4 h6 Hu
      cases i5 : (((a.b 0).toNat : Int) == 255) with
      | true =>
        have HR := Lib.hid (Hr5.out i5)
        have hx : (((a.b 1).toNat % 16 : Nat) : Int) < 16 := by omega
        have hx1 : Hid ((wrap64 ((a.b 1).toNat : Int)).tmod 16 = (((a.b 1).toNat % 16 : Nat) : Int)) := Lib.hid (by
          have hl := (a.b 1).toNat_lt
          have e : wrap64 ((a.b 1).toNat : Int) = ((a.b 1).toNat : Int) := by unfold wrap64; omega
          rw [e, Int.tmod_eq_emod_of_nonneg (by omega)]
          omega)
        clear Hr Hr5
        go_enter Tryz.func16, Tryz.ntmps16
        go_wp2_with (first
          | ((with_reducible refine wpList_boxB rfl _ _ rfl rfl ?_); intro g w1 hg hB1 hb1 hs; clear hg hs; have c0 := hB1.cell 0; rw [adA_0] at c0))
        have x0 := fun x : BelT w1 => x.cell c0
        have hR := hB1.rangeAd
        refine wp_region_bel (by kernel_rfl) (by kernel_rfl) ?_
        repeat (first
          | go_big_quiet_skip
          | (go_big_quiet_want; first
              | (refine quiet_loadAd _ rfl rfl hR (by simp only [Act.put, List.setIfInBounds_toArray, List.set_cons_succ, List.set_cons_zero]; exact rfl) ?_; go_big_quiet_on)
              | (refine quiet_neqAd _ _ rfl rfl rfl (r := false) (by simp) (by simp only [Act.put, List.setIfInBounds_toArray, List.set_cons_succ, List.set_cons_zero]; exact rfl) ?_; go_big_quiet_on)
              | (go_big_quiet_op; first | go_big_quiet_on | go_big_quiet_call ((go_at_call 14; refine bel_call (HU.out _))))))
        refine wpQuiet_nil ?_
        rintro _ ⟨x, rfl⟩
        have hB2 := hB1.bel x.bel
        have hb2 := bel_tr hb1 x.bel
        have c0 := hB2.cell 0
        rw [adA_0] at c0
        have c1 := hB2.cell 1
        rw [adA_1] at c1
        have c2 := hB2.cell 2
        rw [adA_2] at c2
        clear hB1 hb1 x0
        go_wp2
        go_ret
        exact ⟨by rw [HR.out, ← hx1.out]; rfl, hb2⟩
      | false =>
        have I5 := Lib.hid i5
        clear Hr5
        cases p3 : wiC a cfe8 10 <;> cases p4 : wiC a al1 128 <;> cases p5 : wiC a als 10
        all_goals
          have HR := Lib.hid (Hr.out _ _ _ I5.out p3 p4 p5)
          have E3 := Lib.hid p3
          have E4 := Lib.hid p4
          have E5 := Lib.hid p5
          clear Hr p3 p4 p5
          go_enter Tryz.func16, Tryz.ntmps16
          go_wp2_with (first
            | ((with_reducible refine wpList_boxB rfl _ _ rfl rfl ?_); intro g w1 hg hB1 hb1 hs; clear hg hs; have c0 := hB1.cell 0; rw [adA_0] at c0))
          have x0 := fun x : BelT w1 => x.cell c0
          have hR := hB1.rangeAd
          refine wp_region_bel (by kernel_rfl) (by kernel_rfl) ?_
          repeat (first
            | go_big_quiet_skip
            | (go_big_quiet_want; first
                | (refine quiet_loadAd _ rfl rfl hR (by simp only [Act.put, List.setIfInBounds_toArray, List.set_cons_succ, List.set_cons_zero]; exact rfl) ?_; go_big_quiet_on)
                | (refine quiet_neqAd _ _ rfl rfl rfl (r := false) (by simp) (by simp only [Act.put, List.setIfInBounds_toArray, List.set_cons_succ, List.set_cons_zero]; exact rfl) ?_; go_big_quiet_on)
                | (go_big_quiet_op; first | go_big_quiet_on | go_big_quiet_call ((go_at_call 14; refine bel_call (HU.out _))))))
          refine wpQuiet_nil ?_
          rintro _ ⟨x, rfl⟩
          have HB : Hid (Bk x.at_ g 24 (adA a) ∧ Below w.heap.size w x.at_) := Lib.hid ⟨hB1.bel x.bel, bel_tr hb1 x.bel⟩
          have c0 := HB.out.1.cell 0
          rw [adA_0] at c0
          have c1 := HB.out.1.cell 1
          rw [adA_1] at c1
          clear hB1 hb1 x0
          go_wp2_with (first
            | (with_reducible refine wpList_loadAd (o := ⟨some 40, _, _, _, _, _⟩) rfl _ rfl rfl HB.out.1 ?_)
            | (refine wpList_loadAdG (o := ⟨some 43, _, _, _, _, _⟩) rfl _ rfl rfl HB.out.1 ?_)
            | (refine wpList_loadAdG (o := ⟨some 47, _, _, _, _, _⟩) rfl _ rfl rfl HB.out.1 ?_)
            | (refine wpList_loadAdG (o := ⟨some 51, _, _, _, _, _⟩) rfl _ rfl rfl HB.out.1 ?_)
            | (with_reducible refine wpList_loadAd (o := ⟨some 55, _, _, _, _, _⟩) rfl _ rfl rfl HB.out.1 ?_)
            | (go_at_call 32
               first
                | (with_reducible refine (bo_of E1.out (rin_127 a _)).mono ?_)
                | (with_reducible refine (bo_of E2.out (rin_169 a _)).mono ?_)
                | (with_reducible refine (bo_of E3.out (rin_fe8 a _)).mono ?_)
                | (with_reducible refine (bo_of E4.out (rin_1 a _)).mono ?_)
                | (with_reducible refine (bo_of E5.out (rin_fec a _)).mono ?_)
               rintro e w' ⟨rfl, hb'⟩
               have HB' := Lib.hid (And.intro (HB.out.1.bel hb') (bel_tr HB.out.2 hb'))
               clear HB hb' c0 c1
               have HB := HB'
               clear HB'
               have c0 := HB.out.1.cell 0
               rw [adA_0] at c0
               have c1 := HB.out.1.cell 1
               rw [adA_1] at c1))
          go_ret
          exact ⟨by rw [HR.out]; rfl, HB.out.2⟩
  · have i6 : (a.fam == 6) = false := by simpa using h6
    have n6 : (a.fam != 6) = true := by simpa using h6
    have HR : Hid (scoA a = 0) := Lib.hid (by unfold scoA; rw [if_neg h4, if_neg h6])
    clear h4 h6
    go_enter Tryz.func16, Tryz.ntmps16
    go_wp2_with (first
      | ((with_reducible refine wpList_boxB rfl _ _ rfl rfl ?_); intro g w1 hg hB1 hb1 hs; clear hg hs; have c0 := hB1.cell 0; rw [adA_0] at c0))
    have x0 := fun x : BelT w1 => x.cell c0
    refine wp_region_bel (by kernel_rfl) (by kernel_rfl) ?_
    repeat (first
      | go_big_quiet_skip
      | (go_big_quiet_want; (go_big_quiet_op; first | go_big_quiet_on)))
    refine wpQuiet_nil ?_
    rintro _ ⟨x, rfl⟩
    have hB2 := hB1.bel x.bel
    have hb2 := bel_tr hb1 x.bel
    have c0 := hB2.cell 0
    rw [adA_0] at c0
    clear hB1 hb1 x0
    go_wp2
    go_ret
    exact ⟨by rw [HR.out]; rfl, hb2⟩
end Go.Proofs.YtolglcgdophcaaaGreatDoor

/- AddrTells: what is asked of any address, by the program and by the reference. -/
namespace Go.Proofs.YtolglcgdophcaaaGreatDoor
open Go.RowKit
attribute [local go_sem] ba_get ext_take ext_drop ext_any ba_app

theorem rev_b9 (a : Ad) : (revA a).length ≤ 1000000000 := by
  rw [revA_len]
  split
  · omega
  · split <;> omega
theorem exact_rev (a : Ad) (va vb : Value) (w : World) (ha : Sl w 1 va (revA a).length ((revA a).map stv)) (hb : Sl w 1 vb (revA a).length ((revA a).map stv)) : Calls Tryz.prog 19 #[va, vb] w (BoPost w true) := by
  have := exact_any (revA a) (revA a) va vb w ha hb (rev_b9 a)
  rw [decide_eq_true rfl] at this
  exact this
set_option maxRecDepth 100000 in
set_option maxHeartbeats 4000000 in
theorem addrTells_walk (w : World) (ht : Tab w) (hn : TabN w) (hm : MaxI w) (hT : TabA w) (a : Ad) : Calls Tryz.prog 3 #[.agg (adA a)] w (Good w) := by
  have Ht := Lib.hid ht
  have Hn := Lib.hid hn
  have Hm := Lib.hid hm
  have HT := Lib.hid hT
  clear ht hn hm hT
  go_enter Tryz.func3, Tryz.ntmps3
  go_wp2_with (first
    | ((with_reducible refine wpList_boxB rfl _ _ rfl rfl ?_); intro g1 w1 hg hB1 hb1 hs; clear hg hs))
  have hR1 : ∀ w', Below w1.heap.size w1 w' → w'.rangeAt g1 0 (adL a) := fun w' h => (hB1.bel h).rangeAd
  clear hB1
  refine wp_region_held (S := fun w' => Below w1.heap.size w1 w') (by kernel_rfl) ?_
  refine wpAnyH_all (rs := [0]) (by kernel_rfl) (by decide) ?_
  intro i hi
  obtain rfl := List.mem_singleton.1 hi
  refine wpOp_callM (o := ⟨some 3, Op.call { callee := Callee.value (Operand.func 4), args := #[], argTypes := #[] }, _, _, _, none⟩) rfl (by rfl) (by go_simp) (works09_any _ (Ht.out.below (hb1.drew)) (Hn.out.below (hb1.drew)) (Hm.out.below (hb1.drew)) (HT.out.below (hb1.drew))) ?_
  rintro e x1 ⟨rfl, hx1⟩
  have hx1 := bel_drew hx1
  refine ⟨_, rfl, ?_⟩
  show _ ∧ _
  refine ⟨hx1, ?_⟩
  simp only [Act.put, List.setIfInBounds_toArray, List.set_cons_zero, List.set_cons_succ]
  refine wpAnyH_take (i := 1) (oi := ⟨some 4, Op.move (Operand.tmp 3), _, _, _, none⟩) (v := Value.bool true) rfl (by kernel_rfl) (by kernel_rfl) (by kernel_rfl) (fun _ _ _ h => h) (Or.inl ⟨by rfl, fun w' hS' => by go_simp⟩) hx1 ?_
  simp only [Act.put, List.setIfInBounds_toArray, List.set_cons_zero, List.set_cons_succ]
  refine wpAnyH_take (i := 2) (oi := ⟨some 5, Op.load 24 (Operand.tmp 1), _, _, _, some (1 , true)⟩) (v := Value.agg (adA a)) rfl (by kernel_rfl) (by kernel_rfl) (by kernel_rfl) (fun _ _ _ h => h) (yieldsIf_loadAd (by rfl) _ rfl rfl hR1) hx1 ?_
  simp only [Act.put, List.setIfInBounds_toArray, List.set_cons_zero, List.set_cons_succ]
  refine wpAnyH_take (i := 4) (oi := ⟨some 7, Op.load 24 (Operand.tmp 1), _, _, _, some (1 , true)⟩) (v := Value.agg (adA a)) rfl (by kernel_rfl) (by kernel_rfl) (by kernel_rfl) (fun _ _ _ h => h) (yieldsIf_loadAd (by rfl) _ rfl rfl hR1) hx1 ?_
  simp only [Act.put, List.setIfInBounds_toArray, List.set_cons_zero, List.set_cons_succ]
  refine wpAnyH_all (rs := [3]) (by kernel_rfl) (by decide) ?_
  intro i hi
  obtain rfl := List.mem_singleton.1 hi
  refine wpOp_callM (o := ⟨some 6, Op.call { callee := Callee.value (Operand.func 5), args := #[Operand.tmp 5], argTypes := #[24] }, _, _, _, some (1 , true)⟩) rfl (by rfl) (by go_simp) (acheck_any a _) ?_
  rintro e x2 ⟨rfl, hy2⟩
  have hx2 := bel_tr hx1 hy2
  refine ⟨_, rfl, ?_⟩
  show _ ∧ _
  refine ⟨hx2, ?_⟩
  simp only [Act.put, List.setIfInBounds_toArray, List.set_cons_zero, List.set_cons_succ]
  refine wpAnyH_all (rs := [5]) (by kernel_rfl) (by decide) ?_
  intro i hi
  obtain rfl := List.mem_singleton.1 hi
  refine wpOp_callM (o := ⟨some 8, Op.call { callee := Callee.value (Operand.func 6), args := #[Operand.tmp 7], argTypes := #[24] }, _, _, _, some (1 , true)⟩) rfl (by rfl) (by go_simp) (rcheckA_any a _) ?_
  rintro e x3 ⟨rfl, hy3⟩
  have hx3 := bel_tr hx2 hy3
  refine ⟨_, rfl, ?_⟩
  show _ ∧ _
  refine ⟨hx3, ?_⟩
  simp only [Act.put, List.setIfInBounds_toArray, List.set_cons_zero, List.set_cons_succ]
  refine wpAnyH_take (i := 6) (oi := ⟨some 9, Op.binOp BinOp.eql 26 (Operand.tmp 6) (Operand.tmp 8) 26, _, _, _, some (1 , true)⟩) (v := Value.bool true) rfl (by kernel_rfl) (by kernel_rfl) (by kernel_rfl) (fun _ _ _ h => h) (Or.inl ⟨by rfl, fun w' hS' => by go_simp⟩) hx3 ?_
  simp only [Act.put, List.setIfInBounds_toArray, List.set_cons_zero, List.set_cons_succ]
  refine wpAnyH_take (i := 7) (oi := ⟨some 10, Op.pick (Operand.tmp 4) (Operand.tmp 9) (Operand.const (Value.bool false)), _, _, _, none⟩) (v := Value.bool true) rfl (by kernel_rfl) (by kernel_rfl) (by kernel_rfl) (fun _ _ _ h => h) (Or.inl ⟨by rfl, fun w' hS' => by go_simp⟩) hx3 ?_
  simp only [Act.put, List.setIfInBounds_toArray, List.set_cons_zero, List.set_cons_succ]
  refine wpAnyH_take (i := 8) (oi := ⟨some 11, Op.move (Operand.tmp 10), _, _, _, none⟩) (v := Value.bool true) rfl (by kernel_rfl) (by kernel_rfl) (by kernel_rfl) (fun _ _ _ h => h) (Or.inl ⟨by rfl, fun w' hS' => by go_simp⟩) hx3 ?_
  simp only [Act.put, List.setIfInBounds_toArray, List.set_cons_zero, List.set_cons_succ]
  refine wpAnyH_take (i := 9) (oi := ⟨some 12, Op.load 24 (Operand.tmp 1), _, _, _, some (8 , true)⟩) (v := Value.agg (adA a)) rfl (by kernel_rfl) (by kernel_rfl) (by kernel_rfl) (fun _ _ _ h => h) (yieldsIf_loadAd (by rfl) _ rfl rfl hR1) hx3 ?_
  simp only [Act.put, List.setIfInBounds_toArray, List.set_cons_zero, List.set_cons_succ]
  refine wpAnyH_take (i := 11) (oi := ⟨some 14, Op.load 24 (Operand.tmp 1), _, _, _, some (8 , true)⟩) (v := Value.agg (adA a)) rfl (by kernel_rfl) (by kernel_rfl) (by kernel_rfl) (fun _ _ _ h => h) (yieldsIf_loadAd (by rfl) _ rfl rfl hR1) hx3 ?_
  simp only [Act.put, List.setIfInBounds_toArray, List.set_cons_zero, List.set_cons_succ]
  refine wpAnyH_all (rs := [10]) (by kernel_rfl) (by decide) ?_
  intro i hi
  obtain rfl := List.mem_singleton.1 hi
  refine wpOp_callM (o := ⟨some 13, Op.call { callee := Callee.value (Operand.func 7), args := #[Operand.tmp 12], argTypes := #[24] }, _, _, _, some (8 , true)⟩) rfl (by rfl) (by go_simp) (abits_any a _) ?_
  rintro e x4 ⟨rfl, hy4⟩
  have hx4 := bel_tr hx3 hy4
  refine ⟨_, rfl, ?_⟩
  show _ ∧ _
  refine ⟨hx4, ?_⟩
  simp only [Act.put, List.setIfInBounds_toArray, List.set_cons_zero, List.set_cons_succ]
  refine wpAnyH_all (rs := [12]) (by kernel_rfl) (by decide) ?_
  intro i hi
  obtain rfl := List.mem_singleton.1 hi
  refine wpOp_callM (o := ⟨some 15, Op.call { callee := Callee.value (Operand.func 8), args := #[Operand.tmp 14], argTypes := #[24] }, _, _, _, some (8 , true)⟩) rfl (by rfl) (by go_simp) (rbits_any a _) ?_
  rintro e x5 ⟨rfl, hy5⟩
  have hx5 := bel_tr hx4 hy5
  refine ⟨_, rfl, ?_⟩
  show _ ∧ _
  refine ⟨hx5, ?_⟩
  simp only [Act.put, List.setIfInBounds_toArray, List.set_cons_zero, List.set_cons_succ]
  refine wpAnyH_take (i := 13) (oi := ⟨some 16, Op.binOp BinOp.eql 3 (Operand.tmp 13) (Operand.tmp 15) 3, _, _, _, some (8 , true)⟩) (v := Value.bool true) rfl (by kernel_rfl) (by kernel_rfl) (by kernel_rfl) (fun _ _ _ h => h) (Or.inl ⟨by rfl, fun w' hS' => by go_simp⟩) hx5 ?_
  simp only [Act.put, List.setIfInBounds_toArray, List.set_cons_zero, List.set_cons_succ]
  refine wpAnyH_take (i := 14) (oi := ⟨some 17, Op.pick (Operand.tmp 11) (Operand.tmp 16) (Operand.const (Value.bool false)), _, _, _, none⟩) (v := Value.bool true) rfl (by kernel_rfl) (by kernel_rfl) (by kernel_rfl) (fun _ _ _ h => h) (Or.inl ⟨by rfl, fun w' hS' => by go_simp⟩) hx5 ?_
  simp only [Act.put, List.setIfInBounds_toArray, List.set_cons_zero, List.set_cons_succ]
  refine wpAnyH_take (i := 15) (oi := ⟨some 18, Op.move (Operand.tmp 17), _, _, _, none⟩) (v := Value.bool true) rfl (by kernel_rfl) (by kernel_rfl) (by kernel_rfl) (fun _ _ _ h => h) (Or.inl ⟨by rfl, fun w' hS' => by go_simp⟩) hx5 ?_
  simp only [Act.put, List.setIfInBounds_toArray, List.set_cons_zero, List.set_cons_succ]
  refine wpAnyH_take (i := 16) (oi := ⟨some 19, Op.load 24 (Operand.tmp 1), _, _, _, some (15 , true)⟩) (v := Value.agg (adA a)) rfl (by kernel_rfl) (by kernel_rfl) (by kernel_rfl) (fun _ _ _ h => h) (yieldsIf_loadAd (by rfl) _ rfl rfl hR1) hx5 ?_
  simp only [Act.put, List.setIfInBounds_toArray, List.set_cons_zero, List.set_cons_succ]
  refine wpAnyH_take (i := 18) (oi := ⟨some 21, Op.load 24 (Operand.tmp 1), _, _, _, some (15 , true)⟩) (v := Value.agg (adA a)) rfl (by kernel_rfl) (by kernel_rfl) (by kernel_rfl) (fun _ _ _ h => h) (yieldsIf_loadAd (by rfl) _ rfl rfl hR1) hx5 ?_
  simp only [Act.put, List.setIfInBounds_toArray, List.set_cons_zero, List.set_cons_succ]
  refine wpAnyH_all (rs := [17]) (by kernel_rfl) (by decide) ?_
  intro i hi
  obtain rfl := List.mem_singleton.1 hi
  refine wpOp_callM (o := ⟨some 20, Op.call { callee := Callee.value (Operand.func 9), args := #[Operand.tmp 19], argTypes := #[24] }, _, _, _, some (15 , true)⟩) rfl (by rfl) (by go_simp) (atext_any a _ (Ht.out.below (bel_tr hb1 hx5)) (Hn.out.below (bel_tr hb1 hx5))) ?_
  rintro e x6 ⟨rfl, hy6⟩
  have hx6 := bel_tr hx5 hy6
  refine ⟨_, rfl, ?_⟩
  show _ ∧ _
  refine ⟨hx6, ?_⟩
  simp only [Act.put, List.setIfInBounds_toArray, List.set_cons_zero, List.set_cons_succ]
  refine wpAnyH_all (rs := [19]) (by kernel_rfl) (by decide) ?_
  intro i hi
  obtain rfl := List.mem_singleton.1 hi
  refine wpOp_callM (o := ⟨some 22, Op.call { callee := Callee.value (Operand.func 10), args := #[Operand.tmp 21], argTypes := #[24] }, _, _, _, some (15 , true)⟩) rfl (by rfl) (by go_simp) (ratext_any a _) ?_
  rintro e x7 ⟨rfl, hy7⟩
  have hx7 := bel_tr hx6 hy7
  refine ⟨_, rfl, ?_⟩
  show _ ∧ _
  refine ⟨hx7, ?_⟩
  simp only [Act.put, List.setIfInBounds_toArray, List.set_cons_zero, List.set_cons_succ]
  refine wpAnyH_take (i := 20) (oi := ⟨some 23, Op.binOp BinOp.eql 9 (Operand.tmp 20) (Operand.tmp 22) 9, _, _, _, some (15 , true)⟩) (v := Value.bool true) rfl (by kernel_rfl) (by kernel_rfl) (by kernel_rfl) (fun _ _ _ h => h) (Or.inl ⟨by rfl, fun w' hS' => by go_simp⟩) hx7 ?_
  simp only [Act.put, List.setIfInBounds_toArray, List.set_cons_zero, List.set_cons_succ]
  refine wpAnyH_take (i := 21) (oi := ⟨some 24, Op.pick (Operand.tmp 18) (Operand.tmp 23) (Operand.const (Value.bool false)), _, _, _, none⟩) (v := Value.bool true) rfl (by kernel_rfl) (by kernel_rfl) (by kernel_rfl) (fun _ _ _ h => h) (Or.inl ⟨by rfl, fun w' hS' => by go_simp⟩) hx7 ?_
  simp only [Act.put, List.setIfInBounds_toArray, List.set_cons_zero, List.set_cons_succ]
  refine wpAnyH_take (i := 22) (oi := ⟨some 25, Op.move (Operand.tmp 24), _, _, _, none⟩) (v := Value.bool true) rfl (by kernel_rfl) (by kernel_rfl) (by kernel_rfl) (fun _ _ _ h => h) (Or.inl ⟨by rfl, fun w' hS' => by go_simp⟩) hx7 ?_
  simp only [Act.put, List.setIfInBounds_toArray, List.set_cons_zero, List.set_cons_succ]
  refine wpAnyH_take (i := 23) (oi := ⟨some 26, Op.load 24 (Operand.tmp 1), _, _, _, some (22 , true)⟩) (v := Value.agg (adA a)) rfl (by kernel_rfl) (by kernel_rfl) (by kernel_rfl) (fun _ _ _ h => h) (yieldsIf_loadAd (by rfl) _ rfl rfl hR1) hx7 ?_
  simp only [Act.put, List.setIfInBounds_toArray, List.set_cons_zero, List.set_cons_succ]
  refine wpAnyH_take (i := 25) (oi := ⟨some 28, Op.load 24 (Operand.tmp 1), _, _, _, some (22 , true)⟩) (v := Value.agg (adA a)) rfl (by kernel_rfl) (by kernel_rfl) (by kernel_rfl) (fun _ _ _ h => h) (yieldsIf_loadAd (by rfl) _ rfl rfl hR1) hx7 ?_
  simp only [Act.put, List.setIfInBounds_toArray, List.set_cons_zero, List.set_cons_succ]
  refine wpAnyH_all (rs := [24]) (by kernel_rfl) (by decide) ?_
  intro i hi
  obtain rfl := List.mem_singleton.1 hi
  refine wpOp_callM (o := ⟨some 27, Op.call { callee := Callee.value (Operand.func 11), args := #[Operand.tmp 26], argTypes := #[24] }, _, _, _, some (22 , true)⟩) rfl (by rfl) (by go_simp) (amap_all a _) ?_
  rintro e x8 ⟨rfl, hy8⟩
  have hx8 := bel_tr hx7 hy8
  refine ⟨_, rfl, ?_⟩
  show _ ∧ _
  refine ⟨hx8, ?_⟩
  simp only [Act.put, List.setIfInBounds_toArray, List.set_cons_zero, List.set_cons_succ]
  refine wpAnyH_all (rs := [26]) (by kernel_rfl) (by decide) ?_
  intro i hi
  obtain rfl := List.mem_singleton.1 hi
  refine wpOp_callM (o := ⟨some 29, Op.call { callee := Callee.value (Operand.func 12), args := #[Operand.tmp 28], argTypes := #[24] }, _, _, _, some (22 , true)⟩) rfl (by rfl) (by go_simp) (rmap_all a _) ?_
  rintro e x9 ⟨rfl, hy9⟩
  have hx9 := bel_tr hx8 hy9
  refine ⟨_, rfl, ?_⟩
  show _ ∧ _
  refine ⟨hx9, ?_⟩
  simp only [Act.put, List.setIfInBounds_toArray, List.set_cons_zero, List.set_cons_succ]
  refine wpAnyH_take (i := 27) (oi := ⟨some 30, Op.binOp BinOp.eql 24 (Operand.tmp 27) (Operand.tmp 29) 24, _, _, _, some (22 , true)⟩) (v := Value.bool true) rfl (by kernel_rfl) (by kernel_rfl) (by kernel_rfl) (fun _ _ _ h => h) (yieldsIf_eqlAd (by rfl) _ _ rfl rfl rfl (decide_eq_true rfl)) hx9 ?_
  simp only [Act.put, List.setIfInBounds_toArray, List.set_cons_zero, List.set_cons_succ]
  refine wpAnyH_take (i := 28) (oi := ⟨some 31, Op.pick (Operand.tmp 25) (Operand.tmp 30) (Operand.const (Value.bool false)), _, _, _, none⟩) (v := Value.bool true) rfl (by kernel_rfl) (by kernel_rfl) (by kernel_rfl) (fun _ _ _ h => h) (Or.inl ⟨by rfl, fun w' hS' => by go_simp⟩) hx9 ?_
  simp only [Act.put, List.setIfInBounds_toArray, List.set_cons_zero, List.set_cons_succ]
  refine wpAnyH_take (i := 29) (oi := ⟨some 32, Op.move (Operand.tmp 31), _, _, _, none⟩) (v := Value.bool true) rfl (by kernel_rfl) (by kernel_rfl) (by kernel_rfl) (fun _ _ _ h => h) (Or.inl ⟨by rfl, fun w' hS' => by go_simp⟩) hx9 ?_
  simp only [Act.put, List.setIfInBounds_toArray, List.set_cons_zero, List.set_cons_succ]
  refine wpAnyH_take (i := 30) (oi := ⟨some 33, Op.load 24 (Operand.tmp 1), _, _, _, some (29 , true)⟩) (v := Value.agg (adA a)) rfl (by kernel_rfl) (by kernel_rfl) (by kernel_rfl) (fun _ _ _ h => h) (yieldsIf_loadAd (by rfl) _ rfl rfl hR1) hx9 ?_
  simp only [Act.put, List.setIfInBounds_toArray, List.set_cons_zero, List.set_cons_succ]
  refine wpAnyH_take (i := 32) (oi := ⟨some 35, Op.load 24 (Operand.tmp 1), _, _, _, some (29 , true)⟩) (v := Value.agg (adA a)) rfl (by kernel_rfl) (by kernel_rfl) (by kernel_rfl) (fun _ _ _ h => h) (yieldsIf_loadAd (by rfl) _ rfl rfl hR1) hx9 ?_
  simp only [Act.put, List.setIfInBounds_toArray, List.set_cons_zero, List.set_cons_succ]
  refine wpAnyH_all (rs := [31]) (by kernel_rfl) (by decide) ?_
  intro i hi
  obtain rfl := List.mem_singleton.1 hi
  refine wpOp_callM (o := ⟨some 34, Op.call { callee := Callee.value (Operand.func 13), args := #[Operand.tmp 33], argTypes := #[24] }, _, _, _, some (29 , true)⟩) rfl (by rfl) (by go_simp) (unmap_any a _ (HT.out.below (bel_tr hb1 hx9))) ?_
  rintro e x10 ⟨rfl, hy10⟩
  have hx10 := bel_tr hx9 hy10
  refine ⟨_, rfl, ?_⟩
  show _ ∧ _
  refine ⟨hx10, ?_⟩
  simp only [Act.put, List.setIfInBounds_toArray, List.set_cons_zero, List.set_cons_succ]
  refine wpAnyH_all (rs := [33]) (by kernel_rfl) (by decide) ?_
  intro i hi
  obtain rfl := List.mem_singleton.1 hi
  refine wpOp_callM (o := ⟨some 36, Op.call { callee := Callee.value (Operand.func 14), args := #[Operand.tmp 35], argTypes := #[24] }, _, _, _, some (29 , true)⟩) rfl (by rfl) (by go_simp) (runmap_any a _) ?_
  rintro e x11 ⟨rfl, hy11⟩
  have hx11 := bel_tr hx10 hy11
  refine ⟨_, rfl, ?_⟩
  show _ ∧ _
  refine ⟨hx11, ?_⟩
  simp only [Act.put, List.setIfInBounds_toArray, List.set_cons_zero, List.set_cons_succ]
  refine wpAnyH_take (i := 34) (oi := ⟨some 37, Op.binOp BinOp.eql 24 (Operand.tmp 34) (Operand.tmp 36) 24, _, _, _, some (29 , true)⟩) (v := Value.bool true) rfl (by kernel_rfl) (by kernel_rfl) (by kernel_rfl) (fun _ _ _ h => h) (yieldsIf_eqlAd (by rfl) _ _ rfl rfl rfl (decide_eq_true rfl)) hx11 ?_
  simp only [Act.put, List.setIfInBounds_toArray, List.set_cons_zero, List.set_cons_succ]
  refine wpAnyH_take (i := 35) (oi := ⟨some 38, Op.pick (Operand.tmp 32) (Operand.tmp 37) (Operand.const (Value.bool false)), _, _, _, none⟩) (v := Value.bool true) rfl (by kernel_rfl) (by kernel_rfl) (by kernel_rfl) (fun _ _ _ h => h) (Or.inl ⟨by rfl, fun w' hS' => by go_simp⟩) hx11 ?_
  simp only [Act.put, List.setIfInBounds_toArray, List.set_cons_zero, List.set_cons_succ]
  refine wpAnyH_take (i := 36) (oi := ⟨some 39, Op.move (Operand.tmp 38), _, _, _, none⟩) (v := Value.bool true) rfl (by kernel_rfl) (by kernel_rfl) (by kernel_rfl) (fun _ _ _ h => h) (Or.inl ⟨by rfl, fun w' hS' => by go_simp⟩) hx11 ?_
  simp only [Act.put, List.setIfInBounds_toArray, List.set_cons_zero, List.set_cons_succ]
  refine wpAnyH_take (i := 37) (oi := ⟨some 40, Op.load 24 (Operand.tmp 1), _, _, _, some (36 , true)⟩) (v := Value.agg (adA a)) rfl (by kernel_rfl) (by kernel_rfl) (by kernel_rfl) (fun _ _ _ h => h) (yieldsIf_loadAd (by rfl) _ rfl rfl hR1) hx11 ?_
  simp only [Act.put, List.setIfInBounds_toArray, List.set_cons_zero, List.set_cons_succ]
  refine wpAnyH_take (i := 39) (oi := ⟨some 42, Op.load 24 (Operand.tmp 1), _, _, _, some (36 , true)⟩) (v := Value.agg (adA a)) rfl (by kernel_rfl) (by kernel_rfl) (by kernel_rfl) (fun _ _ _ h => h) (yieldsIf_loadAd (by rfl) _ rfl rfl hR1) hx11 ?_
  simp only [Act.put, List.setIfInBounds_toArray, List.set_cons_zero, List.set_cons_succ]
  refine wpAnyH_all (rs := [38]) (by kernel_rfl) (by decide) ?_
  intro i hi
  obtain rfl := List.mem_singleton.1 hi
  refine wpOp_callM (o := ⟨some 41, Op.call { callee := Callee.value (Operand.func 15), args := #[Operand.tmp 40], argTypes := #[24] }, _, _, _, some (36 , true)⟩) rfl (by rfl) (by go_simp) (scope_any a _ (HT.out.below (bel_tr hb1 hx11))) ?_
  rintro e x12 ⟨rfl, hy12⟩
  have hx12 := bel_tr hx11 hy12
  refine ⟨_, rfl, ?_⟩
  show _ ∧ _
  refine ⟨hx12, ?_⟩
  simp only [Act.put, List.setIfInBounds_toArray, List.set_cons_zero, List.set_cons_succ]
  refine wpAnyH_all (rs := [40]) (by kernel_rfl) (by decide) ?_
  intro i hi
  obtain rfl := List.mem_singleton.1 hi
  refine wpOp_callM (o := ⟨some 43, Op.call { callee := Callee.value (Operand.func 16), args := #[Operand.tmp 42], argTypes := #[24] }, _, _, _, some (36 , true)⟩) rfl (by rfl) (by go_simp) (rscope_any a _) ?_
  rintro e x13 ⟨rfl, hy13⟩
  have hx13 := bel_tr hx12 hy13
  refine ⟨_, rfl, ?_⟩
  show _ ∧ _
  refine ⟨hx13, ?_⟩
  simp only [Act.put, List.setIfInBounds_toArray, List.set_cons_zero, List.set_cons_succ]
  refine wpAnyH_take (i := 41) (oi := ⟨some 44, Op.binOp BinOp.eql 3 (Operand.tmp 41) (Operand.tmp 43) 3, _, _, _, some (36 , true)⟩) (v := Value.bool true) rfl (by kernel_rfl) (by kernel_rfl) (by kernel_rfl) (fun _ _ _ h => h) (Or.inl ⟨by rfl, fun w' hS' => by go_simp⟩) hx13 ?_
  simp only [Act.put, List.setIfInBounds_toArray, List.set_cons_zero, List.set_cons_succ]
  refine wpAnyH_take (i := 42) (oi := ⟨some 45, Op.pick (Operand.tmp 39) (Operand.tmp 44) (Operand.const (Value.bool false)), _, _, _, none⟩) (v := Value.bool true) rfl (by kernel_rfl) (by kernel_rfl) (by kernel_rfl) (fun _ _ _ h => h) (Or.inl ⟨by rfl, fun w' hS' => by go_simp⟩) hx13 ?_
  simp only [Act.put, List.setIfInBounds_toArray, List.set_cons_zero, List.set_cons_succ]
  refine wpAnyH_take (i := 43) (oi := ⟨some 46, Op.move (Operand.tmp 45), _, _, _, none⟩) (v := Value.bool true) rfl (by kernel_rfl) (by kernel_rfl) (by kernel_rfl) (fun _ _ _ h => h) (Or.inl ⟨by rfl, fun w' hS' => by go_simp⟩) hx13 ?_
  simp only [Act.put, List.setIfInBounds_toArray, List.set_cons_zero, List.set_cons_succ]
  refine wpAnyH_take (i := 44) (oi := ⟨some 47, Op.load 24 (Operand.tmp 1), _, _, _, some (43 , true)⟩) (v := Value.agg (adA a)) rfl (by kernel_rfl) (by kernel_rfl) (by kernel_rfl) (fun _ _ _ h => h) (yieldsIf_loadAd (by rfl) _ rfl rfl hR1) hx13 ?_
  simp only [Act.put, List.setIfInBounds_toArray, List.set_cons_zero, List.set_cons_succ]
  refine wpAnyH_take (i := 46) (oi := ⟨some 49, Op.load 24 (Operand.tmp 1), _, _, _, some (43 , true)⟩) (v := Value.agg (adA a)) rfl (by kernel_rfl) (by kernel_rfl) (by kernel_rfl) (fun _ _ _ h => h) (yieldsIf_loadAd (by rfl) _ rfl rfl hR1) hx13 ?_
  simp only [Act.put, List.setIfInBounds_toArray, List.set_cons_zero, List.set_cons_succ]
  refine wpAnyH_all (rs := [45]) (by kernel_rfl) (by decide) ?_
  intro i hi
  obtain rfl := List.mem_singleton.1 hi
  refine wpOp_callM (o := ⟨some 48, Op.call { callee := Callee.value (Operand.func 17), args := #[Operand.tmp 47], argTypes := #[24] }, _, _, _, some (43 , true)⟩) rfl (by rfl) (by go_simp) (multi_any a _) ?_
  rintro e x14 ⟨rfl, hy14⟩
  have hx14 := bel_tr hx13 hy14
  refine ⟨_, rfl, ?_⟩
  show _ ∧ _
  refine ⟨hx14, ?_⟩
  simp only [Act.put, List.setIfInBounds_toArray, List.set_cons_zero, List.set_cons_succ]
  refine wpAnyH_all (rs := [47]) (by kernel_rfl) (by decide) ?_
  intro i hi
  obtain rfl := List.mem_singleton.1 hi
  refine wpOp_callM (o := ⟨some 50, Op.call { callee := Callee.value (Operand.func 18), args := #[Operand.tmp 49], argTypes := #[24] }, _, _, _, some (43 , true)⟩) rfl (by rfl) (by go_simp) (rmulti_any a _) ?_
  rintro e x15 ⟨rfl, hy15⟩
  have hx15 := bel_tr hx14 hy15
  refine ⟨_, rfl, ?_⟩
  show _ ∧ _
  refine ⟨hx15, ?_⟩
  simp only [Act.put, List.setIfInBounds_toArray, List.set_cons_zero, List.set_cons_succ]
  refine wpAnyH_take (i := 48) (oi := ⟨some 51, Op.binOp BinOp.eql 4 (Operand.tmp 48) (Operand.tmp 50) 4, _, _, _, some (43 , true)⟩) (v := Value.bool true) rfl (by kernel_rfl) (by kernel_rfl) (by kernel_rfl) (fun _ _ _ h => h) (Or.inl ⟨by rfl, fun w' hS' => by go_simp⟩) hx15 ?_
  simp only [Act.put, List.setIfInBounds_toArray, List.set_cons_zero, List.set_cons_succ]
  refine wpAnyH_take (i := 49) (oi := ⟨some 52, Op.pick (Operand.tmp 46) (Operand.tmp 51) (Operand.const (Value.bool false)), _, _, _, none⟩) (v := Value.bool true) rfl (by kernel_rfl) (by kernel_rfl) (by kernel_rfl) (fun _ _ _ h => h) (Or.inl ⟨by rfl, fun w' hS' => by go_simp⟩) hx15 ?_
  simp only [Act.put, List.setIfInBounds_toArray, List.set_cons_zero, List.set_cons_succ]
  refine wpAnyH_take (i := 50) (oi := ⟨some 53, Op.move (Operand.tmp 52), _, _, _, none⟩) (v := Value.bool true) rfl (by kernel_rfl) (by kernel_rfl) (by kernel_rfl) (fun _ _ _ h => h) (Or.inl ⟨by rfl, fun w' hS' => by go_simp⟩) hx15 ?_
  simp only [Act.put, List.setIfInBounds_toArray, List.set_cons_zero, List.set_cons_succ]
  refine wpAnyH_take (i := 51) (oi := ⟨some 54, Op.load 24 (Operand.tmp 1), _, _, _, some (50 , true)⟩) (v := Value.agg (adA a)) rfl (by kernel_rfl) (by kernel_rfl) (by kernel_rfl) (fun _ _ _ h => h) (yieldsIf_loadAd (by rfl) _ rfl rfl hR1) hx15 ?_
  simp only [Act.put, List.setIfInBounds_toArray, List.set_cons_zero, List.set_cons_succ]
  refine wpAnyH_take (i := 53) (oi := ⟨some 56, Op.load 24 (Operand.tmp 1), _, _, _, some (50 , true)⟩) (v := Value.agg (adA a)) rfl (by kernel_rfl) (by kernel_rfl) (by kernel_rfl) (fun _ _ _ h => h) (yieldsIf_loadAd (by rfl) _ rfl rfl hR1) hx15 ?_
  simp only [Act.put, List.setIfInBounds_toArray, List.set_cons_zero, List.set_cons_succ]
  refine wpAnyH_all (rs := [52]) (by kernel_rfl) (by decide) ?_
  intro i hi
  obtain rfl := List.mem_singleton.1 hi
  refine wpOp_callM (o := ⟨some 55, Op.call { callee := Callee.value (Operand.func 20), args := #[Operand.tmp 54], argTypes := #[24] }, _, _, _, some (50 , true)⟩) rfl (by rfl) (by go_simp) (areverse_any a _ (Ht.out.below (bel_tr hb1 hx15))) ?_
  rintro e x16 ⟨v1, rfl, ho1, hy16⟩
  have hx16 := bel_tr hx15 hy16
  have sl1 := Lib.hid (Sl.own ho1)
  obtain ⟨a1, c1, rfl, hc1⟩ := sl1.out.any
  clear ho1
  refine ⟨_, rfl, ?_⟩
  show _ ∧ _
  refine ⟨hx16, ?_⟩
  simp only [Act.put, List.setIfInBounds_toArray, List.set_cons_zero, List.set_cons_succ]
  refine wpAnyH_all (rs := [54]) (by kernel_rfl) (by decide) ?_
  intro i hi
  obtain rfl := List.mem_singleton.1 hi
  refine wpOp_callM (o := ⟨some 57, Op.call { callee := Callee.value (Operand.func 21), args := #[Operand.tmp 56], argTypes := #[24] }, _, _, _, some (50 , true)⟩) rfl (by rfl) (by go_simp) (rreverse_any a _) ?_
  rintro e x17 ⟨v2, rfl, ho2, hy17⟩
  have hx17 := bel_tr hx16 hy17
  have sl2 := Lib.hid (Sl.own ho2)
  obtain ⟨a2, c2, rfl, hc2⟩ := sl2.out.any
  have sl1 := Lib.hid (sl1.out.below hy17)
  clear ho2
  refine ⟨_, rfl, ?_⟩
  show _ ∧ _
  refine ⟨hx17, ?_⟩
  simp only [Act.put, List.setIfInBounds_toArray, List.set_cons_zero, List.set_cons_succ]
  refine wpAnyH_all (rs := [55]) (by kernel_rfl) (by decide) ?_
  intro i hi
  obtain rfl := List.mem_singleton.1 hi
  refine wpOp_callM (o := ⟨some 58, Op.call { callee := Callee.value (Operand.func 19), args := #[Operand.tmp 55, Operand.tmp 57], argTypes := #[33, 33] }, _, _, _, some (50 , true)⟩) rfl (by rfl) (by go_simp) (exact_rev a _ _ _ sl1.out sl2.out) ?_
  rintro e x18 ⟨rfl, hy18⟩
  have hx18 := bel_tr hx17 hy18
  refine ⟨_, rfl, ?_⟩
  show _ ∧ _
  refine ⟨hx18, ?_⟩
  simp only [Act.put, List.setIfInBounds_toArray, List.set_cons_zero, List.set_cons_succ]
  refine wpAnyH_take (i := 56) (oi := ⟨some 59, Op.pick (Operand.tmp 53) (Operand.tmp 58) (Operand.const (Value.bool false)), _, _, _, none⟩) (v := Value.bool true) rfl (by kernel_rfl) (by kernel_rfl) (by kernel_rfl) (fun _ _ _ h => h) (Or.inl ⟨by rfl, fun w' hS' => by go_simp⟩) hx18 ?_
  simp only [Act.put, List.setIfInBounds_toArray, List.set_cons_zero, List.set_cons_succ]
  refine wpAnyH_take (i := 57) (oi := ⟨some 2, Op.assign (Operand.tmp 59), _, _, _, none⟩) (v := Value.bool true) rfl (by kernel_rfl) (by kernel_rfl) (by kernel_rfl) (fun _ _ _ h => h) (Or.inl ⟨by rfl, fun w' hS' => by go_simp⟩) hx18 ?_
  simp only [Act.put, List.setIfInBounds_toArray, List.set_cons_zero, List.set_cons_succ]
  refine wpAnyH_done (by kernel_rfl) ?_ _
  go_wp2
  go_ret
  exact ⟨rfl, bel_tr hb1 hx18⟩
end Go.Proofs.YtolglcgdophcaaaGreatDoor
