/- Contracts and plain lemmas of our own, merged. -/
import Derived.Test.YthlnndjkocnfcaaGreatDoorZZDS10
import Derived.Test.YthlnndjkocnfcaaGreatDoorZZDS11
import Derived.Test.YthlnndjkocnfcaaGreatDoorZZDS9
import Derived.Lib.Small
import Derived.Lib.Slices
import Derived.Lib.Walk
/- The contracts of addr.Common and of the reference's bit and Common. -/
namespace Go.Proofs.YthlnndjkocnfcaaGreatDoor
open Go.RowKit
attribute [local go_sem] ba_get ext_take ext_drop ext_any ba_app

set_option maxRecDepth 100000 in
theorem len8_any (x : Int) (w : World) (h0 : 0 ≤ x) (h1 : x ≤ 255) : Calls Tryz.prog 72 #[.int .u8 x] w fun e w' => e = .returned (.int .i64 (Lib.bitLen x.toNat)) ∧ w = w' := by
  have hb := Lib.bitLen_le8 ⟨x.toNat, by omega⟩
  simp only at hb
  have e : wrap64 (Lib.len8 x) = (Lib.bitLen x.toNat : Int) := by
    rw [Lib.len8_of x h0 h1]
    generalize Lib.bitLen x.toNat = L at *
    unfold wrap64
    omega
  have E := Lib.hid e
  clear e hb
  go_enter Tryz.func72, Tryz.ntmps72
  go_wp2
  go_ret
  exact ⟨congrArg (fun z => Ending.returned (Value.int .i64 z)) E.out, rfl⟩
theorem lz8_any (x : Int) (w : World) (h0 : 0 ≤ x) (h1 : x ≤ 255) : Calls Tryz.prog 54 #[.int .u8 x] w fun e w' => e = .returned (.int .i64 ((8 - Lib.bitLen x.toNat : Nat) : Int)) ∧ w = w' := by
  have l := Lib.bitLen_le8 ⟨x.toNat, by omega⟩
  simp only at l
  have e8 : (8 : Int) - (Lib.bitLen x.toNat : Int) = ((8 - Lib.bitLen x.toNat : Nat) : Int) := by omega
  have E8 := Lib.hid e8
  clear e8
  generalize hL : Lib.bitLen x.toNat = L at *
  have hl8 : ∀ w, Calls Tryz.prog 72 #[.int .u8 x] w fun e w' => e = .returned (.int .i64 (L : Int)) ∧ w = w' := fun w => by have := len8_any x w h0 h1; rw [hL] at this; exact this
  have Hl8 := Lib.hid hl8
  clear hl8 hL
  have lz : (L : Int) ≤ 8 := by omega
  go_enter Tryz.func54, Tryz.ntmps54
  go_wp2_with (go_at_call 72; refine (Hl8.out _).mono ?_; rintro e w' ⟨rfl, rfl⟩)
  go_ret
  exact ⟨by rw [← E8.out]; rfl, rfl⟩
theorem xor_u8 (c d : UInt8) : bits .xor .u8 (c.toNat : Int) (d.toNat : Int) = ((c ^^^ d).toNat : Int) := by
  show IntKind.u8.wrap ((BitVec.ofInt 8 (c.toNat : Int) ^^^ BitVec.ofInt 8 (d.toNat : Int)).toNat : Int) = _
  have hc := c.toNat_lt
  have hd := d.toNat_lt
  rw [BitVec.toNat_xor, BitVec.ofInt_natCast, BitVec.ofInt_natCast, BitVec.toNat_ofNat, BitVec.toNat_ofNat, Nat.mod_eq_of_lt hc, Nat.mod_eq_of_lt hd, ← UInt8.toNat_xor]
  have hx := (c ^^^ d).toNat_lt
  generalize (c ^^^ d).toNat = x at *
  simp [IntKind.wrap, IntKind.signed, IntKind.bits]
  omega
def CmRel (w : World) (a b : Ad) (g2 g3 k : Nat) (wr : World) : Prop := Bk wr g2 29 (adA a) ∧ Bk wr g3 29 (adA b) ∧ comA a b = comF a b (8 * (mostA a / 8 - k)) (8 * k) ∧ Below w.heap.size w wr
theorem mostA_8 (a : Ad) : mostA a = 8 * (mostA a / 8) := by unfold mostA; split <;> (try split) <;> rfl
set_option maxRecDepth 100000 in
set_option maxHeartbeats 2000000 in
theorem common_any (a b : Ad) (w : World) : Calls Tryz.prog 30 #[.agg (adA a), .agg (adA b)] w fun e w' => e = .returned (.int .i64 (comA a b : Int)) ∧ Below w.heap.size w w' := by
  by_cases hf : a.fam = b.fam
  · have i0 : (a.fam != b.fam) = false := by simp [hf]
    have hm8 := mostA_8 a
    have hcm : comA a b = comF a b (8 * (mostA a / 8 - 0)) (8 * 0) := by unfold comA; rw [if_pos hf, Nat.sub_zero, ← hm8]
    have Hcm := Lib.hid hcm
    have Hbi := Lib.hid (mostA_int a)
    have hle := mostA_le a
    obtain ⟨M, hM⟩ : ∃ M, mostA a / 8 = M := ⟨_, rfl⟩
    rw [hM] at hm8
    have Hm8 := Lib.hid hm8
    have HM := Lib.hid hM
    have hM16 : M ≤ 16 := by omega
    have hd8 : (mostA a : Int) / 8 = (M : Int) := by omega
    clear hcm hm8 hM hf
    go_enter Tryz.func30, Tryz.ntmps30
    go_wp2_with (first
      | ((with_reducible refine wpList_boxB (o := ⟨some 2, _, _, _, _, _⟩) rfl _ _ rfl rfl ?_); intro g2 w1 hg hB2 hb1 hs; clear hg hs)
      | ((with_reducible refine wpList_boxB (o := ⟨some 3, _, _, _, _, _⟩) rfl _ _ rfl rfl ?_); intro g3 w2 hg hB3 hb2 hs; have hB22 := hB2.bel hb2; have hb02 := bel_tr hb1 hb2
         have c0 := hB22.cell 0
         rw [adA_0] at c0
         have d0 := hB3.cell 0
         rw [adA_0] at d0
         clear hg hs)
      | (with_reducible refine wpList_loadAd (o := ⟨some 13, _, _, _, _, _⟩) rfl _ rfl rfl hB22 ?_)
      | (go_at_call 47; refine (abits_any a _).mono ?_; rintro e w3 ⟨rfl, hb3⟩; rw [Hbi.out]; have hB23 := hB22.bel hb3; have hB33 := hB3.bel hb3; have hb03 := bel_tr hb02 hb3))
    have R0 : CmRel w a b g2 g3 0 w3 := ⟨hB23, hB33, Hcm.out, hb03⟩
    clear hB2 hB22 hB23 hB3 hB33 hb1 hb2 hb3 hb02 hb03 c0 d0
    go_loopw [17] (fun i wr => ∃ k : Nat, k ≤ M ∧ i = .int .i64 k ∧ CmRel w a b g2 g3 k wr) (fun i _ => M - (intOf i).toNat)
    case atStart => exact ⟨0, by omega, rfl, R0⟩
    case round =>
      obtain ⟨k, hk, rfl, r2, r3, hcm, rb⟩ := hrel
      clear R0
      rw [HM.out] at hcm
      by_cases hlt : k < M
      · have j1 : (k : Int) < (M : Int) := by omega
        have j2 : (k : Int) < 16 := by omega
        have c1 := r2.cell (k + 1)
        have d1 := r3.cell (k + 1)
        rw [adA_ip _ (by omega), Nat.add_comm k 1] at c1 d1
        have x1 := fun x : BelT wr => x.cell c1
        have y1 := fun x : BelT wr => x.cell d1
        have hx := xor_u8 (a.b k) (b.b k)
        have hxl := u8lt (a.b k ^^^ b.b k)
        have la := u8lt (a.b k)
        have lb := u8lt (b.b k)
        rw [show 8 * (M - k) = 8 * (M - (k + 1)) + 8 by omega] at hcm
        have Hx0 := Lib.hid (xor_zero (c := a.b k) (d := b.b k))
        have hcl : a.b k = b.b k → comA a b = comF a b (8 * (M - (k + 1))) (8 * (k + 1)) := fun h => by rw [hcm, comF_like h]; rfl
        have hce : a.b k ≠ b.b k → comA a b = 8 * k + (8 - Lib.bitLen (a.b k ^^^ b.b k).toNat) := fun h => by rw [hcm, comF_else h]
        have Hcl := Lib.hid hcl
        have Hce := Lib.hid hce
        clear c1 d1 hcm hcl hce
        generalize a.b k ^^^ b.b k = c at *
        by_cases he : a.b k = b.b k
        · have hc0 : c = 0 := Hx0.out.2 he
          have i1 : (((c.toNat : Nat) : Int) != 0) = false := by rw [hc0]; rfl
          have Hn := Lib.hid (Hcl.out he)
          clear Hcl Hce he hc0
          go_wp2
          refine wp_region_bel (by kernel_rfl) (by kernel_rfl) ?_
          repeat (first
            | go_big_quiet_skip
            | (go_big_quiet_want; (go_big_quiet_op; go_big_quiet_on)))
          refine wpQuiet_nil ?_
          rintro _ ⟨y, rfl⟩
          have HX := Lib.hid (show CmRel w a b g2 g3 (k + 1) y.at_ from ⟨r2.bel y.bel, r3.bel y.bel, by rw [HM.out]; exact Hn.out, bel_tr rb y.bel⟩)
          clear x1 y1
          go_wp2
          go_roundw
          case rel => exact ⟨k + 1, by omega, by go_num, HX.out⟩
          case measure => simp [intOf]; omega
        · have hc0 : c ≠ 0 := fun h => he (Hx0.out.1 h)
          have i1 : (((c.toNat : Nat) : Int) != 0) = true := by
            have : c.toNat ≠ 0 := fun h => hc0 (u8zero.2 h)
            simp; omega
          have Hn := Lib.hid (Hce.out he)
          have hbl := Lib.bitLen_le8 ⟨c.toNat, by have := c.toNat_lt; omega⟩
          simp only at hbl
          have hlz : ∀ w, Calls Tryz.prog 54 #[.int .u8 (c.toNat : Int)] w fun e w' => e = .returned (.int .i64 ((8 - Lib.bitLen c.toNat : Nat) : Int)) ∧ w = w' := fun w => lz8_any (c.toNat : Int) w (by omega) (by omega)
          have Hlz := Lib.hid hlz
          clear Hcl Hce he hc0 hlz
          have hz : ((8 - Lib.bitLen c.toNat : Nat) : Int) ≤ 8 := by omega
          generalize 8 - Lib.bitLen c.toNat = z at *
          go_wp2
          refine wp_region_bel (by kernel_rfl) (by kernel_rfl) ?_
          repeat (first
            | go_big_quiet_skip
            | (go_big_quiet_want; (go_big_quiet_op; go_big_quiet_on)))
          refine wpQuiet_nil ?_
          rintro _ ⟨y, rfl⟩
          have hby := bel_tr rb y.bel
          clear x1 y1
          go_wp2_with (go_at_call 54; refine (Hlz.out _).mono ?_; rintro e w' ⟨rfl, rfl⟩)
          go_ret
          exact ⟨by rw [Hn.out]; first | rfl | (congr 2; omega), hby⟩
      · have hkM : k = M := by omega
        subst hkM
        have j1 : ¬ (k : Int) < (k : Int) := by omega
        have Hf : Hid (comA a b = mostA a) := Lib.hid (by rw [hcm, Nat.sub_self, Nat.mul_zero, comF]; exact Hm8.out.symm)
        clear hcm
        go_wp2
        go_ret
        exact ⟨by rw [Hf.out]; rfl, rb⟩
  · have i0 : (a.fam != b.fam) = true := by simpa using hf
    have Hf : Hid (comA a b = 0) := Lib.hid (by unfold comA; rw [if_neg hf])
    clear hf
    go_enter Tryz.func30, Tryz.ntmps30
    go_wp2_with (first
      | ((with_reducible refine wpList_boxB (o := ⟨some 2, _, _, _, _, _⟩) rfl _ _ rfl rfl ?_); intro g2 w1 hg hB2 hb1 hs; clear hg hs)
      | ((with_reducible refine wpList_boxB (o := ⟨some 3, _, _, _, _, _⟩) rfl _ _ rfl rfl ?_); intro g3 w2 hg hB3 hb2 hs; have hB22 := hB2.bel hb2; have hb02 := bel_tr hb1 hb2
         have c0 := hB22.cell 0
         rw [adA_0] at c0
         have d0 := hB3.cell 0
         rw [adA_0] at d0
         clear hg hs))
    go_ret
    exact ⟨by rw [Hf.out]; rfl, hb02⟩
end Go.Proofs.YthlnndjkocnfcaaGreatDoor

/- The contracts of the reference's bit and Common; Within, both. -/
namespace Go.Proofs.YthlnndjkocnfcaaGreatDoor
open Go.RowKit
attribute [local go_sem] ba_get ext_take ext_drop ext_any ba_app

theorem div_pow2 (x k : Nat) : x / 2 ^ k / 2 = x / 2 ^ (k + 1) := by rw [Nat.div_div_eq_div_mul, Nat.pow_succ]
set_option maxRecDepth 100000 in
set_option maxHeartbeats 2000000 in
theorem rbit_any (a : Ad) (i : Nat) (w : World) (hi : i < 128) : Calls Tryz.prog 41 #[.agg (adA a), .int .i64 (i : Int)] w fun e w' => e = .returned (.int .i64 (bitA a i : Int)) ∧ Below w.heap.size w w' := by
  have t0 : ((i : Int) / 8).toNat = i / 8 := by omega
  have t1 : (i : Int) / 8 = ((i / 8 : Nat) : Int) := by omega
  have t2 : (i : Int) % 8 = ((i % 8 : Nat) : Int) := by omega
  have hq : i / 8 < 16 := by omega
  have hr : i % 8 ≤ 7 := by omega
  have Hfin : Hid (bitA a i = (a.b (i / 8)).toNat / 2 ^ (7 - i % 8) % 2) := Lib.hid rfl
  generalize i / 8 = q at *
  generalize i % 8 = r at *
  have i3 : (0 : Int) ≤ (q : Int) := by omega
  have i4 : (q : Int) < 16 := by omega
  clear t0
  have l0 := u8lt (a.b q)
  go_enter Tryz.func41, Tryz.ntmps41
  go_wp2_with (first
    | ((with_reducible refine wpList_boxB rfl _ _ rfl rfl ?_); intro g w1 hg hB hb hs; clear hg hs
       have c1 := hB.cell (q + 1)
       rw [adA_ip _ hq, Nat.add_comm q 1] at c1))
  generalize (a.b q).toNat = x at *
  go_loop [5, 6] (fun c k => ∃ t : Nat, r + t ≤ 7 ∧ k = .int .i64 ((r + t : Nat) : Int) ∧ c = .int .i64 ((x / 2 ^ t : Nat) : Int)) (fun _ k => 7 - (intOf k).toNat)
  case atStart => exact ⟨0, by omega, congrArg (Value.int .i64) (by omega), by simp⟩
  case round =>
    obtain ⟨t, ht, rfl, rfl⟩ := hrel
    have hx : x / 2 ^ t < 256 := Nat.lt_of_le_of_lt (Nat.div_le_self _ _) (by omega)
    have hd := div_pow2 x t
    by_cases hlt : r + t < 7
    · have hd2 : ((x / 2 ^ t : Nat) : Int) / 2 = ((x / 2 ^ (t + 1) : Nat) : Int) := by omega
      have Hd2 := Lib.hid hd2
      clear hd hd2
      generalize x / 2 ^ t = y at *
      obtain ⟨z, hz⟩ : ∃ z, x / 2 ^ (t + 1) = z := ⟨_, rfl⟩
      rw [hz] at Hd2
      have HZ := Lib.hid hz
      clear hz
      have i5 : ((r + t : Nat) : Int) < 7 := by omega
      obtain ⟨m, hm⟩ : ∃ m, r + t = m := ⟨_, rfl⟩
      rw [hm] at i5 ⊢
      have Hm := Lib.hid hm
      clear hm
      have hz2 := Hd2.out
      clear Hd2
      go_wp2
      go_round
      case rel => exact ⟨t + 1, by have := Hm.out; omega, by have := Hm.out; rw [← this]; go_num, by rw [HZ.out]⟩
      case measure => simp [intOf]; omega
    · have ht7 : r + t = 7 := by omega
      have hd2 : ((x / 2 ^ t : Nat) : Int) % 2 = ((x / 2 ^ t % 2 : Nat) : Int) := by omega
      have Hf : Hid (bitA a i = x / 2 ^ t % 2) := Lib.hid (by rw [Hfin.out, show 7 - r = t by omega])
      have i5 : ¬ ((r + t : Nat) : Int) < 7 := by omega
      rw [ht7] at i5 ⊢
      clear hd
      generalize x / 2 ^ t = y at *
      generalize hz : y % 2 = z at *
      clear hz
      go_wp2
      go_ret
      exact ⟨by rw [Hf.out]; rfl, hb⟩
def RmRel (w : World) (a b : Ad) (g2 g3 k : Nat) (wr : World) : Prop := Bk wr g2 29 (adA a) ∧ Bk wr g3 29 (adA b) ∧ (a.fam = b.fam → comA a b = comF a b (mostA a - k) k) ∧ Below w.heap.size w wr
set_option maxRecDepth 100000 in
set_option maxHeartbeats 4000000 in
theorem rcommon_any (a b : Ad) (w : World) : Calls Tryz.prog 22 #[.agg (adA a), .agg (adA b)] w fun e w' => e = .returned (.int .i64 (comA a b : Int)) ∧ Below w.heap.size w w' := by
  have hle := mostA_le a
  have Hbi := Lib.hid (mostA_int a)
  go_enter Tryz.func22, Tryz.ntmps22
  go_wp2_with (first
    | ((with_reducible refine wpList_boxB (o := ⟨some 2, _, _, _, _, _⟩) rfl _ _ rfl rfl ?_); intro g2 w1 hg hB2 hb1 hs; clear hg hs)
    | ((with_reducible refine wpList_boxB (o := ⟨some 3, _, _, _, _, _⟩) rfl _ _ rfl rfl ?_); intro g3 w2 hg hB3 hb2 hs; have hB22 := hB2.bel hb2; have hb02 := bel_tr hb1 hb2; clear hg hs))
  have R0 : RmRel w a b g2 g3 0 w2 := ⟨hB22, hB3, fun h => by unfold comA; rw [if_pos h, Nat.sub_zero], hb02⟩
  clear hB2 hB22 hB3 hb1 hb2 hb02
  go_loopw [5] (fun i wr => ∃ k : Nat, k ≤ mostA a ∧ (a.fam ≠ b.fam → k = 0) ∧ i = .int .i64 k ∧ RmRel w a b g2 g3 k wr) (fun i _ => mostA a - (intOf i).toNat)
  case atStart => exact ⟨0, by omega, fun _ => rfl, rfl, R0⟩
  case round =>
    obtain ⟨k, hk, hk0, rfl, r2, r3, hcm, rb⟩ := hrel
    clear R0
    have hcs : (k < mostA a ∧ a.fam = b.fam ∧ bitA a k = bitA b k ∧ comA a b = comF a b (mostA a - (k + 1)) (k + 1)) ∨ (¬ k < mostA a ∧ comA a b = k) ∨ (k < mostA a ∧ a.fam ≠ b.fam ∧ comA a b = k) ∨ (k < mostA a ∧ a.fam = b.fam ∧ bitA a k ≠ bitA b k ∧ comA a b = k) := by
      by_cases hf : a.fam = b.fam
      · have h1 := hcm hf
        by_cases hlt : k < mostA a
        · rw [show mostA a - k = (mostA a - (k + 1)) + 1 by omega, comF] at h1
          by_cases hb : bitA a k = bitA b k
          · rw [if_pos hb] at h1; exact .inl ⟨hlt, hf, hb, h1⟩
          · rw [if_neg hb] at h1; exact .inr (.inr (.inr ⟨hlt, hf, hb, h1⟩))
        · rw [show mostA a - k = 0 by omega, comF] at h1
          exact .inr (.inl ⟨hlt, h1⟩)
      · have h1 : comA a b = k := by unfold comA; rw [if_neg hf, hk0 hf]
        by_cases hlt : k < mostA a
        · exact .inr (.inr (.inl ⟨hlt, hf, h1⟩))
        · exact .inr (.inl ⟨hlt, h1⟩)
    have hR2 := r2.rangeAd
    have hR3 := r3.rangeAd
    have c0 := r2.cell 0
    have d0 := r3.cell 0
    rw [adA_0] at c0 d0
    have x0 := fun x : BelT wr => x.cell c0
    have y0 := fun x : BelT wr => x.cell d0
    have HA : Hid (∀ x : BelT wr, Calls Tryz.prog 40 #[.agg (adA a)] x.at_ fun e w' => e = .returned (.int .i64 (mostA a : Int)) ∧ Below x.at_.heap.size x.at_ w') := Lib.hid (fun x => by have := rbits_any a x.at_; rw [Hbi.out] at this; exact this)
    have HB : Hid (k < mostA a → ∀ x : BelT wr, Calls Tryz.prog 41 #[.agg (adA a), .int .i64 (k : Int)] x.at_ fun e w' => e = .returned (.int .i64 (bitA a k : Int)) ∧ Below x.at_.heap.size x.at_ w') := Lib.hid (fun h x => rbit_any a k x.at_ (by omega))
    have HC : Hid (k < mostA a → ∀ x : BelT wr, Calls Tryz.prog 41 #[.agg (adA b), .int .i64 (k : Int)] x.at_ fun e w' => e = .returned (.int .i64 (bitA b k : Int)) ∧ Below x.at_.heap.size x.at_ w') := Lib.hid (fun h x => rbit_any b k x.at_ (by omega))
    clear c0 d0 hcm hk0
    rcases hcs with ⟨hlt, hf, hb, hn⟩ | ⟨hlt, hn⟩ | ⟨hlt, hf, hn⟩ | ⟨hlt, hf, hb, hn⟩
    · have Hn := Lib.hid hn
      have Hf := Lib.hid hf
      have hda : decide ((k : Int) < (mostA a : Int)) = true := decide_eq_true (by omega)
      have i1 : (a.fam == b.fam) = true := by simpa using hf
      have i2 : (((bitA a k : Nat) : Int) == ((bitA b k : Nat) : Int)) = true := by simp [hb]
      have HB' := Lib.hid (HB.out hlt)
      have HC' := Lib.hid (HC.out hlt)
      clear hn hf hb HB HC
      generalize bitA a k = ba at *
      generalize bitA b k = bb at *
      go_wp2
      refine wp_region_bel (by kernel_rfl) (by kernel_rfl) ?_
      repeat (first
        | go_big_quiet_skip
        | (go_big_quiet_want; first
            | ((with_reducible refine quiet_loadAd _ rfl rfl hR2 (by simp only [Act.put, List.setIfInBounds_toArray, List.set_cons_succ, List.set_cons_zero]; exact rfl) ?_); go_big_quiet_on)
            | ((with_reducible refine quiet_loadAd _ rfl rfl hR3 (by simp only [Act.put, List.setIfInBounds_toArray, List.set_cons_succ, List.set_cons_zero]; exact rfl) ?_); go_big_quiet_on)
            | (go_big_quiet_op; first | go_big_quiet_on | go_big_quiet_call ((with_reducible refine bel_call (HA.out _))) | go_big_quiet_call ((with_reducible refine bel_call (HB'.out _))) | go_big_quiet_call ((with_reducible refine bel_call (HC'.out _))))))
      refine wpQuiet_nil ?_
      rintro _ ⟨x, rfl⟩
      have HX := Lib.hid (show RmRel w a b g2 g3 (k + 1) x.at_ from ⟨r2.bel x.bel, r3.bel x.bel, fun _ => Hn.out, bel_tr rb x.bel⟩)
      clear x0 y0
      go_wp2
      go_roundw
      case rel => exact ⟨k + 1, by omega, fun h => absurd Hf.out h, by go_num, HX.out⟩
      case measure => simp [intOf]; omega
    · have Hn := Lib.hid hn
      have hda : decide ((k : Int) < (mostA a : Int)) = false := decide_eq_false (by omega)
      have HB' := HA
      have HC' := HA
      clear hn HB HC
      go_wp2
      refine wp_region_bel (by kernel_rfl) (by kernel_rfl) ?_
      repeat (first
        | go_big_quiet_skip
        | (go_big_quiet_want; first
            | ((with_reducible refine quiet_loadAd _ rfl rfl hR2 (by simp only [Act.put, List.setIfInBounds_toArray, List.set_cons_succ, List.set_cons_zero]; exact rfl) ?_); go_big_quiet_on)
            | ((with_reducible refine quiet_loadAd _ rfl rfl hR3 (by simp only [Act.put, List.setIfInBounds_toArray, List.set_cons_succ, List.set_cons_zero]; exact rfl) ?_); go_big_quiet_on)
            | (go_big_quiet_op; first | go_big_quiet_on | go_big_quiet_call ((with_reducible refine bel_call (HA.out _))) | go_big_quiet_call ((with_reducible refine bel_call (HB'.out _))) | go_big_quiet_call ((with_reducible refine bel_call (HC'.out _))))))
      refine wpQuiet_nil ?_
      rintro _ ⟨x, rfl⟩
      have hbx := bel_tr rb x.bel
      clear x0 y0
      go_wp2
      go_ret
      exact ⟨by rw [Hn.out]; rfl, hbx⟩
    · have Hn := Lib.hid hn
      have hda : decide ((k : Int) < (mostA a : Int)) = true := decide_eq_true (by omega)
      have i1 : (a.fam == b.fam) = false := by simpa using hf
      have HB' := HA
      have HC' := HA
      clear hn hf HB HC
      go_wp2
      refine wp_region_bel (by kernel_rfl) (by kernel_rfl) ?_
      repeat (first
        | go_big_quiet_skip
        | (go_big_quiet_want; first
            | ((with_reducible refine quiet_loadAd _ rfl rfl hR2 (by simp only [Act.put, List.setIfInBounds_toArray, List.set_cons_succ, List.set_cons_zero]; exact rfl) ?_); go_big_quiet_on)
            | ((with_reducible refine quiet_loadAd _ rfl rfl hR3 (by simp only [Act.put, List.setIfInBounds_toArray, List.set_cons_succ, List.set_cons_zero]; exact rfl) ?_); go_big_quiet_on)
            | (go_big_quiet_op; first | go_big_quiet_on | go_big_quiet_call ((with_reducible refine bel_call (HA.out _))) | go_big_quiet_call ((with_reducible refine bel_call (HB'.out _))) | go_big_quiet_call ((with_reducible refine bel_call (HC'.out _))))))
      refine wpQuiet_nil ?_
      rintro _ ⟨x, rfl⟩
      have hbx := bel_tr rb x.bel
      clear x0 y0
      go_wp2
      go_ret
      exact ⟨by rw [Hn.out]; rfl, hbx⟩
    · have Hn := Lib.hid hn
      have hda : decide ((k : Int) < (mostA a : Int)) = true := decide_eq_true (by omega)
      have i1 : (a.fam == b.fam) = true := by simpa using hf
      have i2 : (((bitA a k : Nat) : Int) == ((bitA b k : Nat) : Int)) = false := by simp; omega
      have HB' := Lib.hid (HB.out hlt)
      have HC' := Lib.hid (HC.out hlt)
      clear hn hf hb HB HC
      generalize bitA a k = ba at *
      generalize bitA b k = bb at *
      go_wp2
      refine wp_region_bel (by kernel_rfl) (by kernel_rfl) ?_
      repeat (first
        | go_big_quiet_skip
        | (go_big_quiet_want; first
            | ((with_reducible refine quiet_loadAd _ rfl rfl hR2 (by simp only [Act.put, List.setIfInBounds_toArray, List.set_cons_succ, List.set_cons_zero]; exact rfl) ?_); go_big_quiet_on)
            | ((with_reducible refine quiet_loadAd _ rfl rfl hR3 (by simp only [Act.put, List.setIfInBounds_toArray, List.set_cons_succ, List.set_cons_zero]; exact rfl) ?_); go_big_quiet_on)
            | (go_big_quiet_op; first | go_big_quiet_on | go_big_quiet_call ((with_reducible refine bel_call (HA.out _))) | go_big_quiet_call ((with_reducible refine bel_call (HB'.out _))) | go_big_quiet_call ((with_reducible refine bel_call (HC'.out _))))))
      refine wpQuiet_nil ?_
      rintro _ ⟨x, rfl⟩
      have hbx := bel_tr rb x.bel
      clear x0 y0
      go_wp2
      go_ret
      exact ⟨by rw [Hn.out]; rfl, hbx⟩

/-! ### within a prefix -/
def withB (a : Ad) (p : Pf) : Bool := (chkP p == 0) && ((a.fam == p.ad.fam) && decide (p.bits ≤ (comA a p.ad : Int)))
theorem pf_under2 : Tryz.prog.underlying 44 = some (.struct (Tryz.prog.fieldsOf 44)) := by kernel_rfl
theorem pf_size2 : (Tryz.prog.info? 44).map (·.size) = some 19 := by kernel_rfl
theorem Bk.rangePfL {w : World} {g : Nat} {t : TypeId} {p : Pf} (h : Bk w g t (pfA p)) : w.rangeAt g 0 (pfL p) := h.rangeL (cs := pfL p) 0 (pfL p) [] (by simp)
theorem quiet_loadPf {w : World} {o : Oper} {a a' : Act} {K : Act → Prop} (x : Operand) (ho : o.op = .load 44 x) {g off : Nat} (hx : a.eval x = .pointer (some ⟨g, off, none⟩)) {b : Pf} (hB : w.rangeAt g off (pfL b))
    (ha : a.put o.dst (.agg (pfA b)) = a') (hk : K a') : o.quiet Tryz.prog a (fun w' => ∃ y : BelT w, w' = y.at_) K := by
  subst ha
  refine ⟨_, ?_, hk⟩
  rintro _ ⟨y, rfl⟩
  unfold Oper.quietAt execOp
  have hr : y.at_.rangeAt g off (pfL b) := fun j v hv => y.cell (hB j v hv)
  simp only [ho, hx, Instr.loadAt, Instr.sureAddr, Sem.run_bind, Sem.run_pure, Result.andThen_ok, run_loadVar_mid y.at_ g off 44 (pfL b) _ hr pf_under2 rfl (by rw [pfL_len]; exact pf_size2)]
  exact ⟨rfl, rfl⟩
theorem pfA_0 (p : Pf) : (pfA p)[0]? = some (.int .i64 p.ad.fam) := rfl
set_option maxRecDepth 100000 in
set_option maxHeartbeats 4000000 in
theorem within_any (a : Ad) (p : Pf) (w : World) : Calls Tryz.prog 45 #[.agg (adA a), .agg (pfA p)] w fun e w' => e = .returned (.bool (withB a p)) ∧ Below w.heap.size w w' := by
  have hcs : ∃ b0 b1 b2 : Bool, (chkP p == 0) = b0 ∧ (a.fam == p.ad.fam) = b1 ∧ decide (p.bits ≤ (comA a p.ad : Int)) = b2 := ⟨_, _, _, rfl, rfl, rfl⟩
  obtain ⟨b0, b1, b2, h0, h1, h2⟩ := hcs
  have Hf : Hid (withB a p = (b0 && (b1 && b2))) := Lib.hid (by unfold withB; rw [h0, h1, h2])
  have HA : Hid (∀ w, Calls Tryz.prog 64 #[.agg (pfA p)] w fun e w' => e = .returned (.int .i64 (chkP p)) ∧ Below w.heap.size w w') := Lib.hid (holds_any p)
  have HC : Hid (∀ w, Calls Tryz.prog 30 #[.agg (adA a), .agg (adA p.ad)] w fun e w' => e = .returned (.int .i64 (comA a p.ad : Int)) ∧ Below w.heap.size w w') := Lib.hid (common_any a p.ad)
  generalize chkP p = ch at *
  generalize comA a p.ad = cm at *
  have h2' : decide ((cm : Int) < p.bits) = !b2 := by rw [← h2, ← decide_not]; congr 1; exact propext (by omega)
  cases b0 <;> cases b1 <;> cases b2
  all_goals
    go_enter Tryz.func45, Tryz.ntmps45
    go_wp2_with (first
      | ((with_reducible refine wpList_boxB (o := ⟨some 2, _, _, _, _, _⟩) rfl _ _ rfl rfl ?_); intro g2 w1 hg hB2 hb1 hs; clear hg hs)
      | ((with_reducible refine wpList_boxB (o := ⟨some 3, _, _, _, _, _⟩) rfl _ _ rfl rfl ?_); intro g3 w2 hg hB3 hb2 hs; have hB22 := hB2.bel hb2; have hb02 := bel_tr hb1 hb2; clear hg hs))
    have hR2 := hB22.rangeAd
    have hRp := hB3.rangePfL
    have hR3 := hB3.rangePf
    have c0 := hB22.cell 0
    rw [adA_0] at c0
    have d0 := hB3.cell 0
    rw [pfA_0] at d0
    have d18 := hB3.cell 18
    rw [pfA_18] at d18
    have x0 := fun x : BelT w2 => x.cell c0
    have y0 := fun x : BelT w2 => x.cell d0
    have y18 := fun x : BelT w2 => x.cell d18
    clear c0 d0 d18 hB2 hB22 hB3 hb1 hb2
    refine wp_region_bel (by kernel_rfl) (by kernel_rfl) ?_
    repeat (first
      | go_big_quiet_skip
      | (go_big_quiet_want; first
          | ((with_reducible refine quiet_loadAd _ rfl rfl hR2 (by simp only [Act.put, List.setIfInBounds_toArray, List.set_cons_succ, List.set_cons_zero]; exact rfl) ?_); go_big_quiet_on)
          | ((with_reducible refine quiet_loadAd _ rfl rfl hR3 (by simp only [Act.put, List.setIfInBounds_toArray, List.set_cons_succ, List.set_cons_zero]; exact rfl) ?_); go_big_quiet_on)
          | ((with_reducible refine quiet_loadPf _ rfl rfl hRp (by simp only [Act.put, List.setIfInBounds_toArray, List.set_cons_succ, List.set_cons_zero]; exact rfl) ?_); go_big_quiet_on)
          | (go_big_quiet_op; first | go_big_quiet_on | go_big_quiet_call ((with_reducible refine bel_call (HA.out _))) | go_big_quiet_call ((with_reducible refine bel_call (HC.out _))))))
    refine wpQuiet_nil ?_
    rintro _ ⟨x, rfl⟩
    go_wp2
    go_ret
    exact ⟨by rw [Hf.out]; rfl, bel_tr hb02 x.bel⟩
set_option maxRecDepth 100000 in
set_option maxHeartbeats 4000000 in
theorem rwithin_any (a : Ad) (p : Pf) (w : World) : Calls Tryz.prog 35 #[.agg (adA a), .agg (pfA p)] w fun e w' => e = .returned (.bool (withB a p)) ∧ Below w.heap.size w w' := by
  have hcs : ∃ b0 b1 b2 : Bool, (chkP p == 0) = b0 ∧ (a.fam == p.ad.fam) = b1 ∧ decide (p.bits ≤ (comA a p.ad : Int)) = b2 := ⟨_, _, _, rfl, rfl, rfl⟩
  obtain ⟨b0, b1, b2, h0, h1, h2⟩ := hcs
  have Hf : Hid (withB a p = (b0 && (b1 && b2))) := Lib.hid (by unfold withB; rw [h0, h1, h2])
  have HA : Hid (∀ w, Calls Tryz.prog 61 #[.agg (pfA p)] w fun e w' => e = .returned (.int .i64 (chkP p)) ∧ Below w.heap.size w w') := Lib.hid (rholds_any p)
  have HC : Hid (∀ w, Calls Tryz.prog 22 #[.agg (adA a), .agg (adA p.ad)] w fun e w' => e = .returned (.int .i64 (comA a p.ad : Int)) ∧ Below w.heap.size w w') := Lib.hid (rcommon_any a p.ad)
  generalize chkP p = ch at *
  generalize comA a p.ad = cm at *
  have h2' : decide ((cm : Int) < p.bits) = !b2 := by rw [← h2, ← decide_not]; congr 1; exact propext (by omega)
  cases b0 <;> cases b1 <;> cases b2
  all_goals
    go_enter Tryz.func35, Tryz.ntmps35
    go_wp2_with (first
      | ((with_reducible refine wpList_boxB (o := ⟨some 2, _, _, _, _, _⟩) rfl _ _ rfl rfl ?_); intro g2 w1 hg hB2 hb1 hs; clear hg hs)
      | ((with_reducible refine wpList_boxB (o := ⟨some 3, _, _, _, _, _⟩) rfl _ _ rfl rfl ?_); intro g3 w2 hg hB3 hb2 hs; have hB22 := hB2.bel hb2; have hb02 := bel_tr hb1 hb2; clear hg hs))
    have hR2 := hB22.rangeAd
    have hRp := hB3.rangePfL
    have hR3 := hB3.rangePf
    have c0 := hB22.cell 0
    rw [adA_0] at c0
    have d0 := hB3.cell 0
    rw [pfA_0] at d0
    have d18 := hB3.cell 18
    rw [pfA_18] at d18
    have x0 := fun x : BelT w2 => x.cell c0
    have y0 := fun x : BelT w2 => x.cell d0
    have y18 := fun x : BelT w2 => x.cell d18
    clear c0 d0 d18 hB2 hB22 hB3 hb1 hb2
    refine wp_region_bel (by kernel_rfl) (by kernel_rfl) ?_
    repeat (first
      | go_big_quiet_skip
      | (go_big_quiet_want; first
          | ((with_reducible refine quiet_loadAd _ rfl rfl hR2 (by simp only [Act.put, List.setIfInBounds_toArray, List.set_cons_succ, List.set_cons_zero]; exact rfl) ?_); go_big_quiet_on)
          | ((with_reducible refine quiet_loadAd _ rfl rfl hR3 (by simp only [Act.put, List.setIfInBounds_toArray, List.set_cons_succ, List.set_cons_zero]; exact rfl) ?_); go_big_quiet_on)
          | ((with_reducible refine quiet_loadPf _ rfl rfl hRp (by simp only [Act.put, List.setIfInBounds_toArray, List.set_cons_succ, List.set_cons_zero]; exact rfl) ?_); go_big_quiet_on)
          | (go_big_quiet_op; first | go_big_quiet_on | go_big_quiet_call ((with_reducible refine bel_call (HA.out _))) | go_big_quiet_call ((with_reducible refine bel_call (HC.out _))))))
    refine wpQuiet_nil ?_
    rintro _ ⟨x, rfl⟩
    go_wp2
    go_ret
    exact ⟨by rw [Hf.out]; rfl, bel_tr hb02 x.bel⟩
end Go.Proofs.YthlnndjkocnfcaaGreatDoor
