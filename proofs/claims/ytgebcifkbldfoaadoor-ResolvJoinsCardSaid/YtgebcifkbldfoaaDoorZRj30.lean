/- Contracts and plain lemmas of our own, merged. -/
import Derived.Test.YtgebcifkbldfoaaDoorZRj29
import Derived.Shelf.Small.Bits
import Derived.Laws.BitsLemmas
/- resolv.classBits, resolv.maskBits. -/
namespace Go.Proofs.YtgebcifkbldfoaaDoor
open Go.RowKit
attribute [local go_sem] ba_get ext_take ext_drop ext_any ba_app

set_option maxRecDepth 100000 in
theorem class_any (x : UInt8) (w : World) : Calls Tryd.prog 133 #[.int .u8 (x.toNat : Int)] w fun e w' => e = .returned (.int .i64 (clsB x : Int)) ∧ w = w' := by
  have hc : (x.toNat < 128 ∧ clsB x = 8) ∨ (¬ x.toNat < 128 ∧ x.toNat < 192 ∧ clsB x = 16) ∨ (¬ x.toNat < 128 ∧ ¬ x.toNat < 192 ∧ x.toNat < 224 ∧ clsB x = 24) ∨ (¬ x.toNat < 128 ∧ ¬ x.toNat < 192 ∧ ¬ x.toNat < 224 ∧ clsB x = 32) := by
    unfold clsB
    by_cases h1 : x.toNat < 128
    · exact .inl ⟨h1, by rw [if_pos h1]⟩
    · by_cases h2 : x.toNat < 192
      · exact .inr (.inl ⟨h1, h2, by rw [if_neg h1, if_pos h2]⟩)
      · by_cases h3 : x.toNat < 224
        · exact .inr (.inr (.inl ⟨h1, h2, h3, by rw [if_neg h1, if_neg h2, if_pos h3]⟩))
        · exact .inr (.inr (.inr ⟨h1, h2, h3, by rw [if_neg h1, if_neg h2, if_neg h3]⟩))
  rcases hc with ⟨h1, h⟩ | ⟨h1, h2, h⟩ | ⟨h1, h2, h3, h⟩ | ⟨h1, h2, h3, h⟩
  case' inl => have i1 : (x.toNat : Int) < 128 := by omega
  case' inr.inl =>
    have i1 : ¬ (x.toNat : Int) < 128 := by omega
    have i2 : (x.toNat : Int) < 192 := by omega
  case' inr.inr.inl =>
    have i1 : ¬ (x.toNat : Int) < 128 := by omega
    have i2 : ¬ (x.toNat : Int) < 192 := by omega
    have i3 : (x.toNat : Int) < 224 := by omega
  case' inr.inr.inr =>
    have i1 : ¬ (x.toNat : Int) < 128 := by omega
    have i2 : ¬ (x.toNat : Int) < 192 := by omega
    have i3 : ¬ (x.toNat : Int) < 224 := by omega
  all_goals
    rw [h]
    clear h
    go_enter Tryd.func133, Tryd.ntmps133
    go_wp2
    go_ret
    exact ⟨rfl, rfl⟩
theorem wraps_u32 (n : Int) (h0 : 0 ≤ n) (h1 : n < 2 ^ 32) : IntKind.u32.wrap n = n := by rw [IntKind.wrap_u32]; omega
theorem or_byte (v b : Nat) (hv : v < 16777216) (hb : b < 256) : bits .or .u32 ((v : Int) * 256) (b : Int) = ((v * 256 + b : Nat) : Int) := by
  rw [bits_join .u32 32 (by decide) wraps_u32 8 _ _ (by omega) (by omega) (by omega) (by omega) (by omega) (by omega)]
  omega
theorem not_u32 (v : Nat) (h : v < 4294967296) : bits .xor .u32 4294967295 (v : Int) = ((4294967295 - v : Nat) : Int) := by
  have e : bits .xor .u32 4294967295 (v : Int) = IntKind.u32.wrap ((BitVec.ofInt 32 4294967295 ^^^ BitVec.ofInt 32 (v : Int)).toNat : Int) := rfl
  rw [e, show (BitVec.ofInt 32 4294967295) = BitVec.allOnes 32 by decide, BitVec.allOnes_xor, BitVec.toNat_not, BitVec.ofInt_natCast, BitVec.toNat_ofNat, Nat.mod_eq_of_lt (by simpa using h)]
  exact wraps_u32 _ (by omega) (by omega)
theorem wpList_not32 {P : Program} {w : World} {ops : Array Oper} {rest : List Oper} {o : Oper} {a : Act} {Q : Exit → Act → World → Prop} (hgd : o.guard = none) {t : TypeId} (x : Operand) (ho : o.op = .unOp .xor t x) {v : Nat} (hx : a.eval x = .int .u32 (v : Int)) (hv : v < 4294967296)
    (h : wpList P ops Q rest (a.put o.dst (.int .u32 ((4294967295 - v : Nat) : Int))) w) : wpList P ops Q (o :: rest) a w := by
  refine wpList_plain hgd fun _ hK => ?_
  unfold Oper.wp execOp
  have hr : (Op.intBits .xor .u32 4294967295 (v : Int)).run P w = .ok (.int .u32 ((4294967295 - v : Nat) : Int)) w := by
    rw [← not_u32 v hv]
    simp [go_sem]
  have hu : (Op.unary .xor (.int .u32 (v : Int))).run P w = .ok (.int .u32 ((4294967295 - v : Nat) : Int)) w := hr
  simp only [ho, hx, Sem.run_bind, hu, Result.andThen_ok]
  exact hK _ _ h
set_option maxRecDepth 100000 in
set_option maxHeartbeats 1000000 in
theorem mask_any (a : Ad) (w : World) : Calls Tryd.prog 134 #[.agg (adA a)] w fun e w' => (∃ n : Int, e = .returned (.tuple #[.int .i64 n, .bool (mskB a).isSome]) ∧ ∀ m, mskB a = some m → n = (m : Int)) ∧ Below w.heap.size w w' := by
  go_enter Tryd.func134, Tryd.ntmps134
  go_wp2_with (first
    | ((with_reducible refine wpList_boxB (o := ⟨some 1, _, _, _, _, _⟩) rfl _ _ rfl rfl ?_); intro g w1 hg hB hb hs; clear hg hs))
  have HB := Lib.hid hB
  have Hb := Lib.hid hb
  clear hB hb
  go_loopw [4, 6, 11] (fun v _ i wr => ∃ k : Nat, k ≤ 4 ∧ i = .int .i64 k ∧ v = .int .u32 (mskV a k : Int) ∧ wr = w1) (fun _ _ i _ => 4 - (intOf i).toNat)
  case atStart => exact ⟨0, by omega, rfl, rfl, rfl⟩
  case round =>
    obtain ⟨k, hk, rfl, rfl, rfl⟩ := hrel
    by_cases hlt : k < 4
    · have hltI : (k : Int) < 4 := by omega
      have hk0 : (0 : Int) ≤ (k : Int) := by omega
      have hc : wr.cell? ⟨g, 1 + k, none⟩ = some (.int .u8 ((a.b k).toNat : Int)) := by
        rw [HB.out.cell (1 + k), Nat.add_comm]
        unfold adA
        rw [List.getElem?_toArray]
        exact adL_ip a (by omega)
      have hv := mskV_lt a k
      have hv3 : mskV a k < 16777216 := Nat.lt_of_lt_of_le hv (by
        have : 256 ^ k ≤ 256 ^ 3 := Nat.pow_le_pow_right (by omega) (by omega)
        simpa using this)
      have hbt := (a.b k).toNat_lt
      have hor := or_byte (mskV a k) (a.b k).toNat hv3 hbt
      have hnx : mskV a (k + 1) = mskV a k * 256 + (a.b k).toNat := rfl
      have Hnx := Lib.hid hnx
      have Hor := Lib.hid hor
      clear hv hnx hor
      generalize mskV a k = v at *
      generalize (a.b k).toNat = y at *
      go_wp2
      go_roundw
      case rel => exact ⟨k + 1, by omega, by go_num, by rw [Hnx.out, Hor.out], trivial⟩
      case measure => (simp [intOf]) <;> omega
    · obtain rfl : k = 4 := by omega
      have hltI : ¬ ((4 : Nat) : Int) < 4 := by omega
      have hv := mskV_lt a 4
      have hv4 : mskV a 4 < 4294967296 := by simpa using hv
      have hbl := Any.bitLen_le32 (4294967295 - (mskV a 4 : Int)) (by omega) (by omega)
      have hBd : Hid (mskB a = if (mskV a 4 * 2 ^ mskN a) % 4294967296 = 0 then some (mskN a) else none) := Lib.hid rfl
      have hNd : mskN a = 32 - Lib.bitLen (4294967295 - mskV a 4) := rfl
      have Hbl := Lib.hid hbl
      have HNd := Lib.hid hNd
      clear hbl hNd hv
      generalize mskV a 4 = v at *
      obtain ⟨n, hn⟩ : ∃ n, n = mskN a := ⟨_, rfl⟩
      have hnle : n ≤ 32 := by rw [hn]; exact mskN_le a
      rw [← hn] at hBd HNd
      have HX : ∀ w', Calls Tryd.prog 154 #[.int .u32 ((4294967295 - v : Nat) : Int)] w' fun e w'' => e = .returned (.int .i64 (n : Int)) ∧ w' = w'' := fun w' => (Tryd.bits_LeadingZeros32 ((4294967295 - v : Nat) : Int) w' (by omega) (by omega)).mono fun e w'' ⟨he, hw⟩ => ⟨by
        rw [he, Int.toNat_natCast, HNd.out]
        have h1 := Hbl.out
        rw [show (4294967295 - (v : Int)).toNat = 4294967295 - v by omega] at h1
        congr 2
        omega, hw.symm⟩
      have HX2 := Lib.hid HX
      have HNd' := Lib.hid hn
      clear HX hn HNd Hbl
      go_upto_region 8 with (first
        | ((with_reducible show wpList _ _ _ (⟨some 22, _, _, _, _, _⟩ :: _) _ _); refine wpList_not32 (o := ⟨some 22, _, _, _, _, _⟩) rfl _ rfl rfl hv4 ?_; generalize ((4294967295 - v : Nat) : Int) = nv at HX2 ⊢)
        | (go_at_call 154; refine (HX2.out _).mono ?_; rintro e w2 ⟨rfl, hw⟩; subst hw))
      clear HX2 hltI hlt hk
      have hn0 : (0 : Int) ≤ (n : Int) := by omega
      go_region
      go_wp2
      go_ret2
      have hI : ((v : Int) * 2 ^ n % 4294967296 == 0) = decide (v * 2 ^ n % 4294967296 = 0) := by
        rw [Bool.eq_iff_iff, beq_iff_eq, decide_eq_true_iff]
        have e : (v : Int) * 2 ^ n % 4294967296 = ((v * 2 ^ n % 4294967296 : Nat) : Int) := by simp
        rw [e]
        omega
      refine ⟨⟨n, ?_, fun m hm => ?_⟩, Hb.out.drew⟩
      · rw [hI, hBd.out]
        by_cases h0 : v * 2 ^ n % 4294967296 = 0
        · rw [if_pos h0, decide_eq_true h0]; rfl
        · rw [if_neg h0, decide_eq_false h0]; rfl
      · rw [hBd.out] at hm
        split at hm
        · injection hm with hm; omega
        · cases hm
end Go.Proofs.YtgebcifkbldfoaaDoor

/- resolv.Pair. -/
namespace Go.Proofs.YtgebcifkbldfoaaDoor
open Go.RowKit
attribute [local go_sem] ba_get ext_take ext_drop ext_any ba_app

theorem built_pfR (a : Ad) (z : Int) (h : -9223372036854775808 ≤ z ∧ z ≤ 9223372036854775807) : Tryd.prog.built 72 [(0, .agg (adA a)), (1, .int .i64 z)] = some (pfA ⟨a, z, h⟩) := by
  obtain ⟨fam, ip, zone, ok⟩ := a
  obtain ⟨c0, c1, c2, c3, c4, c5, c6, c7, c8, c9, c10, c11, c12, c13, c14, c15, rfl⟩ := len16 ok.1
  kernel_rfl
theorem pfN_eq (a : Ad) (n : Nat) (h : n ≤ 32) (h2 : -9223372036854775808 ≤ (n : Int) ∧ (n : Int) ≤ 9223372036854775807) : (⟨a, (n : Int), h2⟩ : Pf) = pfN a n := by
  unfold pfN
  simp only [Nat.min_eq_left h]
theorem built_pfN (a : Ad) (n : Nat) (h : n ≤ 32) : Tryd.prog.built 72 [(0, .agg (adA a)), (1, .int .i64 (n : Int))] = some (pfA (pfN a n)) := by
  rw [built_pfR a (n : Int) (by omega), pfN_eq a n h]
theorem built_pf0R : Tryd.prog.built 72 [] = some (pfA pf0) := by kernel_rfl
theorem pf_size' (x : Pf) : (Tryd.prog.info? 72).map (·.size) = some (pfA x).size := by rw [pfA_size]; exact pf_size
theorem ret_pfE {fn : Func} {p q : Tmp} (h : fn.results = #[.cell p 72, .tmp q]) {R : Ending → World → Prop} {a : Act} {w : World} {g : Nat} {t : TypeId} {b : Pf} {v : Value}
    (hp : a.tmps.getD p undef = .pointer (some ⟨g, 0, none⟩)) (hq : a.tmps.getD q undef = v) (hB : Bk w g t (pfA b)) (hd : a.defers = []) (hR : R (.returned (.tuple #[.agg (pfA b), v])) w) : bodyPost Tryd.prog fn R .ret a w := by
  refine bodyPost_ret_by (v := .tuple #[.agg (pfA b), v]) ?_ hd hR
  have hp' : a.tmps[p]?.getD undef = .pointer (some ⟨g, 0, none⟩) := by simpa using hp
  have hq' : a.tmps[q]?.getD undef = v := by simpa using hq
  simp [results, h, hp', hq', asAddr, run_loadVar_row (P := Tryd.prog) w g t 72 (pfA b) (0, 0) _ hB pf_under rfl (pf_size' b)]
theorem quiet_bldR {w : World} {o : Oper} {a a' : Act} {K : Act → Prop} (t : TypeId) (l : List (Nat × Operand)) (ho : o.op = .build t l.toArray)
    {vals : List (Nat × Value)} {cs : Array Value} (hb : Tryd.prog.built t vals = some cs) (hv : l.map (fun p => (p.1, a.eval p.2)) = vals)
    (ha : a.put o.dst (.agg cs) = a') (hk : K a') : o.quiet Tryd.prog a (fun w' => ∃ y : BelT w, w' = y.at_) K := by
  subst ha hv
  refine ⟨_, ?_, hk⟩
  rintro _ ⟨y, rfl⟩
  have hb' : Tryd.prog.built t (l.toArray.map fun (i, x) => (i, a.eval x)).toList = some cs := by rw [← hb]; simp
  unfold Oper.quietAt execOp
  simp only [ho, Sem.run_bind, run_build y.at_ t _ cs hb', Result.andThen_ok]
  exact ⟨rfl, rfl⟩
theorem e47 : (((47 : UInt8).toNat : Nat) : Int) = 47 := by decide
def pfE (o : Option Pf) : Value := match o with
  | some p => .tuple #[.agg (pfA p), .int .i64 0]
  | none => .tuple #[.agg (pfA pf0), .int .i64 5]
def PairPost (w : World) (o : Option Pf) (e : Ending) (w' : World) : Prop := e = .returned (pfE o) ∧ Below w.heap.size w w'
/-- the stores of Pair: its result. -/
theorem wpList_allocPf {w : World} {ops : Array Oper} {rest : List Oper} {o : Oper} {a : Act} {Q : Exit → Act → World → Prop} (hgd : o.guard = none) (ho : o.op = .alloc 72)
    (h : ∀ g w', g = w.heap.size → Bk w' g 72 (pfA pf0) → Below w.heap.size w w' → w'.heap.size = g + 1 → wpList Tryd.prog ops Q rest (a.put o.dst (.pointer (some ⟨g, 0, none⟩))) w') : wpList Tryd.prog ops Q (o :: rest) a w :=
  wpList_allocZ hgd _ ho pf_zero h
set_option maxRecDepth 100000 in
set_option maxHeartbeats 2000000 in
theorem pair_any (s : List UInt8) (w : World) (ht : Tab w) (hl : s.length ≤ 1000000) : Calls Tryd.prog 100 #[.string ⟨s.toArray⟩] w (PairPost w (pairP s)) := by
  have Ht := Lib.hid ht
  clear ht
  cases hi : idx 47 s with
  | none =>
    have hP : pairP s = (qpA s).map fun a => pfN a (clsB (a.b 0)) := by unfold pairP; rw [hi]
    have HC : Hid (∀ w', Calls Tryd.prog 80 #[.string ⟨s.toArray⟩, .int .u8 47] w' fun e w'' => e = .returned (.tuple #[.string ⟨s.toArray⟩, .string ⟨([] : List UInt8).toArray⟩, .bool false]) ∧ Below w'.heap.size w' w'') := Lib.hid (fun w' => by
      have h := cut_none (w := w') hi (by omega)
      rw [e47] at h
      exact h)
    have HQ := Lib.hid (fun (w' : World) (hb : Below w.heap.size w w') => qparse_any s w' (Ht.out.below hb) (by omega))
    rw [hP]
    clear hP hi
    cases hq : qpA s with
    | none =>
      have HQ2 : Hid (∀ w', Below w.heap.size w w' → Calls Tryd.prog 128 #[.string ⟨s.toArray⟩] w' fun e w'' => e = .returned (.tuple #[.agg (adA ad0), .int .i64 5]) ∧ Below w'.heap.size w' w'') := Lib.hid (fun w' hb => (HQ.out w' hb).mono fun e w'' ⟨he, hb⟩ => ⟨by rw [he, hq]; rfl, hb⟩)
      clear hq HQ
      go_enter Tryd.func100, Tryd.ntmps100
      go_wp2_with (first
        | ((with_reducible show wpList _ _ _ (⟨some 2, _, _, _, _, _⟩ :: _) _ _); refine wpList_allocPf (o := ⟨some 2, _, _, _, _, _⟩) rfl rfl ?_; intro g2 w1 hg hB2 hb1 hs; have hg2 : w.heap.size ≤ g2 := Nat.le_of_eq hg.symm; clear hg hs)
        | (go_at_call 80; refine (HC.out _).mono ?_; rintro e w2 ⟨rfl, hb2⟩; have hb02 := bel_tr hb1 hb2; have hB22 := hB2.bel hb2; clear hb2 hB2 hb1)
        | (go_at_call 128; refine (HQ2.out _ hb02).mono ?_; rintro e w3 ⟨rfl, hb3⟩; have Hb3 := Lib.hid (bel_tr hb02 hb3); have hB23 := hB22.bel hb3; clear hb3 hb02 hB22; refine holdL ?_))
      refine Lib.hid ?_
      go_wp2_with (first
        | ((with_reducible show wpList _ _ _ (⟨some 7, _, _, _, _, _⟩ :: _) _ _); refine wpList_allocAd (o := ⟨some 7, _, _, _, _, _⟩) rfl rfl ?_; intro g7 w4 hg hB7 hb4 hs; have Hg7 := Lib.hid hg; clear hg hs; have hB24 := hB23.bel hb4)
        | ((with_reducible refine wpList_storeAd (o := ⟨none, _, _, _, _, _⟩) rfl (.tmp 7) _ rfl rfl rfl hB7 ?_); intro w5 hB75 hS5; have hB25 := hB24.stays hS5 (by have := hB23.lt; have := Hg7.out; omega); have hb35 := hb4.trans (hS5.below (by have := Hg7.out; omega)); refine holdL ?_))
      refine Lib.hid ?_
      go_wp2_with (first
        | ((with_reducible show wpList _ _ _ (⟨some 27, _, _, _, _, _⟩ :: _) _ _); refine wpList_buildL (o := ⟨some 27, _, _, _, _, _⟩) rfl _ [] rfl built_pf0R rfl ?_)
        | ((with_reducible refine wpList_storePf (o := ⟨none, _, _, _, _, _⟩) rfl (.tmp 2) _ rfl rfl rfl hB25 ?_); intro w6 hB6 hS6))
      exact ret_pfE Tryd.results100 rfl rfl hB6 rfl ⟨rfl, (bel_tr Hb3.out hb35).trans (hS6.below hg2)⟩
    | some a =>
      simp only [Option.map_some]
      have HQ2 : Hid (∀ w', Below w.heap.size w w' → Calls Tryd.prog 128 #[.string ⟨s.toArray⟩] w' fun e w'' => e = .returned (.tuple #[.agg (adA a), .int .i64 0]) ∧ Below w'.heap.size w' w'') := Lib.hid (fun w' hb => (HQ.out w' hb).mono fun e w'' ⟨he, hb⟩ => ⟨by rw [he, hq]; rfl, hb⟩)
      clear hq HQ
      go_enter Tryd.func100, Tryd.ntmps100
      go_wp2_with (first
        | ((with_reducible show wpList _ _ _ (⟨some 2, _, _, _, _, _⟩ :: _) _ _); refine wpList_allocPf (o := ⟨some 2, _, _, _, _, _⟩) rfl rfl ?_; intro g2 w1 hg hB2 hb1 hs; have hg2 : w.heap.size ≤ g2 := Nat.le_of_eq hg.symm; clear hg hs)
        | (go_at_call 80; refine (HC.out _).mono ?_; rintro e w2 ⟨rfl, hb2⟩; have hb02 := bel_tr hb1 hb2; have hB22 := hB2.bel hb2; clear hb2 hB2 hb1)
        | (go_at_call 128; refine (HQ2.out _ hb02).mono ?_; rintro e w3 ⟨rfl, hb3⟩; have Hb3 := Lib.hid (bel_tr hb02 hb3); have hB23 := hB22.bel hb3; clear hb3 hb02 hB22; refine holdL ?_))
      refine Lib.hid ?_
      go_upto_region 6 with (first
        | ((with_reducible show wpList _ _ _ (⟨some 7, _, _, _, _, _⟩ :: _) _ _); refine wpList_allocAd (o := ⟨some 7, _, _, _, _, _⟩) rfl rfl ?_; intro g7 w4 hg hB7 hb4 hs; have Hg7 := Lib.hid hg; clear hg hs; have hB24 := hB23.bel hb4)
        | ((with_reducible refine wpList_storeAd (o := ⟨none, _, _, _, _, _⟩) rfl (.tmp 7) _ rfl rfl rfl hB7 ?_); intro w5 hB75 hS5; have hB25 := hB24.stays hS5 (by have := hB23.lt; have := Hg7.out; omega); have hb35 := hb4.trans (hS5.below (by have := Hg7.out; omega)); have Hb5 := Lib.hid (bel_tr Hb3.out hb35); clear hb35 hS5 hb4 hB24 hB7; refine holdL ?_))
      refine Lib.hid ?_
      have hR := hB75.rangeAd
      have c1 : w5.cell? ⟨g7, 1, none⟩ = some (.int .u8 ((a.b 0).toNat : Int)) := by
        rw [hB75.cell 1]
        unfold adA
        rw [List.getElem?_toArray]
        exact adL_ip a (by omega)
      have HX : ∀ (x : BelT w5), Calls Tryd.prog 133 #[.int .u8 ((a.b 0).toNat : Int)] x.at_ fun e w' => e = .returned (.int .i64 (clsB (a.b 0) : Int)) ∧ x.at_ = w' := fun x => class_any _ _
      have hbt := built_pfN a (clsB (a.b 0)) (clsB_le _)
      have HB25 := Lib.hid hB25
      generalize clsB (a.b 0) = cb at *
      clear hB25 hB75 Hg7 hB23
      go_upto_region 6 with (fail)
      refine wp_region_bel_tail 6 (by kernel_rfl) (by kernel_rfl) ?_
      simp only [List.take_succ_cons, List.take_zero, List.drop_succ_cons, List.drop_zero]
      repeat (first
        | go_big_quiet_skip
        | (go_big_quiet_want; first
            | ((with_reducible show (⟨some 30, _, _, _, _, _⟩ : Oper).quiet _ _ _ _); refine quiet_loadAd (o := ⟨some 30, _, _, _, _, _⟩) _ rfl rfl hR (by simp only [Act.put, List.setIfInBounds_toArray, List.set_cons_succ, List.set_cons_zero]; exact rfl) ?_; go_big_quiet_on)
            | ((with_reducible show (⟨some 33, _, _, _, _, _⟩ : Oper).quiet _ _ _ _); refine quiet_loadC (o := ⟨some 33, _, _, _, _, _⟩) _ _ rfl rfl c1 Tryd.underlying5 rfl (by simp only [Act.put, List.setIfInBounds_toArray, List.set_cons_succ, List.set_cons_zero]; exact rfl) ?_; go_big_quiet_on)
            | ((with_reducible show (⟨some 35, _, _, _, _, _⟩ : Oper).quiet _ _ _ _); refine quiet_bldR (o := ⟨some 35, _, _, _, _, _⟩) _ [(0, .tmp 30), (1, .tmp 34)] rfl hbt rfl (by simp only [Act.put, List.setIfInBounds_toArray, List.set_cons_succ, List.set_cons_zero]; exact rfl) ?_; go_big_quiet_on)
            | (go_big_quiet_op; first | go_big_quiet_on | go_big_quiet_call ((refine bel_call_eq (HX _))))))
      refine wpQuiet_nil ?_
      rintro _ ⟨x, rfl⟩
      have hB2x := HB25.out.bel x.bel
      go_wp2_with (first
        | ((with_reducible refine wpList_storePf (o := ⟨none, _, _, _, _, _⟩) rfl (.tmp 2) _ rfl rfl rfl hB2x ?_); intro w6 hB6 hS6))
      exact ret_pfE Tryd.results100 rfl rfl hB6 rfl ⟨rfl, (bel_tr Hb5.out x.bel).trans (hS6.below hg2)⟩
  | some k =>
    have hP : pairP s = match qpA (s.take k) with
        | none => none
        | some a => (bitsO (s.drop (k + 1))).map (pfN a) := by unfold pairP; rw [hi]; rfl
    have HC : Hid (∀ w', Calls Tryd.prog 80 #[.string ⟨s.toArray⟩, .int .u8 47] w' fun e w'' => e = .returned (.tuple #[.string ⟨(s.take k).toArray⟩, .string ⟨(s.drop (k + 1)).toArray⟩, .bool true]) ∧ Below w'.heap.size w' w'') := Lib.hid (fun w' => by
      have h := cut_some (w := w') hi (by omega)
      rw [e47] at h
      exact h)
    have hl1 : (s.take k).length ≤ 1000000 := by rw [List.length_take]; omega
    have hl2 : (s.drop (k + 1)).length ≤ 1000000 := by rw [List.length_drop]; omega
    rw [hP]
    clear hP hi
    generalize s.take k = x at *
    generalize s.drop (k + 1) = r at *
    have HQ := Lib.hid (fun (w' : World) (hb : Below w.heap.size w w') => qparse_any x w' (Ht.out.below hb) (by omega))
    cases hq : qpA x with
    | none =>
      have HQ2 : Hid (∀ w', Below w.heap.size w w' → Calls Tryd.prog 128 #[.string ⟨x.toArray⟩] w' fun e w'' => e = .returned (.tuple #[.agg (adA ad0), .int .i64 5]) ∧ Below w'.heap.size w' w'') := Lib.hid (fun w' hb => (HQ.out w' hb).mono fun e w'' ⟨he, hb⟩ => ⟨by rw [he, hq]; rfl, hb⟩)
      clear hq HQ
      go_enter Tryd.func100, Tryd.ntmps100
      go_wp2_with (first
        | ((with_reducible show wpList _ _ _ (⟨some 2, _, _, _, _, _⟩ :: _) _ _); refine wpList_allocPf (o := ⟨some 2, _, _, _, _, _⟩) rfl rfl ?_; intro g2 w1 hg hB2 hb1 hs; have hg2 : w.heap.size ≤ g2 := Nat.le_of_eq hg.symm; clear hg hs)
        | (go_at_call 80; refine (HC.out _).mono ?_; rintro e w2 ⟨rfl, hb2⟩; have hb02 := bel_tr hb1 hb2; have hB22 := hB2.bel hb2; clear hb2 hB2 hb1)
        | (go_at_call 128; refine (HQ2.out _ hb02).mono ?_; rintro e w3 ⟨rfl, hb3⟩; have Hb3 := Lib.hid (bel_tr hb02 hb3); have hB23 := hB22.bel hb3; clear hb3 hb02 hB22; refine holdL ?_))
      refine Lib.hid ?_
      go_wp2_with (first
        | ((with_reducible show wpList _ _ _ (⟨some 7, _, _, _, _, _⟩ :: _) _ _); refine wpList_allocAd (o := ⟨some 7, _, _, _, _, _⟩) rfl rfl ?_; intro g7 w4 hg hB7 hb4 hs; have Hg7 := Lib.hid hg; clear hg hs; have hB24 := hB23.bel hb4)
        | ((with_reducible refine wpList_storeAd (o := ⟨none, _, _, _, _, _⟩) rfl (.tmp 7) _ rfl rfl rfl hB7 ?_); intro w5 hB75 hS5; have hB25 := hB24.stays hS5 (by have := hB23.lt; have := Hg7.out; omega); have hb35 := hb4.trans (hS5.below (by have := Hg7.out; omega)); have Hb5 := Lib.hid (bel_tr Hb3.out hb35); clear hb35 hS5 hb4 hB24 hB7; refine holdL ?_))
      refine Lib.hid ?_
      go_wp2_with (first
        | ((with_reducible show wpList _ _ _ (⟨some 27, _, _, _, _, _⟩ :: _) _ _); refine wpList_buildL (o := ⟨some 27, _, _, _, _, _⟩) rfl _ [] rfl built_pf0R rfl ?_)
        | ((with_reducible refine wpList_storePf (o := ⟨none, _, _, _, _, _⟩) rfl (.tmp 2) _ rfl rfl rfl hB25 ?_); intro w6 hB6 hS6))
      exact ret_pfE Tryd.results100 rfl rfl hB6 rfl ⟨rfl, Hb5.out.trans (hS6.below hg2)⟩
    | some a =>
      have HQ2 : Hid (∀ w', Below w.heap.size w w' → Calls Tryd.prog 128 #[.string ⟨x.toArray⟩] w' fun e w'' => e = .returned (.tuple #[.agg (adA a), .int .i64 0]) ∧ Below w'.heap.size w' w'') := Lib.hid (fun w' hb => (HQ.out w' hb).mono fun e w'' ⟨he, hb⟩ => ⟨by rw [he, hq]; rfl, hb⟩)
      have HN := Lib.hid (fun w' => number_any r 32 w' (by omega) (by omega) (by omega))
      clear hq HQ
      go_enter Tryd.func100, Tryd.ntmps100
      go_wp2_with (first
        | ((with_reducible show wpList _ _ _ (⟨some 2, _, _, _, _, _⟩ :: _) _ _); refine wpList_allocPf (o := ⟨some 2, _, _, _, _, _⟩) rfl rfl ?_; intro g2 w1 hg hB2 hb1 hs; have hg2 : w.heap.size ≤ g2 := Nat.le_of_eq hg.symm; clear hg hs)
        | (go_at_call 80; refine (HC.out _).mono ?_; rintro e w2 ⟨rfl, hb2⟩; have hb02 := bel_tr hb1 hb2; have hB22 := hB2.bel hb2; clear hb2 hB2 hb1)
        | (go_at_call 128; refine (HQ2.out _ hb02).mono ?_; rintro e w3 ⟨rfl, hb3⟩; have Hb3 := Lib.hid (bel_tr hb02 hb3); have hB23 := hB22.bel hb3; clear hb3 hb02 hB22; refine holdL ?_))
      refine Lib.hid ?_
      go_wp2_with (first
        | ((with_reducible show wpList _ _ _ (⟨some 7, _, _, _, _, _⟩ :: _) _ _); refine wpList_allocAd (o := ⟨some 7, _, _, _, _, _⟩) rfl rfl ?_; intro g7 w4 hg hB7 hb4 hs; have Hg7 := Lib.hid hg; clear hg hs; have hB24 := hB23.bel hb4)
        | ((with_reducible refine wpList_storeAd (o := ⟨none, _, _, _, _, _⟩) rfl (.tmp 7) _ rfl rfl rfl hB7 ?_); intro w5 hB75 hS5; have hB25 := hB24.stays hS5 (by have := hB23.lt; have := Hg7.out; omega); have hb35 := hb4.trans (hS5.below (by have := Hg7.out; omega)); have Hb5 := Lib.hid (bel_tr Hb3.out hb35); clear hb35 hS5 hb4 hB24 hB7; refine holdL ?_))
      refine Lib.hid ?_
      have Hl2 := Lib.hid hl2
      have HB25 := Lib.hid hB25
      have HB7 := Lib.hid hB75
      have h5 := Lib.hid (Nat.lt_of_lt_of_le hB23.lt (Nat.le_of_eq Hg7.out.symm))
      have Hg2 := Lib.hid hg2
      clear hB25 hl1 hl2 hB23 Hg7 hg2
      cases hn : numO r 32 with
      | some n =>
        have hbo : bitsO r = some n := by unfold bitsO; rw [hn]
        have hbt := built_pfN a n (numO_le hn)
        have HN2 : Hid (∀ w', Calls Tryd.prog 115 #[.string ⟨r.toArray⟩, .int .i64 32] w' fun e w'' => e = .returned (.tuple #[.int .i64 (n : Int), .int .i64 0]) ∧ w' = w'') := Lib.hid (fun w' => (HN.out w').mono fun e w'' ⟨he, hw⟩ => ⟨(by
          rw [he]
          unfold numO at hn
          split at hn
          · next h1 =>
            split at hn
            · next h2 =>
              injection hn with hn
              unfold numV
              rw [if_pos h1, if_pos (by omega), hn]
            · cases hn
          · cases hn), hw⟩)
        have Hbo := Lib.hid hbo
        clear hn hbo HN
        go_wp2_with (first
          | (go_at_call 115; refine (HN2.out _).mono ?_; rintro e w6 ⟨rfl, hw⟩; subst hw)
          | ((with_reducible show wpList _ _ _ (⟨some 43, _, _, _, _, _⟩ :: _) _ _); refine wpList_loadAd (o := ⟨some 43, _, _, _, _, _⟩) rfl _ rfl rfl HB7.out ?_)
          | ((with_reducible show wpList _ _ _ (⟨some 45, _, _, _, _, _⟩ :: _) _ _); refine wpList_buildL (o := ⟨some 45, _, _, _, _, _⟩) rfl _ [(0, .tmp 43), (1, .tmp 44)] rfl hbt rfl ?_)
          | ((with_reducible refine wpList_storePf (o := ⟨none, _, _, _, _, _⟩) rfl (.tmp 2) _ rfl rfl rfl HB25.out ?_); intro w6 hB6 hS6))
        exact ret_pfE Tryd.results100 rfl rfl hB6 rfl ⟨by rw [Hbo.out]; rfl, Hb5.out.trans (hS6.below Hg2.out)⟩
      | none =>
        have hbo : bitsO r = match qpA r with
            | none => none
            | some m => mskB m := by unfold bitsO; rw [hn]; rfl
        obtain ⟨c, hc0, HN2⟩ : ∃ c : Int, (c == 0) = false ∧ Hid (∀ w', Calls Tryd.prog 115 #[.string ⟨r.toArray⟩, .int .i64 32] w' fun e w'' => e = .returned (.tuple #[.int .i64 0, .int .i64 c]) ∧ w' = w'') := by
          unfold numO at hn
          split at hn
          · next h1 =>
            split at hn
            · cases hn
            · next h2 =>
              exact ⟨4, rfl, Lib.hid fun w' => (HN.out w').mono fun e w'' ⟨he, hw⟩ => ⟨by rw [he]; unfold numV; rw [if_pos h1, if_neg (by omega)], hw⟩⟩
          · next h1 => exact ⟨5, rfl, Lib.hid fun w' => (HN.out w').mono fun e w'' ⟨he, hw⟩ => ⟨by rw [he]; unfold numV; rw [if_neg h1], hw⟩⟩
        clear hn HN
        have HR := Lib.hid (fun (w' : World) (hb : Below w.heap.size w w') => qparse_any r w' (Ht.out.below hb) (by have := Hl2.out; omega))
        cases hq : qpA r with
        | none =>
          have HR2 : Hid (∀ w', Below w.heap.size w w' → Calls Tryd.prog 128 #[.string ⟨r.toArray⟩] w' fun e w'' => e = .returned (.tuple #[.agg (adA ad0), .int .i64 5]) ∧ Below w'.heap.size w' w'') := Lib.hid (fun w' hb => (HR.out w' hb).mono fun e w'' ⟨he, hb⟩ => ⟨by rw [he, hq]; rfl, hb⟩)
          have Hbo : Hid (bitsO r = none) := Lib.hid (by rw [hbo, hq])
          clear hq HR hbo
          go_wp2_with (first
            | (go_at_call 115; refine (HN2.out _).mono ?_; rintro e w6 ⟨rfl, hw⟩; subst hw)
            | (go_at_call 128; refine (HR2.out _ Hb5.out).mono ?_; rintro e w7 ⟨rfl, hb7⟩; have Hb7 := Lib.hid (bel_tr Hb5.out hb7); have hB27 := HB25.out.bel hb7; clear hb7; refine holdL ?_))
          refine Lib.hid ?_
          go_wp2_with (first
            | ((with_reducible show wpList _ _ _ (⟨some 11, _, _, _, _, _⟩ :: _) _ _); refine wpList_allocAd (o := ⟨some 11, _, _, _, _, _⟩) rfl rfl ?_; intro g11 w8 hg hB11 hb8 hs; have Hg11 := Lib.hid hg; clear hg hs; have hB28 := hB27.bel hb8)
            | ((with_reducible refine wpList_storeAd (o := ⟨none, _, _, _, _, _⟩) rfl (.tmp 11) _ rfl rfl rfl hB11 ?_); intro w9 hB119 hS9; have hB29 := hB28.stays hS9 (by have := hB27.lt; have := Hg11.out; omega); have hb79 := hb8.trans (hS9.below (by have := Hg11.out; omega)); have Hb9 := Lib.hid (bel_tr Hb7.out hb79); clear hb79 hS9 hb8 hB28 hB11; refine holdL ?_))
          refine Lib.hid ?_
          go_wp2_with (first
            | ((with_reducible show wpList _ _ _ (⟨some 53, _, _, _, _, _⟩ :: _) _ _); refine wpList_buildL (o := ⟨some 53, _, _, _, _, _⟩) rfl _ [] rfl built_pf0R rfl ?_)
            | ((with_reducible refine wpList_storePf (o := ⟨none, _, _, _, _, _⟩) rfl (.tmp 2) _ rfl rfl rfl hB29 ?_); intro w6 hB6 hS6))
          exact ret_pfE Tryd.results100 rfl rfl hB6 rfl ⟨by rw [Hbo.out]; rfl, Hb9.out.trans (hS6.below Hg2.out)⟩
        | some m =>
          have HR2 : Hid (∀ w', Below w.heap.size w w' → Calls Tryd.prog 128 #[.string ⟨r.toArray⟩] w' fun e w'' => e = .returned (.tuple #[.agg (adA m), .int .i64 0]) ∧ Below w'.heap.size w' w'') := Lib.hid (fun w' hb => (HR.out w' hb).mono fun e w'' ⟨he, hb⟩ => ⟨by rw [he, hq]; rfl, hb⟩)
          have hbo2 : bitsO r = mskB m := by rw [hbo, hq]
          clear hq HR hbo
          go_wp2_with (first
            | (go_at_call 115; refine (HN2.out _).mono ?_; rintro e w6 ⟨rfl, hw⟩; subst hw)
            | (go_at_call 128; refine (HR2.out _ Hb5.out).mono ?_; rintro e w7 ⟨rfl, hb7⟩; have Hb7 := Lib.hid (bel_tr Hb5.out hb7); have hB27 := HB25.out.bel hb7; have hB77 := HB7.out.bel hb7; clear hb7; refine holdL ?_))
          refine Lib.hid ?_
          go_upto_region 13 with (first
            | ((with_reducible show wpList _ _ _ (⟨some 11, _, _, _, _, _⟩ :: _) _ _); refine wpList_allocAd (o := ⟨some 11, _, _, _, _, _⟩) rfl rfl ?_; intro g11 w8 hg hB11 hb8 hs; have Hg11 := Lib.hid hg; clear hg hs; have hB28 := hB27.bel hb8; have hB78 := hB77.bel hb8)
            | ((with_reducible refine wpList_storeAd (o := ⟨none, _, _, _, _, _⟩) rfl (.tmp 11) _ rfl rfl rfl hB11 ?_); intro w9 hB119 hS9; have hB29 := hB28.stays hS9 (by have := hB27.lt; have := Hg11.out; omega); have hB79 := hB78.stays hS9 (by have := hB77.lt; have := Hg11.out; omega); have hb79 := hb8.trans (hS9.below (by have := Hg11.out; omega)); have Hb9 := Lib.hid (bel_tr Hb7.out hb79); clear hb79 hS9 hb8 hB28 hB11 hB78; refine holdL ?_))
          refine Lib.hid ?_
          have HM := Lib.hid (mask_any m w9)
          cases hm : mskB m with
          | none =>
            have HM2 : Hid (Calls Tryd.prog 134 #[.agg (adA m)] w9 fun e w' => (∃ n : Int, e = .returned (.tuple #[.int .i64 n, .bool false])) ∧ Below w9.heap.size w9 w') := Lib.hid (HM.out.mono fun e w' ⟨⟨n, h1, _⟩, h2⟩ => ⟨⟨n, by rw [h1, hm]; rfl⟩, h2⟩)
            have Hbo : Hid (bitsO r = none) := Lib.hid (by rw [hbo2, hm])
            clear hbo2 hm HM hB79 hB77 hB27
            go_wp2_with (first
              | ((with_reducible show wpList _ _ _ (⟨some 55, _, _, _, _, _⟩ :: _) _ _); refine wpList_loadAd (o := ⟨some 55, _, _, _, _, _⟩) rfl _ rfl rfl hB119 ?_)
              | (go_at_call 134; refine HM2.out.mono ?_; rintro e w10 ⟨⟨n, rfl⟩, hb10⟩; have hB210 := hB29.bel hb10; have Hb10 := Lib.hid (bel_tr Hb9.out hb10); clear hb10)
              | ((with_reducible show wpList _ _ _ (⟨some 61, _, _, _, _, _⟩ :: _) _ _); refine wpList_buildL (o := ⟨some 61, _, _, _, _, _⟩) rfl _ [] rfl built_pf0R rfl ?_)
              | ((with_reducible refine wpList_storePf (o := ⟨none, _, _, _, _, _⟩) rfl (.tmp 2) _ rfl rfl rfl hB210 ?_); intro w6 hB6 hS6))
            exact ret_pfE Tryd.results100 rfl rfl hB6 rfl ⟨by rw [Hbo.out]; rfl, Hb10.out.trans (hS6.below Hg2.out)⟩
          | some n =>
            have hn32 : n ≤ 32 := by
              unfold mskB at hm
              split at hm
              · injection hm with hm; rw [← hm]; exact mskN_le m
              · cases hm
            have hbt := built_pfN a n hn32
            have HM2 : Hid (Calls Tryd.prog 134 #[.agg (adA m)] w9 fun e w' => e = .returned (.tuple #[.int .i64 (n : Int), .bool true]) ∧ Below w9.heap.size w9 w') := Lib.hid (HM.out.mono fun e w' ⟨⟨z, h1, h3⟩, h2⟩ => ⟨by rw [h1, hm, h3 n hm]; rfl, h2⟩)
            have Hbo : Hid (bitsO r = some n) := Lib.hid (by rw [hbo2, hm])
            clear hbo2 hm HM hB77 hB27
            go_wp2_with (first
              | ((with_reducible show wpList _ _ _ (⟨some 55, _, _, _, _, _⟩ :: _) _ _); refine wpList_loadAd (o := ⟨some 55, _, _, _, _, _⟩) rfl _ rfl rfl hB119 ?_)
              | (go_at_call 134; refine HM2.out.mono ?_; rintro e w10 ⟨rfl, hb10⟩; have hB210 := hB29.bel hb10; have hB710 := hB79.bel hb10; have Hb10 := Lib.hid (bel_tr Hb9.out hb10); clear hb10)
              | ((with_reducible show wpList _ _ _ (⟨some 62, _, _, _, _, _⟩ :: _) _ _); refine wpList_loadAd (o := ⟨some 62, _, _, _, _, _⟩) rfl _ rfl rfl hB710 ?_)
              | ((with_reducible show wpList _ _ _ (⟨some 64, _, _, _, _, _⟩ :: _) _ _); refine wpList_buildL (o := ⟨some 64, _, _, _, _, _⟩) rfl _ [(0, .tmp 62), (1, .tmp 63)] rfl hbt rfl ?_)
              | ((with_reducible refine wpList_storePf (o := ⟨none, _, _, _, _, _⟩) rfl (.tmp 2) _ rfl rfl rfl hB210 ?_); intro w6 hB6 hS6))
            exact ret_pfE Tryd.results100 rfl rfl hB6 rfl ⟨by rw [Hbo.out]; rfl, Hb10.out.trans (hS6.below Hg2.out)⟩
end Go.Proofs.YtgebcifkbldfoaaDoor
