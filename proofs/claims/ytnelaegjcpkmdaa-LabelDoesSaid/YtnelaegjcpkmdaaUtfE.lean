/- That the reference's Next answers what utf.Next does; the reference's Runes. -/
import Derived.Test.YtnelaegjcpkmdaaUtfD
namespace Go.Proofs.Ytnelaegjcpkmdaa
open Go.RowKit
attribute [local go_sem] ba_get ext_drop ext_take

theorem ofNat_iff {n : Nat} (h : n < 256) (b : UInt8) : UInt8.ofNat n = b ↔ n = b.toNat := by
  constructor
  · intro e; rw [← e, UInt8.toNat_ofNat_of_lt' h]
  · intro e; rw [e]; simp
theorem enc_len1 {c : Int} (h : c < 128) : (enc c).length = 1 := by unfold enc; rw [if_pos h]; rfl
theorem enc_len2 {c : Int} (h : c < 2048) : (enc c).length ≤ 2 := by
  unfold enc
  by_cases h1 : c < 128
  · rw [if_pos h1]; simp
  · rw [if_neg h1, if_pos h]; simp
theorem enc_len3 {c : Int} (h : c < 65536) : (enc c).length ≤ 3 := by
  unfold enc
  by_cases h1 : c < 128
  · rw [if_pos h1]; simp
  · by_cases h2 : c < 2048
    · rw [if_neg h1, if_pos h2]; simp
    · rw [if_neg h1, if_neg h2, if_pos h]; simp
theorem RnsRel.keep {k : IntKind} {e : TypeId} {w wr w1 : World} {l r : List UInt8} {v : Value} (h : RnsRel k e w l r v wr) (hb : Below wr.heap.size wr w1) : RnsRel k e w l r v w1 := by
  obtain ⟨done, h1, h2, h3, h4⟩ := h
  exact ⟨done, h1, h2, own_below h3 hb, h4.trans (hb.mono h4.size)⟩
theorem enc_of2 {c : Int} (h : 128 ≤ c) (h' : c < 2048) : enc c = [UInt8.ofNat (192 + c.toNat / 64), UInt8.ofNat (128 + c.toNat % 64)] := by
  unfold enc; rw [if_neg (by omega), if_pos h']
theorem enc_of3 {c : Int} (h : 2048 ≤ c) (h' : c < 65536) : enc c = [UInt8.ofNat (224 + c.toNat / 4096), UInt8.ofNat (128 + c.toNat / 64 % 64), UInt8.ofNat (128 + c.toNat % 64)] := by
  unfold enc; rw [if_neg (by omega), if_neg (by omega), if_pos h']
theorem enc_of4 {c : Int} (h : 65536 ≤ c) : enc c = [UInt8.ofNat (240 + c.toNat / 262144), UInt8.ofNat (128 + c.toNat / 4096 % 64), UInt8.ofNat (128 + c.toNat / 64 % 64), UInt8.ofNat (128 + c.toNat % 64)] := by
  unfold enc; rw [if_neg (by omega), if_neg (by omega), if_neg (by omega)]

theorem tail_iff {c : Int} {n : Nat} {l : List UInt8} {p : Prop} [Decidable p] {o : Option (Int × Int)} (hp : ptB c = true → (enc c = l.take n ↔ p)) (ho : o = if ptB c = true ∧ p then some (c, (n : Int)) else none) : tailOk c n l = o := by
  rw [ho]
  unfold tailOk
  by_cases h : ptB c = true
  · by_cases h2 : p
    · rw [if_pos ⟨h, (hp h).2 h2⟩, if_pos ⟨h, h2⟩]
    · rw [if_neg (fun e => h2 ((hp h).1 e.2)), if_neg (fun e => h2 e.2)]
  · rw [if_neg (fun e => h e.1), if_neg (fun e => h e.1)]
theorem ck_if (least c n : Int) : ck least c n = if ptB c = true ∧ least ≤ c then some (c, n) else none := by
  unfold ck
  by_cases h : ptB c = true
  · by_cases h2 : least ≤ c
    · rw [if_neg (by simp [h]; omega), if_pos ⟨h, h2⟩]
    · rw [if_pos (by omega), if_neg (fun e => h2 e.2)]
  · rw [if_pos (by simp at h; exact .inr h), if_neg (fun e => h e.1)]

theorem nx_tail1 (a : UInt8) (r : List UInt8) (h : (a.toNat : Int) < 128) : tailOk (foldc (shC (a.toNat : Int)) (r.take 0)) 1 (a :: r) = nx (a :: r) := by
  rw [nx_cons, nx1_1 _ _ h]
  have hs : shC (a.toNat : Int) = (a.toNat : Int) := by unfold shC; rw [if_pos h]
  refine tail_iff (p := True) ?_ ?_
  · intro _
    simp [foldc, hs, enc, h]
  · have hp : ptB (a.toNat : Int) = true := by simp [ptB]; omega
    simp [foldc, hs, hp]
theorem nx_tail2 (a b : UInt8) (r : List UInt8) (h : 192 ≤ (a.toNat : Int)) (h' : (a.toNat : Int) < 224) : tailOk (foldc (shC (a.toNat : Int)) ((b :: r).take 1)) 2 (a :: b :: r) = nx (a :: b :: r) := by
  rw [nx_cons, nx1_2 _ _ h h']
  have hb := b.toNat_lt
  have hs : shC (a.toNat : Int) = (a.toNat : Int) % 32 := by unfold shC; rw [if_neg (by omega), if_neg (by omega), if_pos (by omega)]
  have e : foldc (shC (a.toNat : Int)) ((b :: r).take 1) = (a.toNat : Int) % 32 * 64 + (b.toNat : Int) % 64 := by simp [foldc, hs]; omega
  rw [e]
  generalize hc : (a.toNat : Int) % 32 * 64 + (b.toNat : Int) % 64 = c
  refine tail_iff (p := b.toNat / 64 = 2 ∧ 128 ≤ c) ?_ ?_
  · intro _
    by_cases h1 : c < 128
    · have := enc_len1 h1
      constructor
      · intro e; rw [e] at this; simp at this
      · intro e; omega
    · rw [enc_of2 (by omega) (by omega)]
      simp only [List.take_succ_cons, List.take_zero, List.cons.injEq, and_true]
      rw [ofNat_iff (by omega), ofNat_iff (by omega)]
      omega
  · simp only [nx2]
    rw [hc, ck_if]
    by_cases h1 : b.toNat / 64 = 2 <;> simp [h1]
theorem nx_tail3 (a b d : UInt8) (r : List UInt8) (h : 224 ≤ (a.toNat : Int)) (h' : (a.toNat : Int) < 240) : tailOk (foldc (shC (a.toNat : Int)) ((b :: d :: r).take 2)) 3 (a :: b :: d :: r) = nx (a :: b :: d :: r) := by
  rw [nx_cons, nx1_3 _ _ h h']
  have hb := b.toNat_lt
  have hd := d.toNat_lt
  have hs : shC (a.toNat : Int) = (a.toNat : Int) % 16 := by unfold shC; rw [if_neg (by omega), if_neg (by omega), if_neg (by omega), if_pos (by omega)]
  have e : foldc (shC (a.toNat : Int)) ((b :: d :: r).take 2) = ((a.toNat : Int) % 16 * 64 + (b.toNat : Int) % 64) * 64 + (d.toNat : Int) % 64 := by simp [foldc, hs]; omega
  rw [e]
  generalize hc : ((a.toNat : Int) % 16 * 64 + (b.toNat : Int) % 64) * 64 + (d.toNat : Int) % 64 = c
  refine tail_iff (p := (b.toNat / 64 = 2 ∧ d.toNat / 64 = 2) ∧ 2048 ≤ c) ?_ ?_
  · intro _
    by_cases h1 : c < 2048
    · have := enc_len2 h1
      constructor
      · intro e; rw [e] at this; simp at this
      · intro e; omega
    · rw [enc_of3 (by omega) (by omega)]
      simp only [List.take_succ_cons, List.take_zero, List.cons.injEq, and_true]
      rw [ofNat_iff (by omega), ofNat_iff (by omega), ofNat_iff (by omega)]
      omega
  · simp only [nx3]
    rw [hc, ck_if]
    by_cases h1 : b.toNat / 64 = 2 <;> by_cases h2 : d.toNat / 64 = 2 <;> simp [h1, h2]
theorem nx_tail4 (a b d f : UInt8) (r : List UInt8) (h : 240 ≤ (a.toNat : Int)) (h' : (a.toNat : Int) < 248) : tailOk (foldc (shC (a.toNat : Int)) ((b :: d :: f :: r).take 3)) 4 (a :: b :: d :: f :: r) = nx (a :: b :: d :: f :: r) := by
  rw [nx_cons, nx1_4 _ _ h h']
  have hb := b.toNat_lt
  have hd := d.toNat_lt
  have hf := f.toNat_lt
  have hs : shC (a.toNat : Int) = (a.toNat : Int) % 8 := by unfold shC; rw [if_neg (by omega), if_neg (by omega), if_neg (by omega), if_neg (by omega), if_pos (by omega)]
  have e : foldc (shC (a.toNat : Int)) ((b :: d :: f :: r).take 3) = (((a.toNat : Int) % 8 * 64 + (b.toNat : Int) % 64) * 64 + (d.toNat : Int) % 64) * 64 + (f.toNat : Int) % 64 := by simp [foldc, hs]; omega
  rw [e]
  generalize hc : (((a.toNat : Int) % 8 * 64 + (b.toNat : Int) % 64) * 64 + (d.toNat : Int) % 64) * 64 + (f.toNat : Int) % 64 = c
  refine tail_iff (p := (b.toNat / 64 = 2 ∧ d.toNat / 64 = 2 ∧ f.toNat / 64 = 2) ∧ 65536 ≤ c) ?_ ?_
  · intro _
    by_cases h1 : c < 65536
    · have := enc_len3 h1
      constructor
      · intro e; rw [e] at this; simp at this
      · intro e; omega
    · rw [enc_of4 (by omega)]
      simp only [List.take_succ_cons, List.take_zero, List.cons.injEq, and_true]
      rw [ofNat_iff (by omega), ofNat_iff (by omega), ofNat_iff (by omega), ofNat_iff (by omega)]
      omega
  · simp only [nx4]
    rw [hc, ck_if]
    by_cases h1 : b.toNat / 64 = 2 <;> by_cases h2 : d.toNat / 64 = 2 <;> by_cases h3 : f.toNat / 64 = 2 <;> simp [h1, h2, h3]

section
variable (a : UInt8) (r : List UInt8) (w : World)
set_option maxRecDepth 100000 in
set_option maxHeartbeats 400000 in
theorem rnext_nil : Calls Try.prog 109 #[.string ⟨([] : List UInt8).toArray⟩] w (NxPost w (nx [])) := by
  go_enter Try.func109, Try.ntmps109
  go_wp2
  go_ret2
  exact nxp_none rfl (Below.refl _ _)
set_option maxRecDepth 100000 in
set_option maxHeartbeats 400000 in
theorem rnext_bad (hsh : shN (a.toNat : Int) = 0) (hfin : nx (a :: r) = none) :
    Calls Try.prog 109 #[.string ⟨(a :: r).toArray⟩] w (NxPost w (nx (a :: r))) := by
  have Hfin := Lib.hid hfin
  have Hsh := Lib.hid hsh
  clear hfin hsh
  have hlt : (a.toNat : Int) ≤ 255 := by have := a.toNat_lt; omega
  go_enter Try.func109, Try.ntmps109
  go_wp2_with fail
  refine (lead_any _ _ (by omega) (by omega)).mono ?_
  rintro e w' ⟨rfl, rfl⟩
  rw [Hsh.out]
  go_wp2_with fail
  go_ret2
  exact nxp_none Hfin.out (Below.refl _ _)
set_option maxRecDepth 100000 in
set_option maxHeartbeats 400000 in
theorem rnext_short (n : Int) (h2 : 2 ≤ n) (hl : (r.length : Int) + 1 < n) (hn : n ≤ 4) (hsh : shN (a.toNat : Int) = n) (hfin : nx (a :: r) = none) :
    Calls Try.prog 109 #[.string ⟨(a :: r).toArray⟩] w (NxPost w (nx (a :: r))) := by
  have Hfin := Lib.hid hfin
  have Hsh := Lib.hid hsh
  clear hfin hsh
  have hlt : (a.toNat : Int) ≤ 255 := by have := a.toNat_lt; omega
  have hnz : ((n : Int) == 0) = false := by simp; omega
  go_enter Try.func109, Try.ntmps109
  go_wp2_with fail
  refine (lead_any _ _ (by omega) (by omega)).mono ?_
  rintro e w' ⟨rfl, rfl⟩
  rw [Hsh.out]
  go_wp2_with fail
  go_ret2
  exact nxp_none Hfin.out (Below.refl _ _)

theorem rnext_any (l : List UInt8) (hl : l.length ≤ 140737488351232) :
    Calls Try.prog 109 #[.string ⟨l.toArray⟩] w (NxPost w (nx l)) := by
  match l, hl with
  | [], _ => exact rnext_nil w
  | a :: r, hl =>
    have hl : r.length + 1 ≤ 140737488351232 := hl
    rcases (show ((a.toNat : Int) < 128 ∨ ((128 ≤ (a.toNat : Int) ∧ (a.toNat : Int) < 192) ∨ 248 ≤ (a.toNat : Int)) ∨ (192 ≤ (a.toNat : Int) ∧ (a.toNat : Int) < 224) ∨ (224 ≤ (a.toNat : Int) ∧ (a.toNat : Int) < 240) ∨ (240 ≤ (a.toNat : Int) ∧ (a.toNat : Int) < 248)) by omega) with h | h | ⟨h, h'⟩ | ⟨h, h'⟩ | ⟨h, h'⟩
    · rw [← nx_tail1 a r h]
      exact rnext_main a r w 1 hl (sh_of _ 1 1 (by omega) rfl) (by omega) (by omega) (by omega)
    · exact rnext_bad a r w (sh_of _ 0 0 (by omega) rfl) (nx1_0 _ _ h)
    · match r, hl with
      | [], _ => exact rnext_short a [] w 2 (by omega) (by simp) (by omega) (sh_of _ 2 2 (by omega) rfl) (nx1_2 _ _ h h')
      | b :: r, hl =>
        rw [← nx_tail2 a b r h h']
        exact rnext_main a (b :: r) w 2 hl (sh_of _ 2 2 (by omega) rfl) (by omega) (by omega) (by simp)
    · match r, hl with
      | [], _ => exact rnext_short a [] w 3 (by omega) (by simp) (by omega) (sh_of _ 3 3 (by omega) rfl) (nx1_3 _ _ h h')
      | [b], _ => exact rnext_short a [b] w 3 (by omega) (by simp) (by omega) (sh_of _ 3 3 (by omega) rfl) (nx1_3 _ _ h h')
      | b :: c :: r, hl =>
        rw [← nx_tail3 a b c r h h']
        exact rnext_main a (b :: c :: r) w 3 hl (sh_of _ 3 3 (by omega) rfl) (by omega) (by omega) (by simp)
    · match r, hl with
      | [], _ => exact rnext_short a [] w 4 (by omega) (by simp) (by omega) (sh_of _ 4 4 (by omega) rfl) (nx1_4 _ _ h h')
      | [b], _ => exact rnext_short a [b] w 4 (by omega) (by simp) (by omega) (sh_of _ 4 4 (by omega) rfl) (nx1_4 _ _ h h')
      | [b, c], _ => exact rnext_short a [b, c] w 4 (by omega) (by simp) (by omega) (sh_of _ 4 4 (by omega) rfl) (nx1_4 _ _ h h')
      | b :: c :: d :: r, hl =>
        rw [← nx_tail4 a b c d r h h']
        exact rnext_main a (b :: c :: d :: r) w 4 hl (sh_of _ 4 4 (by omega) rfl) (by omega) (by omega) (by simp)
end

set_option maxRecDepth 100000 in
set_option maxHeartbeats 400000 in
theorem rrunes_any (l : List UInt8) (w : World) (hl : l.length ≤ 1000000000) :
    Calls Try.prog 75 #[.string ⟨l.toArray⟩] w (RnsPost .i64 w (rns l)) := by
  go_enter Try.func75, Try.ntmps75
  go_wp2
  go_loopw [4, 5] (fun v i wr => ∃ k : Nat, k ≤ l.length ∧ i = .int .i64 k ∧ RnsRel .i64 3 w l (l.drop k) v wr) (fun _ i _ => l.length - (intOf i).toNat)
  case atStart => exact ⟨0, Nat.zero_le _, rfl, RnsRel.start _ _ _ _⟩
  case round =>
    obtain ⟨k, hk, rfl, hrel⟩ := hrel
    obtain ⟨done, h1, h2, h3, h4⟩ := hrel
    have H1 := Lib.hid h1
    clear h1
    by_cases hr : k < l.length
    · have hne : l.drop k ≠ [] := by simp; omega
      have hsz := h4.size
      have hki : (k : Int) < (l.length : Int) := by omega
      have hdl : (l.drop k).length = l.length - k := List.length_drop
      have Hdl := Lib.hid hdl
      clear hdl
      rcases hn : nx (l.drop k) with _ | ⟨c, n⟩
      · have Hn := Lib.hid hn
        clear hn
        go_wp2_with fail
        refine (rnext_any _ _ (by have := Hdl.out; omega)).mono ?_
        rintro e w' ⟨rfl, hb'⟩
        rw [Hn.out]
        unfold rnx
        go_wp2
        go_ret2
        exact RnsRel.fail (RnsRel.keep ⟨done, H1.out, h2, h3, h4⟩ hb') hne Hn.out
      · have hb := nx_bd hn
        have hp := ptB_bd hb.2.2.2
        have hn0 : ((n : Int) == 0) = false := by simp; omega
        have Hn := Lib.hid hn
        clear hn
        go_wp2_with fail
        refine (rnext_any _ _ (by have := Hdl.out; omega)).mono ?_
        rintro e w' ⟨rfl, hb'⟩
        rw [Hn.out]
        unfold rnx
        have h3' := own_below h3 hb'
        have h4' := h4.trans (hb'.mono hsz)
        have hsz' := h4'.size
        clear h3
        go_wp2_with (at_builtin; refine wpList_appLit rfl _ _ _ rfl elt_ints rfl h3' [.int .i64 c] (m := 1) rfl rfl (by simp [Value.oneCell']) ?c1 ?c2 ?c3 ?_)
        case c1 => omega
        case c2 => omega
        case c3 => omega
        · intro v1 w1 ho1 hb1 _
          have R := RnsRel.step (k := .i64) (e := 3) Hn.out H1.out h2 ho1 h4' hb1
          rw [List.drop_drop] at R
          have hle := Hdl.out
          clear ho1 hb1
          go_wp2
          go_roundw
          case rel => exact ⟨k + n.toNat, by omega, vint (by omega), R⟩
          case measure => simp [intOf]; omega
    · have hki : ¬ (k : Int) < (l.length : Int) := by omega
      have hd : l.drop k = [] := List.drop_eq_nil_of_le (by omega)
      rw [hd] at H1 h2
      have Hd := Lib.hid hd
      clear hd
      go_wp2
      go_ret2
      exact RnsRel.finish ⟨done, H1.out, h2, h3, h4⟩
end Go.Proofs.Ytnelaegjcpkmdaa
