/- Contracts and plain lemmas of our own, merged. -/
import Derived.Test.YtolglcgdophcaaaGreatDoorZ13
import Derived.Test.YtolglcgdophcaaaGreatDoorZ16
import Derived.Test.YtolglcgdophcaaaGreatDoorZ21
import Derived.Test.YtolglcgdophcaaaGreatDoorZ23
import Derived.Test.YtolglcgdophcaaaGreatDoorZ5
/- The contracts of addr.Reverse and of the reference's Reverse. -/
namespace Go.Proofs.YtolglcgdophcaaaGreatDoor
open Go.RowKit
attribute [local go_sem] ba_get ext_take ext_drop ext_any ba_app

def inaddr : List UInt8 := [105, 110, 45, 97, 100, 100, 114]
def arpa : List UInt8 := [97, 114, 112, 97]
def ip6 : List UInt8 := [105, 112, 54]
def rv4 (a : Ad) (j : Nat) : List (List UInt8) := (List.range (4 - j)).map fun t => itu (a.b (3 - t))
def rv6 (a : Ad) (j : Nat) : List (List UInt8) := (List.range (16 - j)).flatMap fun t => [[fig ((a.b (15 - t)).toNat % 16)], [fig ((a.b (15 - t)).toNat / 16)]]
theorem rv4_next (a : Ad) {m : Nat} (h : m < 4) : rv4 a m = rv4 a (m + 1) ++ [itu (a.b m)] := by
  unfold rv4
  rw [show 4 - m = (4 - (m + 1)) + 1 by omega, List.range_succ, List.map_append]
  show _ ++ [itu (a.b (3 - (4 - (m + 1))))] = _
  rw [show 3 - (4 - (m + 1)) = m by omega]
theorem rv6_next (a : Ad) {m : Nat} (h : m < 16) : rv6 a m = rv6 a (m + 1) ++ [[fig ((a.b m).toNat % 16)], [fig ((a.b m).toNat / 16)]] := by
  unfold rv6
  rw [show 16 - m = (16 - (m + 1)) + 1 by omega, List.range_succ, List.flatMap_append]
  simp only [List.flatMap_cons, List.flatMap_nil, List.append_nil]
  rw [show 15 - (16 - (m + 1)) = m by omega]
theorem rv4_len (a : Ad) (j : Nat) : (rv4 a j).length = 4 - j := by unfold rv4; rw [List.length_map, List.length_range]
theorem rv6_len (a : Ad) : ∀ t, ∀ j, j + t = 16 → (rv6 a j).length = 2 * t := by
  intro t
  induction t with
  | zero => intro j h; have : j = 16 := by omega
            subst this; rfl
  | succ t ih =>
    intro j h
    rw [rv6_next a (by omega), List.length_append, ih (j + 1) (by omega)]
    rfl
/-- the name under which an address is looked for. -/
def revA (a : Ad) : List (List UInt8) := if a.fam = 4 then rv4 a 0 ++ [inaddr, arpa] else if a.fam = 6 then rv6 a 0 ++ [ip6, arpa] else []
def RvPost (w : World) (a : Ad) (e : Ending) (w' : World) : Prop := ∃ v, e = .returned v ∧ w'.ownsRow w.heap.size 9 1 v (revA a).length ((revA a).map stv) ∧ Below w.heap.size w w'
def Rv4Rel (w w1 : World) (a : Ad) (g : Nat) (v i : Value) (wr : World) : Prop := ∃ (j N : Nat) (z : Int), j + N = 4 ∧ i = .int .i64 z ∧ z = (j : Int) - 1 ∧ wr.ownsRow w1.heap.size 9 1 v N ((rv4 a j).map stv) ∧ Bk wr g 24 (adA a) ∧ Below w.heap.size w wr ∧ w1.heap.size ≤ wr.heap.size
def Rv6Rel (w w1 : World) (a : Ad) (g : Nat) (v i : Value) (wr : World) : Prop := ∃ (j N : Nat) (z : Int), 2 * j + N = 32 ∧ i = .int .i64 z ∧ z = (j : Int) - 1 ∧ wr.ownsRow w1.heap.size 9 1 v N ((rv6 a j).map stv) ∧ Bk wr g 24 (adA a) ∧ Below w.heap.size w wr ∧ w1.heap.size ≤ wr.heap.size
theorem own_ne1 {w : World} {base g : Nat} {e : TypeId} {v : Value} {n : Nat} {xs : List Value} (h : w.ownsRow base e 1 v n xs) (hg : g < base) : some g ≠ v.ownBlock := by
  intro e
  have := (h.lt g e.symm).1
  omega
theorem u8_in {z : Int} (h0 : 0 ≤ z) (h1 : z < 256) : IntKind.u8.wrap z = z := by
  simp [IntKind.wrap, IntKind.signed, IntKind.bits]
  omega
theorem shr_u8_4 (c : UInt8) : ((c.toNat : Int)) / 16 = ((c.toNat / 16 : Nat) : Int) := by omega
set_option maxRecDepth 100000 in
set_option maxHeartbeats 2000000 in
theorem areverse4 (a : Ad) (w : World) (ht : Tab w) (h4 : a.fam = 4) : Calls Tryz.prog 20 #[.agg (adA a)] w (RvPost w a) := by
  have Ht := Lib.hid ht
  have i4 : (a.fam == 4) = true := by simpa using h4
  have Hr : Hid (revA a = rv4 a 0 ++ [inaddr, arpa]) := Lib.hid (by unfold revA; rw [if_pos h4])
  clear ht h4
  go_enter Tryz.func20, Tryz.ntmps20
  go_wp2_with (first
    | ((with_reducible refine wpList_boxB rfl _ _ rfl rfl ?_); intro g w1 hg hB hb hs; have hgw : w.heap.size ≤ g := Nat.le_of_eq hg.symm; clear hg hs
       have c0 := hB.cell 0
       rw [adA_0] at c0))
  have R0 : Rv4Rel w w1 a g (.slice none 0 0) (.int .i64 3) w1 := ⟨4, 0, 3, by omega, rfl, rfl, World.ownsRow_nil _ _ _ _, hB, hb, Nat.le_refl _⟩
  have hg1 := hB.lt
  have hw1 := hb.size
  clear hB hb c0
  go_loopw [3, 4] (fun v i wr => Rv4Rel w w1 a g v i wr) (fun _ i _ => (intOf i + 1).toNat)
  case atStart => exact R0
  case round =>
    obtain ⟨j, N, z, hj, rfl, hz, ho, hB, hb, hsz⟩ := hrel
    clear R0
    obtain ⟨A3, c3, rfl, hc3⟩ := (Sl.own ho).any
    rcases Nat.eq_zero_or_pos j with h0 | h0
    · subst h0
      obtain rfl : z = -1 := by omega
      clear hz
      go_wp2_with (first
        | (at_builtin; refine wpList_appLit (o := ⟨some 27, _, _, _, _, _⟩) rfl _ _ _ rfl elt_name rfl ho [.string ⟨inaddr.toArray⟩, .string ⟨arpa.toArray⟩] (m := 2) rfl rfl (by simp [Value.oneCell']) (by omega) (by omega) (by omega) ?_; intro v5 w5 ho5 hb5 hg5))
      go_ret
      refine ⟨_, rfl, ?_, hb.trans (hb5.mono hw1)⟩
      rw [Hr.out, List.length_append, rv4_len, List.map_append]
      have hN : N = 4 := by omega
      rw [hN] at ho5
      exact own_base ho5 hw1
    · obtain ⟨m, rfl⟩ : ∃ m, j = m + 1 := ⟨j - 1, by omega⟩
      obtain rfl : z = (m : Int) := by omega
      clear hz
      have hm : m < 4 := by omega
      have j0 : (0 : Int) ≤ (m : Int) := by omega
      have j1 : (m : Int) < 16 := by omega
      have c1 := hB.cell (m + 1)
      rw [adA_ip a (by omega), Nat.add_comm m 1] at c1
      have l0 := u8lt (a.b m)
      have hit := itu_len (a.b m)
      have Hnx := Lib.hid (rv4_next a hm)
      have hdg : ∀ W, Tab W → Calls Tryz.prog 34 #[.int .i64 ((a.b m).toNat : Int)] W (StrPost W (itu (a.b m))) := fun W hW => digits_any _ _ hW (by omega) (by omega)
      have Hdg := Lib.hid hdg
      clear hdg
      go_wp2_with (first
        | (go_at_call 34; refine (Hdg.out _ (Ht.out.below hb)).mono ?_; rintro e w2 ⟨rfl, hb2⟩; have ho2 := own_below ho hb2; have hB2 := hB.bel hb2; have hb02 := bel_tr hb hb2; have hsz2 := Nat.le_trans hsz hb2.size)
        | (at_builtin; refine wpList_appLit (o := ⟨some 24, _, _, _, _, _⟩) rfl _ _ _ rfl elt_name rfl ho2 [.string ⟨(itu (a.b m)).toArray⟩] (m := 1) rfl rfl (by simp [Value.oneCell']) (by omega) (by omega) (by omega) ?_; intro v5 w5 ho5 hb5 hg5; have hB5 := hB2.grown hg5 (own_ne1 ho2 hg1); have hsz5 := Nat.le_trans hsz2 hb5.size))
      go_roundw
      case rel =>
        refine ⟨m, N + 1, (m : Int) - 1, by omega, by go_num, rfl, ?_, hB5, hb02.trans (hb5.mono hw1), hsz5⟩
        rw [Hnx.out, List.map_append]
        exact ho5
      case measure => simp [intOf]
set_option maxRecDepth 100000 in
set_option maxHeartbeats 4000000 in
theorem areverse6 (a : Ad) (w : World) (h6 : a.fam = 6) : Calls Tryz.prog 20 #[.agg (adA a)] w (RvPost w a) := by
  have i4 : (a.fam == 4) = false := by simp [h6]
  have i6 : (a.fam == 6) = true := by simpa using h6
  have Hr : Hid (revA a = rv6 a 0 ++ [ip6, arpa]) := Lib.hid (by unfold revA; rw [if_neg (by omega), if_pos h6])
  clear h6
  go_enter Tryz.func20, Tryz.ntmps20
  go_wp2_with (first
    | ((with_reducible refine wpList_boxB rfl _ _ rfl rfl ?_); intro g w1 hg hB hb hs; have hgw : w.heap.size ≤ g := Nat.le_of_eq hg.symm; clear hg hs
       have c0 := hB.cell 0
       rw [adA_0] at c0))
  have R0 : Rv6Rel w w1 a g (.slice none 0 0) (.int .i64 15) w1 := ⟨16, 0, 15, by omega, rfl, rfl, World.ownsRow_nil _ _ _ _, hB, hb, Nat.le_refl _⟩
  have hg1 := hB.lt
  have hw1 := hb.size
  clear hB hb c0
  go_loopw [3, 5] (fun v i wr => Rv6Rel w w1 a g v i wr) (fun _ i _ => (intOf i + 1).toNat)
  case atStart => exact R0
  case round =>
    obtain ⟨j, N, z, hj, rfl, hz, ho, hB, hb, hsz⟩ := hrel
    clear R0
    obtain ⟨A3, c3, rfl, hc3⟩ := (Sl.own ho).any
    rcases Nat.eq_zero_or_pos j with h0 | h0
    · subst h0
      obtain rfl : z = -1 := by omega
      clear hz
      have Hl := Lib.hid (rv6_len a 16 0 rfl)
      go_wp2_with (first
        | (at_builtin; refine wpList_appLit (o := ⟨some 57, _, _, _, _, _⟩) rfl _ _ _ rfl elt_name rfl ho [.string ⟨ip6.toArray⟩, .string ⟨arpa.toArray⟩] (m := 2) rfl rfl (by simp [Value.oneCell']) (by omega) (by omega) (by omega) ?_; intro v5 w5 ho5 hb5 hg5))
      go_ret
      refine ⟨_, rfl, ?_, hb.trans (hb5.mono hw1)⟩
      rw [Hr.out, List.length_append, Hl.out, List.map_append]
      have hN : N = 32 := by omega
      rw [hN] at ho5
      exact own_base ho5 hw1
    · obtain ⟨m, rfl⟩ : ∃ m, j = m + 1 := ⟨j - 1, by omega⟩
      obtain rfl : z = (m : Int) := by omega
      clear hz
      have hm : m < 16 := by omega
      have j0 : (0 : Int) ≤ (m : Int) := by omega
      have j1 : (m : Int) < 16 := by omega
      have c1 := hB.cell (m + 1)
      rw [adA_ip a (by omega), Nat.add_comm m 1] at c1
      have l0 := u8lt (a.b m)
      have x1 := fun x : BelT wr => x.cell c1
      have a15 := and_u8_15 (a.b m)
      have e15 := shr_u8_4 (a.b m)
      have Hnx := Lib.hid (rv6_next a hm)
      have hlo : (a.b m).toNat % 16 < 16 := by omega
      have hhi : (a.b m).toNat / 16 < 16 := by omega
      generalize (a.b m).toNat % 16 = lo at *
      generalize (a.b m).toNat / 16 = hi at *
      have Ho := Lib.hid ho
      clear c1 ho
      go_wp2
      refine wp_region_bel (by kernel_rfl) (by kernel_rfl) ?_
      repeat (first
        | go_big_quiet_skip
        | (go_big_quiet_want; (go_big_quiet_op; go_big_quiet_on)))
      refine wpQuiet_nil ?_
      rintro _ ⟨x, rfl⟩
      have Hox := Lib.hid (own_below Ho.out x.bel)
      have hBx := hB.bel x.bel
      have hbx := bel_tr hb x.bel
      have hszx := Nat.le_trans hsz x.bel.size
      have i7 : ((lo : Nat) : Int) < 16 := by omega
      have i8 : ((hi : Nat) : Int) < 16 := by omega
      have t7 : ((lo : Int) + 1).toNat = lo + 1 := by omega
      have t8 : ((hi : Int) + 1).toNat = hi + 1 := by omega
      clear x1 Ho
      generalize x.at_ = wx at *
      go_wp2
      have hcl : List.drop lo (48 :: List.take lo [49, 50, 51, 52, 53, 54, 55, 56, 57, 97, 98, 99, 100, 101, 102]) = [fig lo] := figL_cut hlo
      have hch : List.drop hi (48 :: List.take hi [49, 50, 51, 52, 53, 54, 55, 56, 57, 97, 98, 99, 100, 101, 102]) = [fig hi] := figL_cut hhi
      have k0 : (0 : Int) ≤ (lo : Int) + 1 := by omega
      have k1 : (lo : Int) + 1 ≤ 16 := by omega
      have k2 : (lo : Int) ≤ (lo : Int) + 1 := by omega
      have k3 : (0 : Int) ≤ (hi : Int) + 1 := by omega
      have k4 : (hi : Int) + 1 ≤ 16 := by omega
      have k5 : (hi : Int) ≤ (hi : Int) + 1 := by omega
      have k6 : IntKind.u8.wrap ((lo : Int) + 1) = (lo : Int) + 1 := u8_in (by omega) (by omega)
      have k7 : IntKind.u8.wrap ((hi : Int) + 1) = (hi : Int) + 1 := u8_in (by omega) (by omega)
      refine wp_region_held (S := fun _ => True) (by kernel_rfl) ?_
      refine wpAnyH_take (i := 0) (oi := ⟨some 44, .move (.tmp 3), _, _, _, none⟩) (v := .slice A3 N c3) rfl (by kernel_rfl) (by kernel_rfl) (by kernel_rfl) (fun _ _ _ h => h) (Or.inl ⟨by rfl, fun w' hS' => by go_simp⟩) trivial ?_
      simp only [Act.put, List.setIfInBounds_toArray, List.set_cons_zero, List.set_cons_succ]
      refine wpAnyH_take (i := 1) (oi := ⟨some 45, .move (.tmp 6), _, _, _, none⟩) (v := .int .u8 lo) rfl (by kernel_rfl) (by kernel_rfl) (by kernel_rfl) (fun _ _ _ h => h) (Or.inl ⟨by rfl, fun w' hS' => by go_simp⟩) trivial ?_
      simp only [Act.put, List.setIfInBounds_toArray, List.set_cons_zero, List.set_cons_succ]
      refine wpAnyH_take (i := 2) (oi := ⟨some 46, .move (.tmp 6), _, _, _, none⟩) (v := .int .u8 lo) rfl (by kernel_rfl) (by kernel_rfl) (by kernel_rfl) (fun _ _ _ h => h) (Or.inl ⟨by rfl, fun w' hS' => by go_simp⟩) trivial ?_
      simp only [Act.put, List.setIfInBounds_toArray, List.set_cons_zero, List.set_cons_succ]
      refine wpAnyH_take (i := 3) (oi := ⟨some 47, .binOp .add 5 (.tmp 46) (.const (.int .u8 1)) 5, _, _, _, none⟩) (v := .int .u8 ((lo : Int) + 1)) rfl (by kernel_rfl) (by kernel_rfl) (by kernel_rfl) (fun _ _ _ h => h) (Or.inl ⟨by rfl, fun w' hS' => by go_simp⟩) trivial ?_
      simp only [Act.put, List.setIfInBounds_toArray, List.set_cons_zero, List.set_cons_succ]
      refine wpAnyH_take (i := 4) (oi := ⟨some 48, .slice 9 (.const (.string ⟨#[48, 49, 50, 51, 52, 53, 54, 55, 56, 57, 97, 98, 99, 100, 101, 102]⟩)) (some (.tmp 45)) (some (.tmp 47)) none, _, _, _, none⟩) (v := .string ⟨[fig lo].toArray⟩) rfl (by kernel_rfl) (by kernel_rfl) (by kernel_rfl) (fun _ _ _ h => h) (Or.inl ⟨by rfl, fun w' hS' => by go_simp⟩) trivial ?_
      simp only [Act.put, List.setIfInBounds_toArray, List.set_cons_zero, List.set_cons_succ]
      refine wpAnyH_take (i := 5) (oi := ⟨some 49, .move (.tmp 7), _, _, _, none⟩) (v := .int .u8 hi) rfl (by kernel_rfl) (by kernel_rfl) (by kernel_rfl) (fun _ _ _ h => h) (Or.inl ⟨by rfl, fun w' hS' => by go_simp⟩) trivial ?_
      simp only [Act.put, List.setIfInBounds_toArray, List.set_cons_zero, List.set_cons_succ]
      refine wpAnyH_take (i := 6) (oi := ⟨some 50, .move (.tmp 7), _, _, _, none⟩) (v := .int .u8 hi) rfl (by kernel_rfl) (by kernel_rfl) (by kernel_rfl) (fun _ _ _ h => h) (Or.inl ⟨by rfl, fun w' hS' => by go_simp⟩) trivial ?_
      simp only [Act.put, List.setIfInBounds_toArray, List.set_cons_zero, List.set_cons_succ]
      refine wpAnyH_take (i := 7) (oi := ⟨some 51, .binOp .add 5 (.tmp 50) (.const (.int .u8 1)) 5, _, _, _, none⟩) (v := .int .u8 ((hi : Int) + 1)) rfl (by kernel_rfl) (by kernel_rfl) (by kernel_rfl) (fun _ _ _ h => h) (Or.inl ⟨by rfl, fun w' hS' => by go_simp⟩) trivial ?_
      simp only [Act.put, List.setIfInBounds_toArray, List.set_cons_zero, List.set_cons_succ]
      refine wpAnyH_take (i := 8) (oi := ⟨some 52, .slice 9 (.const (.string ⟨#[48, 49, 50, 51, 52, 53, 54, 55, 56, 57, 97, 98, 99, 100, 101, 102]⟩)) (some (.tmp 49)) (some (.tmp 51)) none, _, _, _, none⟩) (v := .string ⟨[fig hi].toArray⟩) rfl (by kernel_rfl) (by kernel_rfl) (by kernel_rfl) (fun _ _ _ h => h) (Or.inl ⟨by rfl, fun w' hS' => by go_simp⟩) trivial ?_
      simp only [Act.put, List.setIfInBounds_toArray, List.set_cons_zero, List.set_cons_succ]
      clear k0 k1 k2 k3 k4 k5 k6 k7 hcl hch
      refine wpAnyH_all (rs := [9]) (by kernel_rfl) (by decide) ?_
      intro i hi9
      obtain rfl := List.mem_singleton.1 hi9
      refine wpOp_of_list (o := ⟨some 53, .buildSlice 34 2 #[(0, .tmp 48), (1, .tmp 52)], _, _, _, none⟩) rfl ?_
      refine wpList_lit rfl _ _ rfl elt_name [.string ⟨[fig lo].toArray⟩, .string ⟨[fig hi].toArray⟩] rfl (by decide) (by decide) (fun v hv => by simp at hv; rcases hv with rfl | rfl <;> rfl) rfl ?_
      intro w8 hB8 hx8 hb8 hs8
      have hb8' := bel_drew hb8
      have Hx8 := Lib.hid (Sl.own hx8)
      have Ho8 := Lib.hid (own_below Hox.out hb8')
      have hsz8 := Nat.le_trans hszx hb8'.size
      have hB8a := hBx.bel hb8'
      clear hB8 hx8 hs8
      show _ ∧ _
      refine ⟨trivial, ?_⟩
      simp only [Act.put, List.setIfInBounds_toArray, List.set_cons_zero, List.set_cons_succ]
      refine wpAnyH_all (rs := [10]) (by kernel_rfl) (by decide) ?_
      intro i hi9
      obtain rfl := List.mem_singleton.1 hi9
      refine wpOp_of_list (o := ⟨some 54, .call { callee := .builtin .append, args := #[.tmp 44, .tmp 53], argTypes := #[34, 34] }, _, _, _, none⟩) rfl ?_
      refine wpList_app rfl (.tmp 44) (.tmp 53) _ rfl elt_name rfl Ho8.out rfl Hx8.out (fun v hv => stv_one [[fig lo], [fig hi]] v hv) hsz8 (by omega) (by omega) ?_
      intro v9 w9 ho9 hb9 hg9
      have hB9 := hB8a.grown hg9 (own_ne1 Ho8.out hg1)
      have hb09 : Below w.heap.size w w9 := (bel_tr hbx hb8').trans (hb9.mono hw1)
      have hsz9 := Nat.le_trans hsz8 hb9.size
      obtain ⟨a9, c9, rfl, hc9⟩ := (Sl.own ho9).any
      show _ ∧ _
      refine ⟨trivial, ?_⟩
      simp only [Act.put, List.setIfInBounds_toArray, List.set_cons_zero, List.set_cons_succ]
      refine wpAnyH_take (i := 11) (oi := ⟨some 3, .assign (.tmp 54), _, _, _, none⟩) (v := .slice a9 (N + 2) c9) rfl (by kernel_rfl) (by kernel_rfl) (by kernel_rfl) (fun _ _ _ h => h) (Or.inl ⟨by rfl, fun w' hS' => by go_simp⟩) trivial ?_
      simp only [Act.put, List.setIfInBounds_toArray, List.set_cons_zero, List.set_cons_succ]
      refine wpAnyH_done (by kernel_rfl) ?_ _
      go_wp2
      go_roundw
      case rel =>
        refine ⟨m, N + 2, (m : Int) - 1, by omega, by go_num, rfl, ?_, hB9, hb09, hsz9⟩
        rw [Hnx.out, List.map_append]
        exact ho9
      case measure => simp [intOf]
theorem areverse_any (a : Ad) (w : World) (ht : Tab w) : Calls Tryz.prog 20 #[.agg (adA a)] w (RvPost w a) := by
  by_cases h4 : a.fam = 4
  · exact areverse4 a w ht h4
  · by_cases h6 : a.fam = 6
    · exact areverse6 a w h6
    · have i4 : (a.fam == 4) = false := by simpa using h4
      have i6 : (a.fam == 6) = false := by simpa using h6
      have Hr : Hid (revA a = []) := Lib.hid (by unfold revA; rw [if_neg h4, if_neg h6])
      clear h4 h6 ht
      go_enter Tryz.func20, Tryz.ntmps20
      go_wp2_with (first
        | ((with_reducible refine wpList_boxB rfl _ _ rfl rfl ?_); intro g w1 hg hB hb hs; clear hg hs
           have c0 := hB.cell 0
           rw [adA_0] at c0))
      go_ret
      refine ⟨_, rfl, ?_, hb⟩
      rw [Hr.out]
      exact World.ownsRow_nil _ _ _ _
end Go.Proofs.YtolglcgdophcaaaGreatDoor

/- The contract of works (9). -/
namespace Go.Proofs.YtolglcgdophcaaaGreatDoor
open Go.RowKit
attribute [local go_sem] ba_get ext_take ext_drop ext_any ba_app

theorem aparse_yes {s : List UInt8} {x : Ad} {w : World} (ht : Tab w) (hm : MaxI w) (hl : s.length ≤ 1000000000) (h : adrP s = .inr x) : Calls Tryz.prog 22 #[.string ⟨s.toArray⟩] w fun e w' => e = .returned (.tuple #[.agg (adA x), .int .i64 0]) ∧ Below w.heap.size w w' :=
  (aparse_any s w ht hm hl).mono fun e w' ⟨he, hb⟩ => by rw [h] at he; exact ⟨he, hb⟩
theorem yieldsIf_eqlAd {ops : Array Oper} {S : World → Prop} {o : Oper} {a : Act} (hw : Region.wanted o (yielded ops a.tmps) = true) (x y : Operand) {t : TypeId} (ho : o.op = .binOp .eql 24 x y t) {b c : Ad} (hx : a.eval x = .agg (adA b)) (hy : a.eval y = .agg (adA c)) {r : Bool} (hr : decide (b = c) = r) :
    YieldsIf Tryz.prog ops S o (.bool r) a := by
  subst hr
  refine .inl ⟨hw, fun w _ => ?_⟩
  unfold execOp
  simp only [ho, hx, hy, Sem.run_bind, run_eqGuard_agg w .eql 24 x y _ _ Tryz.eqGuardType24, Result.andThen_ok, ad_eql]
  rfl
def w9a : Ad := adOf 192 0 2 1
def w9b : Ad := ⟨6, [254, 128, 0, 0, 0, 0, 0, 0, 0, 0, 0, 0, 0, 0, 0, 1], 2, rfl, by decide, by decide⟩
def s9a : List UInt8 := [49, 57, 50, 46, 48, 46, 50, 46, 49]
def s9b : List UInt8 := [102, 101, 56, 48, 58, 58, 49, 37, 50]
def t9a : List UInt8 := [49, 46, 50, 46, 48, 46, 49, 57, 50, 46, 105, 110, 45, 97, 100, 100, 114, 46, 97, 114, 112, 97]
theorem w9pa : adrP s9a = .inr w9a := by decide +kernel
theorem w9pb : adrP s9b = .inr w9b := by decide +kernel
theorem w9sa : scoA w9a = 14 := by decide +kernel
theorem w9sb : scoA w9b = 2 := by decide +kernel
theorem w9ra : dpln (revA w9a) = t9a := by decide +kernel
theorem w9ma : unA (mpA w9a) = w9a := by decide +kernel
theorem w9ca : chkA w9a = 0 := by decide +kernel
theorem w9la : (revA w9a).length = 6 ∧ sz (revA w9a) ≤ 100000000 ∧ ∀ l ∈ revA w9a, l.length ≤ 100000000 := by decide +kernel
set_option maxRecDepth 100000 in
set_option maxHeartbeats 4000000 in
theorem dtext9 (v : Value) (w : World) (ha : Sl w 1 v (revA w9a).length ((revA w9a).map stv)) : Calls Tryz.prog 23 #[v] w fun e w' => e = .returned (.string ⟨t9a.toArray⟩) ∧ w = w' := by
  obtain ⟨A, c, rfl, hc⟩ := ha.any
  have Ha := Lib.hid ha
  clear ha
  go_enter Tryz.func23, Tryz.ntmps23
  go_wp2_with (go_at_call 39; refine (rplain5_any (revA w9a) _ _ Ha.out (by rw [w9la.1]; decide) w9la.2.1 w9la.2.2).mono ?_; rintro e w1 ⟨rfl, rfl⟩; rw [w9ra])
  go_ret
  exact ⟨rfl, rfl⟩
set_option maxRecDepth 100000 in
set_option maxHeartbeats 4000000 in
theorem works09_any (w : World) (ht : Tab w) (hn : TabN w) (hm : MaxI w) (hT : TabA w) : Calls Tryz.prog 4 #[] w (Good w) := by
  have Ht := Lib.hid ht
  have Hn := Lib.hid hn
  have Hm := Lib.hid hm
  have HT := Lib.hid hT
  clear ht hn hm hT
  go_enter Tryz.func4, Tryz.ntmps4
  go_wp2_with (first
    | ((fail_if_success (have hb1z := hb1)); go_at_call 22; refine (aparse_yes (s := s9a) Ht.out Hm.out (by decide) w9pa).mono ?_; rintro e w1 ⟨rfl, hb1⟩)
    | ((with_reducible refine wpList_allocAd (o := ⟨some 1, _, _, _, _, _⟩) rfl rfl ?_); intro g1 w2 hg hB1 hb2 hs; have hg1 : w1.heap.size ≤ g1 := Nat.le_of_eq hg.symm; clear hg hs)
    | ((with_reducible refine wpList_storeAd rfl (.tmp 1) _ rfl rfl rfl hB1 ?_); intro w3 hB3 hS3; have hb03 := bel_tr hb1 (hb2.trans (hS3.below hg1)))
    | (go_at_call 22; refine (aparse_yes (s := s9b) (Ht.out.below hb03) (Hm.out.below hb03) (by decide) w9pb).mono ?_; rintro e w4 ⟨rfl, hb4⟩; have hB34 := hB3.bel hb4)
    | ((with_reducible refine wpList_allocAd (o := ⟨some 3, _, _, _, _, _⟩) rfl rfl ?_); intro g3 w5 hg hBx hb5 hs; have hg3 : w4.heap.size ≤ g3 := Nat.le_of_eq hg.symm; have hB35 := hB34.bel hb5; clear hg hs)
    | ((with_reducible refine wpList_storeAd rfl (.tmp 3) _ rfl rfl rfl hBx ?_); intro w6 hB6 hS6; have hB36 := hB35.stays hS6 (by have := hB34.lt; omega); have hb06 := bel_tr (bel_tr hb03 hb4) (hb5.trans (hS6.below hg3))))
  have hR1 : ∀ w', Below w6.heap.size w6 w' → w'.rangeAt g1 0 (adL w9a) := fun w' h => (hB36.bel h).rangeAd
  have hR3 : ∀ w', Below w6.heap.size w6 w' → w'.rangeAt g3 0 (adL w9b) := fun w' h => (hB6.bel h).rangeAd
  clear hB1 hB3 hB34 hB35 hBx hS3 hS6 hb1 hb2 hb4 hb5 hb03 hB36 hB6
  refine wp_region_held (S := fun w' => Below w6.heap.size w6 w') (by kernel_rfl) ?_
  refine wpAnyH_take (i := 0) (oi := ⟨some 13, Op.move (Operand.tmp 2), _, _, _, none⟩) (v := Value.int IntKind.i64 0) rfl (by kernel_rfl) (by kernel_rfl) (by kernel_rfl) (fun _ _ _ h => h) (Or.inl ⟨by rfl, fun w' hS' => by go_simp⟩) (Below.refl _ _).drew ?_
  simp only [Act.put, List.setIfInBounds_toArray, List.set_cons_zero, List.set_cons_succ]
  refine wpAnyH_take (i := 1) (oi := ⟨some 14, Op.binOp BinOp.eql 26 (Operand.tmp 13) (Operand.const (Value.int IntKind.i64 0)) 26, _, _, _, none⟩) (v := Value.bool true) rfl (by kernel_rfl) (by kernel_rfl) (by kernel_rfl) (fun _ _ _ h => h) (Or.inl ⟨by rfl, fun w' hS' => by go_simp⟩) (Below.refl _ _).drew ?_
  simp only [Act.put, List.setIfInBounds_toArray, List.set_cons_zero, List.set_cons_succ]
  refine wpAnyH_take (i := 2) (oi := ⟨some 15, Op.move (Operand.tmp 14), _, _, _, none⟩) (v := Value.bool true) rfl (by kernel_rfl) (by kernel_rfl) (by kernel_rfl) (fun _ _ _ h => h) (Or.inl ⟨by rfl, fun w' hS' => by go_simp⟩) (Below.refl _ _).drew ?_
  simp only [Act.put, List.setIfInBounds_toArray, List.set_cons_zero, List.set_cons_succ]
  refine wpAnyH_take (i := 3) (oi := ⟨some 16, Op.move (Operand.tmp 4), _, _, _, some (2 , true)⟩) (v := Value.int IntKind.i64 0) rfl (by kernel_rfl) (by kernel_rfl) (by kernel_rfl) (fun _ _ _ h => h) (Or.inl ⟨by rfl, fun w' hS' => by go_simp⟩) (Below.refl _ _).drew ?_
  simp only [Act.put, List.setIfInBounds_toArray, List.set_cons_zero, List.set_cons_succ]
  refine wpAnyH_take (i := 4) (oi := ⟨some 17, Op.binOp BinOp.eql 26 (Operand.tmp 16) (Operand.const (Value.int IntKind.i64 0)) 26, _, _, _, some (2 , true)⟩) (v := Value.bool true) rfl (by kernel_rfl) (by kernel_rfl) (by kernel_rfl) (fun _ _ _ h => h) (Or.inl ⟨by rfl, fun w' hS' => by go_simp⟩) (Below.refl _ _).drew ?_
  simp only [Act.put, List.setIfInBounds_toArray, List.set_cons_zero, List.set_cons_succ]
  refine wpAnyH_take (i := 5) (oi := ⟨some 18, Op.pick (Operand.tmp 15) (Operand.tmp 17) (Operand.const (Value.bool false)), _, _, _, none⟩) (v := Value.bool true) rfl (by kernel_rfl) (by kernel_rfl) (by kernel_rfl) (fun _ _ _ h => h) (Or.inl ⟨by rfl, fun w' hS' => by go_simp⟩) (Below.refl _ _).drew ?_
  simp only [Act.put, List.setIfInBounds_toArray, List.set_cons_zero, List.set_cons_succ]
  refine wpAnyH_take (i := 6) (oi := ⟨some 19, Op.move (Operand.tmp 18), _, _, _, none⟩) (v := Value.bool true) rfl (by kernel_rfl) (by kernel_rfl) (by kernel_rfl) (fun _ _ _ h => h) (Or.inl ⟨by rfl, fun w' hS' => by go_simp⟩) (Below.refl _ _).drew ?_
  simp only [Act.put, List.setIfInBounds_toArray, List.set_cons_zero, List.set_cons_succ]
  refine wpAnyH_take (i := 7) (oi := ⟨some 20, Op.load 24 (Operand.tmp 3), _, _, _, some (6 , true)⟩) (v := Value.agg (adA w9b)) rfl (by kernel_rfl) (by kernel_rfl) (by kernel_rfl) (fun _ _ _ h => h) (yieldsIf_loadAd (by rfl) _ rfl rfl hR3) (Below.refl _ _).drew ?_
  simp only [Act.put, List.setIfInBounds_toArray, List.set_cons_zero, List.set_cons_succ]
  refine wpAnyH_all (rs := [8]) (by kernel_rfl) (by decide) ?_
  intro i hi
  obtain rfl := List.mem_singleton.1 hi
  refine wpOp_callM (o := ⟨some 21, Op.call { callee := Callee.value (Operand.func 15), args := #[Operand.tmp 20], argTypes := #[24] }, _, _, _, some (6 , true)⟩) rfl (by rfl) (by go_simp) (scope_any w9b _ (HT.out.below hb06.drew)) ?_
  rintro e x1 ⟨rfl, hx1⟩
  rw [w9sb]
  have hx1 := bel_drew hx1
  refine ⟨_, rfl, ?_⟩
  show _ ∧ _
  refine ⟨hx1, ?_⟩
  simp only [Act.put, List.setIfInBounds_toArray, List.set_cons_zero, List.set_cons_succ]
  refine wpAnyH_take (i := 9) (oi := ⟨some 22, Op.binOp BinOp.eql 3 (Operand.tmp 21) (Operand.const (Value.int IntKind.i64 2)) 3, _, _, _, some (6 , true)⟩) (v := Value.bool true) rfl (by kernel_rfl) (by kernel_rfl) (by kernel_rfl) (fun _ _ _ h => h) (Or.inl ⟨by rfl, fun w' hS' => by go_simp⟩) hx1 ?_
  simp only [Act.put, List.setIfInBounds_toArray, List.set_cons_zero, List.set_cons_succ]
  refine wpAnyH_take (i := 10) (oi := ⟨some 23, Op.pick (Operand.tmp 19) (Operand.tmp 22) (Operand.const (Value.bool false)), _, _, _, none⟩) (v := Value.bool true) rfl (by kernel_rfl) (by kernel_rfl) (by kernel_rfl) (fun _ _ _ h => h) (Or.inl ⟨by rfl, fun w' hS' => by go_simp⟩) hx1 ?_
  simp only [Act.put, List.setIfInBounds_toArray, List.set_cons_zero, List.set_cons_succ]
  refine wpAnyH_take (i := 11) (oi := ⟨some 24, Op.move (Operand.tmp 23), _, _, _, none⟩) (v := Value.bool true) rfl (by kernel_rfl) (by kernel_rfl) (by kernel_rfl) (fun _ _ _ h => h) (Or.inl ⟨by rfl, fun w' hS' => by go_simp⟩) hx1 ?_
  simp only [Act.put, List.setIfInBounds_toArray, List.set_cons_zero, List.set_cons_succ]
  refine wpAnyH_take (i := 12) (oi := ⟨some 25, Op.load 24 (Operand.tmp 1), _, _, _, some (11 , true)⟩) (v := Value.agg (adA w9a)) rfl (by kernel_rfl) (by kernel_rfl) (by kernel_rfl) (fun _ _ _ h => h) (yieldsIf_loadAd (by rfl) _ rfl rfl hR1) hx1 ?_
  simp only [Act.put, List.setIfInBounds_toArray, List.set_cons_zero, List.set_cons_succ]
  refine wpAnyH_all (rs := [13]) (by kernel_rfl) (by decide) ?_
  intro i hi
  obtain rfl := List.mem_singleton.1 hi
  refine wpOp_callM (o := ⟨some 26, Op.call { callee := Callee.value (Operand.func 15), args := #[Operand.tmp 25], argTypes := #[24] }, _, _, _, some (11 , true)⟩) rfl (by rfl) (by go_simp) (scope_any w9a _ (HT.out.below (bel_tr hb06 hx1))) ?_
  rintro e x2 ⟨rfl, hx12⟩
  rw [w9sa]
  have hx2 := bel_tr hx1 hx12
  refine ⟨_, rfl, ?_⟩
  show _ ∧ _
  refine ⟨hx2, ?_⟩
  simp only [Act.put, List.setIfInBounds_toArray, List.set_cons_zero, List.set_cons_succ]
  refine wpAnyH_take (i := 14) (oi := ⟨some 27, Op.binOp BinOp.eql 3 (Operand.tmp 26) (Operand.const (Value.int IntKind.i64 14)) 3, _, _, _, some (11 , true)⟩) (v := Value.bool true) rfl (by kernel_rfl) (by kernel_rfl) (by kernel_rfl) (fun _ _ _ h => h) (Or.inl ⟨by rfl, fun w' hS' => by go_simp⟩) hx2 ?_
  simp only [Act.put, List.setIfInBounds_toArray, List.set_cons_zero, List.set_cons_succ]
  refine wpAnyH_take (i := 15) (oi := ⟨some 28, Op.pick (Operand.tmp 24) (Operand.tmp 27) (Operand.const (Value.bool false)), _, _, _, none⟩) (v := Value.bool true) rfl (by kernel_rfl) (by kernel_rfl) (by kernel_rfl) (fun _ _ _ h => h) (Or.inl ⟨by rfl, fun w' hS' => by go_simp⟩) hx2 ?_
  simp only [Act.put, List.setIfInBounds_toArray, List.set_cons_zero, List.set_cons_succ]
  refine wpAnyH_take (i := 16) (oi := ⟨some 29, Op.move (Operand.tmp 28), _, _, _, none⟩) (v := Value.bool true) rfl (by kernel_rfl) (by kernel_rfl) (by kernel_rfl) (fun _ _ _ h => h) (Or.inl ⟨by rfl, fun w' hS' => by go_simp⟩) hx2 ?_
  simp only [Act.put, List.setIfInBounds_toArray, List.set_cons_zero, List.set_cons_succ]
  refine wpAnyH_take (i := 17) (oi := ⟨some 30, Op.load 24 (Operand.tmp 1), _, _, _, some (16 , true)⟩) (v := Value.agg (adA w9a)) rfl (by kernel_rfl) (by kernel_rfl) (by kernel_rfl) (fun _ _ _ h => h) (yieldsIf_loadAd (by rfl) _ rfl rfl hR1) hx2 ?_
  simp only [Act.put, List.setIfInBounds_toArray, List.set_cons_zero, List.set_cons_succ]
  refine wpAnyH_all (rs := [18]) (by kernel_rfl) (by decide) ?_
  intro i hi
  obtain rfl := List.mem_singleton.1 hi
  refine wpOp_callM (o := ⟨some 31, Op.call { callee := Callee.value (Operand.func 20), args := #[Operand.tmp 30], argTypes := #[24] }, _, _, _, some (16 , true)⟩) rfl (by rfl) (by go_simp) (areverse_any w9a _ (Ht.out.below (bel_tr hb06 hx2))) ?_
  rintro e x3 ⟨v3, rfl, ho3, hx23⟩
  have hx3 := bel_tr hx2 hx23
  have sl3 := Lib.hid (Sl.own ho3)
  obtain ⟨a3, c3, rfl, hc3⟩ := sl3.out.any
  clear ho3
  refine ⟨_, rfl, ?_⟩
  show _ ∧ _
  refine ⟨hx3, ?_⟩
  simp only [Act.put, List.setIfInBounds_toArray, List.set_cons_zero, List.set_cons_succ]
  refine wpAnyH_all (rs := [19]) (by kernel_rfl) (by decide) ?_
  intro i hi
  obtain rfl := List.mem_singleton.1 hi
  refine wpOp_callM (o := ⟨some 32, Op.call { callee := Callee.value (Operand.func 23), args := #[Operand.tmp 31], argTypes := #[34] }, _, _, _, some (16 , true)⟩) rfl (by rfl) (by go_simp) (dtext9 _ _ sl3.out) ?_
  rintro e x4 ⟨rfl, rfl⟩
  unfold t9a
  refine ⟨_, rfl, ?_⟩
  show _ ∧ _
  refine ⟨hx3, ?_⟩
  simp only [Act.put, List.setIfInBounds_toArray, List.set_cons_zero, List.set_cons_succ]
  refine wpAnyH_take (i := 20) (oi := ⟨some 33, Op.binOp BinOp.eql 9 (Operand.tmp 32) (Operand.const (Value.string { data := #[49, 46, 50, 46, 48, 46, 49, 57, 50, 46, 105, 110, 45, 97, 100, 100, 114, 46, 97, 114, 112, 97] })) 9, _, _, _, some (16 , true)⟩) (v := Value.bool true) rfl (by kernel_rfl) (by kernel_rfl) (by kernel_rfl) (fun _ _ _ h => h) (Or.inl ⟨by rfl, fun w' hS' => by go_simp⟩) hx3 ?_
  simp only [Act.put, List.setIfInBounds_toArray, List.set_cons_zero, List.set_cons_succ]
  refine wpAnyH_take (i := 21) (oi := ⟨some 34, Op.pick (Operand.tmp 29) (Operand.tmp 33) (Operand.const (Value.bool false)), _, _, _, none⟩) (v := Value.bool true) rfl (by kernel_rfl) (by kernel_rfl) (by kernel_rfl) (fun _ _ _ h => h) (Or.inl ⟨by rfl, fun w' hS' => by go_simp⟩) hx3 ?_
  simp only [Act.put, List.setIfInBounds_toArray, List.set_cons_zero, List.set_cons_succ]
  refine wpAnyH_take (i := 22) (oi := ⟨some 35, Op.move (Operand.tmp 34), _, _, _, none⟩) (v := Value.bool true) rfl (by kernel_rfl) (by kernel_rfl) (by kernel_rfl) (fun _ _ _ h => h) (Or.inl ⟨by rfl, fun w' hS' => by go_simp⟩) hx3 ?_
  simp only [Act.put, List.setIfInBounds_toArray, List.set_cons_zero, List.set_cons_succ]
  refine wpAnyH_take (i := 23) (oi := ⟨some 36, Op.load 24 (Operand.tmp 1), _, _, _, some (22 , true)⟩) (v := Value.agg (adA w9a)) rfl (by kernel_rfl) (by kernel_rfl) (by kernel_rfl) (fun _ _ _ h => h) (yieldsIf_loadAd (by rfl) _ rfl rfl hR1) hx3 ?_
  simp only [Act.put, List.setIfInBounds_toArray, List.set_cons_zero, List.set_cons_succ]
  refine wpAnyH_take (i := 26) (oi := ⟨some 39, Op.load 24 (Operand.tmp 1), _, _, _, some (22 , true)⟩) (v := Value.agg (adA w9a)) rfl (by kernel_rfl) (by kernel_rfl) (by kernel_rfl) (fun _ _ _ h => h) (yieldsIf_loadAd (by rfl) _ rfl rfl hR1) hx3 ?_
  simp only [Act.put, List.setIfInBounds_toArray, List.set_cons_zero, List.set_cons_succ]
  refine wpAnyH_all (rs := [24]) (by kernel_rfl) (by decide) ?_
  intro i hi
  obtain rfl := List.mem_singleton.1 hi
  refine wpOp_callM (o := ⟨some 37, Op.call { callee := Callee.value (Operand.func 11), args := #[Operand.tmp 36], argTypes := #[24] }, _, _, _, some (22 , true)⟩) rfl (by rfl) (by go_simp) (amap_all w9a _) ?_
  rintro e x5 ⟨rfl, hx35⟩
  have hx5 := bel_tr hx3 hx35
  refine ⟨_, rfl, ?_⟩
  show _ ∧ _
  refine ⟨hx5, ?_⟩
  simp only [Act.put, List.setIfInBounds_toArray, List.set_cons_zero, List.set_cons_succ]
  refine wpAnyH_all (rs := [25]) (by kernel_rfl) (by decide) ?_
  intro i hi
  obtain rfl := List.mem_singleton.1 hi
  refine wpOp_callM (o := ⟨some 38, Op.call { callee := Callee.value (Operand.func 13), args := #[Operand.tmp 37], argTypes := #[24] }, _, _, _, some (22 , true)⟩) rfl (by rfl) (by go_simp) (unmap_any (mpA w9a) _ (HT.out.below (bel_tr hb06 hx5))) ?_
  rintro e x6 ⟨rfl, hx56⟩
  rw [w9ma]
  have hx6 := bel_tr hx5 hx56
  refine ⟨_, rfl, ?_⟩
  show _ ∧ _
  refine ⟨hx6, ?_⟩
  simp only [Act.put, List.setIfInBounds_toArray, List.set_cons_zero, List.set_cons_succ]
  refine wpAnyH_take (i := 27) (oi := ⟨some 40, Op.binOp BinOp.eql 24 (Operand.tmp 38) (Operand.tmp 39) 24, _, _, _, some (22 , true)⟩) (v := Value.bool true) rfl (by kernel_rfl) (by kernel_rfl) (by kernel_rfl) (fun _ _ _ h => h) (yieldsIf_eqlAd (by rfl) _ _ rfl rfl rfl (decide_eq_true rfl)) hx6 ?_
  simp only [Act.put, List.setIfInBounds_toArray, List.set_cons_zero, List.set_cons_succ]
  refine wpAnyH_take (i := 28) (oi := ⟨some 41, Op.pick (Operand.tmp 35) (Operand.tmp 40) (Operand.const (Value.bool false)), _, _, _, none⟩) (v := Value.bool true) rfl (by kernel_rfl) (by kernel_rfl) (by kernel_rfl) (fun _ _ _ h => h) (Or.inl ⟨by rfl, fun w' hS' => by go_simp⟩) hx6 ?_
  simp only [Act.put, List.setIfInBounds_toArray, List.set_cons_zero, List.set_cons_succ]
  refine wpAnyH_take (i := 29) (oi := ⟨some 42, Op.move (Operand.tmp 41), _, _, _, none⟩) (v := Value.bool true) rfl (by kernel_rfl) (by kernel_rfl) (by kernel_rfl) (fun _ _ _ h => h) (Or.inl ⟨by rfl, fun w' hS' => by go_simp⟩) hx6 ?_
  simp only [Act.put, List.setIfInBounds_toArray, List.set_cons_zero, List.set_cons_succ]
  refine wpAnyH_take (i := 30) (oi := ⟨some 43, Op.load 24 (Operand.tmp 1), _, _, _, some (29 , true)⟩) (v := Value.agg (adA w9a)) rfl (by kernel_rfl) (by kernel_rfl) (by kernel_rfl) (fun _ _ _ h => h) (yieldsIf_loadAd (by rfl) _ rfl rfl hR1) hx6 ?_
  simp only [Act.put, List.setIfInBounds_toArray, List.set_cons_zero, List.set_cons_succ]
  refine wpAnyH_all (rs := [31]) (by kernel_rfl) (by decide) ?_
  intro i hi
  obtain rfl := List.mem_singleton.1 hi
  refine wpOp_callM (o := ⟨some 44, Op.call { callee := Callee.value (Operand.func 5), args := #[Operand.tmp 43], argTypes := #[24] }, _, _, _, some (29 , true)⟩) rfl (by rfl) (by go_simp) (acheck_any w9a _) ?_
  rintro e x7 ⟨rfl, hx67⟩
  rw [w9ca]
  have hx7 := bel_tr hx6 hx67
  refine ⟨_, rfl, ?_⟩
  show _ ∧ _
  refine ⟨hx7, ?_⟩
  simp only [Act.put, List.setIfInBounds_toArray, List.set_cons_zero, List.set_cons_succ]
  refine wpAnyH_take (i := 32) (oi := ⟨some 45, Op.binOp BinOp.eql 26 (Operand.tmp 44) (Operand.const (Value.int IntKind.i64 0)) 26, _, _, _, some (29 , true)⟩) (v := Value.bool true) rfl (by kernel_rfl) (by kernel_rfl) (by kernel_rfl) (fun _ _ _ h => h) (Or.inl ⟨by rfl, fun w' hS' => by go_simp⟩) hx7 ?_
  simp only [Act.put, List.setIfInBounds_toArray, List.set_cons_zero, List.set_cons_succ]
  refine wpAnyH_take (i := 33) (oi := ⟨some 46, Op.pick (Operand.tmp 42) (Operand.tmp 45) (Operand.const (Value.bool false)), _, _, _, none⟩) (v := Value.bool true) rfl (by kernel_rfl) (by kernel_rfl) (by kernel_rfl) (fun _ _ _ h => h) (Or.inl ⟨by rfl, fun w' hS' => by go_simp⟩) hx7 ?_
  simp only [Act.put, List.setIfInBounds_toArray, List.set_cons_zero, List.set_cons_succ]
  refine wpAnyH_take (i := 34) (oi := ⟨some 0, Op.assign (Operand.tmp 46), _, _, _, none⟩) (v := Value.bool true) rfl (by kernel_rfl) (by kernel_rfl) (by kernel_rfl) (fun _ _ _ h => h) (Or.inl ⟨by rfl, fun w' hS' => by go_simp⟩) hx7 ?_
  simp only [Act.put, List.setIfInBounds_toArray, List.set_cons_zero]
  refine wpAnyH_done (by kernel_rfl) ?_ _
  go_wp2
  go_ret
  exact ⟨rfl, bel_tr hb06 hx7⟩
end Go.Proofs.YtolglcgdophcaaaGreatDoor

/- Which address is looked for under a name: both ways to read it, in plain words. No walk here. -/
namespace Go.Proofs.YtolglcgdophcaaaGreatDoor
open Go.RowKit

/-- a name of one figure. -/
def hexC (l : List UInt8) : Option Nat := match l with
  | [c] => (hex (c.toNat : Int)).map Int.toNat
  | _ => none
/-! ### four numbers -/
def aun (n : List (List UInt8)) : Nat → Ad
  | 0 => adOf 0 0 0 0
  | k + 1 => (aun n k).setB (3 - k) (UInt8.ofNat (val (n.getD k [])))
/-! ### thirty-two figures -/
def nib (n : List (List UInt8)) (k : Nat) : Nat := (hexC (n.getD k [])).getD 0
def byX (n : List (List UInt8)) (k j : Nat) : Nat := (if 2 * (15 - j) < k then nib n (2 * (15 - j)) else 0) + 16 * (if 2 * (15 - j) + 1 < k then nib n (2 * (15 - j) + 1) else 0)
def xun (n : List (List UInt8)) (k : Nat) : Ad := ⟨6, (List.range 16).map (fun j => UInt8.ofNat (byX n k j)), 0, by simp, by decide, by decide⟩
/-! ### what both find -/
def unr (n : List (List UInt8)) : Option Ad :=
  if n.length = 6 then (if (n.take 4).all nokB = true ∧ lows (revA (aun n 4)) = lows n then some (aun n 4) else none)
  else if n.length = 34 then (if (n.take 32).all (fun l => (hexC l).isSome) = true ∧ lows (revA (xun n 32)) = lows n then some (xun n 32) else none) else none
theorem revA_len (a : Ad) : (revA a).length = if a.fam = 4 then 6 else if a.fam = 6 then 34 else 0 := by
  unfold revA
  split
  · rw [List.length_append, rv4_len]; rfl
  · split
    · rw [List.length_append, rv6_len a 16 0 rfl]; rfl
    · rfl
end Go.Proofs.YtolglcgdophcaaaGreatDoor

/- The contract of addr.Unreverse. -/
namespace Go.Proofs.YtolglcgdophcaaaGreatDoor
open Go.RowKit
attribute [local go_sem] ba_get ext_take ext_drop ext_any ba_app

def unV (o : Option Ad) : Value := match o with
  | some a => .tuple #[.agg (adA a), .bool true]
  | none => .tuple #[.agg (adA ad0), .bool false]
def UnPost (w : World) (n : List (List UInt8)) (e : Ending) (w' : World) : Prop := e = .returned (unV (unr n)) ∧ Below w.heap.size w w'
theorem UnPost.no {w w' : World} {n : List (List UInt8)} (h : unr n = none) (hb : Below w.heap.size w w') : UnPost w n (.returned (.tuple #[.agg (adA ad0), .bool false])) w' := ⟨by rw [h]; rfl, hb⟩
theorem UnPost.yes {w w' : World} {n : List (List UInt8)} {x : Ad} (h : unr n = some x) (hb : Below w.heap.size w w') : UnPost w n (.returned (.tuple #[.agg (adA x), .bool true])) w' := ⟨by rw [h]; rfl, hb⟩
end Go.Proofs.YtolglcgdophcaaaGreatDoor

/- The contract of the reference's Reverse (9). -/
namespace Go.Proofs.YtolglcgdophcaaaGreatDoor
open Go.RowKit
attribute [local go_sem] ba_get ext_take ext_drop ext_any ba_app

set_option maxRecDepth 100000 in
set_option maxHeartbeats 2000000 in
theorem rreverse4 (a : Ad) (w : World) (h4 : a.fam = 4) : Calls Tryz.prog 21 #[.agg (adA a)] w (RvPost w a) := by
  have i4 : (a.fam == 4) = true := by simpa using h4
  have Hr : Hid (revA a = rv4 a 0 ++ [inaddr, arpa]) := Lib.hid (by unfold revA; rw [if_pos h4])
  clear h4
  go_enter Tryz.func21, Tryz.ntmps21
  go_wp2_with (first
    | ((with_reducible refine wpList_boxB rfl _ _ rfl rfl ?_); intro g w1 hg hB hb hs; have hgw : w.heap.size ≤ g := Nat.le_of_eq hg.symm; clear hg hs
       have c0 := hB.cell 0
       rw [adA_0] at c0))
  have R0 : Rv4Rel w w1 a g (.slice none 0 0) (.int .i64 3) w1 := ⟨4, 0, 3, by omega, rfl, rfl, World.ownsRow_nil _ _ _ _, hB, hb, Nat.le_refl _⟩
  have hg1 := hB.lt
  have hw1 := hb.size
  clear hB hb c0
  go_loopw [3, 4] (fun v i wr => Rv4Rel w w1 a g v i wr) (fun _ i _ => (intOf i + 1).toNat)
  case atStart => exact R0
  case round =>
    obtain ⟨j, N, z, hj, rfl, hz, ho, hB, hb, hsz⟩ := hrel
    clear R0
    obtain ⟨A3, c3, rfl, hc3⟩ := (Sl.own ho).any
    rcases Nat.eq_zero_or_pos j with h0 | h0
    · subst h0
      obtain rfl : z = -1 := by omega
      clear hz
      go_wp2_with (first
        | (at_builtin; refine wpList_appLit (o := ⟨some 26, _, _, _, _, _⟩) rfl _ _ _ rfl elt_strs rfl ho [.string ⟨inaddr.toArray⟩] (m := 1) rfl rfl (by simp [Value.oneCell']) (by omega) (by omega) (by omega) ?_; intro v5 w5 ho5 hb5 hg5; obtain ⟨A5, c5, rfl, hc5⟩ := (Sl.own ho5).any; have hsz5 := Nat.le_trans hsz hb5.size)
        | (at_builtin; refine wpList_appLit (o := ⟨some 28, _, _, _, _, _⟩) rfl _ _ _ rfl elt_strs rfl ho5 [.string ⟨arpa.toArray⟩] (m := 1) rfl rfl (by simp [Value.oneCell']) (by omega) (by omega) (by omega) ?_; intro v6 w6 ho6 hb6 hg6))
      go_ret
      refine ⟨_, rfl, ?_, hb.trans ((hb5.trans hb6).mono hw1)⟩
      rw [Hr.out, List.length_append, rv4_len, List.map_append]
      have hN : N = 4 := by omega
      rw [hN, List.append_assoc] at ho6
      exact own_base ho6 hw1
    · obtain ⟨m, rfl⟩ : ∃ m, j = m + 1 := ⟨j - 1, by omega⟩
      obtain rfl : z = (m : Int) := by omega
      clear hz
      have hm : m < 4 := by omega
      have j0 : (0 : Int) ≤ (m : Int) := by omega
      have j1 : (m : Int) < 16 := by omega
      have c1 := hB.cell (m + 1)
      rw [adA_ip a (by omega), Nat.add_comm m 1] at c1
      have l0 := u8lt (a.b m)
      have hit := itu_len (a.b m)
      have Hnx := Lib.hid (rv4_next a hm)
      have hdg : ∀ W, Calls Tryz.prog 35 #[.int .i64 ((a.b m).toNat : Int)] W fun e w' => e = .returned (.string ⟨(itu (a.b m)).toArray⟩) ∧ w' = W := fun W => (rdigits_any _ W (by omega) (by omega)).mono fun e w' ⟨h1, h2⟩ => ⟨h1, by first | exact h2 | exact h2.symm⟩
      have Hdg := Lib.hid hdg
      clear hdg
      go_wp2_with (first
        | (go_at_call 35; refine (Hdg.out _).mono ?_; rintro e w2 ⟨rfl, hw⟩; have hw2 := hw.symm; subst hw2; clear hw)
        | (at_builtin; refine wpList_appLit (o := ⟨some 23, _, _, _, _, _⟩) rfl _ _ _ rfl elt_strs rfl ho [.string ⟨(itu (a.b m)).toArray⟩] (m := 1) rfl rfl (by simp [Value.oneCell']) (by omega) (by omega) (by omega) ?_; intro v5 w5 ho5 hb5 hg5; have hB5 := hB.grown hg5 (own_ne1 ho hg1); have hsz5 := Nat.le_trans hsz hb5.size))
      go_roundw
      case rel =>
        refine ⟨m, N + 1, (m : Int) - 1, by omega, by go_num, rfl, ?_, hB5, hb.trans (hb5.mono hw1), hsz5⟩
        rw [Hnx.out, List.map_append]
        exact ho5
      case measure => simp [intOf]
def RiRel (w w1 : World) (a : Ad) (g N : Nat) (L : List (List UInt8)) (lo hi : Nat) (v i : Value) (wr : World) : Prop := ∃ q : Nat, q ≤ 2 ∧ i = .int .i64 q ∧ wr.ownsRow w1.heap.size 9 1 v (N + q) ((L ++ [[fig lo], [fig hi]].take q).map stv) ∧ Bk wr g 24 (adA a) ∧ Below w.heap.size w wr ∧ w1.heap.size ≤ wr.heap.size
set_option maxRecDepth 100000 in
set_option maxHeartbeats 4000000 in
theorem rreverse6 (a : Ad) (w : World) (h6 : a.fam = 6) : Calls Tryz.prog 21 #[.agg (adA a)] w (RvPost w a) := by
  have i4 : (a.fam == 4) = false := by simp [h6]
  have i6 : (a.fam == 6) = true := by simpa using h6
  have Hr : Hid (revA a = rv6 a 0 ++ [ip6, arpa]) := Lib.hid (by unfold revA; rw [if_neg (by omega), if_pos h6])
  clear h6
  go_enter Tryz.func21, Tryz.ntmps21
  go_wp2_with (first
    | ((with_reducible refine wpList_boxB rfl _ _ rfl rfl ?_); intro g w1 hg hB hb hs; have hgw : w.heap.size ≤ g := Nat.le_of_eq hg.symm; clear hg hs
       have c0 := hB.cell 0
       rw [adA_0] at c0))
  have R0 : Rv6Rel w w1 a g (.slice none 0 0) (.int .i64 15) w1 := ⟨16, 0, 15, by omega, rfl, rfl, World.ownsRow_nil _ _ _ _, hB, hb, Nat.le_refl _⟩
  have hg1 := hB.lt
  have hw1 := hb.size
  clear hB hb c0
  go_loopw [3, 5] (fun v i wr => Rv6Rel w w1 a g v i wr) (fun _ i _ => (intOf i + 1).toNat)
  case atStart => exact R0
  case round =>
    obtain ⟨wo, rfl⟩ : ∃ wo, wo = wr := ⟨_, rfl⟩
    obtain ⟨j, N, z, hj, rfl, hz, ho, hB, hb, hsz⟩ := hrel
    clear R0
    obtain ⟨A3, c3, rfl, hc3⟩ := (Sl.own ho).any
    rcases Nat.eq_zero_or_pos j with h0 | h0
    · subst h0
      obtain rfl : z = -1 := by omega
      clear hz
      have Hl := Lib.hid (rv6_len a 16 0 rfl)
      go_wp2_with (first
        | (at_builtin; refine wpList_appLit (o := ⟨some 59, _, _, _, _, _⟩) rfl _ _ _ rfl elt_strs rfl ho [.string ⟨ip6.toArray⟩] (m := 1) rfl rfl (by simp [Value.oneCell']) (by omega) (by omega) (by omega) ?_; intro v5 w5 ho5 hb5 hg5; obtain ⟨A5, c5, rfl, hc5⟩ := (Sl.own ho5).any; have hsz5 := Nat.le_trans hsz hb5.size)
        | (at_builtin; refine wpList_appLit (o := ⟨some 61, _, _, _, _, _⟩) rfl _ _ _ rfl elt_strs rfl ho5 [.string ⟨arpa.toArray⟩] (m := 1) rfl rfl (by simp [Value.oneCell']) (by omega) (by omega) (by omega) ?_; intro v6 w6 ho6 hb6 hg6))
      go_ret
      refine ⟨_, rfl, ?_, hb.trans ((hb5.trans hb6).mono hw1)⟩
      rw [Hr.out, List.length_append, Hl.out, List.map_append]
      have hN : N = 32 := by omega
      rw [hN, List.append_assoc] at ho6
      exact own_base ho6 hw1
    · obtain ⟨m, rfl⟩ : ∃ m, j = m + 1 := ⟨j - 1, by omega⟩
      obtain rfl : z = (m : Int) := by omega
      clear hz
      have hm : m < 16 := by omega
      have j0 : (0 : Int) ≤ (m : Int) := by omega
      have j1 : (m : Int) < 16 := by omega
      have l0 := u8lt (a.b m)
      have Hnx := Lib.hid (rv6_next a hm)
      have elo : ((a.b m).toNat : Int) % 16 = (((a.b m).toNat % 16 : Nat) : Int) := by omega
      have ehi : ((a.b m).toNat : Int) / 16 = (((a.b m).toNat / 16 : Nat) : Int) := by omega
      have Helo := Lib.hid elo
      have Hehi := Lib.hid ehi
      have hlo : (a.b m).toNat % 16 < 16 := by omega
      have hhi : (a.b m).toNat / 16 < 16 := by omega
      clear elo ehi
      generalize (a.b m).toNat % 16 = lo at *
      generalize (a.b m).toNat / 16 = hi at *
      obtain ⟨L, hL⟩ : ∃ L, rv6 a (m + 1) = L := ⟨_, rfl⟩
      rw [hL] at ho Hnx
      clear hL
      have R1 : RiRel w w1 a g N L lo hi (.slice A3 N c3) (.int .i64 0) wo := ⟨0, by omega, rfl, by simpa using ho, hB, hb, hsz⟩
      clear ho hB hb hsz hc3
      go_wp2
      go_loopw [3, 6] (fun v i wr => RiRel w w1 a g N L lo hi v i wr) (fun _ i _ => 2 - (intOf i).toNat)
      case atStart => exact R1
      case round =>
        obtain ⟨q, hq, rfl, ho, hB, hb, hsz⟩ := hrel
        clear R1
        obtain ⟨A4, c4, rfl, hc4⟩ := (Sl.own ho).any
        have c1 := hB.cell (m + 1)
        rw [adA_ip a (by omega), Nat.add_comm m 1] at c1
        rcases (show q = 0 ∨ q = 1 ∨ q = 2 by omega) with rfl | rfl | rfl
        · have hcl : List.drop lo (48 :: List.take lo [49, 50, 51, 52, 53, 54, 55, 56, 57, 97, 98, 99, 100, 101, 102]) = [fig lo] := figL_cut hlo
          have t7 : ((lo : Int) + 1).toNat = lo + 1 := by omega
          have i7 : ((lo : Nat) : Int) < 16 := by omega
          have e0 := Helo.out
          clear Helo Hehi
          go_wp2_with (first
            | (at_builtin; refine wpList_appLit (o := ⟨some 56, _, _, _, _, _⟩) rfl _ _ _ rfl elt_strs rfl ho [.string ⟨[fig lo].toArray⟩] (m := 1) rfl rfl (by simp [Value.oneCell']) (by omega) (by omega) (by omega) ?_; intro v5 w5 ho5 hb5 hg5; have hB5 := hB.grown hg5 (own_ne1 ho hg1); have hsz5 := Nat.le_trans hsz hb5.size))
          go_roundw
          case rel =>
            refine ⟨1, by omega, by go_num, ?_, hB5, hb.trans (hb5.mono hw1), hsz5⟩
            have h := ho5
            simp [stv] at h ⊢
            exact h
          case measure => simp [intOf]
        · have hch : List.drop hi (48 :: List.take hi [49, 50, 51, 52, 53, 54, 55, 56, 57, 97, 98, 99, 100, 101, 102]) = [fig hi] := figL_cut hhi
          have t7 : ((hi : Int) + 1).toNat = hi + 1 := by omega
          have i7 : ((hi : Nat) : Int) < 16 := by omega
          have i9 : (hi : Int) % 16 = (hi : Int) := by omega
          have e0 := Hehi.out
          clear Helo Hehi
          go_wp2_with (first
            | (at_builtin; refine wpList_appLit (o := ⟨some 56, _, _, _, _, _⟩) rfl _ _ _ rfl elt_strs rfl ho [.string ⟨[fig hi].toArray⟩] (m := 1) rfl rfl (by simp [Value.oneCell']) (by omega) (by omega) (by omega) ?_; intro v5 w5 ho5 hb5 hg5; have hB5 := hB.grown hg5 (own_ne1 ho hg1); have hsz5 := Nat.le_trans hsz hb5.size))
          go_roundw
          case rel =>
            refine ⟨2, by omega, by go_num, ?_, hB5, hb.trans (hb5.mono hw1), hsz5⟩
            have h := ho5
            simp [stv] at h ⊢
            exact h
          case measure => simp [intOf]
        · go_wp2
          go_roundw
          case rel =>
            refine ⟨m, N + 2, (m : Int) - 1, by omega, by go_num, rfl, ?_, hB, hb, hsz⟩
            rw [Hnx.out]
            simpa using ho
          case measure => simp [intOf]
theorem rreverse_any (a : Ad) (w : World) : Calls Tryz.prog 21 #[.agg (adA a)] w (RvPost w a) := by
  by_cases h4 : a.fam = 4
  · exact rreverse4 a w h4
  · by_cases h6 : a.fam = 6
    · exact rreverse6 a w h6
    · have i4 : (a.fam == 4) = false := by simpa using h4
      have i6 : (a.fam == 6) = false := by simpa using h6
      have Hr : Hid (revA a = []) := Lib.hid (by unfold revA; rw [if_neg h4, if_neg h6])
      clear h4 h6
      go_enter Tryz.func21, Tryz.ntmps21
      go_wp2_with (first
        | ((with_reducible refine wpList_boxB rfl _ _ rfl rfl ?_); intro g w1 hg hB hb hs; clear hg hs
           have c0 := hB.cell 0
           rw [adA_0] at c0))
      go_ret
      refine ⟨_, rfl, ?_, hb⟩
      rw [Hr.out]
      exact World.ownsRow_nil _ _ _ _
end Go.Proofs.YtolglcgdophcaaaGreatDoor

/- Which address is looked for under a name, by the reference, in plain words. No walk here. -/
namespace Go.Proofs.YtolglcgdophcaaaGreatDoor
open Go.RowKit

def dtx (n : List (List UInt8)) : List UInt8 := ((((((n.getD 3 [] ++ [46]) ++ n.getD 2 []) ++ [46]) ++ n.getD 1 []) ++ [46]) ++ n.getD 0 [])
def rt (n : List (List UInt8)) : Nat → List UInt8
  | 0 => []
  | t + 1 => if (31 - t) % 4 = 0 ∧ 0 < 31 - t then (rt n t ++ n.getD (31 - t) []) ++ [58] else rt n t ++ n.getD (31 - t) []
def rtx (n : List (List UInt8)) : List UInt8 := if n.length = 6 then dtx n else if n.length = 34 then rt n 32 else []
def setZ0 (a : Ad) : Ad := a.setZ 0 (by decide)
def rur (n : List (List UInt8)) : Option Ad := match adrP (rtx n) with
  | .inl _ => none
  | .inr a => if lows (revA (setZ0 a)) = lows n then some (setZ0 a) else none
end Go.Proofs.YtolglcgdophcaaaGreatDoor

/- The contract of the reference's Unreverse (9). -/
namespace Go.Proofs.YtolglcgdophcaaaGreatDoor
open Go.RowKit
attribute [local go_sem] ba_get ext_take ext_drop ext_any ba_app

def RuPost (w : World) (n : List (List UInt8)) (e : Ending) (w' : World) : Prop := e = .returned (unV (rur n)) ∧ Below w.heap.size w w'
theorem RuPost.no {w w' : World} {n : List (List UInt8)} (h : rur n = none) (hb : Below w.heap.size w w') : RuPost w n (.returned (.tuple #[.agg (adA ad0), .bool false])) w' := ⟨by rw [h]; rfl, hb⟩
theorem RuPost.yes {w w' : World} {n : List (List UInt8)} {x : Ad} (h : rur n = some x) (hb : Below w.heap.size w w') : RuPost w n (.returned (.tuple #[.agg (adA x), .bool true])) w' := ⟨by rw [h]; rfl, hb⟩
theorem raparse_yes {S T : List UInt8} {x : Ad} (hS : S = T) (h : adrP T = .inr x) (w : World) (hl : T.length ≤ 1000000000) : Calls Tryz.prog 47 #[.string ⟨S.toArray⟩] w fun e w' => e = .returned (.tuple #[.agg (adA x), .int .i64 0]) ∧ Below w.heap.size w w' := by
  subst hS
  exact (raparse_any S w hl).mono fun e w' ⟨he, hb⟩ => by rw [h] at he; exact ⟨he, hb⟩
end Go.Proofs.YtolglcgdophcaaaGreatDoor
