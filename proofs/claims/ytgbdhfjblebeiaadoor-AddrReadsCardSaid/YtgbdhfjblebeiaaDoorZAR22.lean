/- Contracts and plain lemmas of our own, merged. -/
import Derived.Test.YtgbdhfjblebeiaaDoorZAR13
import Derived.Test.YtgbdhfjblebeiaaDoorZAR18
import Derived.Test.YtgbdhfjblebeiaaDoorZAR20
import Derived.Test.YtgbdhfjblebeiaaDoorZAR21
import Derived.Test.YtgbdhfjblebeiaaDoorZAR5
/- The contracts of addr.Reverse and of the reference's Reverse. -/
namespace Go.Proofs.YtgbdhfjblebeiaaDoor
open Go.RowKit
attribute [local go_sem] ba_get ext_take ext_drop ext_any ba_app

def inaddr : List UInt8 := [105, 110, 45, 97, 100, 100, 114]
def arpa : List UInt8 := [97, 114, 112, 97]
def ip6 : List UInt8 := [105, 112, 54]
def rv4 (a : Ad) (j : Nat) : List (List UInt8) := (List.range (4 - j)).map fun t => itu (a.b (3 - t))
def rv6 (a : Ad) (j : Nat) : List (List UInt8) := (List.range (16 - j)).flatMap fun t => [[fig ((a.b (15 - t)).toNat % 16)], [fig ((a.b (15 - t)).toNat / 16)]]
theorem rv4_next (a : Ad) {m : Nat} (h : m < 4) : rv4 a m = rv4 a (m + 1) ++ [itu (a.b m)] := by
  unfold rv4
  rw [show 4 - m = (4 - (m + 1)) + 1 by omega, List.range_succ, List.map_append]
  show _ ++ [itu (a.b (3 - (4 - (m + 1))))] = _
  rw [show 3 - (4 - (m + 1)) = m by omega]
theorem rv6_next (a : Ad) {m : Nat} (h : m < 16) : rv6 a m = rv6 a (m + 1) ++ [[fig ((a.b m).toNat % 16)], [fig ((a.b m).toNat / 16)]] := by
  unfold rv6
  rw [show 16 - m = (16 - (m + 1)) + 1 by omega, List.range_succ, List.flatMap_append]
  simp only [List.flatMap_cons, List.flatMap_nil, List.append_nil]
  rw [show 15 - (16 - (m + 1)) = m by omega]
theorem rv4_len (a : Ad) (j : Nat) : (rv4 a j).length = 4 - j := by unfold rv4; rw [List.length_map, List.length_range]
theorem rv6_len (a : Ad) : ∀ t, ∀ j, j + t = 16 → (rv6 a j).length = 2 * t := by
  intro t
  induction t with
  | zero => intro j h; have : j = 16 := by omega
            subst this; rfl
  | succ t ih =>
    intro j h
    rw [rv6_next a (by omega), List.length_append, ih (j + 1) (by omega)]
    rfl
/-- the name under which an address is looked for. -/
def revA (a : Ad) : List (List UInt8) := if a.fam = 4 then rv4 a 0 ++ [inaddr, arpa] else if a.fam = 6 then rv6 a 0 ++ [ip6, arpa] else []
def RvPost (w : World) (a : Ad) (e : Ending) (w' : World) : Prop := ∃ v, e = .returned v ∧ w'.ownsRow w.heap.size 9 1 v (revA a).length ((revA a).map stv) ∧ Below w.heap.size w w'
def Rv4Rel (w w1 : World) (a : Ad) (g : Nat) (v i : Value) (wr : World) : Prop := ∃ (j N : Nat) (z : Int), j + N = 4 ∧ i = .int .i64 z ∧ z = (j : Int) - 1 ∧ wr.ownsRow w1.heap.size 9 1 v N ((rv4 a j).map stv) ∧ Bk wr g 25 (adA a) ∧ Below w.heap.size w wr ∧ w1.heap.size ≤ wr.heap.size
def Rv6Rel (w w1 : World) (a : Ad) (g : Nat) (v i : Value) (wr : World) : Prop := ∃ (j N : Nat) (z : Int), 2 * j + N = 32 ∧ i = .int .i64 z ∧ z = (j : Int) - 1 ∧ wr.ownsRow w1.heap.size 9 1 v N ((rv6 a j).map stv) ∧ Bk wr g 25 (adA a) ∧ Below w.heap.size w wr ∧ w1.heap.size ≤ wr.heap.size
theorem own_ne1 {w : World} {base g : Nat} {e : TypeId} {v : Value} {n : Nat} {xs : List Value} (h : w.ownsRow base e 1 v n xs) (hg : g < base) : some g ≠ v.ownBlock := by
  intro e
  have := (h.lt g e.symm).1
  omega
theorem u8_in {z : Int} (h0 : 0 ≤ z) (h1 : z < 256) : IntKind.u8.wrap z = z := by
  simp [IntKind.wrap, IntKind.signed, IntKind.bits]
  omega
theorem shr_u8_4 (c : UInt8) : ((c.toNat : Int)) / 16 = ((c.toNat / 16 : Nat) : Int) := by omega
set_option maxRecDepth 100000 in
set_option maxHeartbeats 2000000 in
theorem areverse4 (a : Ad) (w : World) (ht : Tab w) (h4 : a.fam = 4) : Calls Tryd.prog 52 #[.agg (adA a)] w (RvPost w a) := by
  have Ht := Lib.hid ht
  have i4 : (a.fam == 4) = true := by simpa using h4
  have Hr : Hid (revA a = rv4 a 0 ++ [inaddr, arpa]) := Lib.hid (by unfold revA; rw [if_pos h4])
  clear ht h4
  go_enter Tryd.func52, Tryd.ntmps52
  go_wp2_with (first
    | ((with_reducible refine wpList_boxB rfl _ _ rfl rfl ?_); intro g w1 hg hB hb hs; have hgw : w.heap.size ≤ g := Nat.le_of_eq hg.symm; clear hg hs
       have c0 := hB.cell 0
       rw [adA_0] at c0))
  have R0 : Rv4Rel w w1 a g (.slice none 0 0) (.int .i64 3) w1 := ⟨4, 0, 3, by omega, rfl, rfl, World.ownsRow_nil _ _ _ _, hB, hb, Nat.le_refl _⟩
  have hg1 := hB.lt
  have hw1 := hb.size
  clear hB hb c0
  go_loopw [3, 4] (fun v i wr => Rv4Rel w w1 a g v i wr) (fun _ i _ => (intOf i + 1).toNat)
  case atStart => exact R0
  case round =>
    obtain ⟨j, N, z, hj, rfl, hz, ho, hB, hb, hsz⟩ := hrel
    clear R0
    obtain ⟨A3, c3, rfl, hc3⟩ := (Sl.own ho).any
    rcases Nat.eq_zero_or_pos j with h0 | h0
    · subst h0
      obtain rfl : z = -1 := by omega
      clear hz
      go_wp2_with (first
        | (at_builtin; refine wpList_appLit (o := ⟨some 27, _, _, _, _, _⟩) rfl _ _ _ rfl elt_name rfl ho [.string ⟨inaddr.toArray⟩, .string ⟨arpa.toArray⟩] (m := 2) rfl rfl (by simp [Value.oneCell']) (by omega) (by omega) (by omega) ?_; intro v5 w5 ho5 hb5 hg5))
      go_ret
      refine ⟨_, rfl, ?_, hb.trans (hb5.mono hw1)⟩
      rw [Hr.out, List.length_append, rv4_len, List.map_append]
      have hN : N = 4 := by omega
      rw [hN] at ho5
      exact own_base ho5 hw1
    · obtain ⟨m, rfl⟩ : ∃ m, j = m + 1 := ⟨j - 1, by omega⟩
      obtain rfl : z = (m : Int) := by omega
      clear hz
      have hm : m < 4 := by omega
      have j0 : (0 : Int) ≤ (m : Int) := by omega
      have j1 : (m : Int) < 16 := by omega
      have c1 := hB.cell (m + 1)
      rw [adA_ip a (by omega), Nat.add_comm m 1] at c1
      have l0 := u8lt (a.b m)
      have hit := itu_len (a.b m)
      have Hnx := Lib.hid (rv4_next a hm)
      have hdg : ∀ W, Tab W → Calls Tryd.prog 34 #[.int .i64 ((a.b m).toNat : Int)] W (StrPost W (itu (a.b m))) := fun W hW => digits_any _ _ hW (by omega) (by omega)
      have Hdg := Lib.hid hdg
      clear hdg
      go_wp2_with (first
        | (go_at_call 34; refine (Hdg.out _ (Ht.out.below hb)).mono ?_; rintro e w2 ⟨rfl, hb2⟩; have ho2 := own_below ho hb2; have hB2 := hB.bel hb2; have hb02 := bel_tr hb hb2; have hsz2 := Nat.le_trans hsz hb2.size)
        | (at_builtin; refine wpList_appLit (o := ⟨some 24, _, _, _, _, _⟩) rfl _ _ _ rfl elt_name rfl ho2 [.string ⟨(itu (a.b m)).toArray⟩] (m := 1) rfl rfl (by simp [Value.oneCell']) (by omega) (by omega) (by omega) ?_; intro v5 w5 ho5 hb5 hg5; have hB5 := hB2.grown hg5 (own_ne1 ho2 hg1); have hsz5 := Nat.le_trans hsz2 hb5.size))
      go_roundw
      case rel =>
        refine ⟨m, N + 1, (m : Int) - 1, by omega, by go_num, rfl, ?_, hB5, hb02.trans (hb5.mono hw1), hsz5⟩
        rw [Hnx.out, List.map_append]
        exact ho5
      case measure => simp [intOf]
set_option maxRecDepth 100000 in
set_option maxHeartbeats 4000000 in
theorem areverse6 (a : Ad) (w : World) (h6 : a.fam = 6) : Calls Tryd.prog 52 #[.agg (adA a)] w (RvPost w a) := by
  have i4 : (a.fam == 4) = false := by simp [h6]
  have i6 : (a.fam == 6) = true := by simpa using h6
  have Hr : Hid (revA a = rv6 a 0 ++ [ip6, arpa]) := Lib.hid (by unfold revA; rw [if_neg (by omega), if_pos h6])
  clear h6
  go_enter Tryd.func52, Tryd.ntmps52
  go_wp2_with (first
    | ((with_reducible refine wpList_boxB rfl _ _ rfl rfl ?_); intro g w1 hg hB hb hs; have hgw : w.heap.size ≤ g := Nat.le_of_eq hg.symm; clear hg hs
       have c0 := hB.cell 0
       rw [adA_0] at c0))
  have R0 : Rv6Rel w w1 a g (.slice none 0 0) (.int .i64 15) w1 := ⟨16, 0, 15, by omega, rfl, rfl, World.ownsRow_nil _ _ _ _, hB, hb, Nat.le_refl _⟩
  have hg1 := hB.lt
  have hw1 := hb.size
  clear hB hb c0
  go_loopw [3, 5] (fun v i wr => Rv6Rel w w1 a g v i wr) (fun _ i _ => (intOf i + 1).toNat)
  case atStart => exact R0
  case round =>
    obtain ⟨j, N, z, hj, rfl, hz, ho, hB, hb, hsz⟩ := hrel
    clear R0
    obtain ⟨A3, c3, rfl, hc3⟩ := (Sl.own ho).any
    rcases Nat.eq_zero_or_pos j with h0 | h0
    · subst h0
      obtain rfl : z = -1 := by omega
      clear hz
      have Hl := Lib.hid (rv6_len a 16 0 rfl)
      go_wp2_with (first
        | (at_builtin; refine wpList_appLit (o := ⟨some 57, _, _, _, _, _⟩) rfl _ _ _ rfl elt_name rfl ho [.string ⟨ip6.toArray⟩, .string ⟨arpa.toArray⟩] (m := 2) rfl rfl (by simp [Value.oneCell']) (by omega) (by omega) (by omega) ?_; intro v5 w5 ho5 hb5 hg5))
      go_ret
      refine ⟨_, rfl, ?_, hb.trans (hb5.mono hw1)⟩
      rw [Hr.out, List.length_append, Hl.out, List.map_append]
      have hN : N = 32 := by omega
      rw [hN] at ho5
      exact own_base ho5 hw1
    · obtain ⟨m, rfl⟩ : ∃ m, j = m + 1 := ⟨j - 1, by omega⟩
      obtain rfl : z = (m : Int) := by omega
      clear hz
      have hm : m < 16 := by omega
      have j0 : (0 : Int) ≤ (m : Int) := by omega
      have j1 : (m : Int) < 16 := by omega
      have c1 := hB.cell (m + 1)
      rw [adA_ip a (by omega), Nat.add_comm m 1] at c1
      have l0 := u8lt (a.b m)
      have x1 := fun x : BelT wr => x.cell c1
      have a15 := and_u8_15 (a.b m)
      have e15 := shr_u8_4 (a.b m)
      have Hnx := Lib.hid (rv6_next a hm)
      have hlo : (a.b m).toNat % 16 < 16 := by omega
      have hhi : (a.b m).toNat / 16 < 16 := by omega
      generalize (a.b m).toNat % 16 = lo at *
      generalize (a.b m).toNat / 16 = hi at *
      have Ho := Lib.hid ho
      clear c1 ho
      go_wp2
      refine wp_region_bel (by kernel_rfl) (by kernel_rfl) ?_
      repeat (first
        | go_big_quiet_skip
        | (go_big_quiet_want; (go_big_quiet_op; go_big_quiet_on)))
      refine wpQuiet_nil ?_
      rintro _ ⟨x, rfl⟩
      have Hox := Lib.hid (own_below Ho.out x.bel)
      have hBx := hB.bel x.bel
      have hbx := bel_tr hb x.bel
      have hszx := Nat.le_trans hsz x.bel.size
      have i7 : ((lo : Nat) : Int) < 16 := by omega
      have i8 : ((hi : Nat) : Int) < 16 := by omega
      have t7 : ((lo : Int) + 1).toNat = lo + 1 := by omega
      have t8 : ((hi : Int) + 1).toNat = hi + 1 := by omega
      clear x1 Ho
      generalize x.at_ = wx at *
      go_wp2
      have hcl : List.drop lo (48 :: List.take lo [49, 50, 51, 52, 53, 54, 55, 56, 57, 97, 98, 99, 100, 101, 102]) = [fig lo] := figL_cut hlo
      have hch : List.drop hi (48 :: List.take hi [49, 50, 51, 52, 53, 54, 55, 56, 57, 97, 98, 99, 100, 101, 102]) = [fig hi] := figL_cut hhi
      have k0 : (0 : Int) ≤ (lo : Int) + 1 := by omega
      have k1 : (lo : Int) + 1 ≤ 16 := by omega
      have k2 : (lo : Int) ≤ (lo : Int) + 1 := by omega
      have k3 : (0 : Int) ≤ (hi : Int) + 1 := by omega
      have k4 : (hi : Int) + 1 ≤ 16 := by omega
      have k5 : (hi : Int) ≤ (hi : Int) + 1 := by omega
      have k6 : IntKind.u8.wrap ((lo : Int) + 1) = (lo : Int) + 1 := u8_in (by omega) (by omega)
      have k7 : IntKind.u8.wrap ((hi : Int) + 1) = (hi : Int) + 1 := u8_in (by omega) (by omega)
      refine wp_region_held (S := fun _ => True) (by kernel_rfl) ?_
      refine wpAnyH_take (i := 0) (oi := ⟨some 44, .move (.tmp 3), _, _, _, none⟩) (v := .slice A3 N c3) rfl (by kernel_rfl) (by kernel_rfl) (by kernel_rfl) (fun _ _ _ h => h) (Or.inl ⟨by rfl, fun w' hS' => by go_simp⟩) trivial ?_
      simp only [Act.put, List.setIfInBounds_toArray, List.set_cons_zero, List.set_cons_succ]
      refine wpAnyH_take (i := 1) (oi := ⟨some 45, .move (.tmp 6), _, _, _, none⟩) (v := .int .u8 lo) rfl (by kernel_rfl) (by kernel_rfl) (by kernel_rfl) (fun _ _ _ h => h) (Or.inl ⟨by rfl, fun w' hS' => by go_simp⟩) trivial ?_
      simp only [Act.put, List.setIfInBounds_toArray, List.set_cons_zero, List.set_cons_succ]
      refine wpAnyH_take (i := 2) (oi := ⟨some 46, .move (.tmp 6), _, _, _, none⟩) (v := .int .u8 lo) rfl (by kernel_rfl) (by kernel_rfl) (by kernel_rfl) (fun _ _ _ h => h) (Or.inl ⟨by rfl, fun w' hS' => by go_simp⟩) trivial ?_
      simp only [Act.put, List.setIfInBounds_toArray, List.set_cons_zero, List.set_cons_succ]
      refine wpAnyH_take (i := 3) (oi := ⟨some 47, .binOp .add 5 (.tmp 46) (.const (.int .u8 1)) 5, _, _, _, none⟩) (v := .int .u8 ((lo : Int) + 1)) rfl (by kernel_rfl) (by kernel_rfl) (by kernel_rfl) (fun _ _ _ h => h) (Or.inl ⟨by rfl, fun w' hS' => by go_simp⟩) trivial ?_
      simp only [Act.put, List.setIfInBounds_toArray, List.set_cons_zero, List.set_cons_succ]
      refine wpAnyH_take (i := 4) (oi := ⟨some 48, .slice 9 (.const (.string ⟨#[48, 49, 50, 51, 52, 53, 54, 55, 56, 57, 97, 98, 99, 100, 101, 102]⟩)) (some (.tmp 45)) (some (.tmp 47)) none, _, _, _, none⟩) (v := .string ⟨[fig lo].toArray⟩) rfl (by kernel_rfl) (by kernel_rfl) (by kernel_rfl) (fun _ _ _ h => h) (Or.inl ⟨by rfl, fun w' hS' => by go_simp⟩) trivial ?_
      simp only [Act.put, List.setIfInBounds_toArray, List.set_cons_zero, List.set_cons_succ]
      refine wpAnyH_take (i := 5) (oi := ⟨some 49, .move (.tmp 7), _, _, _, none⟩) (v := .int .u8 hi) rfl (by kernel_rfl) (by kernel_rfl) (by kernel_rfl) (fun _ _ _ h => h) (Or.inl ⟨by rfl, fun w' hS' => by go_simp⟩) trivial ?_
      simp only [Act.put, List.setIfInBounds_toArray, List.set_cons_zero, List.set_cons_succ]
      refine wpAnyH_take (i := 6) (oi := ⟨some 50, .move (.tmp 7), _, _, _, none⟩) (v := .int .u8 hi) rfl (by kernel_rfl) (by kernel_rfl) (by kernel_rfl) (fun _ _ _ h => h) (Or.inl ⟨by rfl, fun w' hS' => by go_simp⟩) trivial ?_
      simp only [Act.put, List.setIfInBounds_toArray, List.set_cons_zero, List.set_cons_succ]
      refine wpAnyH_take (i := 7) (oi := ⟨some 51, .binOp .add 5 (.tmp 50) (.const (.int .u8 1)) 5, _, _, _, none⟩) (v := .int .u8 ((hi : Int) + 1)) rfl (by kernel_rfl) (by kernel_rfl) (by kernel_rfl) (fun _ _ _ h => h) (Or.inl ⟨by rfl, fun w' hS' => by go_simp⟩) trivial ?_
      simp only [Act.put, List.setIfInBounds_toArray, List.set_cons_zero, List.set_cons_succ]
      refine wpAnyH_take (i := 8) (oi := ⟨some 52, .slice 9 (.const (.string ⟨#[48, 49, 50, 51, 52, 53, 54, 55, 56, 57, 97, 98, 99, 100, 101, 102]⟩)) (some (.tmp 49)) (some (.tmp 51)) none, _, _, _, none⟩) (v := .string ⟨[fig hi].toArray⟩) rfl (by kernel_rfl) (by kernel_rfl) (by kernel_rfl) (fun _ _ _ h => h) (Or.inl ⟨by rfl, fun w' hS' => by go_simp⟩) trivial ?_
      simp only [Act.put, List.setIfInBounds_toArray, List.set_cons_zero, List.set_cons_succ]
      clear k0 k1 k2 k3 k4 k5 k6 k7 hcl hch
      refine wpAnyH_all (rs := [9]) (by kernel_rfl) (by decide) ?_
      intro i hi9
      obtain rfl := List.mem_singleton.1 hi9
      refine wpOp_of_list (o := ⟨some 53, .buildSlice 47 2 #[(0, .tmp 48), (1, .tmp 52)], _, _, _, none⟩) rfl ?_
      refine wpList_lit rfl _ _ rfl elt_name [.string ⟨[fig lo].toArray⟩, .string ⟨[fig hi].toArray⟩] rfl (by decide) (by decide) (fun v hv => by simp at hv; rcases hv with rfl | rfl <;> rfl) rfl ?_
      intro w8 hB8 hx8 hb8 hs8
      have hb8' := bel_drew hb8
      have Hx8 := Lib.hid (Sl.own hx8)
      have Ho8 := Lib.hid (own_below Hox.out hb8')
      have hsz8 := Nat.le_trans hszx hb8'.size
      have hB8a := hBx.bel hb8'
      clear hB8 hx8 hs8
      show _ ∧ _
      refine ⟨trivial, ?_⟩
      simp only [Act.put, List.setIfInBounds_toArray, List.set_cons_zero, List.set_cons_succ]
      refine wpAnyH_all (rs := [10]) (by kernel_rfl) (by decide) ?_
      intro i hi9
      obtain rfl := List.mem_singleton.1 hi9
      refine wpOp_of_list (o := ⟨some 54, .call { callee := .builtin .append, args := #[.tmp 44, .tmp 53], argTypes := #[47, 47] }, _, _, _, none⟩) rfl ?_
      refine wpList_app rfl (.tmp 44) (.tmp 53) _ rfl elt_name rfl Ho8.out rfl Hx8.out (fun v hv => stv_one [[fig lo], [fig hi]] v hv) hsz8 (by omega) (by omega) ?_
      intro v9 w9 ho9 hb9 hg9
      have hB9 := hB8a.grown hg9 (own_ne1 Ho8.out hg1)
      have hb09 : Below w.heap.size w w9 := (bel_tr hbx hb8').trans (hb9.mono hw1)
      have hsz9 := Nat.le_trans hsz8 hb9.size
      obtain ⟨a9, c9, rfl, hc9⟩ := (Sl.own ho9).any
      show _ ∧ _
      refine ⟨trivial, ?_⟩
      simp only [Act.put, List.setIfInBounds_toArray, List.set_cons_zero, List.set_cons_succ]
      refine wpAnyH_take (i := 11) (oi := ⟨some 3, .assign (.tmp 54), _, _, _, none⟩) (v := .slice a9 (N + 2) c9) rfl (by kernel_rfl) (by kernel_rfl) (by kernel_rfl) (fun _ _ _ h => h) (Or.inl ⟨by rfl, fun w' hS' => by go_simp⟩) trivial ?_
      simp only [Act.put, List.setIfInBounds_toArray, List.set_cons_zero, List.set_cons_succ]
      refine wpAnyH_done (by kernel_rfl) ?_ _
      go_wp2
      go_roundw
      case rel =>
        refine ⟨m, N + 2, (m : Int) - 1, by omega, by go_num, rfl, ?_, hB9, hb09, hsz9⟩
        rw [Hnx.out, List.map_append]
        exact ho9
      case measure => simp [intOf]
theorem areverse_any (a : Ad) (w : World) (ht : Tab w) : Calls Tryd.prog 52 #[.agg (adA a)] w (RvPost w a) := by
  by_cases h4 : a.fam = 4
  · exact areverse4 a w ht h4
  · by_cases h6 : a.fam = 6
    · exact areverse6 a w h6
    · have i4 : (a.fam == 4) = false := by simpa using h4
      have i6 : (a.fam == 6) = false := by simpa using h6
      have Hr : Hid (revA a = []) := Lib.hid (by unfold revA; rw [if_neg h4, if_neg h6])
      clear h4 h6 ht
      go_enter Tryd.func52, Tryd.ntmps52
      go_wp2_with (first
        | ((with_reducible refine wpList_boxB rfl _ _ rfl rfl ?_); intro g w1 hg hB hb hs; clear hg hs
           have c0 := hB.cell 0
           rw [adA_0] at c0))
      go_ret
      refine ⟨_, rfl, ?_, hb⟩
      rw [Hr.out]
      exact World.ownsRow_nil _ _ _ _
end Go.Proofs.YtgbdhfjblebeiaaDoor

/- Which address is looked for under a name: both ways to read it, in plain words. No walk here. -/
namespace Go.Proofs.YtgbdhfjblebeiaaDoor
open Go.RowKit

def canA (a : Ad) : Prop := (a.fam = 4 ∧ a = adF a) ∨ (a.fam = 6 ∧ a.zone = 0)
/-- just that address whose name this is. -/
def UnP (n : List (List UInt8)) (o : Option Ad) : Prop := ∀ a, o = some a ↔ (canA a ∧ lows (revA a) = lows n)
theorem UnP.uniq {n : List (List UInt8)} {o o' : Option Ad} (h : UnP n o) (k : UnP n o') : o = o' := by
  cases o with
  | some a => exact ((k a).2 ((h a).1 rfl)).symm
  | none =>
    cases o' with
    | none => rfl
    | some a => exact ((h a).2 ((k a).1 rfl))
theorem sm_dg {x y : UInt8} (h : sm x = y) (hy : dgB y = true) : x = y := by
  have : ∀ n : Fin 256, dgB (sm (UInt8.ofNat n.val)) = true → UInt8.ofNat n.val = sm (UInt8.ofNat n.val) := by decide +kernel
  have h2 := this ⟨x.toNat, x.toNat_lt⟩
  simp only [UInt8.ofNat_toNat] at h2
  rw [h] at h2
  exact h2 hy
theorem sm_dgs {y : UInt8} (hy : dgB y = true) : sm y = y := by
  have : ∀ n : Fin 256, dgB (UInt8.ofNat n.val) = true → sm (UInt8.ofNat n.val) = UInt8.ofNat n.val := by decide +kernel
  have h2 := this ⟨y.toNat, y.toNat_lt⟩
  simp only [UInt8.ofNat_toNat] at h2
  exact h2 hy
theorem low_dg : ∀ {l d : List UInt8}, d.all dgB = true → low l = low d → l = d := by
  intro l
  induction l with
  | nil => intro d _ h; cases d with
    | nil => rfl
    | cons y d => simp [low] at h
  | cons x l ih =>
    intro d hd h
    cases d with
    | nil => simp [low] at h
    | cons y d =>
      simp only [low, List.map_cons, List.cons.injEq] at h
      rw [List.all_cons, Bool.and_eq_true] at hd
      have hxy := sm_dg (h.1.trans (sm_dgs hd.1)) hd.1
      rw [hxy, ih hd.2 h.2]
theorem low_itu {l : List UInt8} {c : UInt8} (h : low l = low (itu c)) : l = itu c := low_dg (itu_dg c) h
/-- a name of one figure. -/
def hexC (l : List UInt8) : Option Nat := match l with
  | [c] => (hex (c.toNat : Int)).map Int.toNat
  | _ => none
theorem sm_fig {c : UInt8} {d : Nat} (hd : d < 16) (h : sm c = sm (fig d)) : hex (c.toNat : Int) = some (d : Int) ∧ c ≠ 58 ∧ c ≠ 37 := by
  have : ∀ d : Fin 16, ∀ n : Fin 256, (decide (sm (UInt8.ofNat n.val) = sm (fig d.val)) = false ∨ (hex (n.val : Int) == some (d.val : Int) && (UInt8.ofNat n.val != 58) && (UInt8.ofNat n.val != 37)) = true) := by decide +kernel
  have h2 := this ⟨d, hd⟩ ⟨c.toNat, c.toNat_lt⟩
  simp only [UInt8.ofNat_toNat] at h2
  rcases h2 with h2 | h2
  · rw [h] at h2; simp at h2
  · rw [Bool.and_eq_true, Bool.and_eq_true] at h2
    refine ⟨by simpa using h2.1.1, by simpa using h2.1.2, by simpa using h2.2⟩
theorem low_fig {l : List UInt8} {d : Nat} (hd : d < 16) (h : low l = low [fig d]) : ∃ c, l = [c] ∧ hex (c.toNat : Int) = some (d : Int) ∧ c ≠ 58 ∧ c ≠ 37 := by
  cases l with
  | nil => simp [low] at h
  | cons c l =>
    simp only [low, List.map_cons, List.map_nil, List.cons.injEq] at h
    have : l = [] := by simpa using h.2
    subst this
    exact ⟨c, rfl, sm_fig hd h.1⟩
/-! ### four numbers -/
def aun (n : List (List UInt8)) : Nat → Ad
  | 0 => adOf 0 0 0 0
  | k + 1 => (aun n k).setB (3 - k) (UInt8.ofNat (val (n.getD k [])))
theorem aun_4 (n : List (List UInt8)) : aun n 4 = adOf (UInt8.ofNat (val (n.getD 3 []))) (UInt8.ofNat (val (n.getD 2 []))) (UInt8.ofNat (val (n.getD 1 []))) (UInt8.ofNat (val (n.getD 0 []))) := Ad.same rfl rfl rfl
/-! ### thirty-two figures -/
def nib (n : List (List UInt8)) (k : Nat) : Nat := (hexC (n.getD k [])).getD 0
def byX (n : List (List UInt8)) (k j : Nat) : Nat := (if 2 * (15 - j) < k then nib n (2 * (15 - j)) else 0) + 16 * (if 2 * (15 - j) + 1 < k then nib n (2 * (15 - j) + 1) else 0)
def xun (n : List (List UInt8)) (k : Nat) : Ad := ⟨6, (List.range 16).map (fun j => UInt8.ofNat (byX n k j)), 0, by simp, by decide, by decide⟩
theorem hexC_lt {l : List UInt8} {d : Nat} (h : hexC l = some d) : d < 16 := by
  unfold hexC at h
  match l, h with
  | [c], h =>
    simp only [Option.map_eq_some_iff] at h
    obtain ⟨z, hz, rfl⟩ := h
    have := hexc_bd hz
    omega
theorem nib_lt (n : List (List UInt8)) (k : Nat) : nib n k < 16 := by
  unfold nib
  cases h : hexC (n.getD k []) with
  | none => exact Nat.zero_lt_of_ne_zero (by decide)
  | some d => exact hexC_lt h
theorem byX_lt (n : List (List UInt8)) (k j : Nat) : byX n k j < 256 := by
  unfold byX
  have h1 := nib_lt n (2 * (15 - j))
  have h2 := nib_lt n (2 * (15 - j) + 1)
  split <;> split <;> omega
theorem xun_0 (n : List (List UInt8)) : xun n 0 = ad6 := by
  refine Ad.same rfl ?_ rfl
  show (List.range 16).map (fun j => UInt8.ofNat (byX n 0 j)) = List.replicate 16 0
  have : ∀ j, UInt8.ofNat (byX n 0 j) = 0 := fun j => by unfold byX; simp
  simp only [this]
  decide
theorem xun_b (n : List (List UInt8)) (k : Nat) {j : Nat} (h : j < 16) : ((xun n k).b j).toNat = byX n k j := by
  unfold Ad.b xun
  rw [List.getD_eq_getElem?_getD, List.getElem?_map, List.getElem?_range h]
  show (UInt8.ofNat (byX n k j)).toNat = _
  exact UInt8.toNat_ofNat_of_lt' (byX_lt n k j)
/-- the byte that a figure goes into, ahead of it. -/
theorem xun_old (n : List (List UInt8)) {k : Nat} (h : k < 32) : byX n k (15 - k / 2) = if k % 2 = 0 then 0 else nib n (k - 1) := by
  unfold byX
  rw [show 15 - (15 - k / 2) = k / 2 by omega]
  rcases Nat.mod_two_eq_zero_or_one k with h0 | h0
  · rw [if_neg (by omega), if_neg (by omega), if_pos h0]
  · rw [if_pos (by omega), if_neg (by omega), if_neg (by omega), show 2 * (k / 2) = k - 1 by omega]
    rfl
theorem xun_next (n : List (List UInt8)) {k : Nat} (h : k < 32) : (xun n k).setB (15 - k / 2) (UInt8.ofNat (byX n k (15 - k / 2) + nib n k * 16 ^ (k % 2))) = xun n (k + 1) := by
  refine Ad.same rfl ?_ rfl
  show ((List.range 16).map (fun j => UInt8.ofNat (byX n k j))).set (15 - k / 2) _ = (List.range 16).map (fun j => UInt8.ofNat (byX n (k + 1) j))
  apply List.ext_getElem?
  intro j
  rw [List.getElem?_set]
  by_cases hj : j < 16
  · rw [List.getElem?_map, List.getElem?_map, List.getElem?_range hj]
    simp only [Option.map_some, List.length_map, List.length_range]
    by_cases he : 15 - k / 2 = j
    · subst he
      rw [if_pos rfl, if_pos (by omega)]
      congr 2
      rw [xun_old n h]
      unfold byX
      rw [show 15 - (15 - k / 2) = k / 2 by omega]
      rcases Nat.mod_two_eq_zero_or_one k with h0 | h0
      · rw [if_pos h0, if_pos (by omega), if_neg (by omega), h0, show 2 * (k / 2) = k by omega]
        omega
      · rw [if_neg (by omega), if_pos (by omega), if_pos (by omega), h0, show 2 * (k / 2) = k - 1 by omega, show k - 1 + 1 = k by omega]
        omega
    · rw [if_neg he]
      congr 2
      unfold byX
      have e1 : (2 * (15 - j) < k) ↔ (2 * (15 - j) < k + 1) := by constructor <;> intro _ <;> omega
      have e2 : (2 * (15 - j) + 1 < k) ↔ (2 * (15 - j) + 1 < k + 1) := by constructor <;> intro _ <;> omega
      simp only [e1, e2]
  · rw [List.getElem?_eq_none (by simp; omega), List.getElem?_eq_none (by simp; omega)]
    split
    · split
      · rename_i h1 _; omega
      · rfl
    · rfl
/-! ### what both find -/
def unr (n : List (List UInt8)) : Option Ad :=
  if n.length = 6 then (if (n.take 4).all nokB = true ∧ lows (revA (aun n 4)) = lows n then some (aun n 4) else none)
  else if n.length = 34 then (if (n.take 32).all (fun l => (hexC l).isSome) = true ∧ lows (revA (xun n 32)) = lows n then some (xun n 32) else none) else none
theorem revA_len (a : Ad) : (revA a).length = if a.fam = 4 then 6 else if a.fam = 6 then 34 else 0 := by
  unfold revA
  split
  · rw [List.length_append, rv4_len]; rfl
  · split
    · rw [List.length_append, rv6_len a 16 0 rfl]; rfl
    · rfl
theorem lows_at {A n : List (List UInt8)} (h : lows A = lows n) {k : Nat} (hk : k < A.length) : low (n.getD k []) = low (A.getD k []) := by
  have hl : n.length = A.length := by rw [← lows_len n, ← h, lows_len]
  have := congrArg (fun l => l[k]?) h
  simp only [lows, List.getElem?_map] at this
  rw [List.getD_eq_getElem?_getD, List.getD_eq_getElem?_getD]
  rw [List.getElem?_eq_getElem hk, List.getElem?_eq_getElem (by omega)] at this ⊢
  simp only [Option.map_some, Option.some.injEq] at this
  exact this.symm
theorem rev4_at {a : Ad} (h4 : a.fam = 4) {k : Nat} (hk : k < 4) : (revA a).getD k [] = itu (a.b (3 - k)) := by
  unfold revA
  rw [if_pos h4]
  match k, hk with
  | 0, _ | 1, _ | 2, _ | 3, _ => rfl
theorem rv6_at (a : Ad) : ∀ t, ∀ j, j + t = 16 → ∀ k, k < 2 * t → (rv6 a j).getD k [] = [fig (if k % 2 = 0 then (a.b (15 - k / 2)).toNat % 16 else (a.b (15 - k / 2)).toNat / 16)] := by
  intro t
  induction t with
  | zero => intro j _ k hk; omega
  | succ t ih =>
    intro j h k hk
    have hl := rv6_len a t (j + 1) (by omega)
    rw [rv6_next a (by omega), List.getD_eq_getElem?_getD]
    by_cases hk2 : k < 2 * t
    · rw [List.getElem?_append_left (by rw [hl]; exact hk2), ← List.getD_eq_getElem?_getD]
      exact ih (j + 1) (by omega) k hk2
    · rw [List.getElem?_append_right (by rw [hl]; omega), hl]
      rcases (show k = 2 * t ∨ k = 2 * t + 1 by omega) with rfl | rfl
      · rw [Nat.sub_self, if_pos (by omega), show 15 - 2 * t / 2 = j by omega]; rfl
      · rw [show 2 * t + 1 - 2 * t = 1 by omega, if_neg (by omega), show 15 - (2 * t + 1) / 2 = j by omega]; rfl
def nibA (a : Ad) (k : Nat) : Nat := if k % 2 = 0 then (a.b (15 - k / 2)).toNat % 16 else (a.b (15 - k / 2)).toNat / 16
theorem nibA_lt (a : Ad) (k : Nat) : nibA a k < 16 := by
  unfold nibA
  have := (a.b (15 - k / 2)).toNat_lt
  split <;> omega
theorem rev6_at {a : Ad} (h6 : a.fam = 6) {k : Nat} (hk : k < 32) : (revA a).getD k [] = [fig (nibA a k)] := by
  unfold revA
  rw [if_neg (by omega), if_pos h6, List.getD_eq_getElem?_getD, List.getElem?_append_left (by rw [rv6_len a 16 0 rfl]; exact hk), ← List.getD_eq_getElem?_getD]
  exact rv6_at a 16 0 rfl k hk
/-- the names that are looked for. -/
theorem un_4 {a : Ad} {n : List (List UInt8)} (h4 : a.fam = 4) (h : lows (revA a) = lows n) : n.length = 6 ∧ ∀ k, k < 4 → n.getD k [] = itu (a.b (3 - k)) := by
  have hl : n.length = 6 := by rw [← lows_len n, ← h, lows_len, revA_len, if_pos h4]
  refine ⟨hl, fun k hk => ?_⟩
  have := lows_at h (k := k) (by rw [revA_len, if_pos h4]; omega)
  rw [rev4_at h4 hk] at this
  exact low_itu this
theorem un_6 {a : Ad} {n : List (List UInt8)} (h6 : a.fam = 6) (h : lows (revA a) = lows n) : n.length = 34 ∧ ∀ k, k < 32 → ∃ c, n.getD k [] = [c] ∧ hex (c.toNat : Int) = some (nibA a k : Int) ∧ c ≠ 58 ∧ c ≠ 37 := by
  have hl : n.length = 34 := by rw [← lows_len n, ← h, lows_len, revA_len, if_neg (by omega), if_pos h6]
  refine ⟨hl, fun k hk => ?_⟩
  have := lows_at h (k := k) (by rw [revA_len, if_neg (by omega), if_pos h6]; omega)
  rw [rev6_at h6 hk] at this
  exact low_fig (nibA_lt a k) this
theorem take_all {α : Type} {p : α → Bool} {l : List α} {m : Nat} {d : α} (hm : m ≤ l.length) (h : ∀ k, k < m → p (l.getD k d) = true) : (l.take m).all p = true := by
  rw [List.all_eq_true]
  intro x hx
  obtain ⟨k, hk, rfl⟩ := List.mem_iff_getElem.1 hx
  rw [List.length_take] at hk
  have := h k (by omega)
  rw [List.getD_eq_getElem?_getD, List.getElem?_eq_getElem (by omega)] at this
  rw [List.getElem_take]
  exact this
theorem ofNat_val (c : UInt8) : UInt8.ofNat (val (itu c)) = c := by rw [itu_val]; exact UInt8.ofNat_toNat
theorem xun_full {a : Ad} {n : List (List UInt8)} (h6 : a.fam = 6) (hz : a.zone = 0) (h : ∀ k, k < 32 → nib n k = nibA a k) : xun n 32 = a := by
  refine Ad.same h6.symm ?_ hz.symm
  show (List.range 16).map (fun j => UInt8.ofNat (byX n 32 j)) = a.ip
  apply List.ext_getElem?
  intro j
  by_cases hj : j < 16
  · rw [List.getElem?_map, List.getElem?_range hj, a.b_eq hj]
    simp only [Option.map_some, Option.some.injEq]
    have hb : byX n 32 j = (a.b j).toNat := by
      unfold byX
      rw [if_pos (by omega), if_pos (by omega), h _ (by omega), h _ (by omega)]
      unfold nibA
      rw [if_pos (by omega), if_neg (by omega), show 15 - 2 * (15 - j) / 2 = j by omega, show 15 - (2 * (15 - j) + 1) / 2 = j by omega]
      omega
    rw [hb]
    exact UInt8.ofNat_toNat
  · rw [List.getElem?_eq_none (by simp; omega), List.getElem?_eq_none (by rw [a.len]; omega)]
theorem unr_P (n : List (List UInt8)) : UnP n (unr n) := by
  intro a
  constructor
  · intro h
    unfold unr at h
    split at h
    · split at h
      · next hc =>
        injection h with h
        subst h
        exact ⟨.inl ⟨by rw [aun_4]; rfl, by rw [aun_4]; rfl⟩, hc.2⟩
      · cases h
    · split at h
      · split at h
        · next hc =>
          injection h with h
          subst h
          exact ⟨.inr ⟨rfl, rfl⟩, hc.2⟩
        · cases h
      · cases h
  · rintro ⟨hc, h⟩
    rcases hc with ⟨h4, hF⟩ | ⟨h6, hz⟩
    · obtain ⟨hl, hk⟩ := un_4 h4 h
      have ha : aun n 4 = a := by
        rw [aun_4, hk 0 (by omega), hk 1 (by omega), hk 2 (by omega), hk 3 (by omega), ofNat_val, ofNat_val, ofNat_val, ofNat_val]
        exact hF.symm
      unfold unr
      rw [if_pos hl, if_pos ⟨take_all (d := []) (by omega) (fun k hk' => by rw [hk k hk']; exact nokB_itu _), by rw [ha]; exact h⟩, ha]
    · obtain ⟨hl, hk⟩ := un_6 h6 h
      have hx : ∀ k, k < 32 → hexC (n.getD k []) = some (nibA a k) := by
        intro k hk'
        obtain ⟨c, h1, h2, _⟩ := hk k hk'
        rw [h1]
        show (hex (c.toNat : Int)).map Int.toNat = _
        rw [h2]
        rfl
      have ha : xun n 32 = a := xun_full h6 hz (fun k hk' => by unfold nib; rw [hx k hk']; rfl)
      unfold unr
      rw [if_neg (by omega), if_pos hl, if_pos ⟨take_all (d := []) (by omega) (fun k hk' => by rw [hx k hk']; rfl), by rw [ha]; exact h⟩, ha]
end Go.Proofs.YtgbdhfjblebeiaaDoor

/- The contract of works (9). -/
namespace Go.Proofs.YtgbdhfjblebeiaaDoor
open Go.RowKit
attribute [local go_sem] ba_get ext_take ext_drop ext_any ba_app

theorem aparse_yes {s : List UInt8} {x : Ad} {w : World} (ht : Tab w) (hm : MaxI w) (hl : s.length ≤ 1000000000) (h : adrP s = .inr x) : Calls Tryd.prog 20 #[.string ⟨s.toArray⟩] w fun e w' => e = .returned (.tuple #[.agg (adA x), .int .i64 0]) ∧ Below w.heap.size w w' :=
  (aparse_any s w ht hm hl).mono fun e w' ⟨he, hb⟩ => by rw [h] at he; exact ⟨he, hb⟩
theorem yieldsIf_eqlAd {ops : Array Oper} {S : World → Prop} {o : Oper} {a : Act} (hw : Region.wanted o (yielded ops a.tmps) = true) (x y : Operand) {t : TypeId} (ho : o.op = .binOp .eql 25 x y t) {b c : Ad} (hx : a.eval x = .agg (adA b)) (hy : a.eval y = .agg (adA c)) {r : Bool} (hr : decide (b = c) = r) :
    YieldsIf Tryd.prog ops S o (.bool r) a := by
  subst hr
  refine .inl ⟨hw, fun w _ => ?_⟩
  unfold execOp
  simp only [ho, hx, hy, Sem.run_bind, run_eqGuard_agg w .eql 25 x y _ _ Tryd.eqGuardType25, Result.andThen_ok, ad_eql]
  rfl
def w9a : Ad := adOf 192 0 2 1
def w9b : Ad := ⟨6, [254, 128, 0, 0, 0, 0, 0, 0, 0, 0, 0, 0, 0, 0, 0, 1], 2, rfl, by decide, by decide⟩
def s9a : List UInt8 := [49, 57, 50, 46, 48, 46, 50, 46, 49]
def s9b : List UInt8 := [102, 101, 56, 48, 58, 58, 49, 37, 50]
def t9a : List UInt8 := [49, 46, 50, 46, 48, 46, 49, 57, 50, 46, 105, 110, 45, 97, 100, 100, 114, 46, 97, 114, 112, 97]
theorem w9pa : adrP s9a = .inr w9a := by decide +kernel
theorem w9pb : adrP s9b = .inr w9b := by decide +kernel
theorem w9sa : scoA w9a = 14 := by decide +kernel
theorem w9sb : scoA w9b = 2 := by decide +kernel
theorem w9ra : dpln (revA w9a) = t9a := by decide +kernel
theorem w9ma : unA (mpA w9a) = w9a := by decide +kernel
theorem w9ca : chkA w9a = 0 := by decide +kernel
theorem w9la : (revA w9a).length = 6 ∧ sz (revA w9a) ≤ 100000000 ∧ ∀ l ∈ revA w9a, l.length ≤ 100000000 := by decide +kernel
set_option maxRecDepth 100000 in
set_option maxHeartbeats 4000000 in
theorem dtext9 (v : Value) (w : World) (ha : Sl w 1 v (revA w9a).length ((revA w9a).map stv)) : Calls Tryd.prog 51 #[v] w fun e w' => e = .returned (.string ⟨t9a.toArray⟩) ∧ w = w' := by
  obtain ⟨A, c, rfl, hc⟩ := ha.any
  have Ha := Lib.hid ha
  clear ha
  go_enter Tryd.func51, Tryd.ntmps51
  go_wp2_with (go_at_call 78; refine (rplain5_any (revA w9a) _ _ Ha.out (by rw [w9la.1]; decide) w9la.2.1 w9la.2.2).mono ?_; rintro e w1 ⟨rfl, rfl⟩; rw [w9ra])
  go_ret
  exact ⟨rfl, rfl⟩
set_option maxRecDepth 100000 in
set_option maxHeartbeats 4000000 in
theorem works09_any (w : World) (ht : Tab w) (hn : TabN w) (hm : MaxI w) (hT : TabA w) : Calls Tryd.prog 19 #[] w (Good w) := by
  have Ht := Lib.hid ht
  have Hn := Lib.hid hn
  have Hm := Lib.hid hm
  have HT := Lib.hid hT
  clear ht hn hm hT
  go_enter Tryd.func19, Tryd.ntmps19
  go_wp2_with (first
    | ((fail_if_success (have hb1z := hb1)); go_at_call 20; refine (aparse_yes (s := s9a) Ht.out Hm.out (by decide) w9pa).mono ?_; rintro e w1 ⟨rfl, hb1⟩)
    | ((with_reducible refine wpList_allocAd (o := ⟨some 1, _, _, _, _, _⟩) rfl rfl ?_); intro g1 w2 hg hB1 hb2 hs; have hg1 : w1.heap.size ≤ g1 := Nat.le_of_eq hg.symm; clear hg hs)
    | ((with_reducible refine wpList_storeAd rfl (.tmp 1) _ rfl rfl rfl hB1 ?_); intro w3 hB3 hS3; have hb03 := bel_tr hb1 (hb2.trans (hS3.below hg1)))
    | (go_at_call 20; refine (aparse_yes (s := s9b) (Ht.out.below hb03) (Hm.out.below hb03) (by decide) w9pb).mono ?_; rintro e w4 ⟨rfl, hb4⟩; have hB34 := hB3.bel hb4)
    | ((with_reducible refine wpList_allocAd (o := ⟨some 3, _, _, _, _, _⟩) rfl rfl ?_); intro g3 w5 hg hBx hb5 hs; have hg3 : w4.heap.size ≤ g3 := Nat.le_of_eq hg.symm; have hB35 := hB34.bel hb5; clear hg hs)
    | ((with_reducible refine wpList_storeAd rfl (.tmp 3) _ rfl rfl rfl hBx ?_); intro w6 hB6 hS6; have hB36 := hB35.stays hS6 (by have := hB34.lt; omega); have hb06 := bel_tr (bel_tr hb03 hb4) (hb5.trans (hS6.below hg3))))
  have hR1 : ∀ w', Below w6.heap.size w6 w' → w'.rangeAt g1 0 (adL w9a) := fun w' h => (hB36.bel h).rangeAd
  have hR3 : ∀ w', Below w6.heap.size w6 w' → w'.rangeAt g3 0 (adL w9b) := fun w' h => (hB6.bel h).rangeAd
  clear hB1 hB3 hB34 hB35 hBx hS3 hS6 hb1 hb2 hb4 hb5 hb03 hB36 hB6
  refine wp_region_held (S := fun w' => Below w6.heap.size w6 w') (by kernel_rfl) ?_
  refine wpAnyH_take (i := 0) (oi := ⟨some 13, Op.move (Operand.tmp 2), _, _, _, none⟩) (v := Value.int IntKind.i64 0) rfl (by kernel_rfl) (by kernel_rfl) (by kernel_rfl) (fun _ _ _ h => h) (Or.inl ⟨by rfl, fun w' hS' => by go_simp⟩) (Below.refl _ _).drew ?_
  simp only [Act.put, List.setIfInBounds_toArray, List.set_cons_zero, List.set_cons_succ]
  refine wpAnyH_take (i := 1) (oi := ⟨some 14, Op.binOp BinOp.eql 26 (Operand.tmp 13) (Operand.const (Value.int IntKind.i64 0)) 26, _, _, _, none⟩) (v := Value.bool true) rfl (by kernel_rfl) (by kernel_rfl) (by kernel_rfl) (fun _ _ _ h => h) (Or.inl ⟨by rfl, fun w' hS' => by go_simp⟩) (Below.refl _ _).drew ?_
  simp only [Act.put, List.setIfInBounds_toArray, List.set_cons_zero, List.set_cons_succ]
  refine wpAnyH_take (i := 2) (oi := ⟨some 15, Op.move (Operand.tmp 14), _, _, _, none⟩) (v := Value.bool true) rfl (by kernel_rfl) (by kernel_rfl) (by kernel_rfl) (fun _ _ _ h => h) (Or.inl ⟨by rfl, fun w' hS' => by go_simp⟩) (Below.refl _ _).drew ?_
  simp only [Act.put, List.setIfInBounds_toArray, List.set_cons_zero, List.set_cons_succ]
  refine wpAnyH_take (i := 3) (oi := ⟨some 16, Op.move (Operand.tmp 4), _, _, _, some (2 , true)⟩) (v := Value.int IntKind.i64 0) rfl (by kernel_rfl) (by kernel_rfl) (by kernel_rfl) (fun _ _ _ h => h) (Or.inl ⟨by rfl, fun w' hS' => by go_simp⟩) (Below.refl _ _).drew ?_
  simp only [Act.put, List.setIfInBounds_toArray, List.set_cons_zero, List.set_cons_succ]
  refine wpAnyH_take (i := 4) (oi := ⟨some 17, Op.binOp BinOp.eql 26 (Operand.tmp 16) (Operand.const (Value.int IntKind.i64 0)) 26, _, _, _, some (2 , true)⟩) (v := Value.bool true) rfl (by kernel_rfl) (by kernel_rfl) (by kernel_rfl) (fun _ _ _ h => h) (Or.inl ⟨by rfl, fun w' hS' => by go_simp⟩) (Below.refl _ _).drew ?_
  simp only [Act.put, List.setIfInBounds_toArray, List.set_cons_zero, List.set_cons_succ]
  refine wpAnyH_take (i := 5) (oi := ⟨some 18, Op.pick (Operand.tmp 15) (Operand.tmp 17) (Operand.const (Value.bool false)), _, _, _, none⟩) (v := Value.bool true) rfl (by kernel_rfl) (by kernel_rfl) (by kernel_rfl) (fun _ _ _ h => h) (Or.inl ⟨by rfl, fun w' hS' => by go_simp⟩) (Below.refl _ _).drew ?_
  simp only [Act.put, List.setIfInBounds_toArray, List.set_cons_zero, List.set_cons_succ]
  refine wpAnyH_take (i := 6) (oi := ⟨some 19, Op.move (Operand.tmp 18), _, _, _, none⟩) (v := Value.bool true) rfl (by kernel_rfl) (by kernel_rfl) (by kernel_rfl) (fun _ _ _ h => h) (Or.inl ⟨by rfl, fun w' hS' => by go_simp⟩) (Below.refl _ _).drew ?_
  simp only [Act.put, List.setIfInBounds_toArray, List.set_cons_zero, List.set_cons_succ]
  refine wpAnyH_take (i := 7) (oi := ⟨some 20, Op.load 25 (Operand.tmp 3), _, _, _, some (6 , true)⟩) (v := Value.agg (adA w9b)) rfl (by kernel_rfl) (by kernel_rfl) (by kernel_rfl) (fun _ _ _ h => h) (yieldsIf_loadAd (by rfl) _ rfl rfl hR3) (Below.refl _ _).drew ?_
  simp only [Act.put, List.setIfInBounds_toArray, List.set_cons_zero, List.set_cons_succ]
  refine wpAnyH_all (rs := [8]) (by kernel_rfl) (by decide) ?_
  intro i hi
  obtain rfl := List.mem_singleton.1 hi
  refine wpOp_callM (o := ⟨some 21, Op.call { callee := Callee.value (Operand.func 50), args := #[Operand.tmp 20], argTypes := #[25] }, _, _, _, some (6 , true)⟩) rfl (by rfl) (by go_simp) (scope_any w9b _ (HT.out.below hb06.drew)) ?_
  rintro e x1 ⟨rfl, hx1⟩
  rw [w9sb]
  have hx1 := bel_drew hx1
  refine ⟨_, rfl, ?_⟩
  show _ ∧ _
  refine ⟨hx1, ?_⟩
  simp only [Act.put, List.setIfInBounds_toArray, List.set_cons_zero, List.set_cons_succ]
  refine wpAnyH_take (i := 9) (oi := ⟨some 22, Op.binOp BinOp.eql 3 (Operand.tmp 21) (Operand.const (Value.int IntKind.i64 2)) 3, _, _, _, some (6 , true)⟩) (v := Value.bool true) rfl (by kernel_rfl) (by kernel_rfl) (by kernel_rfl) (fun _ _ _ h => h) (Or.inl ⟨by rfl, fun w' hS' => by go_simp⟩) hx1 ?_
  simp only [Act.put, List.setIfInBounds_toArray, List.set_cons_zero, List.set_cons_succ]
  refine wpAnyH_take (i := 10) (oi := ⟨some 23, Op.pick (Operand.tmp 19) (Operand.tmp 22) (Operand.const (Value.bool false)), _, _, _, none⟩) (v := Value.bool true) rfl (by kernel_rfl) (by kernel_rfl) (by kernel_rfl) (fun _ _ _ h => h) (Or.inl ⟨by rfl, fun w' hS' => by go_simp⟩) hx1 ?_
  simp only [Act.put, List.setIfInBounds_toArray, List.set_cons_zero, List.set_cons_succ]
  refine wpAnyH_take (i := 11) (oi := ⟨some 24, Op.move (Operand.tmp 23), _, _, _, none⟩) (v := Value.bool true) rfl (by kernel_rfl) (by kernel_rfl) (by kernel_rfl) (fun _ _ _ h => h) (Or.inl ⟨by rfl, fun w' hS' => by go_simp⟩) hx1 ?_
  simp only [Act.put, List.setIfInBounds_toArray, List.set_cons_zero, List.set_cons_succ]
  refine wpAnyH_take (i := 12) (oi := ⟨some 25, Op.load 25 (Operand.tmp 1), _, _, _, some (11 , true)⟩) (v := Value.agg (adA w9a)) rfl (by kernel_rfl) (by kernel_rfl) (by kernel_rfl) (fun _ _ _ h => h) (yieldsIf_loadAd (by rfl) _ rfl rfl hR1) hx1 ?_
  simp only [Act.put, List.setIfInBounds_toArray, List.set_cons_zero, List.set_cons_succ]
  refine wpAnyH_all (rs := [13]) (by kernel_rfl) (by decide) ?_
  intro i hi
  obtain rfl := List.mem_singleton.1 hi
  refine wpOp_callM (o := ⟨some 26, Op.call { callee := Callee.value (Operand.func 50), args := #[Operand.tmp 25], argTypes := #[25] }, _, _, _, some (11 , true)⟩) rfl (by rfl) (by go_simp) (scope_any w9a _ (HT.out.below (bel_tr hb06 hx1))) ?_
  rintro e x2 ⟨rfl, hx12⟩
  rw [w9sa]
  have hx2 := bel_tr hx1 hx12
  refine ⟨_, rfl, ?_⟩
  show _ ∧ _
  refine ⟨hx2, ?_⟩
  simp only [Act.put, List.setIfInBounds_toArray, List.set_cons_zero, List.set_cons_succ]
  refine wpAnyH_take (i := 14) (oi := ⟨some 27, Op.binOp BinOp.eql 3 (Operand.tmp 26) (Operand.const (Value.int IntKind.i64 14)) 3, _, _, _, some (11 , true)⟩) (v := Value.bool true) rfl (by kernel_rfl) (by kernel_rfl) (by kernel_rfl) (fun _ _ _ h => h) (Or.inl ⟨by rfl, fun w' hS' => by go_simp⟩) hx2 ?_
  simp only [Act.put, List.setIfInBounds_toArray, List.set_cons_zero, List.set_cons_succ]
  refine wpAnyH_take (i := 15) (oi := ⟨some 28, Op.pick (Operand.tmp 24) (Operand.tmp 27) (Operand.const (Value.bool false)), _, _, _, none⟩) (v := Value.bool true) rfl (by kernel_rfl) (by kernel_rfl) (by kernel_rfl) (fun _ _ _ h => h) (Or.inl ⟨by rfl, fun w' hS' => by go_simp⟩) hx2 ?_
  simp only [Act.put, List.setIfInBounds_toArray, List.set_cons_zero, List.set_cons_succ]
  refine wpAnyH_take (i := 16) (oi := ⟨some 29, Op.move (Operand.tmp 28), _, _, _, none⟩) (v := Value.bool true) rfl (by kernel_rfl) (by kernel_rfl) (by kernel_rfl) (fun _ _ _ h => h) (Or.inl ⟨by rfl, fun w' hS' => by go_simp⟩) hx2 ?_
  simp only [Act.put, List.setIfInBounds_toArray, List.set_cons_zero, List.set_cons_succ]
  refine wpAnyH_take (i := 17) (oi := ⟨some 30, Op.load 25 (Operand.tmp 1), _, _, _, some (16 , true)⟩) (v := Value.agg (adA w9a)) rfl (by kernel_rfl) (by kernel_rfl) (by kernel_rfl) (fun _ _ _ h => h) (yieldsIf_loadAd (by rfl) _ rfl rfl hR1) hx2 ?_
  simp only [Act.put, List.setIfInBounds_toArray, List.set_cons_zero, List.set_cons_succ]
  refine wpAnyH_all (rs := [18]) (by kernel_rfl) (by decide) ?_
  intro i hi
  obtain rfl := List.mem_singleton.1 hi
  refine wpOp_callM (o := ⟨some 31, Op.call { callee := Callee.value (Operand.func 52), args := #[Operand.tmp 30], argTypes := #[25] }, _, _, _, some (16 , true)⟩) rfl (by rfl) (by go_simp) (areverse_any w9a _ (Ht.out.below (bel_tr hb06 hx2))) ?_
  rintro e x3 ⟨v3, rfl, ho3, hx23⟩
  have hx3 := bel_tr hx2 hx23
  have sl3 := Lib.hid (Sl.own ho3)
  obtain ⟨a3, c3, rfl, hc3⟩ := sl3.out.any
  clear ho3
  refine ⟨_, rfl, ?_⟩
  show _ ∧ _
  refine ⟨hx3, ?_⟩
  simp only [Act.put, List.setIfInBounds_toArray, List.set_cons_zero, List.set_cons_succ]
  refine wpAnyH_all (rs := [19]) (by kernel_rfl) (by decide) ?_
  intro i hi
  obtain rfl := List.mem_singleton.1 hi
  refine wpOp_callM (o := ⟨some 32, Op.call { callee := Callee.value (Operand.func 51), args := #[Operand.tmp 31], argTypes := #[47] }, _, _, _, some (16 , true)⟩) rfl (by rfl) (by go_simp) (dtext9 _ _ sl3.out) ?_
  rintro e x4 ⟨rfl, rfl⟩
  unfold t9a
  refine ⟨_, rfl, ?_⟩
  show _ ∧ _
  refine ⟨hx3, ?_⟩
  simp only [Act.put, List.setIfInBounds_toArray, List.set_cons_zero, List.set_cons_succ]
  refine wpAnyH_take (i := 20) (oi := ⟨some 33, Op.binOp BinOp.eql 9 (Operand.tmp 32) (Operand.const (Value.string { data := #[49, 46, 50, 46, 48, 46, 49, 57, 50, 46, 105, 110, 45, 97, 100, 100, 114, 46, 97, 114, 112, 97] })) 9, _, _, _, some (16 , true)⟩) (v := Value.bool true) rfl (by kernel_rfl) (by kernel_rfl) (by kernel_rfl) (fun _ _ _ h => h) (Or.inl ⟨by rfl, fun w' hS' => by go_simp⟩) hx3 ?_
  simp only [Act.put, List.setIfInBounds_toArray, List.set_cons_zero, List.set_cons_succ]
  refine wpAnyH_take (i := 21) (oi := ⟨some 34, Op.pick (Operand.tmp 29) (Operand.tmp 33) (Operand.const (Value.bool false)), _, _, _, none⟩) (v := Value.bool true) rfl (by kernel_rfl) (by kernel_rfl) (by kernel_rfl) (fun _ _ _ h => h) (Or.inl ⟨by rfl, fun w' hS' => by go_simp⟩) hx3 ?_
  simp only [Act.put, List.setIfInBounds_toArray, List.set_cons_zero, List.set_cons_succ]
  refine wpAnyH_take (i := 22) (oi := ⟨some 35, Op.move (Operand.tmp 34), _, _, _, none⟩) (v := Value.bool true) rfl (by kernel_rfl) (by kernel_rfl) (by kernel_rfl) (fun _ _ _ h => h) (Or.inl ⟨by rfl, fun w' hS' => by go_simp⟩) hx3 ?_
  simp only [Act.put, List.setIfInBounds_toArray, List.set_cons_zero, List.set_cons_succ]
  refine wpAnyH_take (i := 23) (oi := ⟨some 36, Op.load 25 (Operand.tmp 1), _, _, _, some (22 , true)⟩) (v := Value.agg (adA w9a)) rfl (by kernel_rfl) (by kernel_rfl) (by kernel_rfl) (fun _ _ _ h => h) (yieldsIf_loadAd (by rfl) _ rfl rfl hR1) hx3 ?_
  simp only [Act.put, List.setIfInBounds_toArray, List.set_cons_zero, List.set_cons_succ]
  refine wpAnyH_take (i := 26) (oi := ⟨some 39, Op.load 25 (Operand.tmp 1), _, _, _, some (22 , true)⟩) (v := Value.agg (adA w9a)) rfl (by kernel_rfl) (by kernel_rfl) (by kernel_rfl) (fun _ _ _ h => h) (yieldsIf_loadAd (by rfl) _ rfl rfl hR1) hx3 ?_
  simp only [Act.put, List.setIfInBounds_toArray, List.set_cons_zero, List.set_cons_succ]
  refine wpAnyH_all (rs := [24]) (by kernel_rfl) (by decide) ?_
  intro i hi
  obtain rfl := List.mem_singleton.1 hi
  refine wpOp_callM (o := ⟨some 37, Op.call { callee := Callee.value (Operand.func 42), args := #[Operand.tmp 36], argTypes := #[25] }, _, _, _, some (22 , true)⟩) rfl (by rfl) (by go_simp) (amap_all w9a _) ?_
  rintro e x5 ⟨rfl, hx35⟩
  have hx5 := bel_tr hx3 hx35
  refine ⟨_, rfl, ?_⟩
  show _ ∧ _
  refine ⟨hx5, ?_⟩
  simp only [Act.put, List.setIfInBounds_toArray, List.set_cons_zero, List.set_cons_succ]
  refine wpAnyH_all (rs := [25]) (by kernel_rfl) (by decide) ?_
  intro i hi
  obtain rfl := List.mem_singleton.1 hi
  refine wpOp_callM (o := ⟨some 38, Op.call { callee := Callee.value (Operand.func 53), args := #[Operand.tmp 37], argTypes := #[25] }, _, _, _, some (22 , true)⟩) rfl (by rfl) (by go_simp) (unmap_any (mpA w9a) _ (HT.out.below (bel_tr hb06 hx5))) ?_
  rintro e x6 ⟨rfl, hx56⟩
  rw [w9ma]
  have hx6 := bel_tr hx5 hx56
  refine ⟨_, rfl, ?_⟩
  show _ ∧ _
  refine ⟨hx6, ?_⟩
  simp only [Act.put, List.setIfInBounds_toArray, List.set_cons_zero, List.set_cons_succ]
  refine wpAnyH_take (i := 27) (oi := ⟨some 40, Op.binOp BinOp.eql 25 (Operand.tmp 38) (Operand.tmp 39) 25, _, _, _, some (22 , true)⟩) (v := Value.bool true) rfl (by kernel_rfl) (by kernel_rfl) (by kernel_rfl) (fun _ _ _ h => h) (yieldsIf_eqlAd (by rfl) _ _ rfl rfl rfl (decide_eq_true rfl)) hx6 ?_
  simp only [Act.put, List.setIfInBounds_toArray, List.set_cons_zero, List.set_cons_succ]
  refine wpAnyH_take (i := 28) (oi := ⟨some 41, Op.pick (Operand.tmp 35) (Operand.tmp 40) (Operand.const (Value.bool false)), _, _, _, none⟩) (v := Value.bool true) rfl (by kernel_rfl) (by kernel_rfl) (by kernel_rfl) (fun _ _ _ h => h) (Or.inl ⟨by rfl, fun w' hS' => by go_simp⟩) hx6 ?_
  simp only [Act.put, List.setIfInBounds_toArray, List.set_cons_zero, List.set_cons_succ]
  refine wpAnyH_take (i := 29) (oi := ⟨some 42, Op.move (Operand.tmp 41), _, _, _, none⟩) (v := Value.bool true) rfl (by kernel_rfl) (by kernel_rfl) (by kernel_rfl) (fun _ _ _ h => h) (Or.inl ⟨by rfl, fun w' hS' => by go_simp⟩) hx6 ?_
  simp only [Act.put, List.setIfInBounds_toArray, List.set_cons_zero, List.set_cons_succ]
  refine wpAnyH_take (i := 30) (oi := ⟨some 43, Op.load 25 (Operand.tmp 1), _, _, _, some (29 , true)⟩) (v := Value.agg (adA w9a)) rfl (by kernel_rfl) (by kernel_rfl) (by kernel_rfl) (fun _ _ _ h => h) (yieldsIf_loadAd (by rfl) _ rfl rfl hR1) hx6 ?_
  simp only [Act.put, List.setIfInBounds_toArray, List.set_cons_zero, List.set_cons_succ]
  refine wpAnyH_all (rs := [31]) (by kernel_rfl) (by decide) ?_
  intro i hi
  obtain rfl := List.mem_singleton.1 hi
  refine wpOp_callM (o := ⟨some 44, Op.call { callee := Callee.value (Operand.func 54), args := #[Operand.tmp 43], argTypes := #[25] }, _, _, _, some (29 , true)⟩) rfl (by rfl) (by go_simp) (acheck_any w9a _) ?_
  rintro e x7 ⟨rfl, hx67⟩
  rw [w9ca]
  have hx7 := bel_tr hx6 hx67
  refine ⟨_, rfl, ?_⟩
  show _ ∧ _
  refine ⟨hx7, ?_⟩
  simp only [Act.put, List.setIfInBounds_toArray, List.set_cons_zero, List.set_cons_succ]
  refine wpAnyH_take (i := 32) (oi := ⟨some 45, Op.binOp BinOp.eql 26 (Operand.tmp 44) (Operand.const (Value.int IntKind.i64 0)) 26, _, _, _, some (29 , true)⟩) (v := Value.bool true) rfl (by kernel_rfl) (by kernel_rfl) (by kernel_rfl) (fun _ _ _ h => h) (Or.inl ⟨by rfl, fun w' hS' => by go_simp⟩) hx7 ?_
  simp only [Act.put, List.setIfInBounds_toArray, List.set_cons_zero, List.set_cons_succ]
  refine wpAnyH_take (i := 33) (oi := ⟨some 46, Op.pick (Operand.tmp 42) (Operand.tmp 45) (Operand.const (Value.bool false)), _, _, _, none⟩) (v := Value.bool true) rfl (by kernel_rfl) (by kernel_rfl) (by kernel_rfl) (fun _ _ _ h => h) (Or.inl ⟨by rfl, fun w' hS' => by go_simp⟩) hx7 ?_
  simp only [Act.put, List.setIfInBounds_toArray, List.set_cons_zero, List.set_cons_succ]
  refine wpAnyH_take (i := 34) (oi := ⟨some 0, Op.assign (Operand.tmp 46), _, _, _, none⟩) (v := Value.bool true) rfl (by kernel_rfl) (by kernel_rfl) (by kernel_rfl) (fun _ _ _ h => h) (Or.inl ⟨by rfl, fun w' hS' => by go_simp⟩) hx7 ?_
  simp only [Act.put, List.setIfInBounds_toArray, List.set_cons_zero]
  refine wpAnyH_done (by kernel_rfl) ?_ _
  go_wp2
  go_ret
  exact ⟨rfl, bel_tr hb06 hx7⟩
end Go.Proofs.YtgbdhfjblebeiaaDoor

/- The contract of addr.Unreverse. -/
namespace Go.Proofs.YtgbdhfjblebeiaaDoor
open Go.RowKit
attribute [local go_sem] ba_get ext_take ext_drop ext_any ba_app

def unV (o : Option Ad) : Value := match o with
  | some a => .tuple #[.agg (adA a), .bool true]
  | none => .tuple #[.agg (adA ad0), .bool false]
def UnPost (w : World) (n : List (List UInt8)) (e : Ending) (w' : World) : Prop := e = .returned (unV (unr n)) ∧ Below w.heap.size w w'
theorem UnPost.no {w w' : World} {n : List (List UInt8)} (h : unr n = none) (hb : Below w.heap.size w w') : UnPost w n (.returned (.tuple #[.agg (adA ad0), .bool false])) w' := ⟨by rw [h]; rfl, hb⟩
theorem UnPost.yes {w w' : World} {n : List (List UInt8)} {x : Ad} (h : unr n = some x) (hb : Below w.heap.size w w') : UnPost w n (.returned (.tuple #[.agg (adA x), .bool true])) w' := ⟨by rw [h]; rfl, hb⟩
theorem getD_at {n : List (List UInt8)} {k : Nat} (h : k < n.length) : n[k] = n.getD k [] := by rw [List.getD_eq_getElem?_getD, List.getElem?_eq_getElem h]; rfl
theorem take_next {α : Type} {p : α → Bool} {l : List α} {k : Nat} (h : k < l.length) (h1 : (l.take k).all p = true) (h2 : p l[k] = true) : (l.take (k + 1)).all p = true := by
  rw [List.take_succ_eq_append_getElem h, List.all_append, h1]
  simp [h2]
theorem take_bad {α : Type} {p : α → Bool} {l : List α} {k m : Nat} (hk : k < m) (h : k < l.length) (h2 : p l[k] = false) : ¬ (l.take m).all p = true := by
  intro h1
  rw [List.all_eq_true] at h1
  have := h1 l[k] (List.mem_iff_getElem.2 ⟨k, by rw [List.length_take]; omega, by rw [List.getElem_take]⟩)
  rw [h2] at this
  cases this
theorem unr_6 {n : List (List UInt8)} (hl : n.length = 6) : unr n = if (n.take 4).all nokB = true ∧ lows (revA (aun n 4)) = lows n then some (aun n 4) else none := by unfold unr; rw [if_pos hl]
theorem unr_34 {n : List (List UInt8)} (hl : n.length = 34) : unr n = if (n.take 32).all (fun l => (hexC l).isSome) = true ∧ lows (revA (xun n 32)) = lows n then some (xun n 32) else none := by unfold unr; rw [if_neg (by omega), if_pos hl]
theorem or_u8_0 {d : Nat} (h : d < 16) : bits .or .u8 0 (d : Int) = (d : Int) := by
  have : ∀ d : Fin 16, bits .or .u8 0 (d.val : Int) = (d.val : Int) := by decide +kernel
  exact this ⟨d, h⟩
theorem or_u8_1 {o d : Nat} (ho : o < 16) (h : d < 16) : bits .or .u8 (o : Int) ((d : Int) * 16) = ((o + d * 16 : Nat) : Int) := by
  have : ∀ o : Fin 16, ∀ d : Fin 16, bits .or .u8 (o.val : Int) ((d.val : Int) * 16) = ((o.val + d.val * 16 : Nat) : Int) := by decide +kernel
  exact this ⟨o, ho⟩ ⟨d, h⟩
def UnRel (w : World) (g2 g4 : Nat) (x : Ad) (wr : World) : Prop := Bk wr g2 25 (adA ad0) ∧ Bk wr g4 25 (adA x) ∧ Below w.heap.size w wr
theorem bAd4 : (adA ad0).setIfInBounds 0 (.int .i64 4) = adA (adOf 0 0 0 0) := adA_setF ad0 4 (by decide)
theorem bAd6 : (adA ad0).setIfInBounds 0 (.int .i64 6) = adA ad6 := adA_setF ad0 6 (by decide)
theorem rev_bd (x : Ad) : (revA x).length ≤ 1000000000 ∧ ∀ l ∈ revA x, l.length ≤ 1000000000 := by
  refine ⟨by rw [revA_len]; split <;> (try split) <;> omega, fun l hl => ?_⟩
  unfold revA at hl
  split at hl
  · rw [List.mem_append] at hl
    rcases hl with hl | hl
    · unfold rv4 at hl
      obtain ⟨t, _, rfl⟩ := List.mem_map.1 hl
      have := itu_len (x.b (3 - t))
      omega
    · simp only [List.mem_cons, List.not_mem_nil, or_false] at hl
      rcases hl with rfl | rfl <;> decide
  · split at hl
    · rw [List.mem_append] at hl
      rcases hl with hl | hl
      · unfold rv6 at hl
        obtain ⟨t, _, h2⟩ := List.mem_flatMap.1 hl
        simp only [List.mem_cons, List.not_mem_nil, or_false] at h2
        rcases h2 with rfl | rfl <;> simp
      · simp only [List.mem_cons, List.not_mem_nil, or_false] at hl
        rcases hl with rfl | rfl <;> decide
    · cases hl
set_option maxRecDepth 100000 in
set_option maxHeartbeats 4000000 in
theorem unrev_any (n : List (List UInt8)) (v : Value) (w : World) (ht : Tab w) (hv : Sl w 1 v n.length (n.map stv)) (hn : n.length ≤ 1000000) (hll : ∀ l ∈ n, l.length ≤ 1000000) : Calls Tryd.prog 25 #[v] w (UnPost w n) := by
  have Ht := Lib.hid ht
  have Hll := Lib.hid hll
  have Hsl := Lib.hid hv
  have hcell : ∀ k (hk : k < n.length) (wr : World), Below w.heap.size w wr → ∃ b off c, v = .slice (some ⟨b, off, none⟩) n.length c ∧ b < w.heap.size ∧ wr.cell? ⟨b, off + k, none⟩ = some (.string ⟨(n.getD k []).toArray⟩) := by
    intro k hk wr hb
    obtain ⟨b, off, c, hvv, hc, hbl, hcl⟩ := hv.pos (by omega)
    refine ⟨b, off, c, hvv, hbl, (bel_cells hb hbl _).trans (hcl k _ ?_)⟩
    rw [List.getElem?_map, List.getElem?_eq_getElem hk, ← getD_at hk]
    rfl
  have Hcell := Lib.hid hcell
  obtain ⟨A0, cp, rfl, hc0⟩ := hv.any
  clear ht hll hcell hv
  by_cases h6 : n.length = 6
  · have hl := h6
    have HslN : Hid (Sl w 1 (.slice A0 6 cp) 6 (n.map stv)) := Lib.hid (by have := Hsl.out; rw [hl] at this; exact this)
    have j6 : ((n.length : Int) == 6) = true := by simp [hl]
    go_enter Tryd.func25, Tryd.ntmps25
    go_wp2_with (first
      | ((with_reducible refine wpList_allocAd (o := ⟨some 2, _, _, _, _, _⟩) rfl rfl ?_); intro g2 w1 hg hB2 hb1 hs; have hg2 : w.heap.size ≤ g2 := Nat.le_of_eq hg.symm; clear hg hs)
      | ((with_reducible refine wpList_allocAd (o := ⟨some 4, _, _, _, _, _⟩) rfl rfl ?_); intro g4 w2 hg hB4 hb2 hs; have hg4 : w1.heap.size ≤ g4 := Nat.le_of_eq hg.symm; have hB22 := hB2.bel hb2; have hb02 := bel_tr hb1 hb2
         have c0 := hB4.cell 0
         rw [adA_0, show ad0.fam = 0 from rfl] at c0
         have f0 := hB4.free 0
         clear hg hs; refine hold ?_))
    refine Lib.hid ?_
    have hlt24 : g2 < g4 := by have := hB2.lt; omega
    have hw4 : w.heap.size ≤ g4 := by have := hb1.size; omega
    have hs4 := hB4.set_ 0 (.int .i64 4)
    rw [bAd4] at hs4
    have R0 : UnRel w g2 g4 (aun n 0) (w2.setCell ⟨g4, 0, none⟩ (.int .i64 4)) := ⟨hB22.far (p := ⟨g4, 0, none⟩) (by show g2 ≠ g4; omega) _, hs4, hb02.setCell (p := ⟨g4, 0, none⟩) hw4 _⟩
    have R0' := Lib.hid R0
    clear hs4 R0 hB2 hB22 hb1 hb2 hb02
    go_wp2
    clear hB4 c0 f0
    go_loopw [16] (fun i wr => ∃ k : Nat, k ≤ 4 ∧ i = .int .i64 k ∧ (n.take k).all nokB = true ∧ UnRel w g2 g4 (aun n k) wr) (fun i _ => 4 - (intOf i).toNat)
    case atStart => exact ⟨0, by omega, rfl, rfl, R0'.out⟩
    case round =>
      obtain ⟨k, hk, rfl, hall, r2, r4, rb⟩ := hrel
      clear R0'
      by_cases hlt : k < 4
      · have j1 : (k : Int) < 4 := by omega
        have hkn : k < n.length := by omega
        have j2 : (k : Int) < (n.length : Int) := by omega
        obtain ⟨b, off, c, hvv, hbl, hcl⟩ := Hcell.out k hkn wr rb
        injection hvv with q1 q2 q3
        subst q1 q3
        have hgl := Hll.out (n.getD k []) (by rw [← getD_at hkn]; exact List.getElem_mem hkn)
        cases hn2 : nokB (n.getD k []) with
        | false =>
          have Hbad := Lib.hid ((unr_6 hl).trans (if_neg (fun h => take_bad (m := 4) hlt hkn (by rw [getD_at hkn]; exact hn2) h.1)))
          obtain ⟨e, he1, he2⟩ := numV_no255 hn2
          have He1 := Lib.hid he1
          have i0 : (e != 0) = true := by rcases he2 with rfl | rfl <;> rfl
          clear hn2 he1 he2 hall
          generalize n.getD k [] = N at *
          go_wp2_with (first
            | (go_at_call 29; refine (number_any N _ _ (by omega) (by omega) (by omega)).mono ?_; rintro ed w5 ⟨rfl, rfl⟩; rw [He1.out])
            | (with_reducible refine wpList_buildL rfl 25 _ rfl built_0 rfl ?_)
            | ((with_reducible refine wpList_storeAd rfl _ _ rfl rfl rfl r2 ?_); intro wz hBz hSz))
          exact ret_adE Tryd.results25 rfl rfl hBz rfl (UnPost.no Hbad.out (rb.trans (hSz.below hg2)))
        | true =>
          have hv0 := ofval_lt hn2
          have hu : ((UInt8.ofNat (val (n.getD k []))).toNat : Int) = (val (n.getD k []) : Int) := by rw [UInt8.toNat_ofNat_of_lt' hv0]
          have Hset := Lib.hid (adA_setB (aun n k) (show 3 - k < 16 by omega) (UInt8.ofNat (val (n.getD k []))))
          have Hnx := Lib.hid (show aun n (k + 1) = (aun n k).setB (3 - k) (UInt8.ofNat (val (n.getD k []))) from rfl)
          have Hall := Lib.hid (take_next hkn hall (by rw [getD_at hkn]; exact hn2))
          have Hok := Lib.hid (numV_ok255 hn2)
          have Hu := Lib.hid hu
          have i2 : ((val (n.getD k []) : Nat) : Int) < 256 := by omega
          have t3 : (3 - (k : Int)).toNat = 3 - k := by omega
          have i3 : (0 : Int) ≤ 3 - (k : Int) := by omega
          have i4 : 3 - (k : Int) < 16 := by omega
          have q4 := r4.cell (3 - k + 1)
          rw [adA_ip _ (by omega), Nat.add_comm] at q4
          have f4 := r4.free (1 + (3 - k))
          clear hn2 hu hall
          generalize n.getD k [] = N at *
          go_wp2_with (first
            | (go_at_call 29; refine (number_any N _ _ (by omega) (by omega) (by omega)).mono ?_; rintro ed w5 ⟨rfl, rfl⟩; rw [Hok.out]))
          go_roundw
          case rel =>
            refine ⟨k + 1, by omega, by go_num, Hall.out, r2.far (p := ⟨g4, 1 + (3 - k), none⟩) (by show g2 ≠ g4; omega) _, ?_, rb.setCell (p := ⟨g4, 1 + (3 - k), none⟩) hw4 _⟩
            have := r4.set_ (3 - k + 1) (.int .u8 ((UInt8.ofNat (val N)).toNat : Int))
            rw [Hset.out, ← Hnx.out, Hu.out, Nat.add_comm (3 - k) 1] at this
            exact this
          case measure => simp [intOf]; omega
      · have hk4 : k = 4 := by omega
        subst hk4
        have Hall := Lib.hid hall
        clear hall
        have c0 := r4.cell 0
        rw [adA_0, show (aun n 4).fam = 4 from by rw [aun_4]; rfl] at c0
        obtain ⟨hrl, hrll⟩ := rev_bd (aun n 4)
        have Hrl := Lib.hid hrl
        have Hrll := Lib.hid hrll
        clear hrl hrll
        by_cases hq : lows (revA (aun n 4)) = lows n
        · have Hyes := Lib.hid ((unr_6 hl).trans (if_pos ⟨Hall.out, hq⟩))
          have Hq := Lib.hid hq
          clear hq
          go_wp2_with (first
            | (refine wpList_loadAdG (o := ⟨some 82, _, _, _, _, _⟩) rfl _ rfl rfl r4 ?_)
            | (go_at_call 52; refine (areverse_any (aun n 4) _ (Ht.out.below rb)).mono ?_; rintro ed w5 ⟨v5, rfl, ho5, hb5⟩; obtain ⟨a5, c5, rfl, hc5⟩ := (Sl.own ho5).any; have hs5 := Lib.hid (Sl.own ho5); have r25 := r2.bel hb5; have r45 := r4.bel hb5; have rb5 := bel_tr rb hb5; clear ho5)
            | (go_at_call 60; refine (dsame_n (revA (aun n 4)) n _ _ _ hs5.out (HslN.out.below rb5) Hrl.out Hrll.out).mono ?_; rintro ed w6 ⟨rfl, hb6⟩; rw [decide_eq_true Hq.out]; have r26 := r25.bel hb6; have r46 := r45.bel hb6; have rb6 := bel_tr rb5 hb6)
            | (with_reducible refine wpList_loadAd (o := ⟨some 89, _, _, _, _, _⟩) rfl _ rfl rfl r46 ?_)
            | ((with_reducible refine wpList_storeAd rfl _ _ rfl rfl rfl r26 ?_); intro wz hBz hSz))
          exact ret_adE Tryd.results25 rfl rfl hBz rfl (UnPost.yes Hyes.out (rb6.trans (hSz.below hg2)))
        · have Hbad := Lib.hid ((unr_6 hl).trans (if_neg (fun h => hq h.2)))
          have Hq := Lib.hid hq
          clear hq
          go_wp2_with (first
            | (refine wpList_loadAdG (o := ⟨some 82, _, _, _, _, _⟩) rfl _ rfl rfl r4 ?_)
            | (go_at_call 52; refine (areverse_any (aun n 4) _ (Ht.out.below rb)).mono ?_; rintro ed w5 ⟨v5, rfl, ho5, hb5⟩; obtain ⟨a5, c5, rfl, hc5⟩ := (Sl.own ho5).any; have hs5 := Lib.hid (Sl.own ho5); have r25 := r2.bel hb5; have r45 := r4.bel hb5; have rb5 := bel_tr rb hb5; clear ho5)
            | (go_at_call 60; refine (dsame_n (revA (aun n 4)) n _ _ _ hs5.out (HslN.out.below rb5) Hrl.out Hrll.out).mono ?_; rintro ed w6 ⟨rfl, hb6⟩; rw [decide_eq_false Hq.out]; have r26 := r25.bel hb6; have rb6 := bel_tr rb5 hb6)
            | (with_reducible refine wpList_buildL rfl 25 _ rfl built_0 rfl ?_)
            | ((with_reducible refine wpList_storeAd rfl _ _ rfl rfl rfl r26 ?_); intro wz hBz hSz))
          exact ret_adE Tryd.results25 rfl rfl hBz rfl (UnPost.no Hbad.out (rb6.trans (hSz.below hg2)))
  · by_cases h34 : n.length = 34
    · have hl := h34
      have HslN : Hid (Sl w 1 (.slice A0 34 cp) 34 (n.map stv)) := Lib.hid (by have := Hsl.out; rw [hl] at this; exact this)
      have j6 : ((n.length : Int) == 6) = false := by simp [hl]
      have j34 : ((n.length : Int) == 34) = true := by simp [hl]
      go_enter Tryd.func25, Tryd.ntmps25
      go_wp2_with (first
        | ((with_reducible refine wpList_allocAd (o := ⟨some 2, _, _, _, _, _⟩) rfl rfl ?_); intro g2 w1 hg hB2 hb1 hs; have hg2 : w.heap.size ≤ g2 := Nat.le_of_eq hg.symm; clear hg hs)
        | ((with_reducible refine wpList_allocAd (o := ⟨some 4, _, _, _, _, _⟩) rfl rfl ?_); intro g4 w2 hg hB4 hb2 hs; have hg4 : w1.heap.size ≤ g4 := Nat.le_of_eq hg.symm; have hB22 := hB2.bel hb2; have hb02 := bel_tr hb1 hb2
           have c0 := hB4.cell 0
           rw [adA_0, show ad0.fam = 0 from rfl] at c0
           have f0 := hB4.free 0
           clear hg hs; refine hold ?_))
      refine Lib.hid ?_
      have hlt24 : g2 < g4 := by have := hB2.lt; omega
      have hw4 : w.heap.size ≤ g4 := by have := hb1.size; omega
      have hs4 := hB4.set_ 0 (.int .i64 6)
      rw [bAd6, ← xun_0 n] at hs4
      have R0 : UnRel w g2 g4 (xun n 0) (w2.setCell ⟨g4, 0, none⟩ (.int .i64 6)) := ⟨hB22.far (p := ⟨g4, 0, none⟩) (by show g2 ≠ g4; omega) _, hs4, hb02.setCell (p := ⟨g4, 0, none⟩) hw4 _⟩
      have R0' := Lib.hid R0
      clear hs4 R0 hB2 hB22 hb1 hb2 hb02
      go_wp2
      clear hB4 c0 f0
      go_loopw [40] (fun i wr => ∃ k : Nat, k ≤ 32 ∧ i = .int .i64 k ∧ (n.take k).all (fun l => (hexC l).isSome) = true ∧ UnRel w g2 g4 (xun n k) wr) (fun i _ => 32 - (intOf i).toNat)
      case atStart => exact ⟨0, by omega, rfl, rfl, R0'.out⟩
      case round =>
        obtain ⟨k, hk, rfl, hall, r2, r4, rb⟩ := hrel
        clear R0'
        by_cases hlt : k < 32
        · have j1 : (k : Int) < 32 := by omega
          have hkn : k < n.length := by omega
          have j2 : (k : Int) < (n.length : Int) := by omega
          obtain ⟨b, off, c, hvv, hbl, hcl⟩ := Hcell.out k hkn wr rb
          injection hvv with q1 q2 q3
          subst q1 q3
          have hgl := Hll.out (n.getD k []) (by rw [← getD_at hkn]; exact List.getElem_mem hkn)
          have hbd : hexC (n.getD k []) = none → unr n = none := fun h => (unr_34 hl).trans (if_neg (fun hh => take_bad (p := fun l => (hexC l).isSome) (m := 32) hlt hkn (by rw [getD_at hkn, h]; rfl) hh.1))
          have Hbd := Lib.hid hbd
          have hnx : ∀ d, hexC (n.getD k []) = some d → (n.take (k + 1)).all (fun l => (hexC l).isSome) = true ∧ nib n k = d := fun d h => ⟨take_next (p := fun l => (hexC l).isSome) hkn hall (by rw [getD_at hkn, h]; rfl), by unfold nib; rw [h]; rfl⟩
          have Hnx := Lib.hid hnx
          clear hbd hnx hall
          generalize n.getD k [] = N at *
          by_cases h1 : N.length = 1
          · obtain ⟨x, rfl⟩ : ∃ x, N = [x] := by
              match N, h1 with
              | [x], _ => exact ⟨x, rfl⟩
            have lx := u8lt x
            cases hx : hex (x.toNat : Int) with
            | none =>
              have Hbad := Lib.hid (Hbd.out (by show (hex (x.toNat : Int)).map Int.toNat = none; rw [hx]; rfl))
              have Hx := Lib.hid hx
              clear hx
              go_wp2_with (first
                | (go_at_call 59; refine (hex_any (x.toNat : Int) _ (by omega) (by omega)).mono ?_; rintro ed w5 ⟨rfl, rfl⟩; rw [Hx.out]; unfold hexV)
                | (with_reducible refine wpList_buildL rfl 25 _ rfl built_0 rfl ?_)
                | ((with_reducible refine wpList_storeAd rfl _ _ rfl rfl rfl r2 ?_); intro wz hBz hSz))
              exact ret_adE Tryd.results25 rfl rfl hBz rfl (UnPost.no Hbad.out (rb.trans (hSz.below hg2)))
            | some z =>
              have hzb := hexc_bd hx
              obtain ⟨d, rfl⟩ : ∃ d : Nat, z = (d : Int) := ⟨z.toNat, by omega⟩
              have hd : d < 16 := by omega
              obtain ⟨hall, hnib⟩ := Hnx.out d (by show (hex (x.toNat : Int)).map Int.toNat = some d; rw [hx]; rfl)
              have Hall := Lib.hid hall
              have Hx := Lib.hid hx
              have hxn := xun_next n hlt
              rw [hnib] at hxn
              have hold := xun_old n hlt
              have hbx := xun_b n k (show 15 - k / 2 < 16 by omega)
              have q4 := r4.cell (15 - k / 2 + 1)
              rw [adA_ip _ (by omega), Nat.add_comm, hbx] at q4
              have f4 := r4.free (1 + (15 - k / 2))
              have hvb : byX n k (15 - k / 2) + d * 16 ^ (k % 2) < 256 := by
                rw [hold]
                have := nib_lt n (k - 1)
                rcases Nat.mod_two_eq_zero_or_one k with h0 | h0
                · rw [if_pos h0, h0]; omega
                · rw [if_neg (by omega), h0]; omega
              have hset : ∀ x : BelT wr, Bk (x.at_.setCell ⟨g4, 1 + (15 - k / 2), none⟩ (.int .u8 ((byX n k (15 - k / 2) + d * 16 ^ (k % 2) : Nat) : Int))) g4 25 (adA (xun n (k + 1))) := by
                intro x
                have h := (r4.bel x.bel).set_ (15 - k / 2 + 1) (.int .u8 ((UInt8.ofNat (byX n k (15 - k / 2) + d * 16 ^ (k % 2))).toNat : Int))
                rw [adA_setB _ (by omega), hxn, UInt8.toNat_ofNat_of_lt' hvb, Nat.add_comm (15 - k / 2) 1] at h
                exact h
              have Hset := Lib.hid hset
              have R2 := Lib.hid r2
              have R4 := Lib.hid r4
              have xq := fun x : BelT wr => x.cell q4
              have hor : (k % 2 = 0 ∧ byX n k (15 - k / 2) = 0) ∨ (k % 2 = 1 ∧ byX n k (15 - k / 2) < 16) := by
                rw [hold]
                have := nib_lt n (k - 1)
                rcases Nat.mod_two_eq_zero_or_one k with h0 | h0
                · exact .inl ⟨h0, by rw [if_pos h0]⟩
                · exact .inr ⟨h0, by rw [if_neg (by omega)]; exact this⟩
              generalize hH : k / 2 = H at *
              have t2 : ((k : Int) / 2) = ((H : Nat) : Int) := by omega
              have t3 : (15 - ((H : Nat) : Int)).toNat = 15 - H := by omega
              have i3 : (0 : Int) ≤ 15 - ((H : Nat) : Int) := by omega
              have i4 : 15 - ((H : Nat) : Int) < 16 := by omega
              have i5 : (d : Int) < 16 := by omega
              clear hset hxn hold hbx r2 r4 hall hnib Hnx Hbd hx hvb f4 hH
              generalize hO : byX n k (15 - H) = O at *
              clear hO
              rcases hor with ⟨h0, hO⟩ | ⟨h0, hO⟩
              · subst hO
                have m2 : (k : Int) % 2 = 0 := by omega
                have ho := or_u8_0 hd
                have HV : Hid ((0 + d * 16 ^ (k % 2) : Nat) = (d : Nat)) := Lib.hid (by rw [h0]; simp)
                clear h0
                go_wp2_with (first
                  | (go_at_call 59; refine (hex_any (x.toNat : Int) _ (by omega) (by omega)).mono ?_; rintro ed w5 ⟨rfl, rfl⟩; rw [Hx.out]; unfold hexV))
                refine wp_region_bel_tail 15 (by kernel_rfl) (by kernel_rfl) ?_
                simp only [List.take_succ_cons, List.take_zero, List.drop_succ_cons, List.drop_zero]
                repeat (first
                  | go_big_quiet_skip
                  | (go_big_quiet_want; (go_big_quiet_op; go_big_quiet_on)))
                refine wpQuiet_nil ?_
                rintro _ ⟨y, rfl⟩
                have r4y := R4.out.bel y.bel
                have q4y := y.cell q4
                have f4y := r4y.free (1 + (15 - H))
                have hsy := Hset.out y
                rw [HV.out] at hsy
                have Hsy := Lib.hid hsy
                have hfar := Lib.hid ((R2.out.bel y.bel).far (p := ⟨g4, 1 + (15 - H), none⟩) (by show g2 ≠ g4; omega) (.int .u8 ((d : Nat) : Int)))
                have hbb := Lib.hid ((bel_tr rb y.bel).setCell (p := ⟨g4, 1 + (15 - H), none⟩) hw4 (.int .u8 ((d : Nat) : Int)))
                clear hsy r4y xq Hset
                go_wp2
                go_roundw
                case rel => exact ⟨k + 1, by omega, by go_num, Hall.out, hfar.out, Hsy.out, hbb.out⟩
                case measure => simp [intOf]; omega
              · have m2 : (k : Int) % 2 = 1 := by omega
                have ho := or_u8_1 hO hd
                have HV : Hid ((O + d * 16 ^ (k % 2) : Nat) = (O + d * 16 : Nat)) := Lib.hid (by rw [h0])
                clear h0
                go_wp2_with (first
                  | (go_at_call 59; refine (hex_any (x.toNat : Int) _ (by omega) (by omega)).mono ?_; rintro ed w5 ⟨rfl, rfl⟩; rw [Hx.out]; unfold hexV))
                refine wp_region_bel_tail 15 (by kernel_rfl) (by kernel_rfl) ?_
                simp only [List.take_succ_cons, List.take_zero, List.drop_succ_cons, List.drop_zero]
                repeat (first
                  | go_big_quiet_skip
                  | (go_big_quiet_want; (go_big_quiet_op; go_big_quiet_on)))
                refine wpQuiet_nil ?_
                rintro _ ⟨y, rfl⟩
                have r4y := R4.out.bel y.bel
                have q4y := y.cell q4
                have f4y := r4y.free (1 + (15 - H))
                have hsy := Hset.out y
                rw [HV.out] at hsy
                have Hsy := Lib.hid hsy
                have hfar := Lib.hid ((R2.out.bel y.bel).far (p := ⟨g4, 1 + (15 - H), none⟩) (by show g2 ≠ g4; omega) (.int .u8 ((O + d * 16 : Nat) : Int)))
                have hbb := Lib.hid ((bel_tr rb y.bel).setCell (p := ⟨g4, 1 + (15 - H), none⟩) hw4 (.int .u8 ((O + d * 16 : Nat) : Int)))
                clear hsy r4y xq Hset
                go_wp2
                go_roundw
                case rel => exact ⟨k + 1, by omega, by go_num, Hall.out, hfar.out, Hsy.out, hbb.out⟩
                case measure => simp [intOf]; omega
          · have Hbad := Lib.hid (Hbd.out (by
              unfold hexC
              match N, h1 with
              | [], _ => rfl
              | [x], h => exact absurd rfl h
              | _ :: _ :: _, _ => rfl))
            have i0 : ((N.length : Int) != 1) = true := by simp; omega
            go_wp2_with (first
              | fail
              | (with_reducible refine wpList_buildL rfl 25 _ rfl built_0 rfl ?_)
              | ((with_reducible refine wpList_storeAd rfl _ _ rfl rfl rfl r2 ?_); intro wz hBz hSz))
            exact ret_adE Tryd.results25 rfl rfl hBz rfl (UnPost.no Hbad.out (rb.trans (hSz.below hg2)))
        · have hk4 : k = 32 := by omega
          subst hk4
          have Hall := Lib.hid hall
          clear hall
          have c0 := r4.cell 0
          rw [adA_0, show (xun n 32).fam = 6 from rfl] at c0
          obtain ⟨hrl, hrll⟩ := rev_bd (xun n 32)
          have Hrl := Lib.hid hrl
          have Hrll := Lib.hid hrll
          clear hrl hrll
          by_cases hq : lows (revA (xun n 32)) = lows n
          · have Hyes := Lib.hid ((unr_34 hl).trans (if_pos ⟨Hall.out, hq⟩))
            have Hq := Lib.hid hq
            clear hq
            go_wp2_with (first
              | (refine wpList_loadAdG (o := ⟨some 82, _, _, _, _, _⟩) rfl _ rfl rfl r4 ?_)
              | (go_at_call 52; refine (areverse_any (xun n 32) _ (Ht.out.below rb)).mono ?_; rintro ed w5 ⟨v5, rfl, ho5, hb5⟩; obtain ⟨a5, c5, rfl, hc5⟩ := (Sl.own ho5).any; have hs5 := Lib.hid (Sl.own ho5); have r25 := r2.bel hb5; have r45 := r4.bel hb5; have rb5 := bel_tr rb hb5; clear ho5)
              | (go_at_call 60; refine (dsame_n (revA (xun n 32)) n _ _ _ hs5.out (HslN.out.below rb5) Hrl.out Hrll.out).mono ?_; rintro ed w6 ⟨rfl, hb6⟩; rw [decide_eq_true Hq.out]; have r26 := r25.bel hb6; have r46 := r45.bel hb6; have rb6 := bel_tr rb5 hb6)
              | (with_reducible refine wpList_loadAd (o := ⟨some 89, _, _, _, _, _⟩) rfl _ rfl rfl r46 ?_)
              | ((with_reducible refine wpList_storeAd rfl _ _ rfl rfl rfl r26 ?_); intro wz hBz hSz))
            exact ret_adE Tryd.results25 rfl rfl hBz rfl (UnPost.yes Hyes.out (rb6.trans (hSz.below hg2)))
          · have Hbad := Lib.hid ((unr_34 hl).trans (if_neg (fun h => hq h.2)))
            have Hq := Lib.hid hq
            clear hq
            go_wp2_with (first
              | (refine wpList_loadAdG (o := ⟨some 82, _, _, _, _, _⟩) rfl _ rfl rfl r4 ?_)
              | (go_at_call 52; refine (areverse_any (xun n 32) _ (Ht.out.below rb)).mono ?_; rintro ed w5 ⟨v5, rfl, ho5, hb5⟩; obtain ⟨a5, c5, rfl, hc5⟩ := (Sl.own ho5).any; have hs5 := Lib.hid (Sl.own ho5); have r25 := r2.bel hb5; have r45 := r4.bel hb5; have rb5 := bel_tr rb hb5; clear ho5)
              | (go_at_call 60; refine (dsame_n (revA (xun n 32)) n _ _ _ hs5.out (HslN.out.below rb5) Hrl.out Hrll.out).mono ?_; rintro ed w6 ⟨rfl, hb6⟩; rw [decide_eq_false Hq.out]; have r26 := r25.bel hb6; have rb6 := bel_tr rb5 hb6)
              | (with_reducible refine wpList_buildL rfl 25 _ rfl built_0 rfl ?_)
              | ((with_reducible refine wpList_storeAd rfl _ _ rfl rfl rfl r26 ?_); intro wz hBz hSz))
            exact ret_adE Tryd.results25 rfl rfl hBz rfl (UnPost.no Hbad.out (rb6.trans (hSz.below hg2)))
    · have Hbad : Hid (unr n = none) := Lib.hid (by unfold unr; rw [if_neg h6, if_neg h34])
      have j6 : ((n.length : Int) == 6) = false := by simp; omega
      have j34 : ((n.length : Int) == 34) = false := by simp; omega
      go_enter Tryd.func25, Tryd.ntmps25
      go_wp2_with (first
        | ((with_reducible refine wpList_allocAd (o := ⟨some 2, _, _, _, _, _⟩) rfl rfl ?_); intro g2 w1 hg hB2 hb1 hs; have hg2 : w.heap.size ≤ g2 := Nat.le_of_eq hg.symm; clear hg hs)
        | ((with_reducible refine wpList_allocAd (o := ⟨some 4, _, _, _, _, _⟩) rfl rfl ?_); intro g4 w2 hg hB4 hb2 hs; have hg4 : w1.heap.size ≤ g4 := Nat.le_of_eq hg.symm; have hB22 := hB2.bel hb2; have hb02 := bel_tr hb1 hb2
           have c0 := hB4.cell 0
           rw [adA_0, show ad0.fam = 0 from rfl] at c0
           have f0 := hB4.free 0
           clear hg hs; refine hold ?_))
      refine Lib.hid ?_
      have hlt24 : g2 < g4 := by have := hB2.lt; omega
      have hw4 : w.heap.size ≤ g4 := by have := hb1.size; omega
      have r2 := hB22
      have rb := hb02
      go_wp2_with (first
        | fail
        | (with_reducible refine wpList_buildL rfl 25 _ rfl built_0 rfl ?_)
        | ((with_reducible refine wpList_storeAd rfl _ _ rfl rfl rfl r2 ?_); intro wz hBz hSz))
      exact ret_adE Tryd.results25 rfl rfl hBz rfl (UnPost.no Hbad.out (rb.trans (hSz.below hg2)))
end Go.Proofs.YtgbdhfjblebeiaaDoor

/- The contract of the reference's Reverse (9). -/
namespace Go.Proofs.YtgbdhfjblebeiaaDoor
open Go.RowKit
attribute [local go_sem] ba_get ext_take ext_drop ext_any ba_app

set_option maxRecDepth 100000 in
set_option maxHeartbeats 2000000 in
theorem rreverse4 (a : Ad) (w : World) (h4 : a.fam = 4) : Calls Tryd.prog 62 #[.agg (adA a)] w (RvPost w a) := by
  have i4 : (a.fam == 4) = true := by simpa using h4
  have Hr : Hid (revA a = rv4 a 0 ++ [inaddr, arpa]) := Lib.hid (by unfold revA; rw [if_pos h4])
  clear h4
  go_enter Tryd.func62, Tryd.ntmps62
  go_wp2_with (first
    | ((with_reducible refine wpList_boxB rfl _ _ rfl rfl ?_); intro g w1 hg hB hb hs; have hgw : w.heap.size ≤ g := Nat.le_of_eq hg.symm; clear hg hs
       have c0 := hB.cell 0
       rw [adA_0] at c0))
  have R0 : Rv4Rel w w1 a g (.slice none 0 0) (.int .i64 3) w1 := ⟨4, 0, 3, by omega, rfl, rfl, World.ownsRow_nil _ _ _ _, hB, hb, Nat.le_refl _⟩
  have hg1 := hB.lt
  have hw1 := hb.size
  clear hB hb c0
  go_loopw [3, 4] (fun v i wr => Rv4Rel w w1 a g v i wr) (fun _ i _ => (intOf i + 1).toNat)
  case atStart => exact R0
  case round =>
    obtain ⟨j, N, z, hj, rfl, hz, ho, hB, hb, hsz⟩ := hrel
    clear R0
    obtain ⟨A3, c3, rfl, hc3⟩ := (Sl.own ho).any
    rcases Nat.eq_zero_or_pos j with h0 | h0
    · subst h0
      obtain rfl : z = -1 := by omega
      clear hz
      go_wp2_with (first
        | (at_builtin; refine wpList_appLit (o := ⟨some 26, _, _, _, _, _⟩) rfl _ _ _ rfl elt_strs rfl ho [.string ⟨inaddr.toArray⟩] (m := 1) rfl rfl (by simp [Value.oneCell']) (by omega) (by omega) (by omega) ?_; intro v5 w5 ho5 hb5 hg5; obtain ⟨A5, c5, rfl, hc5⟩ := (Sl.own ho5).any; have hsz5 := Nat.le_trans hsz hb5.size)
        | (at_builtin; refine wpList_appLit (o := ⟨some 28, _, _, _, _, _⟩) rfl _ _ _ rfl elt_strs rfl ho5 [.string ⟨arpa.toArray⟩] (m := 1) rfl rfl (by simp [Value.oneCell']) (by omega) (by omega) (by omega) ?_; intro v6 w6 ho6 hb6 hg6))
      go_ret
      refine ⟨_, rfl, ?_, hb.trans ((hb5.trans hb6).mono hw1)⟩
      rw [Hr.out, List.length_append, rv4_len, List.map_append]
      have hN : N = 4 := by omega
      rw [hN, List.append_assoc] at ho6
      exact own_base ho6 hw1
    · obtain ⟨m, rfl⟩ : ∃ m, j = m + 1 := ⟨j - 1, by omega⟩
      obtain rfl : z = (m : Int) := by omega
      clear hz
      have hm : m < 4 := by omega
      have j0 : (0 : Int) ≤ (m : Int) := by omega
      have j1 : (m : Int) < 16 := by omega
      have c1 := hB.cell (m + 1)
      rw [adA_ip a (by omega), Nat.add_comm m 1] at c1
      have l0 := u8lt (a.b m)
      have hit := itu_len (a.b m)
      have Hnx := Lib.hid (rv4_next a hm)
      have hdg : ∀ W, Calls Tryd.prog 41 #[.int .i64 ((a.b m).toNat : Int)] W fun e w' => e = .returned (.string ⟨(itu (a.b m)).toArray⟩) ∧ w' = W := fun W => (rdigits_any _ W (by omega) (by omega)).mono fun e w' ⟨h1, h2⟩ => ⟨h1, by first | exact h2 | exact h2.symm⟩
      have Hdg := Lib.hid hdg
      clear hdg
      go_wp2_with (first
        | (go_at_call 41; refine (Hdg.out _).mono ?_; rintro e w2 ⟨rfl, hw⟩; have hw2 := hw.symm; subst hw2; clear hw)
        | (at_builtin; refine wpList_appLit (o := ⟨some 23, _, _, _, _, _⟩) rfl _ _ _ rfl elt_strs rfl ho [.string ⟨(itu (a.b m)).toArray⟩] (m := 1) rfl rfl (by simp [Value.oneCell']) (by omega) (by omega) (by omega) ?_; intro v5 w5 ho5 hb5 hg5; have hB5 := hB.grown hg5 (own_ne1 ho hg1); have hsz5 := Nat.le_trans hsz hb5.size))
      go_roundw
      case rel =>
        refine ⟨m, N + 1, (m : Int) - 1, by omega, by go_num, rfl, ?_, hB5, hb.trans (hb5.mono hw1), hsz5⟩
        rw [Hnx.out, List.map_append]
        exact ho5
      case measure => simp [intOf]
def RiRel (w w1 : World) (a : Ad) (g N : Nat) (L : List (List UInt8)) (lo hi : Nat) (v i : Value) (wr : World) : Prop := ∃ q : Nat, q ≤ 2 ∧ i = .int .i64 q ∧ wr.ownsRow w1.heap.size 9 1 v (N + q) ((L ++ [[fig lo], [fig hi]].take q).map stv) ∧ Bk wr g 25 (adA a) ∧ Below w.heap.size w wr ∧ w1.heap.size ≤ wr.heap.size
set_option maxRecDepth 100000 in
set_option maxHeartbeats 4000000 in
theorem rreverse6 (a : Ad) (w : World) (h6 : a.fam = 6) : Calls Tryd.prog 62 #[.agg (adA a)] w (RvPost w a) := by
  have i4 : (a.fam == 4) = false := by simp [h6]
  have i6 : (a.fam == 6) = true := by simpa using h6
  have Hr : Hid (revA a = rv6 a 0 ++ [ip6, arpa]) := Lib.hid (by unfold revA; rw [if_neg (by omega), if_pos h6])
  clear h6
  go_enter Tryd.func62, Tryd.ntmps62
  go_wp2_with (first
    | ((with_reducible refine wpList_boxB rfl _ _ rfl rfl ?_); intro g w1 hg hB hb hs; have hgw : w.heap.size ≤ g := Nat.le_of_eq hg.symm; clear hg hs
       have c0 := hB.cell 0
       rw [adA_0] at c0))
  have R0 : Rv6Rel w w1 a g (.slice none 0 0) (.int .i64 15) w1 := ⟨16, 0, 15, by omega, rfl, rfl, World.ownsRow_nil _ _ _ _, hB, hb, Nat.le_refl _⟩
  have hg1 := hB.lt
  have hw1 := hb.size
  clear hB hb c0
  go_loopw [3, 5] (fun v i wr => Rv6Rel w w1 a g v i wr) (fun _ i _ => (intOf i + 1).toNat)
  case atStart => exact R0
  case round =>
    obtain ⟨wo, rfl⟩ : ∃ wo, wo = wr := ⟨_, rfl⟩
    obtain ⟨j, N, z, hj, rfl, hz, ho, hB, hb, hsz⟩ := hrel
    clear R0
    obtain ⟨A3, c3, rfl, hc3⟩ := (Sl.own ho).any
    rcases Nat.eq_zero_or_pos j with h0 | h0
    · subst h0
      obtain rfl : z = -1 := by omega
      clear hz
      have Hl := Lib.hid (rv6_len a 16 0 rfl)
      go_wp2_with (first
        | (at_builtin; refine wpList_appLit (o := ⟨some 59, _, _, _, _, _⟩) rfl _ _ _ rfl elt_strs rfl ho [.string ⟨ip6.toArray⟩] (m := 1) rfl rfl (by simp [Value.oneCell']) (by omega) (by omega) (by omega) ?_; intro v5 w5 ho5 hb5 hg5; obtain ⟨A5, c5, rfl, hc5⟩ := (Sl.own ho5).any; have hsz5 := Nat.le_trans hsz hb5.size)
        | (at_builtin; refine wpList_appLit (o := ⟨some 61, _, _, _, _, _⟩) rfl _ _ _ rfl elt_strs rfl ho5 [.string ⟨arpa.toArray⟩] (m := 1) rfl rfl (by simp [Value.oneCell']) (by omega) (by omega) (by omega) ?_; intro v6 w6 ho6 hb6 hg6))
      go_ret
      refine ⟨_, rfl, ?_, hb.trans ((hb5.trans hb6).mono hw1)⟩
      rw [Hr.out, List.length_append, Hl.out, List.map_append]
      have hN : N = 32 := by omega
      rw [hN, List.append_assoc] at ho6
      exact own_base ho6 hw1
    · obtain ⟨m, rfl⟩ : ∃ m, j = m + 1 := ⟨j - 1, by omega⟩
      obtain rfl : z = (m : Int) := by omega
      clear hz
      have hm : m < 16 := by omega
      have j0 : (0 : Int) ≤ (m : Int) := by omega
      have j1 : (m : Int) < 16 := by omega
      have l0 := u8lt (a.b m)
      have Hnx := Lib.hid (rv6_next a hm)
      have elo : ((a.b m).toNat : Int) % 16 = (((a.b m).toNat % 16 : Nat) : Int) := by omega
      have ehi : ((a.b m).toNat : Int) / 16 = (((a.b m).toNat / 16 : Nat) : Int) := by omega
      have Helo := Lib.hid elo
      have Hehi := Lib.hid ehi
      have hlo : (a.b m).toNat % 16 < 16 := by omega
      have hhi : (a.b m).toNat / 16 < 16 := by omega
      clear elo ehi
      generalize (a.b m).toNat % 16 = lo at *
      generalize (a.b m).toNat / 16 = hi at *
      obtain ⟨L, hL⟩ : ∃ L, rv6 a (m + 1) = L := ⟨_, rfl⟩
      rw [hL] at ho Hnx
      clear hL
      have R1 : RiRel w w1 a g N L lo hi (.slice A3 N c3) (.int .i64 0) wo := ⟨0, by omega, rfl, by simpa using ho, hB, hb, hsz⟩
      clear ho hB hb hsz hc3
      go_wp2
      go_loopw [3, 6] (fun v i wr => RiRel w w1 a g N L lo hi v i wr) (fun _ i _ => 2 - (intOf i).toNat)
      case atStart => exact R1
      case round =>
        obtain ⟨q, hq, rfl, ho, hB, hb, hsz⟩ := hrel
        clear R1
        obtain ⟨A4, c4, rfl, hc4⟩ := (Sl.own ho).any
        have c1 := hB.cell (m + 1)
        rw [adA_ip a (by omega), Nat.add_comm m 1] at c1
        rcases (show q = 0 ∨ q = 1 ∨ q = 2 by omega) with rfl | rfl | rfl
        · have hcl : List.drop lo (48 :: List.take lo [49, 50, 51, 52, 53, 54, 55, 56, 57, 97, 98, 99, 100, 101, 102]) = [fig lo] := figL_cut hlo
          have t7 : ((lo : Int) + 1).toNat = lo + 1 := by omega
          have i7 : ((lo : Nat) : Int) < 16 := by omega
          have e0 := Helo.out
          clear Helo Hehi
          go_wp2_with (first
            | (at_builtin; refine wpList_appLit (o := ⟨some 56, _, _, _, _, _⟩) rfl _ _ _ rfl elt_strs rfl ho [.string ⟨[fig lo].toArray⟩] (m := 1) rfl rfl (by simp [Value.oneCell']) (by omega) (by omega) (by omega) ?_; intro v5 w5 ho5 hb5 hg5; have hB5 := hB.grown hg5 (own_ne1 ho hg1); have hsz5 := Nat.le_trans hsz hb5.size))
          go_roundw
          case rel =>
            refine ⟨1, by omega, by go_num, ?_, hB5, hb.trans (hb5.mono hw1), hsz5⟩
            have h := ho5
            simp [stv] at h ⊢
            exact h
          case measure => simp [intOf]
        · have hch : List.drop hi (48 :: List.take hi [49, 50, 51, 52, 53, 54, 55, 56, 57, 97, 98, 99, 100, 101, 102]) = [fig hi] := figL_cut hhi
          have t7 : ((hi : Int) + 1).toNat = hi + 1 := by omega
          have i7 : ((hi : Nat) : Int) < 16 := by omega
          have i9 : (hi : Int) % 16 = (hi : Int) := by omega
          have e0 := Hehi.out
          clear Helo Hehi
          go_wp2_with (first
            | (at_builtin; refine wpList_appLit (o := ⟨some 56, _, _, _, _, _⟩) rfl _ _ _ rfl elt_strs rfl ho [.string ⟨[fig hi].toArray⟩] (m := 1) rfl rfl (by simp [Value.oneCell']) (by omega) (by omega) (by omega) ?_; intro v5 w5 ho5 hb5 hg5; have hB5 := hB.grown hg5 (own_ne1 ho hg1); have hsz5 := Nat.le_trans hsz hb5.size))
          go_roundw
          case rel =>
            refine ⟨2, by omega, by go_num, ?_, hB5, hb.trans (hb5.mono hw1), hsz5⟩
            have h := ho5
            simp [stv] at h ⊢
            exact h
          case measure => simp [intOf]
        · go_wp2
          go_roundw
          case rel =>
            refine ⟨m, N + 2, (m : Int) - 1, by omega, by go_num, rfl, ?_, hB, hb, hsz⟩
            rw [Hnx.out]
            simpa using ho
          case measure => simp [intOf]
theorem rreverse_any (a : Ad) (w : World) : Calls Tryd.prog 62 #[.agg (adA a)] w (RvPost w a) := by
  by_cases h4 : a.fam = 4
  · exact rreverse4 a w h4
  · by_cases h6 : a.fam = 6
    · exact rreverse6 a w h6
    · have i4 : (a.fam == 4) = false := by simpa using h4
      have i6 : (a.fam == 6) = false := by simpa using h6
      have Hr : Hid (revA a = []) := Lib.hid (by unfold revA; rw [if_neg h4, if_neg h6])
      clear h4 h6
      go_enter Tryd.func62, Tryd.ntmps62
      go_wp2_with (first
        | ((with_reducible refine wpList_boxB rfl _ _ rfl rfl ?_); intro g w1 hg hB hb hs; clear hg hs
           have c0 := hB.cell 0
           rw [adA_0] at c0))
      go_ret
      refine ⟨_, rfl, ?_, hb⟩
      rw [Hr.out]
      exact World.ownsRow_nil _ _ _ _
end Go.Proofs.YtgbdhfjblebeiaaDoor

/- The walk of AddrAgain. -/
namespace Go.Proofs.YtgbdhfjblebeiaaDoor
open Go.RowKit
attribute [local go_sem] ba_get ext_take ext_drop ext_any ba_app

theorem zoR_err {l : List UInt8} {c : Int} (h : zoR l = .inl c) : c = 4 ∨ c = 5 := by
  unfold zoR at h
  split at h
  · split at h
    · split at h
      · injection h with h; exact .inl h.symm
      · cases h
    · injection h with h; exact .inl h.symm
  · injection h with h; exact .inr h.symm
theorem colP_err {s : List UInt8} {c : Int} (h : colP s = .inl c) : c = 4 ∨ c = 5 := by
  cases hp : plV (hdB 37 s) with
  | none => rw [colP_none hp] at h; injection h with h; exact .inr h.symm
  | some l =>
    cases hz : hasB 37 s with
    | false => rw [colP_pln hp hz] at h; cases h
    | true =>
      cases hn : zoR (tlB 37 s) with
      | inl e => rw [colP_zbad hp hz hn] at h; injection h with h; subst h; exact zoR_err hn
      | inr n => rw [colP_zone hp hz hn (by have := zoR_bd hn; omega)] at h; cases h
theorem adrP_err {s : List UInt8} {c : Int} (h : adrP s = .inl c) : c = 4 ∨ c = 5 := by
  unfold adrP at h
  split at h
  · exact colP_err h
  · cases hq : qpA s with
    | some a => rw [hq] at h; cases h
    | none => rw [hq] at h; injection h with h; exact .inr h.symm
end Go.Proofs.YtgbdhfjblebeiaaDoor

/- Which address is looked for under a name, by the reference, in plain words. No walk here. -/
namespace Go.Proofs.YtgbdhfjblebeiaaDoor
open Go.RowKit

def dtx (n : List (List UInt8)) : List UInt8 := ((((((n.getD 3 [] ++ [46]) ++ n.getD 2 []) ++ [46]) ++ n.getD 1 []) ++ [46]) ++ n.getD 0 [])
def rt (n : List (List UInt8)) : Nat → List UInt8
  | 0 => []
  | t + 1 => if (31 - t) % 4 = 0 ∧ 0 < 31 - t then (rt n t ++ n.getD (31 - t) []) ++ [58] else rt n t ++ n.getD (31 - t) []
def rtx (n : List (List UInt8)) : List UInt8 := if n.length = 6 then dtx n else if n.length = 34 then rt n 32 else []
def setZ0 (a : Ad) : Ad := a.setZ 0 (by decide)
def rur (n : List (List UInt8)) : Option Ad := match adrP (rtx n) with
  | .inl _ => none
  | .inr a => if lows (revA (setZ0 a)) = lows n then some (setZ0 a) else none
theorem adrP_can {s : List UInt8} {a : Ad} (h : adrP s = .inr a) : canA (setZ0 a) := by
  unfold adrP at h
  by_cases hc : hasB 58 s = true
  · rw [if_pos hc] at h
    have := colP_again h
    exact .inr ⟨this.2.1, rfl⟩
  · rw [if_neg hc] at h
    cases hq : qpA s with
    | none => rw [hq] at h; cases h
    | some b =>
      rw [hq] at h
      injection h with h
      subst h
      obtain ⟨b0, b1, b2, b3, rfl⟩ := qpA_fam hq
      exact .inl ⟨rfl, rfl⟩
theorem grV_4 {x y z u : UInt8} {a b c d : Nat} (hx : hex (x.toNat : Int) = some (a : Int)) (hy : hex (y.toNat : Int) = some (b : Int)) (hz : hex (z.toNat : Int) = some (c : Int)) (hu : hex (u.toNat : Int) = some (d : Int)) : grV [x, y, z, u] = some (16 * (16 * (16 * a + b) + c) + d) := by
  unfold grV
  rw [if_neg (by simp)]
  simp only [grA, hx, hy, hz, hu, Int.toNat_natCast]
  congr 1
  omega
def chr (n : List (List UInt8)) (k : Nat) : UInt8 := (n.getD k []).headD 0
def gT (n : List (List UInt8)) (g : Nat) : List UInt8 := [chr n (31 - 4 * g), chr n (30 - 4 * g), chr n (29 - 4 * g), chr n (28 - 4 * g)]
theorem rt_4 {n : List (List UInt8)} (hn : ∀ k, k < 32 → n.getD k [] = [chr n k]) {g : Nat} (hg : g < 8) : rt n (4 * g + 4) = rt n (4 * g) ++ gT n g ++ (if g < 7 then [58] else []) := by
  rw [show 4 * g + 4 = ((((4 * g) + 1) + 1) + 1) + 1 by omega]
  have e0 : rt n (4 * g + 1) = rt n (4 * g) ++ [chr n (31 - 4 * g)] := by rw [rt, if_neg (by omega), hn _ (by omega)]
  have e1 : rt n (4 * g + 1 + 1) = rt n (4 * g + 1) ++ [chr n (30 - 4 * g)] := by rw [rt, if_neg (by omega), hn _ (by omega), show 31 - (4 * g + 1) = 30 - 4 * g by omega]
  have e2 : rt n (4 * g + 1 + 1 + 1) = rt n (4 * g + 1 + 1) ++ [chr n (29 - 4 * g)] := by rw [rt, if_neg (by omega), hn _ (by omega), show 31 - (4 * g + 1 + 1) = 29 - 4 * g by omega]
  rw [rt, hn _ (by omega), show 31 - (4 * g + 1 + 1 + 1) = 28 - 4 * g by omega, e2, e1, e0]
  unfold gT
  by_cases h7 : g < 7
  · rw [if_pos (by omega), if_pos h7]; simp
  · rw [if_neg (by omega), if_neg h7]; simp
theorem rt_32 {n : List (List UInt8)} (hn : ∀ k, k < 32 → n.getD k [] = [chr n k]) : rt n 32 = jB 58 [gT n 0, gT n 1, gT n 2, gT n 3, gT n 4, gT n 5, gT n 6, gT n 7] := by
  have h0 := rt_4 hn (g := 0) (by omega)
  have h1 := rt_4 hn (g := 1) (by omega)
  have h2 := rt_4 hn (g := 2) (by omega)
  have h3 := rt_4 hn (g := 3) (by omega)
  have h4 := rt_4 hn (g := 4) (by omega)
  have h5 := rt_4 hn (g := 5) (by omega)
  have h6 := rt_4 hn (g := 6) (by omega)
  have h7 := rt_4 hn (g := 7) (by omega)
  simp only [Nat.reduceMul, Nat.reduceAdd, Nat.reduceLT, if_true, if_false] at h0 h1 h2 h3 h4 h5 h6 h7
  rw [h7, h6, h5, h4, h3, h2, h1, h0]
  simp [rt, jB]
theorem ddx_jB : ∀ (Ls : List (List UInt8)), (∀ l ∈ Ls, l ≠ [] ∧ ∀ c ∈ l, c ≠ 58) → ddx (jB 58 Ls) = none := by
  intro Ls
  induction Ls with
  | nil => intro _; rfl
  | cons l Ls ih =>
    intro h
    obtain ⟨hl, hf⟩ := h l (by simp)
    cases Ls with
    | nil =>
      have := ddx_free l [] hf
      rw [List.append_nil] at this
      show ddx l = none
      rw [this]
      rfl
    | cons m Ls =>
      show ddx (l ++ 58 :: jB 58 (m :: Ls)) = none
      rw [ddx_free l _ hf]
      obtain ⟨hm, hmf⟩ := h m (by simp)
      have ih' := ih (fun x hx => h x (by simp at hx ⊢; exact .inr hx))
      obtain ⟨b, t, hb⟩ : ∃ b t, jB 58 (m :: Ls) = b :: t ∧ b ≠ 58 := by
        cases m with
        | nil => exact absurd rfl hm
        | cons b m =>
          cases Ls with
          | nil => exact ⟨b, m, rfl, hmf b (by simp)⟩
          | cons _ _ => exact ⟨b, _, rfl, hmf b (by simp)⟩
      rw [hb.1] at ih' ⊢
      rw [ddx_col hb.2, ih']
      rfl
theorem nib_grp (a : Ad) (g : Nat) (hg : g < 8) : 16 * (16 * (16 * nibA a (31 - 4 * g) + nibA a (30 - 4 * g)) + nibA a (29 - 4 * g)) + nibA a (28 - 4 * g) = grp a g := by
  have h0 : nibA a (31 - 4 * g) = (a.b (2 * g)).toNat / 16 := by unfold nibA; rw [if_neg (by omega), show 15 - (31 - 4 * g) / 2 = 2 * g by omega]
  have h1 : nibA a (30 - 4 * g) = (a.b (2 * g)).toNat % 16 := by unfold nibA; rw [if_pos (by omega), show 15 - (30 - 4 * g) / 2 = 2 * g by omega]
  have h2 : nibA a (29 - 4 * g) = (a.b (2 * g + 1)).toNat / 16 := by unfold nibA; rw [if_neg (by omega), show 15 - (29 - 4 * g) / 2 = 2 * g + 1 by omega]
  have h3 : nibA a (28 - 4 * g) = (a.b (2 * g + 1)).toNat % 16 := by unfold nibA; rw [if_pos (by omega), show 15 - (28 - 4 * g) / 2 = 2 * g + 1 by omega]
  rw [h0, h1, h2, h3]
  unfold grp
  generalize (a.b (2 * g)).toNat = x
  generalize (a.b (2 * g + 1)).toNat = y
  omega
def l8 (G : Nat → List UInt8) : List (List UInt8) := [G 0, G 1, G 2, G 3, G 4, G 5, G 6, G 7]
theorem l8_mem {G : Nat → List UInt8} {l : List UInt8} (h : l ∈ l8 G) : ∃ g, g < 8 ∧ l = G g := by
  unfold l8 at h
  simp only [List.mem_cons, List.not_mem_nil, or_false] at h
  rcases h with h | h | h | h | h | h | h | h
  · exact ⟨0, by omega, h⟩
  · exact ⟨1, by omega, h⟩
  · exact ⟨2, by omega, h⟩
  · exact ⟨3, by omega, h⟩
  · exact ⟨4, by omega, h⟩
  · exact ⟨5, by omega, h⟩
  · exact ⟨6, by omega, h⟩
  · exact ⟨7, by omega, h⟩
theorem sidF_8 {G : Nat → List UInt8} {a : Ad} (hgr : ∀ g, g < 8 → grV (G g) = some (grp a g)) : sidF true (l8 G) = some (gB a 0 8) := by
  rw [gB_8]
  unfold l8
  rw [sidF, hgr 0 (by omega)]
  simp only
  rw [sidF, hgr 1 (by omega)]
  simp only
  rw [sidF, hgr 2 (by omega)]
  simp only
  rw [sidF, hgr 3 (by omega)]
  simp only
  rw [sidF, hgr 4 (by omega)]
  simp only
  rw [sidF, hgr 5 (by omega)]
  simp only
  rw [sidF, hgr 6 (by omega)]
  simp only
  rw [sidF, hgr 7 (by omega)]
  simp only
  rw [sidF]
  rfl
theorem jB_ne8 {G : Nat → List UInt8} : jB 58 (l8 G) ≠ [] := by
  unfold l8
  show G 0 ++ 58 :: _ ≠ []
  simp
theorem jB_58 {G : Nat → List UInt8} : (58 : UInt8) ∈ jB 58 (l8 G) := by
  unfold l8
  show (58 : UInt8) ∈ G 0 ++ 58 :: _
  simp
theorem plV_8 {G : Nat → List UInt8} {a : Ad} (hne : ∀ g, g < 8 → G g ≠ []) (hf : ∀ g, g < 8 → ∀ c ∈ G g, c ≠ 58) (hgr : ∀ g, g < 8 → grV (G g) = some (grp a g)) : plV (jB 58 (l8 G)) = some (gB a 0 8) := by
  have hd : ddx (jB 58 (l8 G)) = none := ddx_jB _ fun l hl => by
    obtain ⟨g, hg, rfl⟩ := l8_mem hl
    exact ⟨hne g hg, hf g hg⟩
  have hsv : sidV true (jB 58 (l8 G)) = some (gB a 0 8) := by
    unfold sidV
    rw [if_neg jB_ne8, spB_join _ (fun l hl c hc' => by obtain ⟨g, hg, rfl⟩ := l8_mem hl; exact hf g hg c hc') (by unfold l8; simp)]
    exact sidF_8 hgr
  exact plV_n2 hd hsv (gB_len a 0 8)
theorem gT_free {n : List (List UInt8)} (hc : ∀ k, k < 32 → chr n k ≠ 58 ∧ chr n k ≠ 37) {g : Nat} (hg : g < 8) : ∀ c ∈ gT n g, c ≠ 58 ∧ c ≠ 37 := by
  intro c hcm
  unfold gT at hcm
  simp only [List.mem_cons, List.not_mem_nil, or_false] at hcm
  rcases hcm with h | h | h | h
  · rw [h]; exact hc _ (by omega)
  · rw [h]; exact hc _ (by omega)
  · rw [h]; exact hc _ (by omega)
  · rw [h]; exact hc _ (by omega)
theorem adrP_rt {a : Ad} {n : List (List UInt8)} (h6 : a.fam = 6) (hz : a.zone = 0) (hk : ∀ k, k < 32 → ∃ c, n.getD k [] = [c] ∧ hex (c.toNat : Int) = some (nibA a k : Int) ∧ c ≠ 58 ∧ c ≠ 37) : adrP (rt n 32) = .inr a := by
  have hc : ∀ k, k < 32 → n.getD k [] = [chr n k] ∧ hex ((chr n k).toNat : Int) = some (nibA a k : Int) ∧ chr n k ≠ 58 ∧ chr n k ≠ 37 := by
    intro k h
    obtain ⟨c, h1, h2, h3, h4⟩ := hk k h
    have e : chr n k = c := by unfold chr; rw [h1]; rfl
    rw [e]
    exact ⟨h1, h2, h3, h4⟩
  have hgr : ∀ g, g < 8 → grV (gT n g) = some (grp a g) := by
    intro g hg
    rw [← nib_grp a g hg]
    exact grV_4 (hc _ (by omega)).2.1 (hc _ (by omega)).2.1 (hc _ (by omega)).2.1 (hc _ (by omega)).2.1
  have hfr : ∀ g, g < 8 → ∀ c ∈ gT n g, c ≠ 58 ∧ c ≠ 37 := fun g hg => gT_free (fun k h => (hc k h).2.2) hg
  have hs : rt n 32 = jB 58 (l8 (gT n)) := rt_32 (fun k h => (hc k h).1)
  have hne : ∀ g, g < 8 → gT n g ≠ [] := fun g _ => by unfold gT; simp
  generalize gT n = G at *
  rw [hs]
  clear hs hc hk
  have hpl := plV_8 hne (fun g hg c h => (hfr g hg c h).1) hgr
  have h37 : ∀ c ∈ jB 58 (l8 G), c ≠ 37 := by
    intro c hcm
    rcases jB_mem hcm with h | ⟨l, hl, hc'⟩
    · rw [h]; decide
    · obtain ⟨g, hg, rfl⟩ := l8_mem hl
      exact (hfr g hg c hc').2
  have h58 : hasB 58 (jB 58 (l8 G)) = true := hasB_mem jB_58
  generalize jB 58 (l8 G) = S at *
  unfold adrP
  rw [if_pos h58, colP_bare (by rw [hdB_one h37]; exact hpl) (hasB_one h37), adG_gB]
  congr 1
  exact Ad.same h6.symm rfl hz.symm
theorem rur_P (n : List (List UInt8)) : UnP n (rur n) := by
  intro a
  constructor
  · intro h
    unfold rur at h
    cases hp : adrP (rtx n) with
    | inl c => rw [hp] at h; cases h
    | inr b =>
      rw [hp] at h
      simp only at h
      split at h
      · next hl =>
        injection h with h
        subst h
        exact ⟨adrP_can hp, hl⟩
      · cases h
  · rintro ⟨hc, h⟩
    have key : adrP (rtx n) = .inr a := by
      rcases hc with ⟨h4, hF⟩ | ⟨h6, hz⟩
      · obtain ⟨hl, hk⟩ := un_4 h4 h
        have e : rtx n = qtx a := by
          unfold rtx dtx
          rw [if_pos hl, hk 0 (by omega), hk 1 (by omega), hk 2 (by omega), hk 3 (by omega)]
          simp [qtx, jB]
        rw [e]
        unfold adrP
        rw [if_neg (by rw [qtx_nocol]; decide), qpA_of, ← hF]
      · obtain ⟨hl, hk⟩ := un_6 h6 h
        have e : rtx n = rt n 32 := by unfold rtx; rw [if_neg (by omega), if_pos hl]
        rw [e]
        exact adrP_rt h6 hz hk
    have hz0 : setZ0 a = a := by
      refine Ad.same rfl rfl ?_
      rcases hc with ⟨h4, hF⟩ | ⟨h6, hz⟩
      · rw [hF]; rfl
      · exact hz.symm
    unfold rur
    rw [key]
    simp only
    rw [hz0, if_pos h]
theorem unr_rur (n : List (List UInt8)) : unr n = rur n := (unr_P n).uniq (rur_P n)
end Go.Proofs.YtgbdhfjblebeiaaDoor

/- The contract of the reference's Unreverse (9). -/
namespace Go.Proofs.YtgbdhfjblebeiaaDoor
open Go.RowKit
attribute [local go_sem] ba_get ext_take ext_drop ext_any ba_app

def RuPost (w : World) (n : List (List UInt8)) (e : Ending) (w' : World) : Prop := e = .returned (unV (rur n)) ∧ Below w.heap.size w w'
theorem RuPost.no {w w' : World} {n : List (List UInt8)} (h : rur n = none) (hb : Below w.heap.size w w') : RuPost w n (.returned (.tuple #[.agg (adA ad0), .bool false])) w' := ⟨by rw [h]; rfl, hb⟩
theorem RuPost.yes {w w' : World} {n : List (List UInt8)} {x : Ad} (h : rur n = some x) (hb : Below w.heap.size w w') : RuPost w n (.returned (.tuple #[.agg (adA x), .bool true])) w' := ⟨by rw [h]; rfl, hb⟩
theorem rur_err {n : List (List UInt8)} {c : Int} (h : adrP (rtx n) = .inl c) : rur n = none := by unfold rur; rw [h]
theorem rur_no {n : List (List UInt8)} {a : Ad} (h : adrP (rtx n) = .inr a) (hq : ¬ lows (revA (setZ0 a)) = lows n) : rur n = none := by unfold rur; rw [h]; exact if_neg hq
theorem rur_yes {n : List (List UInt8)} {a : Ad} (h : adrP (rtx n) = .inr a) (hq : lows (revA (setZ0 a)) = lows n) : rur n = some (setZ0 a) := by unfold rur; rw [h]; exact if_pos hq
theorem raparse_yes {S T : List UInt8} {x : Ad} (hS : S = T) (h : adrP T = .inr x) (w : World) (hl : T.length ≤ 1000000000) : Calls Tryd.prog 24 #[.string ⟨S.toArray⟩] w fun e w' => e = .returned (.tuple #[.agg (adA x), .int .i64 0]) ∧ Below w.heap.size w w' := by
  subst hS
  exact (raparse_any S w hl).mono fun e w' ⟨he, hb⟩ => by rw [h] at he; exact ⟨he, hb⟩
theorem raparse_err {S T : List UInt8} {c : Int} (hS : S = T) (h : adrP T = .inl c) (w : World) (hl : T.length ≤ 1000000000) : Calls Tryd.prog 24 #[.string ⟨S.toArray⟩] w fun e w' => e = .returned (.tuple #[.agg (adA ad0), .int .i64 c]) ∧ Below w.heap.size w w' := by
  subst hS
  exact (raparse_any S w hl).mono fun e w' ⟨he, hb⟩ => by rw [h] at he; exact ⟨he, hb⟩
theorem getD_len {n : List (List UInt8)} {M : Nat} (h : ∀ l ∈ n, l.length ≤ M) (k : Nat) : (n.getD k []).length ≤ M := by
  by_cases hk : k < n.length
  · rw [← getD_at hk]; exact h _ (List.getElem_mem hk)
  · rw [List.getD_eq_getElem?_getD, List.getElem?_eq_none (by omega)]; exact Nat.zero_le _
theorem rt_len {n : List (List UInt8)} {M : Nat} (h : ∀ l ∈ n, l.length ≤ M) : ∀ t, (rt n t).length ≤ t * (M + 1) := by
  intro t
  induction t with
  | zero => exact Nat.zero_le _
  | succ t ih =>
    have := getD_len h (31 - t)
    rw [rt, Nat.succ_mul]
    split
    · simp only [List.length_append, List.length_singleton]; omega
    · rw [List.length_append]; omega
theorem dtx_len {n : List (List UInt8)} {M : Nat} (h : ∀ l ∈ n, l.length ≤ M) : (dtx n).length ≤ 4 * M + 3 := by
  have h0 := getD_len h 0
  have h1 := getD_len h 1
  have h2 := getD_len h 2
  have h3 := getD_len h 3
  unfold dtx
  simp only [List.length_append, List.length_singleton]
  omega
theorem rtx_len {n : List (List UInt8)} (h : ∀ l ∈ n, l.length ≤ 1000000) : (rtx n).length ≤ 100000000 := by
  unfold rtx
  split
  · have := dtx_len h; omega
  · split
    · have := rt_len h 32; omega
    · simp
set_option maxRecDepth 100000 in
set_option maxHeartbeats 4000000 in
theorem runrev_any (n : List (List UInt8)) (v : Value) (w : World) (hv : Sl w 1 v n.length (n.map stv)) (hn : n.length ≤ 1000000) (hll : ∀ l ∈ n, l.length ≤ 1000000) : Calls Tryd.prog 26 #[v] w (RuPost w n) := by
  have Hll := Lib.hid hll
  have Hsl := Lib.hid hv
  have Hrx := Lib.hid (rtx_len hll)
  have hlk := getD_len hll
  have Hlk := Lib.hid hlk
  have Hrt := Lib.hid (rt_len hll)
  have hcell : ∀ k (hk : k < n.length) (wr : World), Below w.heap.size w wr → ∃ b off c, v = .slice (some ⟨b, off, none⟩) n.length c ∧ b < w.heap.size ∧ wr.cell? ⟨b, off + k, none⟩ = some (.string ⟨(n.getD k []).toArray⟩) := by
    intro k hk wr hb
    obtain ⟨b, off, c, hvv, hc, hbl, hcl⟩ := hv.pos (by omega)
    refine ⟨b, off, c, hvv, hbl, (bel_cells hb hbl _).trans (hcl k _ ?_)⟩
    rw [List.getElem?_map, List.getElem?_eq_getElem hk, ← getD_at hk]
    rfl
  have Hcell := Lib.hid hcell
  obtain ⟨A0, cp, rfl, hc0⟩ := hv.any
  clear hll hcell hv hlk
  by_cases h6 : n.length = 6
  · have hl := h6
    have HslN : Hid (Sl w 1 (.slice A0 6 cp) 6 (n.map stv)) := Lib.hid (by have := Hsl.out; rw [hl] at this; exact this)
    have j6 : ((n.length : Int) == 6) = true := by simp [hl]
    have j34 : ((n.length : Int) == 34) = false := by simp [hl]
    have Hx : Hid (rtx n = dtx n) := Lib.hid (by unfold rtx; rw [if_pos hl])
    go_enter Tryd.func26, Tryd.ntmps26
    go_wp2_with (first
      | ((with_reducible refine wpList_allocAd (o := ⟨some 2, _, _, _, _, _⟩) rfl rfl ?_); intro g2 w1 hg hB2 hb1 hs; have hg2 : w.heap.size ≤ g2 := Nat.le_of_eq hg.symm; clear hg hs))
    obtain ⟨b, off, c, hvv, hbl, c0⟩ := Hcell.out 0 (by omega) w1 hb1
    injection hvv with q1 q2 q3
    subst q1 q3
    obtain ⟨_, _, _, hvv, _, c1⟩ := Hcell.out 1 (by omega) w1 hb1
    injection hvv with q1 q2 q3
    injection q1 with q1
    injection q1 with q1 q4
    subst q1 q3 q4
    obtain ⟨_, _, _, hvv, _, c2⟩ := Hcell.out 2 (by omega) w1 hb1
    injection hvv with q1 q2 q3
    injection q1 with q1
    injection q1 with q1 q4
    subst q1 q3 q4
    obtain ⟨_, _, _, hvv, _, c3⟩ := Hcell.out 3 (by omega) w1 hb1
    injection hvv with q1 q2 q3
    injection q1 with q1
    injection q1 with q1 q4
    subst q1 q3 q4
    rw [Nat.add_zero] at c0
    have x0 := fun x : BelT w1 => x.cell c0
    have x1 := fun x : BelT w1 => x.cell c1
    have x2 := fun x : BelT w1 => x.cell c2
    have x3 := fun x : BelT w1 => x.cell c3
    have l0 := Hlk.out 0
    have l1 := Hlk.out 1
    have l2 := Hlk.out 2
    have l3 := Hlk.out 3
    have Hd : Hid (dtx n = ((((((n.getD 3 [] ++ [46]) ++ n.getD 2 []) ++ [46]) ++ n.getD 1 []) ++ [46]) ++ n.getD 0 [])) := Lib.hid rfl
    generalize n.getD 0 [] = N0 at *
    generalize n.getD 1 [] = N1 at *
    generalize n.getD 2 [] = N2 at *
    generalize n.getD 3 [] = N3 at *
    have s1 : (N3 ++ [46]).length ≤ 1000001 := by simp; omega
    clear c0 c1 c2 c3
    refine wp_region_bel (by kernel_rfl) (by kernel_rfl) ?_
    repeat (first
      | go_big_quiet_skip
      | (go_big_quiet_want; (go_big_quiet_op; go_big_quiet_on)))
    refine wpQuiet_nil ?_
    rintro _ ⟨x, rfl⟩
    have hB2x := hB2.bel x.bel
    have hb1x := bel_tr hb1 x.bel
    clear x0 x1 x2 x3 hB2 hb1
    have hB2 := hB2x
    have hb1 := hb1x
    clear hB2x hb1x
    cases hp : adrP (rtx n) with
    | inl c =>
      have hc : (c != 0) = true := by rcases adrP_err hp with rfl | rfl <;> rfl
      have Hp := Lib.hid hp
      have Hbad := Lib.hid (rur_err hp)
      clear hp
      go_wp2_with (first
        | (go_at_call 24; refine (raparse_err (by rw [Hx.out, Hd.out]; simp) Hp.out _ (Nat.le_trans Hrx.out (by omega))).mono ?_; rintro ed w5 ⟨rfl, hb5⟩; have hB25 := hB2.bel hb5; have hb05 := bel_tr hb1 hb5)
        | ((with_reducible refine wpList_allocAd (o := ⟨some 6, _, _, _, _, _⟩) rfl rfl ?_); intro g6 w6 hg hB6 hb6 hs; have hg6 : w5.heap.size ≤ g6 := Nat.le_of_eq hg.symm; have hB26 := hB25.bel hb6; clear hg hs)
        | ((with_reducible refine wpList_storeAd rfl (.tmp 6) _ rfl rfl rfl hB6 ?_); intro w7 hB67 hS7; have hB27 := hB26.stays hS7 (by have := hB25.lt; omega); have hb07 := bel_tr hb05 (hb6.trans (hS7.below hg6)); have hne : g2 ≠ g6 := (by have := hB25.lt; omega); have hw6 : w.heap.size ≤ g6 := (by have := hb05.size; omega)
           have c17 := hB67.cell 17
           rw [adA_17] at c17
           have f17 := hB67.free 17
           refine hold ?_))
      refine Lib.hid ?_
      have hY := hB27.far (p := ⟨g6, 17, none⟩) (by show g2 ≠ g6; exact hne) (.int .i64 0)
      have hby := hb07.setCell (p := ⟨g6, 17, none⟩) hw6 (.int .i64 0)
      clear hB2 hB25 hB26 hB27 hB6 hb5 hb6 hS7 hb05 hb07
      go_wp2_with (first
        | (with_reducible refine wpList_buildL rfl 25 _ rfl built_0 rfl ?_)
        | ((with_reducible refine wpList_storeAd rfl (.tmp 2) _ rfl rfl rfl hY ?_); intro wz hBz hSz))
      exact ret_adE Tryd.results26 rfl rfl hBz rfl (RuPost.no Hbad.out (hby.trans (hSz.below hg2)))
    | inr a =>
      have Hp := Lib.hid hp
      obtain ⟨hrl, hrll⟩ := rev_bd (setZ0 a)
      have Hrl := Lib.hid hrl
      have Hrll := Lib.hid hrll
      clear hrl hrll
      go_wp2_with (first
        | (go_at_call 24; refine (raparse_yes (by rw [Hx.out, Hd.out]; simp) Hp.out _ (Nat.le_trans Hrx.out (by omega))).mono ?_; rintro ed w5 ⟨rfl, hb5⟩; have hB25 := hB2.bel hb5; have hb05 := bel_tr hb1 hb5)
        | ((with_reducible refine wpList_allocAd (o := ⟨some 6, _, _, _, _, _⟩) rfl rfl ?_); intro g6 w6 hg hB6 hb6 hs; have hg6 : w5.heap.size ≤ g6 := Nat.le_of_eq hg.symm; have hB26 := hB25.bel hb6; clear hg hs)
        | ((with_reducible refine wpList_storeAd rfl (.tmp 6) _ rfl rfl rfl hB6 ?_); intro w7 hB67 hS7; have hB27 := hB26.stays hS7 (by have := hB25.lt; omega); have hb07 := bel_tr hb05 (hb6.trans (hS7.below hg6)); have hne : g2 ≠ g6 := (by have := hB25.lt; omega); have hw6 : w.heap.size ≤ g6 := (by have := hb05.size; omega)
           have c17 := hB67.cell 17
           rw [adA_17] at c17
           have f17 := hB67.free 17
           refine hold ?_))
      refine Lib.hid ?_
      have hX := hB67.set_ 17 (.int .i64 0)
      rw [adA_setZ a 0 (by decide)] at hX
      have hY := hB27.far (p := ⟨g6, 17, none⟩) (by show g2 ≠ g6; exact hne) (.int .i64 0)
      have hby := hb07.setCell (p := ⟨g6, 17, none⟩) hw6 (.int .i64 0)
      clear hB2 hB25 hB26 hB27 hB6 hb5 hb6 hS7 hb05 hb07
      by_cases hq : lows (revA (setZ0 a)) = lows n
      · have Hyes := Lib.hid (rur_yes hp hq)
        have Hq := Lib.hid hq
        clear hq hp
        go_wp2_with (first
          | (refine wpList_loadAdG (o := ⟨some 60, _, _, _, _, _⟩) rfl _ rfl rfl hX ?_)
          | (go_at_call 62; refine (rreverse_any (setZ0 a) _).mono ?_; rintro ed w8 ⟨v8, rfl, ho8, hb8⟩; obtain ⟨a8, c8, rfl, hc8⟩ := (Sl.own ho8).any; have hs8 := Lib.hid (Sl.own ho8); have hY8 := hY.bel hb8; have hX8 := hX.bel hb8; have hb08 := bel_tr hby hb8; clear ho8)
          | (go_at_call 61; refine (rdsame_n (revA (setZ0 a)) n _ _ _ hs8.out (HslN.out.below hb08) Hrl.out (by omega) Hrll.out (fun l hl => Nat.le_trans (Hll.out l hl) (by omega))).mono ?_; rintro ed w9 ⟨rfl, hb9⟩; rw [decide_eq_true Hq.out]; have hY9 := hY8.bel hb9; have hX9 := hX8.bel hb9; have hb09 := bel_tr hb08 hb9)
          | (with_reducible refine wpList_loadAd (o := ⟨some 67, _, _, _, _, _⟩) rfl _ rfl rfl hX9 ?_)
          | ((with_reducible refine wpList_storeAd rfl (.tmp 2) _ rfl rfl rfl hY9 ?_); intro wz hBz hSz))
        exact ret_adE Tryd.results26 rfl rfl hBz rfl (RuPost.yes Hyes.out (hb09.trans (hSz.below hg2)))
      · have Hbad := Lib.hid (rur_no hp hq)
        have Hq := Lib.hid hq
        clear hq hp
        go_wp2_with (first
          | (refine wpList_loadAdG (o := ⟨some 60, _, _, _, _, _⟩) rfl _ rfl rfl hX ?_)
          | (go_at_call 62; refine (rreverse_any (setZ0 a) _).mono ?_; rintro ed w8 ⟨v8, rfl, ho8, hb8⟩; obtain ⟨a8, c8, rfl, hc8⟩ := (Sl.own ho8).any; have hs8 := Lib.hid (Sl.own ho8); have hY8 := hY.bel hb8; have hX8 := hX.bel hb8; have hb08 := bel_tr hby hb8; clear ho8)
          | (go_at_call 61; refine (rdsame_n (revA (setZ0 a)) n _ _ _ hs8.out (HslN.out.below hb08) Hrl.out (by omega) Hrll.out (fun l hl => Nat.le_trans (Hll.out l hl) (by omega))).mono ?_; rintro ed w9 ⟨rfl, hb9⟩; rw [decide_eq_false Hq.out]; have hY9 := hY8.bel hb9; have hX9 := hX8.bel hb9; have hb09 := bel_tr hb08 hb9)
          | (with_reducible refine wpList_buildL rfl 25 _ rfl built_0 rfl ?_)
          | ((with_reducible refine wpList_storeAd rfl (.tmp 2) _ rfl rfl rfl hY9 ?_); intro wz hBz hSz))
        exact ret_adE Tryd.results26 rfl rfl hBz rfl (RuPost.no Hbad.out (hb09.trans (hSz.below hg2)))
  · by_cases h34 : n.length = 34
    · have hl := h34
      have HslN : Hid (Sl w 1 (.slice A0 34 cp) 34 (n.map stv)) := Lib.hid (by have := Hsl.out; rw [hl] at this; exact this)
      have j6 : ((n.length : Int) == 6) = false := by simp [hl]
      have j34 : ((n.length : Int) == 34) = true := by simp [hl]
      have Hx : Hid (rtx n = rt n 32) := Lib.hid (by unfold rtx; rw [if_neg h6, if_pos hl])
      go_enter Tryd.func26, Tryd.ntmps26
      go_wp2_with (first
        | ((with_reducible refine wpList_allocAd (o := ⟨some 2, _, _, _, _, _⟩) rfl rfl ?_); intro g2 w1 hg hB2 hb1 hs; have hg2 : w.heap.size ≤ g2 := Nat.le_of_eq hg.symm; clear hg hs))
      go_loop [4, 5] (fun sv iv => ∃ (t : Nat) (z : Int), t ≤ 32 ∧ sv = .string ⟨(rt n t).toArray⟩ ∧ iv = .int .i64 z ∧ z = 31 - (t : Int)) (fun _ iv => (intOf iv + 1).toNat)
      case atStart => exact ⟨0, 31, by omega, rfl, rfl, rfl⟩
      case round =>
        obtain ⟨t, z, ht, rfl, rfl, hz⟩ := hrel
        have hrl := Hrt.out t
        have hrb : (rt n t).length ≤ 100000000 := Nat.le_trans hrl (Nat.le_trans (Nat.mul_le_mul_right _ ht) (by omega))
        clear hrl
        by_cases hlt : t < 32
        · obtain ⟨m, hm⟩ : ∃ m : Nat, 31 - t = m := ⟨_, rfl⟩
          obtain rfl : z = (m : Int) := by omega
          clear hz
          have j0 : (0 : Int) ≤ (m : Int) := by omega
          have hmn : m < n.length := by omega
          have j2 : (m : Int) < (n.length : Int) := by omega
          obtain ⟨b, off, c, hvv, hbl, c0⟩ := Hcell.out m hmn w1 hb1
          injection hvv with q1 q2 q3
          subst q1 q3
          have hlm := Hlk.out m
          by_cases h4 : m % 4 = 0
          · by_cases hp : 0 < m
            · have Hnx : Hid (rt n (t + 1) = (rt n t ++ n.getD m []) ++ [58]) := Lib.hid (by rw [rt, hm, if_pos ⟨h4, hp⟩])
              have i1 : ((m : Int) % 4 == 0) = true := by simp; omega
              have i2 : (0 : Int) < (m : Int) := by omega
              generalize n.getD m [] = N at *
              generalize rt n t = T at *
              go_wp2
              go_round
              case rel => exact ⟨t + 1, (m : Int) - 1, by omega, by rw [Hnx.out]; try simp, by go_num, by omega⟩
              case measure => simp [intOf]
            · have Hnx : Hid (rt n (t + 1) = rt n t ++ n.getD m []) := Lib.hid (by rw [rt, hm, if_neg (by omega)])
              have i1 : ((m : Int) % 4 == 0) = true := by simp; omega
              have i2 : ¬ (0 : Int) < (m : Int) := by omega
              generalize n.getD m [] = N at *
              generalize rt n t = T at *
              go_wp2
              go_round
              case rel => exact ⟨t + 1, (m : Int) - 1, by omega, by rw [Hnx.out]; try simp, by go_num, by omega⟩
              case measure => simp [intOf]
          · have Hnx : Hid (rt n (t + 1) = rt n t ++ n.getD m []) := Lib.hid (by rw [rt, hm, if_neg (by omega)])
            have i1 : ((m : Int) % 4 == 0) = false := by simp; omega
            generalize n.getD m [] = N at *
            generalize rt n t = T at *
            go_wp2
            go_round
            case rel => exact ⟨t + 1, (m : Int) - 1, by omega, by rw [Hnx.out]; try simp, by go_num, by omega⟩
            case measure => simp [intOf]
        · have ht32 : t = 32 := by omega
          subst ht32
          obtain rfl : z = -1 := by omega
          clear hz
          generalize rt n 32 = T at *
          cases hp : adrP (rtx n) with
          | inl c =>
            have hc : (c != 0) = true := by rcases adrP_err hp with rfl | rfl <;> rfl
            have Hp := Lib.hid hp
            have Hbad := Lib.hid (rur_err hp)
            clear hp
            go_wp2_with (first
              | (go_at_call 24; refine (raparse_err (by rw [Hx.out]) Hp.out _ (Nat.le_trans Hrx.out (by omega))).mono ?_; rintro ed w5 ⟨rfl, hb5⟩; have hB25 := hB2.bel hb5; have hb05 := bel_tr hb1 hb5)
              | ((with_reducible refine wpList_allocAd (o := ⟨some 6, _, _, _, _, _⟩) rfl rfl ?_); intro g6 w6 hg hB6 hb6 hs; have hg6 : w5.heap.size ≤ g6 := Nat.le_of_eq hg.symm; have hB26 := hB25.bel hb6; clear hg hs)
              | ((with_reducible refine wpList_storeAd rfl (.tmp 6) _ rfl rfl rfl hB6 ?_); intro w7 hB67 hS7; have hB27 := hB26.stays hS7 (by have := hB25.lt; omega); have hb07 := bel_tr hb05 (hb6.trans (hS7.below hg6)); have hne : g2 ≠ g6 := (by have := hB25.lt; omega); have hw6 : w.heap.size ≤ g6 := (by have := hb05.size; omega)
                 have c17 := hB67.cell 17
                 rw [adA_17] at c17
                 have f17 := hB67.free 17
                 refine hold ?_))
            refine Lib.hid ?_
            have hY := hB27.far (p := ⟨g6, 17, none⟩) (by show g2 ≠ g6; exact hne) (.int .i64 0)
            have hby := hb07.setCell (p := ⟨g6, 17, none⟩) hw6 (.int .i64 0)
            clear hB2 hB25 hB26 hB27 hB6 hb5 hb6 hS7 hb05 hb07
            go_wp2_with (first
              | (with_reducible refine wpList_buildL rfl 25 _ rfl built_0 rfl ?_)
              | ((with_reducible refine wpList_storeAd rfl (.tmp 2) _ rfl rfl rfl hY ?_); intro wz hBz hSz))
            exact ret_adE Tryd.results26 rfl rfl hBz rfl (RuPost.no Hbad.out (hby.trans (hSz.below hg2)))
          | inr a =>
            have Hp := Lib.hid hp
            obtain ⟨hrl, hrll⟩ := rev_bd (setZ0 a)
            have Hrl := Lib.hid hrl
            have Hrll := Lib.hid hrll
            clear hrl hrll
            go_wp2_with (first
              | (go_at_call 24; refine (raparse_yes (by rw [Hx.out]) Hp.out _ (Nat.le_trans Hrx.out (by omega))).mono ?_; rintro ed w5 ⟨rfl, hb5⟩; have hB25 := hB2.bel hb5; have hb05 := bel_tr hb1 hb5)
              | ((with_reducible refine wpList_allocAd (o := ⟨some 6, _, _, _, _, _⟩) rfl rfl ?_); intro g6 w6 hg hB6 hb6 hs; have hg6 : w5.heap.size ≤ g6 := Nat.le_of_eq hg.symm; have hB26 := hB25.bel hb6; clear hg hs)
              | ((with_reducible refine wpList_storeAd rfl (.tmp 6) _ rfl rfl rfl hB6 ?_); intro w7 hB67 hS7; have hB27 := hB26.stays hS7 (by have := hB25.lt; omega); have hb07 := bel_tr hb05 (hb6.trans (hS7.below hg6)); have hne : g2 ≠ g6 := (by have := hB25.lt; omega); have hw6 : w.heap.size ≤ g6 := (by have := hb05.size; omega)
                 have c17 := hB67.cell 17
                 rw [adA_17] at c17
                 have f17 := hB67.free 17
                 refine hold ?_))
            refine Lib.hid ?_
            have hX := hB67.set_ 17 (.int .i64 0)
            rw [adA_setZ a 0 (by decide)] at hX
            have hY := hB27.far (p := ⟨g6, 17, none⟩) (by show g2 ≠ g6; exact hne) (.int .i64 0)
            have hby := hb07.setCell (p := ⟨g6, 17, none⟩) hw6 (.int .i64 0)
            clear hB2 hB25 hB26 hB27 hB6 hb5 hb6 hS7 hb05 hb07
            by_cases hq : lows (revA (setZ0 a)) = lows n
            · have Hyes := Lib.hid (rur_yes hp hq)
              have Hq := Lib.hid hq
              clear hq hp
              go_wp2_with (first
                | (refine wpList_loadAdG (o := ⟨some 60, _, _, _, _, _⟩) rfl _ rfl rfl hX ?_)
                | (go_at_call 62; refine (rreverse_any (setZ0 a) _).mono ?_; rintro ed w8 ⟨v8, rfl, ho8, hb8⟩; obtain ⟨a8, c8, rfl, hc8⟩ := (Sl.own ho8).any; have hs8 := Lib.hid (Sl.own ho8); have hY8 := hY.bel hb8; have hX8 := hX.bel hb8; have hb08 := bel_tr hby hb8; clear ho8)
                | (go_at_call 61; refine (rdsame_n (revA (setZ0 a)) n _ _ _ hs8.out (HslN.out.below hb08) Hrl.out (by omega) Hrll.out (fun l hl => Nat.le_trans (Hll.out l hl) (by omega))).mono ?_; rintro ed w9 ⟨rfl, hb9⟩; rw [decide_eq_true Hq.out]; have hY9 := hY8.bel hb9; have hX9 := hX8.bel hb9; have hb09 := bel_tr hb08 hb9)
                | (with_reducible refine wpList_loadAd (o := ⟨some 67, _, _, _, _, _⟩) rfl _ rfl rfl hX9 ?_)
                | ((with_reducible refine wpList_storeAd rfl (.tmp 2) _ rfl rfl rfl hY9 ?_); intro wz hBz hSz))
              exact ret_adE Tryd.results26 rfl rfl hBz rfl (RuPost.yes Hyes.out (hb09.trans (hSz.below hg2)))
            · have Hbad := Lib.hid (rur_no hp hq)
              have Hq := Lib.hid hq
              clear hq hp
              go_wp2_with (first
                | (refine wpList_loadAdG (o := ⟨some 60, _, _, _, _, _⟩) rfl _ rfl rfl hX ?_)
                | (go_at_call 62; refine (rreverse_any (setZ0 a) _).mono ?_; rintro ed w8 ⟨v8, rfl, ho8, hb8⟩; obtain ⟨a8, c8, rfl, hc8⟩ := (Sl.own ho8).any; have hs8 := Lib.hid (Sl.own ho8); have hY8 := hY.bel hb8; have hX8 := hX.bel hb8; have hb08 := bel_tr hby hb8; clear ho8)
                | (go_at_call 61; refine (rdsame_n (revA (setZ0 a)) n _ _ _ hs8.out (HslN.out.below hb08) Hrl.out (by omega) Hrll.out (fun l hl => Nat.le_trans (Hll.out l hl) (by omega))).mono ?_; rintro ed w9 ⟨rfl, hb9⟩; rw [decide_eq_false Hq.out]; have hY9 := hY8.bel hb9; have hX9 := hX8.bel hb9; have hb09 := bel_tr hb08 hb9)
                | (with_reducible refine wpList_buildL rfl 25 _ rfl built_0 rfl ?_)
                | ((with_reducible refine wpList_storeAd rfl (.tmp 2) _ rfl rfl rfl hY9 ?_); intro wz hBz hSz))
              exact ret_adE Tryd.results26 rfl rfl hBz rfl (RuPost.no Hbad.out (hb09.trans (hSz.below hg2)))
    · have HslN := Hsl
      have j6 : ((n.length : Int) == 6) = false := by simp; omega
      have j34 : ((n.length : Int) == 34) = false := by simp; omega
      have Hx : Hid (rtx n = []) := Lib.hid (by unfold rtx; rw [if_neg h6, if_neg h34])
      go_enter Tryd.func26, Tryd.ntmps26
      go_wp2_with (first
        | ((with_reducible refine wpList_allocAd (o := ⟨some 2, _, _, _, _, _⟩) rfl rfl ?_); intro g2 w1 hg hB2 hb1 hs; have hg2 : w.heap.size ≤ g2 := Nat.le_of_eq hg.symm; clear hg hs))
      cases hp : adrP (rtx n) with
      | inl c =>
        have hc : (c != 0) = true := by rcases adrP_err hp with rfl | rfl <;> rfl
        have Hp := Lib.hid hp
        have Hbad := Lib.hid (rur_err hp)
        clear hp
        go_wp2_with (first
          | (go_at_call 24; refine (raparse_err (by rw [Hx.out]) Hp.out _ (Nat.le_trans Hrx.out (by omega))).mono ?_; rintro ed w5 ⟨rfl, hb5⟩; have hB25 := hB2.bel hb5; have hb05 := bel_tr hb1 hb5)
          | ((with_reducible refine wpList_allocAd (o := ⟨some 6, _, _, _, _, _⟩) rfl rfl ?_); intro g6 w6 hg hB6 hb6 hs; have hg6 : w5.heap.size ≤ g6 := Nat.le_of_eq hg.symm; have hB26 := hB25.bel hb6; clear hg hs)
          | ((with_reducible refine wpList_storeAd rfl (.tmp 6) _ rfl rfl rfl hB6 ?_); intro w7 hB67 hS7; have hB27 := hB26.stays hS7 (by have := hB25.lt; omega); have hb07 := bel_tr hb05 (hb6.trans (hS7.below hg6)); have hne : g2 ≠ g6 := (by have := hB25.lt; omega); have hw6 : w.heap.size ≤ g6 := (by have := hb05.size; omega)
             have c17 := hB67.cell 17
             rw [adA_17] at c17
             have f17 := hB67.free 17
             refine hold ?_))
        refine Lib.hid ?_
        have hY := hB27.far (p := ⟨g6, 17, none⟩) (by show g2 ≠ g6; exact hne) (.int .i64 0)
        have hby := hb07.setCell (p := ⟨g6, 17, none⟩) hw6 (.int .i64 0)
        clear hB2 hB25 hB26 hB27 hB6 hb5 hb6 hS7 hb05 hb07
        go_wp2_with (first
          | (with_reducible refine wpList_buildL rfl 25 _ rfl built_0 rfl ?_)
          | ((with_reducible refine wpList_storeAd rfl (.tmp 2) _ rfl rfl rfl hY ?_); intro wz hBz hSz))
        exact ret_adE Tryd.results26 rfl rfl hBz rfl (RuPost.no Hbad.out (hby.trans (hSz.below hg2)))
      | inr a =>
        have Hp := Lib.hid hp
        obtain ⟨hrl, hrll⟩ := rev_bd (setZ0 a)
        have Hrl := Lib.hid hrl
        have Hrll := Lib.hid hrll
        clear hrl hrll
        go_wp2_with (first
          | (go_at_call 24; refine (raparse_yes (by rw [Hx.out]) Hp.out _ (Nat.le_trans Hrx.out (by omega))).mono ?_; rintro ed w5 ⟨rfl, hb5⟩; have hB25 := hB2.bel hb5; have hb05 := bel_tr hb1 hb5)
          | ((with_reducible refine wpList_allocAd (o := ⟨some 6, _, _, _, _, _⟩) rfl rfl ?_); intro g6 w6 hg hB6 hb6 hs; have hg6 : w5.heap.size ≤ g6 := Nat.le_of_eq hg.symm; have hB26 := hB25.bel hb6; clear hg hs)
          | ((with_reducible refine wpList_storeAd rfl (.tmp 6) _ rfl rfl rfl hB6 ?_); intro w7 hB67 hS7; have hB27 := hB26.stays hS7 (by have := hB25.lt; omega); have hb07 := bel_tr hb05 (hb6.trans (hS7.below hg6)); have hne : g2 ≠ g6 := (by have := hB25.lt; omega); have hw6 : w.heap.size ≤ g6 := (by have := hb05.size; omega)
             have c17 := hB67.cell 17
             rw [adA_17] at c17
             have f17 := hB67.free 17
             refine hold ?_))
        refine Lib.hid ?_
        have hX := hB67.set_ 17 (.int .i64 0)
        rw [adA_setZ a 0 (by decide)] at hX
        have hY := hB27.far (p := ⟨g6, 17, none⟩) (by show g2 ≠ g6; exact hne) (.int .i64 0)
        have hby := hb07.setCell (p := ⟨g6, 17, none⟩) hw6 (.int .i64 0)
        clear hB2 hB25 hB26 hB27 hB6 hb5 hb6 hS7 hb05 hb07
        by_cases hq : lows (revA (setZ0 a)) = lows n
        · have Hyes := Lib.hid (rur_yes hp hq)
          have Hq := Lib.hid hq
          clear hq hp
          go_wp2_with (first
            | (refine wpList_loadAdG (o := ⟨some 60, _, _, _, _, _⟩) rfl _ rfl rfl hX ?_)
            | (go_at_call 62; refine (rreverse_any (setZ0 a) _).mono ?_; rintro ed w8 ⟨v8, rfl, ho8, hb8⟩; obtain ⟨a8, c8, rfl, hc8⟩ := (Sl.own ho8).any; have hs8 := Lib.hid (Sl.own ho8); have hY8 := hY.bel hb8; have hX8 := hX.bel hb8; have hb08 := bel_tr hby hb8; clear ho8)
            | (go_at_call 61; refine (rdsame_n (revA (setZ0 a)) n _ _ _ hs8.out (HslN.out.below hb08) Hrl.out (by omega) Hrll.out (fun l hl => Nat.le_trans (Hll.out l hl) (by omega))).mono ?_; rintro ed w9 ⟨rfl, hb9⟩; rw [decide_eq_true Hq.out]; have hY9 := hY8.bel hb9; have hX9 := hX8.bel hb9; have hb09 := bel_tr hb08 hb9)
            | (with_reducible refine wpList_loadAd (o := ⟨some 67, _, _, _, _, _⟩) rfl _ rfl rfl hX9 ?_)
            | ((with_reducible refine wpList_storeAd rfl (.tmp 2) _ rfl rfl rfl hY9 ?_); intro wz hBz hSz))
          exact ret_adE Tryd.results26 rfl rfl hBz rfl (RuPost.yes Hyes.out (hb09.trans (hSz.below hg2)))
        · have Hbad := Lib.hid (rur_no hp hq)
          have Hq := Lib.hid hq
          clear hq hp
          go_wp2_with (first
            | (refine wpList_loadAdG (o := ⟨some 60, _, _, _, _, _⟩) rfl _ rfl rfl hX ?_)
            | (go_at_call 62; refine (rreverse_any (setZ0 a) _).mono ?_; rintro ed w8 ⟨v8, rfl, ho8, hb8⟩; obtain ⟨a8, c8, rfl, hc8⟩ := (Sl.own ho8).any; have hs8 := Lib.hid (Sl.own ho8); have hY8 := hY.bel hb8; have hX8 := hX.bel hb8; have hb08 := bel_tr hby hb8; clear ho8)
            | (go_at_call 61; refine (rdsame_n (revA (setZ0 a)) n _ _ _ hs8.out (HslN.out.below hb08) Hrl.out (by omega) Hrll.out (fun l hl => Nat.le_trans (Hll.out l hl) (by omega))).mono ?_; rintro ed w9 ⟨rfl, hb9⟩; rw [decide_eq_false Hq.out]; have hY9 := hY8.bel hb9; have hX9 := hX8.bel hb9; have hb09 := bel_tr hb08 hb9)
            | (with_reducible refine wpList_buildL rfl 25 _ rfl built_0 rfl ?_)
            | ((with_reducible refine wpList_storeAd rfl (.tmp 2) _ rfl rfl rfl hY9 ?_); intro wz hBz hSz))
          exact ret_adE Tryd.results26 rfl rfl hBz rfl (RuPost.no Hbad.out (hb09.trans (hSz.below hg2)))
end Go.Proofs.YtgbdhfjblebeiaaDoor

/- The walk of AddrReads. -/
namespace Go.Proofs.YtgbdhfjblebeiaaDoor
open Go.RowKit
attribute [local go_sem] ba_get ext_take ext_drop ext_any ba_app

theorem unV_cases (o : Option Ad) : ∃ x b, unV o = .tuple #[.agg (adA x), .bool b] := by
  cases o with
  | none => exact ⟨_, _, rfl⟩
  | some x => exact ⟨_, _, rfl⟩
set_option maxRecDepth 100000 in
set_option maxHeartbeats 4000000 in
theorem addrReads_walk (w : World) (ht : Tab w) (hn : TabN w) (hm : MaxI w) (hT : TabA w) (s : List UInt8) (hs : s.length ≤ 140737488351232) (A : List (List UInt8)) (v : Value) (ha : Sl w 1 v A.length (A.map stv)) (hA : A.length ≤ maxLen) (hll : ∀ l ∈ A, l.length ≤ 140737488351232) :
    Calls Tryd.prog 7 #[.string ⟨s.toArray⟩, v] w (Good w) := by
  have Ht := Lib.hid ht
  have Hn := Lib.hid hn
  have Hm := Lib.hid hm
  have HT := Lib.hid hT
  have Ha := Lib.hid ha
  have HA := Lib.hid hA
  have Hll := Lib.hid hll
  obtain ⟨A0, cp, rfl, hcp⟩ := ha.any
  clear ht hn hm hT ha hA hll
  by_cases hl : 300 < s.length
  · have i0 : (300 : Int) < (s.length : Int) := by omega
    go_enter Tryd.func7, Tryd.ntmps7
    go_wp2_with (go_at_call 19; refine (works09_any _ Ht.out Hn.out Hm.out HT.out).mono ?_; rintro e w1 ⟨rfl, hb1⟩)
    go_ret
    exact ⟨rfl, hb1⟩
  · have i0 : ¬ (300 : Int) < (s.length : Int) := by omega
    cases hf : fewB A with
    | false =>
      have Hf := Lib.hid hf
      clear hf
      go_enter Tryd.func7, Tryd.ntmps7
      go_wp2_with (first
        | (go_at_call 23; refine (few_any A _ _ Ha.out HA.out Hll.out).mono ?_; rintro e w1 ⟨rfl, rfl⟩; rw [Hf.out])
        | (go_at_call 19; refine (works09_any _ Ht.out Hn.out Hm.out HT.out).mono ?_; rintro e w1 ⟨rfl, hb1⟩))
      go_ret
      exact ⟨rfl, hb1⟩
    | true =>
      obtain ⟨hf1, _, hf3⟩ := few_bds hf
      have Hf := Lib.hid hf
      have Hf3 := Lib.hid (fun l hl => Nat.le_trans (hf3 l hl) (show 400 ≤ 1000000 by omega))
      clear hf hf3
      obtain ⟨x, k, hxk⟩ := adS_cases (adrP s)
      obtain ⟨y, b, hyb⟩ := unV_cases (unr A)
      have Hx := Lib.hid hxk
      have Hy := Lib.hid hyb
      have Hr := Lib.hid (unr_rur A)
      clear hxk hyb
      go_enter Tryd.func7, Tryd.ntmps7
      go_wp2_with (first
        | (go_at_call 23; refine (few_any A _ _ Ha.out HA.out Hll.out).mono ?_; rintro e w0 ⟨rfl, rfl⟩; rw [Hf.out])
        | (go_at_call 20; refine (aparse_any s _ Ht.out Hm.out (by omega)).mono ?_; rintro e w1 ⟨rfl, hb1⟩; rw [Hx.out])
        | ((with_reducible refine wpList_allocAd (o := ⟨some 5, _, _, _, _, _⟩) rfl rfl ?_); intro g5 w2 hg hB5 hb2 hs'; have hg5 : w1.heap.size ≤ g5 := Nat.le_of_eq hg.symm; clear hg hs')
        | ((with_reducible refine wpList_storeAd rfl (.tmp 5) _ rfl rfl rfl hB5 ?_); intro w3 hB53 hS3; have hb03 := bel_tr hb1 (hb2.trans (hS3.below hg5)))
        | (go_at_call 24; refine (raparse_any s _ (by omega)).mono ?_; rintro e w4 ⟨rfl, hb4⟩; rw [Hx.out]; have hB54 := hB53.bel hb4; have hb04 := bel_tr hb03 hb4)
        | ((with_reducible refine wpList_allocAd (o := ⟨some 7, _, _, _, _, _⟩) rfl rfl ?_); intro g7 w5 hg hB7 hb5 hs'; have hg7 : w4.heap.size ≤ g7 := Nat.le_of_eq hg.symm; have hB55 := hB54.bel hb5; clear hg hs')
        | ((with_reducible refine wpList_storeAd rfl (.tmp 7) _ rfl rfl rfl hB7 ?_); intro w6 hB76 hS6; have hB56 := hB55.stays hS6 (by have := hB54.lt; omega); have hb06 := bel_tr hb04 (hb5.trans (hS6.below hg7)); refine hold ?_))
      refine Lib.hid ?_
      clear hB5 hB53 hB54 hB55 hB7 hb1 hb2 hb4 hb5 hb03 hb04 hS3 hS6
      go_wp2_with (first
        | (go_at_call 25; refine (unrev_any A _ _ (Ht.out.below hb06) (Ha.out.below hb06) (by omega) Hf3.out).mono ?_; rintro e w7 ⟨rfl, hb7⟩; rw [Hy.out]; have hB57 := hB56.bel hb7; have hB77 := hB76.bel hb7; have hb07 := bel_tr hb06 hb7)
        | ((with_reducible refine wpList_allocAd (o := ⟨some 9, _, _, _, _, _⟩) rfl rfl ?_); intro g9 w8 hg hB9 hb8 hs'; have hg9 : w7.heap.size ≤ g9 := Nat.le_of_eq hg.symm; have hB58 := hB57.bel hb8; have hB78 := hB77.bel hb8; clear hg hs')
        | ((with_reducible refine wpList_storeAd rfl (.tmp 9) _ rfl rfl rfl hB9 ?_); intro w9 hB99 hS9; have hB59 := hB58.stays hS9 (by have := hB57.lt; omega); have hB79 := hB78.stays hS9 (by have := hB77.lt; omega); have hb09 := bel_tr hb07 (hb8.trans (hS9.below hg9)); refine hold ?_))
      refine Lib.hid ?_
      clear hB56 hB57 hB58 hB76 hB77 hB78 hB9 hb7 hb8 hb06 hb07 hS9
      go_wp2_with (first
        | (go_at_call 26; refine (runrev_any A _ _ (Ha.out.below hb09) (by omega) Hf3.out).mono ?_; rintro e wa ⟨rfl, hba⟩; rw [← Hr.out, Hy.out]; have hB5a := hB59.bel hba; have hB7a := hB79.bel hba; have hB9a := hB99.bel hba; have hb0a := bel_tr hb09 hba)
        | ((with_reducible refine wpList_allocAd (o := ⟨some 11, _, _, _, _, _⟩) rfl rfl ?_); intro g11 wb hg hB11 hbb hs'; have hg11 : wa.heap.size ≤ g11 := Nat.le_of_eq hg.symm; have hB5b := hB5a.bel hbb; have hB7b := hB7a.bel hbb; have hB9b := hB9a.bel hbb; clear hg hs')
        | ((with_reducible refine wpList_storeAd rfl (.tmp 11) _ rfl rfl rfl hB11 ?_); intro wc hB11c hSc; have hB5c := hB5b.stays hSc (by have := hB5a.lt; omega); have hB7c := hB7b.stays hSc (by have := hB7a.lt; omega); have hB9c := hB9b.stays hSc (by have := hB9a.lt; omega); have hb0c := bel_tr hb0a (hbb.trans (hSc.below hg11)); refine hold ?_))
      refine Lib.hid ?_
      clear hB59 hB5a hB5b hB79 hB7a hB7b hB99 hB9a hB9b hB11 hba hbb hb09 hb0a hSc
      go_wp2_with (first
        | (go_at_call 19; refine (works09_any _ (Ht.out.below hb0c) (Hn.out.below hb0c) (Hm.out.below hb0c) (HT.out.below hb0c)).mono ?_; rintro e wd ⟨rfl, hbd⟩; have hB5d := hB5c.bel hbd; have hB7d := hB7c.bel hbd; have hB9d := hB9c.bel hbd; have hB11d := hB11c.bel hbd; have hb0d := bel_tr hb0c hbd)
        | (refine wpList_loadAdG (o := ⟨some 44, _, _, _, _, _⟩) rfl _ rfl rfl hB5d ?_)
        | (refine wpList_loadAdG (o := ⟨some 45, _, _, _, _, _⟩) rfl _ rfl rfl hB7d ?_)
        | (refine wpList_eqlAdG (o := ⟨some 46, _, _, _, _, _⟩) rfl _ _ rfl rfl rfl ?_; rw [decide_eq_true (rfl : x = x)])
        | (refine wpList_loadAdG (o := ⟨some 54, _, _, _, _, _⟩) rfl _ rfl rfl hB9d ?_)
        | (refine wpList_loadAdG (o := ⟨some 55, _, _, _, _, _⟩) rfl _ rfl rfl hB11d ?_)
        | (refine wpList_eqlAdG (o := ⟨some 56, _, _, _, _, _⟩) rfl _ _ rfl rfl rfl ?_; rw [decide_eq_true (rfl : y = y)]))
      go_ret
      exact ⟨rfl, hb0d⟩
end Go.Proofs.YtgbdhfjblebeiaaDoor
