/- Contracts and plain lemmas of our own, merged. -/
import Derived.Test.YtgebcifkbldfoaaGreatDoorZSB13
import Derived.Test.YtgebcifkbldfoaaGreatDoorZSB17
import Derived.Laws.BitsAllLaws
import Derived.Test.YtgebcifkbldfoaaGreatDoorShelf
import Derived.Laws.CopyOwn
/- The contracts of colon.group and of the reference's group. -/
namespace Go.Proofs.YtgebcifkbldfoaaGreatDoor
open Go.RowKit
attribute [local go_sem] ba_get ext_take ext_drop ext_any ba_app

theorem or_i64 (a b : Nat) (ha : a < 4611686018427387904) (hb : b < 4611686018427387904) : bits .or .i64 (a : Int) (b : Int) = ((a ||| b : Nat) : Int) := by
  have hx : a ||| b < 2 ^ 62 := Nat.or_lt_two_pow (by omega) (by omega)
  show IntKind.i64.wrap ((BitVec.ofInt 64 (a : Int) ||| BitVec.ofInt 64 (b : Int)).toNat : Int) = _
  rw [BitVec.toNat_or, ofInt_u64 a (by omega), ofInt_u64 b (by omega)]
  exact IntWalk.i64_in _ (by omega)
theorem or16 {n d : Nat} (hn : n < 4096) (hd : d < 16) : bits .or .i64 ((n : Int) * 16) (d : Int) = ((16 * n + d : Nat) : Int) := by
  rw [show (n : Int) * 16 = ((16 * n : Nat) : Int) by omega]
  rw [or_i64 _ _ (by omega) (by omega)]
  have := Nat.shiftLeft_add_eq_or_of_lt (show d < 2 ^ 4 by omega) n
  rw [Nat.shiftLeft_eq, show n * 2 ^ 4 = 16 * n by omega] at this
  rw [← this]
def GrPost (o : Option Nat) (w : World) (e : Ending) (w' : World) : Prop := e = .returned (.tuple #[.int .i64 ((o.getD 0 : Nat) : Int), .bool o.isSome]) ∧ w = w'
theorem pow16 {i n : Nat} (h : n < 16 ^ i) (hi : i < 4) : n < 4096 := Nat.lt_of_lt_of_le h (by have := Nat.pow_le_pow_right (show 0 < 16 by omega) (show i ≤ 3 by omega); omega)

set_option maxRecDepth 100000 in
set_option maxHeartbeats 1000000 in
theorem cgroup_any (s : List UInt8) (w : World) (hl : s.length ≤ 140737488351232) : Calls Tryz.prog 102 #[.string ⟨s.toArray⟩] w (GrPost (grV s) w) := by
  rcases (show s = [] ∨ (s.isEmpty = false ∧ 4 < s.length) ∨ (s.isEmpty = false ∧ s.length ≤ 4) by
    rcases s with _ | ⟨c, r⟩
    · exact .inl rfl
    · rcases Nat.lt_or_ge 4 (c :: r).length with h | h
      · exact .inr (.inl ⟨rfl, h⟩)
      · exact .inr (.inr ⟨rfl, h⟩)) with rfl | ⟨h1, h2⟩ | ⟨h1, h2⟩
  · go_enter Tryz.func102, Tryz.ntmps102
    go_wp2
    go_ret2
    exact ⟨rfl, rfl⟩
  · have hfin : grV s = none := by unfold grV; rw [if_pos (.inr h2)]
    have Hfin := Lib.hid hfin
    clear hfin
    go_enter Tryz.func102, Tryz.ntmps102
    go_wp2
    go_ret2
    exact ⟨by rw [Hfin.out]; rfl, rfl⟩
  · have hne : s ≠ [] := by rintro rfl; cases h1
    have hst : grV s = grA 0 s := by unfold grV; rw [if_neg (by rintro (h | h); exact hne h; omega)]
    have Hst := Lib.hid hst
    clear hst hne
    go_enter Tryz.func102, Tryz.ntmps102
    go_wp2
    go_loop [4, 17] (fun nv iv => ∃ n i : Nat, i ≤ s.length ∧ nv = .int .i64 n ∧ iv = .int .i64 i ∧ n < 16 ^ i ∧ grV s = grA n (s.drop i)) (fun _ i => s.length - (intOf i).toNat)
    case atStart => exact ⟨0, 0, by omega, rfl, rfl, by decide, by rw [Hst.out]; rfl⟩
    case round =>
      obtain ⟨n, i, hi, rfl, rfl, hn, hR⟩ := hrel
      have HR := Lib.hid hR
      have Hn := Lib.hid hn
      clear hR hn
      by_cases hlt : i < s.length
      · have i0 : (i : Int) < (s.length : Int) := by omega
        have hc1 := u8lt s[i]
        have hn4 := pow16 Hn.out (by omega)
        cases hh : hex (s[i].toNat : Int) with
        | none =>
          have Hfin := Lib.hid (HR.out.trans (grA_bad hlt hh))
          have Hh := Lib.hid hh
          clear hh
          go_wp2_with (go_at_call 64; refine (hex_any _ _ (by omega) (by omega)).mono ?_; rintro e w2 ⟨rfl, h2⟩; have h3 := h2.symm; subst h3; clear h2; rw [Hh.out]; unfold hexV)
          go_ret2
          exact ⟨by rw [Hfin.out]; rfl, rfl⟩
        | some d =>
          have hd := hexc_bd hh
          obtain ⟨k, rfl⟩ : ∃ k : Nat, d = (k : Int) := ⟨d.toNat, by omega⟩
          have Hnx := Lib.hid (HR.out.trans (grA_next (n := n) hlt hh))
          have Hh := Lib.hid hh
          have hor := or16 hn4 (show k < 16 by omega)
          have Hpw : Hid (16 * n + k < 16 ^ (i + 1)) := Lib.hid (by have := Hn.out; rw [Nat.pow_succ]; omega)
          clear hh
          go_wp2_with (go_at_call 64; refine (hex_any _ _ (by omega) (by omega)).mono ?_; rintro e w2 ⟨rfl, h2⟩; have h3 := h2.symm; subst h3; clear h2; rw [Hh.out]; unfold hexV)
          go_round
          case rel => exact ⟨16 * n + k, i + 1, by omega, by first | go_num | rw [hor], by go_num, Hpw.out, Hnx.out⟩
          case measure => simp [intOf]; omega
      · have hie : i = s.length := by omega
        subst hie
        have Hfin : Hid (grV s = some n) := Lib.hid (by rw [HR.out, List.drop_length]; rfl)
        go_wp2
        go_ret2
        exact ⟨by rw [Hfin.out]; rfl, rfl⟩

end Go.Proofs.YtgebcifkbldfoaaGreatDoor

/- The contract of colon.several. -/
namespace Go.Proofs.YtgebcifkbldfoaaGreatDoor
open Go.RowKit
attribute [local go_sem] ba_get ext_take ext_drop ext_any ba_app

theorem or256 {n d : Nat} (hn : n < 256) (hd : d < 256) : bits .or .i64 ((n : Int) * 256) (d : Int) = ((256 * n + d : Nat) : Int) := by
  rw [show (n : Int) * 256 = ((256 * n : Nat) : Int) by omega]
  rw [or_i64 _ _ (by omega) (by omega)]
  have := Nat.shiftLeft_add_eq_or_of_lt (show d < 2 ^ 8 from hd) n
  rw [Nat.shiftLeft_eq, show n * 2 ^ 8 = 256 * n from Nat.mul_comm _ _] at this
  rw [← this]
def nv (n : Nat) : Value := .int .i64 (n : Int)
def SevPost (w : World) (last : Bool) (s : List UInt8) (e : Ending) (w' : World) : Prop :=
  (sidV last s = none ∧ e = .returned (.tuple #[.slice none 0 0, .bool false]) ∨ ∃ D v, sidV last s = some D ∧ e = .returned (.tuple #[v, .bool true]) ∧ w'.ownsRow w.heap.size 3 1 v D.length (D.map nv)) ∧ Below w.heap.size w w'
def SevRel (w : World) (last : Bool) (s r : List UInt8) (mo : Bool) (v : Value) (wr : World) : Prop :=
  ∃ G : List Nat, sidV last s = (if mo = true then more G (sidF last (spB 58 [] r)) else some G) ∧ r.length ≤ s.length ∧ (mo = true → G.length + r.length ≤ s.length) ∧ G.length ≤ s.length + 2 ∧
    wr.ownsRow w.heap.size 3 1 v G.length (G.map nv) ∧ Below w.heap.size w wr
theorem sp58 (r : List UInt8) : spB 58 [] r = hdB 58 r :: (if hasB 58 r = true then spB 58 [] (tlB 58 r) else []) := by
  cases h : hasB 58 r with
  | true => rw [spB_has h]; rfl
  | false => rw [spB_not h, (split_not h).1]; rfl
theorem sev_next {last b : Bool} {G : List Nat} {r : List UInt8} {n : Nat} {o : Option (List Nat)} (h : o = more G (sidF last (hdB 58 r :: (if b = true then spB 58 [] (tlB 58 r) else [])))) (hn : grV (hdB 58 r) = some n) :
    o = (if b = true then more (G ++ [n]) (sidF last (spB 58 [] (tlB 58 r))) else some (G ++ [n])) := by
  rw [h, more_hit hn]
  cases b with
  | true => rfl
  | false => simp [sidF, more]

set_option maxRecDepth 100000 in
set_option maxHeartbeats 2000000 in
theorem csev_any (last : Bool) (s : List UInt8) (w : World) (ht : Tab w) (hl : s.length ≤ 1000000000) : Calls Tryz.prog 98 #[.string ⟨s.toArray⟩, .bool last] w (SevPost w last s) := by
  have Ht := Lib.hid ht
  clear ht
  by_cases hs0 : s = []
  · subst hs0
    go_enter Tryz.func98, Tryz.ntmps98
    go_wp2
    go_ret2
    exact ⟨.inr ⟨[], _, rfl, rfl, World.ownsRow_nil _ _ _ _⟩, Below.refl _ _⟩
  have hsi : s.isEmpty = false := by simpa using hs0
  have hst0 : sidV last s = sidF last (spB 58 [] s) := by unfold sidV; rw [if_neg hs0]
  have Hst0 := Lib.hid hst0
  clear hst0 hs0
  go_enter Tryz.func98, Tryz.ntmps98
  go_wp2
  go_loopw [0, 6, 7] (fun rv v m wr => ∃ (r : List UInt8) (mo : Bool), rv = .string ⟨r.toArray⟩ ∧ m = .bool mo ∧ SevRel w last s r mo v wr) (fun rv _ m _ => if boolOf m = true then strLen rv + 1 else 0)
  case atStart => exact ⟨s, true, rfl, rfl, [], by rw [if_pos rfl, more_nil, Hst0.out], Nat.le_refl _, fun _ => by simp, by simp, World.ownsRow_nil _ _ _ _, Below.refl _ _⟩
  case round =>
    obtain ⟨r, mo, rfl, rfl, G, h1, h2, h3, h4, h5, h6⟩ := hrel
    have H1 := Lib.hid h1
    have hsz := h6.size
    clear h1
    cases mo with
    | false =>
      have Hq : Hid (sidV last s = some G) := Lib.hid (by rw [H1.out]; rfl)
      have Hsl := Lib.hid h5
      go_wp2
      go_ret2
      exact ⟨.inr ⟨G, _, Hq.out, rfl, Hsl.out⟩, h6⟩
    | true =>
      have h3' := h3 rfl
      clear h3
      have hst : sidV last s = more G (sidF last (hdB 58 r :: (if hasB 58 r = true then spB 58 [] (tlB 58 r) else []))) := by rw [H1.out, if_pos rfl, sp58]
      have Hst := Lib.hid hst
      have q1 := hdB_len 58 r
      have q2 := tlB_len 58 r
      have q3 : hasB 58 r = true → (tlB 58 r).length < r.length := fun h => by have := congrArg List.length (split_has h); rw [List.length_append, List.length_cons] at this; omega
      have Q3 := Lib.hid q3
      clear hst q3
      obtain ⟨A9, c9, hv9, _⟩ := (Sl.own h5).any
      subst hv9
      cases hn : grV (hdB 58 r) with
      | some n =>
        have hnb := grV_lt hn
        have Hn := Lib.hid hn
        have Hnx := Lib.hid (sev_next Hst.out hn)
        clear hn Hst
        generalize hm : hasB 58 r = mo2 at *
        have Hm := Lib.hid hm
        clear hm
        go_wp2_with (first
          | (go_at_call 87; refine (cut_any 58 _ _ (by omega)).mono ?_; rintro ed w4 ⟨rfl, hb4⟩; rw [cutV_eq, Hm.out]; have h54 := own_below h5 hb4; have hsz4 := hb4.size)
          | (go_at_call 102; refine (cgroup_any _ _ (by omega)).mono ?_; rintro ed w5 ⟨rfl, rfl⟩; rw [Hn.out]; simp only [Option.getD_some, Option.isSome_some])
          | (at_builtin; refine wpList_appLit rfl _ _ _ rfl elt_ints rfl h54 [.int .i64 (n : Int)] (m := 1) rfl rfl (by simp [Value.oneCell']) (by omega) (by omega) (by omega) ?_; intro v1 w6 ho6 hb6 _))
        have R : SevRel w last s (tlB 58 r) mo2 v1 w6 := ⟨G ++ [n], Hnx.out, by omega, fun h => by have := Q3.out h; simp; omega, by simp; omega, by simpa [nv] using ho6, (bel_tr h6 hb4).trans hb6⟩
        go_roundw
        case rel => exact ⟨_, _, rfl, rfl, R⟩
        case measure =>
          simp only [strLen_mk, boolOf]
          cases mo2 with
          | true => have := Q3.out rfl; simp; omega
          | false => simp
      | none =>
        have Hn := Lib.hid hn
        cases hq : qpA (hdB 58 r) with
        | none =>
          have Hq := Lib.hid hq
          have Hbad := Lib.hid (Hst.out.trans (more_none hn hq))
          clear hn hq Hst
          go_wp2_with (first
            | (go_at_call 87; refine (cut_any 58 _ _ (by omega)).mono ?_; rintro ed w4 ⟨rfl, hb4⟩; rw [cutV_eq]; have hb04 := bel_tr h6 hb4)
            | (go_at_call 102; refine (cgroup_any _ _ (by omega)).mono ?_; rintro ed w5 ⟨rfl, rfl⟩; rw [Hn.out]; simp only [Option.getD_none, Option.isSome_none])
            | (go_at_call 77; refine (qparse_any _ _ (Ht.out.below hb04) (by omega)).mono ?_; rintro ed w5 ⟨rfl, hb5⟩; rw [Hq.out]; unfold adE)
            | ((with_reducible refine wpList_allocAd rfl rfl ?_); intro g7 w6 hg hB7 hb6 hs; have hg7 : w5.heap.size ≤ g7 := Nat.le_of_eq hg.symm; clear hg hs)
            | ((with_reducible refine wpList_storeAd rfl _ _ rfl rfl rfl hB7 ?_); intro w7 hB77 hS7))
          go_ret2
          exact ⟨.inl ⟨Hbad.out, rfl⟩, bel_tr (bel_tr hb04 hb5) (hb6.trans (hS7.below hg7))⟩
        | some a =>
          have Hq := Lib.hid hq
          by_cases hok : last = true ∧ hasB 58 r = false
          · obtain ⟨rfl, hno⟩ := hok
            have Hnx : Hid (sidV true s = some (G ++ [grp a 0, grp a 1])) := Lib.hid (by rw [Hst.out, if_neg (by rw [hno]; simp)]; exact more_quad hn hq)
            have Hno := Lib.hid hno
            have o0 := or256 (a.b 0).toNat_lt (a.b 1).toNat_lt
            have o1 := or256 (a.b 2).toNat_lt (a.b 3).toNat_lt
            have o0' : bits .or .i64 (((a.b 0).toNat : Int) * 256) ((a.b 1).toNat : Int) = ((grp a 0 : Nat) : Int) := o0
            have o1' : bits .or .i64 (((a.b 2).toNat : Int) * 256) ((a.b 3).toNat : Int) = ((grp a 1 : Nat) : Int) := o1
            have l0 := u8lt (a.b 0)
            have l1 := u8lt (a.b 1)
            have l2 := u8lt (a.b 2)
            have l3 := u8lt (a.b 3)
            clear hn hq Hst o0 o1 hno
            go_wp2_with (first
              | (go_at_call 87; refine (cut_any 58 _ _ (by omega)).mono ?_; rintro ed w4 ⟨rfl, hb4⟩; rw [cutV_eq, Hno.out]; have hb04 := bel_tr h6 hb4; have h54 := own_below h5 hb4)
              | (go_at_call 102; refine (cgroup_any _ _ (by omega)).mono ?_; rintro ed w5 ⟨rfl, rfl⟩; rw [Hn.out]; simp only [Option.getD_none, Option.isSome_none])
              | (go_at_call 77; refine (qparse_any _ _ (Ht.out.below hb04) (by omega)).mono ?_; rintro ed w5 ⟨rfl, hb5⟩; rw [Hq.out]; unfold adE; have h55 := own_below h54 hb5)
              | ((with_reducible refine wpList_allocAd rfl rfl ?_); intro g7 w6 hg hB7 hb6 hs; have hg7 : w5.heap.size = g7 := hg.symm; have h56 := own_below h55 hb6; clear hg hs)
              | ((with_reducible refine wpList_storeAd rfl _ _ rfl rfl rfl hB7 ?_); intro w7 hB77 hS7
                 have hbx : Below w5.heap.size w5 w7 := hb6.trans (hS7.below (Nat.le_of_eq hg7))
                 have h57 := own_below h55 hbx
                 have hb07 := bel_tr (bel_tr hb04 hb5) hbx
                 have hsz7 := hb07.size
                 have c0 := hB77.cell 1
                 have c1 := hB77.cell 2
                 have c2 := hB77.cell 3
                 have c3 := hB77.cell 4
                 rw [adA_1] at c0
                 rw [adA_2] at c1
                 rw [adA_3] at c2
                 rw [adA_4] at c3)
              | (at_builtin; refine wpList_appLit rfl _ _ _ rfl elt_ints rfl h57 [.int .i64 ((grp a 0 : Nat) : Int), .int .i64 ((grp a 1 : Nat) : Int)] (m := 2) rfl rfl (by simp [Value.oneCell']) (by omega) (by omega) (by omega) ?_; intro v1 w8 ho8 hb8 _))
            have R : SevRel w true s (tlB 58 r) false v1 w8 := ⟨G ++ [grp a 0, grp a 1], Hnx.out, by omega, (fun h => by cases h), by simp; omega, by simpa [nv] using ho8, hb07.trans hb8⟩
            go_roundw
            case rel => exact ⟨_, _, rfl, rfl, R⟩
            case measure => simp [strLen_mk, boolOf]
          · have Hbad : Hid (sidV last s = none) := Lib.hid (by
              rw [Hst.out]
              refine more_bad hn hq ?_
              cases last with
              | false => exact .inl rfl
              | true =>
                right
                cases hh : hasB 58 r with
                | false => exact absurd ⟨rfl, hh⟩ hok
                | true => rw [if_pos rfl]; exact spB_ne _ _ _)
            have hcs : hasB 58 r = true ∨ (hasB 58 r = false ∧ last = false) := by
              cases hh : hasB 58 r with
              | true => exact .inl rfl
              | false =>
                right
                refine ⟨rfl, ?_⟩
                cases last with
                | false => rfl
                | true => exact absurd ⟨rfl, hh⟩ hok
            clear hn hq Hst hok
            rcases hcs with hcs | ⟨hcs, rfl⟩
            all_goals
              have Hcs := Lib.hid hcs
              clear hcs
              go_wp2_with (first
                | (go_at_call 87; refine (cut_any 58 _ _ (by omega)).mono ?_; rintro ed w4 ⟨rfl, hb4⟩; rw [cutV_eq, Hcs.out]; have hb04 := bel_tr h6 hb4)
                | (go_at_call 102; refine (cgroup_any _ _ (by omega)).mono ?_; rintro ed w5 ⟨rfl, rfl⟩; rw [Hn.out]; simp only [Option.getD_none, Option.isSome_none])
                | (go_at_call 77; refine (qparse_any _ _ (Ht.out.below hb04) (by omega)).mono ?_; rintro ed w5 ⟨rfl, hb5⟩; rw [Hq.out]; unfold adE)
                | ((with_reducible refine wpList_allocAd rfl rfl ?_); intro g7 w6 hg hB7 hb6 hs; have hg7 : w5.heap.size ≤ g7 := Nat.le_of_eq hg.symm; clear hg hs)
                | ((with_reducible refine wpList_storeAd rfl _ _ rfl rfl rfl hB7 ?_); intro w7 hB77 hS7))
              go_ret2
              exact ⟨.inl ⟨Hbad.out, rfl⟩, bel_tr (bel_tr hb04 hb5) (hb6.trans (hS7.below hg7))⟩
end Go.Proofs.YtgebcifkbldfoaaGreatDoor

/- The contract of colon.whole. -/
namespace Go.Proofs.YtgebcifkbldfoaaGreatDoor
open Go.RowKit
attribute [local go_sem] ba_get ext_take ext_drop ext_any ba_app

theorem index_ddx : ∀ s : List UInt8, Lib.index s [58, 58] = match ddx s with | none => -1 | some k => (k : Int) := by
  intro s
  induction s with
  | nil => rfl
  | cons b l ih =>
    rw [Lib.index, ih]
    rcases l with _ | ⟨c, r⟩
    · simp [List.isPrefixOf, ddx]
    · rw [ddx]
      by_cases h : b = 58 ∧ c = 58
      · obtain ⟨rfl, rfl⟩ := h
        simp [List.isPrefixOf]
      · have hp : List.isPrefixOf [58, 58] (b :: c :: r) = false := by
          simp only [List.isPrefixOf, Bool.and_true]
          rw [Bool.eq_false_iff]
          intro e
          simp at e
          exact h ⟨e.1.symm, e.2.symm⟩
        rw [hp, if_neg h]
        cases ddx (c :: r) with
        | none => simp
        | some k => simp
theorem ddx_bd : ∀ {s : List UInt8} {k : Nat}, ddx s = some k → k + 2 ≤ s.length := by
  intro s
  induction s with
  | nil => intro k h; cases h
  | cons b l ih =>
    intro k h
    rcases l with _ | ⟨c, r⟩
    · cases h
    · rw [ddx] at h
      split at h
      · injection h with h; subst h; simp
      · rw [Option.map_eq_some_iff] at h
        obtain ⟨j, h1, rfl⟩ := h
        have := ih h1
        simp at this ⊢
        omega
def z8 : List Nat := [0, 0, 0, 0, 0, 0, 0, 0]
def gA (l : List Nat) : Array Value := (l.map nv).toArray
theorem a8_under : Tryz.prog.underlying 99 = some (.array 8 3) := by kernel_rfl
theorem a8_size {l : List Nat} (h : l.length = 8) : (Tryz.prog.info? 99).map (·.size) = some (gA l).size := by
  unfold gA
  rw [List.size_toArray, List.length_map, h]
  kernel_rfl
theorem a8_zero : ZeroIs Tryz.prog 99 (gA z8) := by unfold ZeroIs; kernel_rfl
theorem gA_one (l : List Nat) : (gA l).all (·.oneCell') = true := all_oneCell_toArray (fun v hv => by obtain ⟨n, _, rfl⟩ := List.mem_map.1 hv; rfl)
theorem gA_size {l : List Nat} (h : l.length = 8) : (gA l).size = 8 := by unfold gA; rw [List.size_toArray, List.length_map, h]
def whV (o : Option (List Nat)) : Value := match o with
  | some l => .tuple #[.agg (gA l), .bool true]
  | none => .tuple #[.agg (gA z8), .bool false]
def WhPost (w : World) (o : Option (List Nat)) (e : Ending) (w' : World) : Prop := e = .returned (whV o) ∧ Below w.heap.size w w'
theorem ret_a8 {fn : Func} {p q : Tmp} (h : fn.results = #[.cell p 99, .tmp q]) {R : Ending → World → Prop} {a : Act} {w : World} {g : Nat} {t : TypeId} {l : List Nat} (hl : l.length = 8) {v : Value}
    (hp : a.tmps.getD p undef = .pointer (some ⟨g, 0, none⟩)) (hq : a.tmps.getD q undef = v) (hB : Bk w g t (gA l)) (hd : a.defers = []) (hR : R (.returned (.tuple #[.agg (gA l), v])) w) : bodyPost Tryz.prog fn R .ret a w := by
  refine bodyPost_ret_by (v := .tuple #[.agg (gA l), v]) ?_ hd hR
  have hp' : a.tmps[p]?.getD undef = .pointer (some ⟨g, 0, none⟩) := by simpa using hp
  have hq' : a.tmps[q]?.getD undef = v := by simpa using hq
  simp [results, h, hp', hq', asAddr, run_loadVar_row (P := Tryz.prog) w g t 99 (gA l) (0, 0) _ hB a8_under rfl (a8_size hl)]
theorem splice_all {l : List Nat} (h : l.length = 8) : splice (z8.map nv) 0 (l.map nv) = l.map nv := by
  unfold splice
  have : (z8.map nv).drop (0 + (l.map nv).length) = [] := List.drop_eq_nil_of_le (by simp [z8, h])
  rw [this]
  simp
theorem splice_two {x y : List Nat} (h : x.length + y.length ≤ 7) : splice (splice (z8.map nv) 0 (x.map nv)) (8 - y.length) (y.map nv) = (x ++ List.replicate (8 - x.length - y.length) 0 ++ y).map nv := by
  unfold splice
  have e8 : z8.map nv = List.replicate 8 (nv 0) := rfl
  rw [e8]
  simp only [List.take_zero, List.nil_append, List.length_map, Nat.zero_add, List.drop_replicate, List.map_append, List.map_replicate]
  rw [List.take_append, List.drop_append, List.length_map, List.take_of_length_le (by rw [List.length_map]; omega), List.take_replicate,
    List.drop_eq_nil_of_le (by rw [List.length_map]; omega), List.drop_replicate]
  rw [show 8 - y.length + y.length - x.length = 8 - x.length by omega, Nat.sub_self, show min (8 - y.length - x.length) (8 - x.length) = 8 - x.length - y.length by omega]
  simp
end Go.Proofs.YtgebcifkbldfoaaGreatDoor

/- The contract of colon.whole: the walk. -/
namespace Go.Proofs.YtgebcifkbldfoaaGreatDoor
open Go.RowKit
attribute [local go_sem] ba_get ext_take ext_drop ext_any ba_app

theorem plV_n0 {s : List UInt8} (hd : ddx s = none) (h : sidV true s = none) : plV s = none := by unfold plV; rw [hd]; simp only; rw [h]
theorem plV_n1 {s : List UInt8} {l : List Nat} (hd : ddx s = none) (h : sidV true s = some l) (hl : l.length ≠ 8) : plV s = none := by unfold plV; rw [hd]; simp only; rw [h]; simp only; rw [if_neg hl]
theorem plV_n2 {s : List UInt8} {l : List Nat} (hd : ddx s = none) (h : sidV true s = some l) (hl : l.length = 8) : plV s = some l := by unfold plV; rw [hd]; simp only; rw [h]; simp only; rw [if_pos hl]
theorem plV_s0 {s : List UInt8} {k : Nat} (hd : ddx s = some k) (h : sidV false (s.take k) = none) : plV s = none := by unfold plV; rw [hd]; simp only; rw [h]
theorem plV_s1 {s : List UInt8} {k : Nat} {x : List Nat} (hd : ddx s = some k) (h : sidV false (s.take k) = some x) (h2 : sidV true (s.drop (k + 2)) = none) : plV s = none := by unfold plV; rw [hd]; simp only; rw [h]; simp only; rw [h2]
theorem plV_s2 {s : List UInt8} {k : Nat} {x y : List Nat} (hd : ddx s = some k) (h : sidV false (s.take k) = some x) (h2 : sidV true (s.drop (k + 2)) = some y) (hl : ¬ x.length + y.length ≤ 7) : plV s = none := by unfold plV; rw [hd]; simp only; rw [h]; simp only; rw [h2]; simp only; rw [if_neg hl]
theorem plV_s3 {s : List UInt8} {k : Nat} {x y : List Nat} (hd : ddx s = some k) (h : sidV false (s.take k) = some x) (h2 : sidV true (s.drop (k + 2)) = some y) (hl : x.length + y.length ≤ 7) : plV s = some (x ++ List.replicate (8 - x.length - y.length) 0 ++ y) := by unfold plV; rw [hd]; simp only; rw [h]; simp only; rw [h2]; simp only; rw [if_pos hl]
theorem Sl.cellsOf {w : World} {v : Value} {n : Nat} {xs : List Value} (h : Sl w 1 v n xs) : ∃ A c, v = .slice A n c ∧ n ≤ c ∧ (0 < xs.length → ∃ ad, A = some ad ∧ ∀ (j : Nat) u, xs[j]? = some u → w.cell? (ad.add j) = some u) := by
  obtain ⟨h0, A, c, hv, hc, hA, hcell⟩ := h
  rcases Nat.eq_zero_or_pos n with hn | hn
  · refine ⟨A, c, hv, hc, fun hp => ?_⟩
    rw [h0, hn] at hp
    simp at hp
  · cases A with
    | none => exact absurd (hA rfl) (by omega)
    | some ad =>
      obtain ⟨_, hs, hcl⟩ := hcell ad rfl hn
      refine ⟨some ad, c, hv, hc, fun _ => ⟨ad, rfl, fun j u hu => ?_⟩⟩
      have := hcl j u hu
      rcases ad with ⟨b, off, sub⟩
      simp only at hs
      subst hs
      rw [add_none]
      exact this

theorem csev_n {last : Bool} {s : List UInt8} {w : World} (ht : Tab w) (hl : s.length ≤ 1000000000) (h : sidV last s = none) : Calls Tryz.prog 98 #[.string ⟨s.toArray⟩, .bool last] w fun e w' => e = .returned (.tuple #[.slice none 0 0, .bool false]) ∧ Below w.heap.size w w' :=
  (csev_any last s w ht hl).mono fun e w' ⟨ho, hb⟩ => by
    rcases ho with ⟨_, he⟩ | ⟨D, v, h1, _⟩
    · exact ⟨he, hb⟩
    · rw [h] at h1; cases h1
theorem csev_s {last : Bool} {s : List UInt8} {w : World} {D : List Nat} (ht : Tab w) (hl : s.length ≤ 1000000000) (h : sidV last s = some D) : Calls Tryz.prog 98 #[.string ⟨s.toArray⟩, .bool last] w fun e w' => ∃ A c, e = .returned (.tuple #[.slice A D.length c, .bool true]) ∧ D.length ≤ c ∧ Hid (w'.ownsRow w.heap.size 3 1 (.slice A D.length c) D.length (D.map nv)) ∧ Below w.heap.size w w' :=
  (csev_any last s w ht hl).mono fun e w' ⟨ho, hb⟩ => by
    rcases ho with ⟨h1, _⟩ | ⟨D', v, h1, he, hs⟩
    · rw [h] at h1; cases h1
    · rw [h] at h1
      injection h1 with h1
      subst h1
      obtain ⟨A, c, hv, hc, _⟩ := (Sl.own hs).cellsOf
      subst hv
      exact ⟨A, c, he, hc, Lib.hid hs, hb⟩
theorem sidV_len2 {last : Bool} {s : List UInt8} {l : List Nat} (h : sidV last s = some l) : l.length ≤ s.length + 2 := by
  unfold sidV at h
  split at h
  · injection h with h; subst h; simp
  · have h1 := sidF_len h
    have h2 := spB_len 58 s []
    omega
theorem at_copy {P : Program} {ops : Array Oper} {rest : List Oper} {a : Act} {w : World} {Q : Exit → Act → World → Prop} {d : Option Tmp} {A : Array Operand} {T : Array TypeId} {ty : TypeId} {pos : String} {af : _} {g : _}
    (h : wpList P ops Q (⟨d, .call { callee := .builtin .copy, args := A, argTypes := T }, ty, pos, af, g⟩ :: rest) a w) : wpList P ops Q (⟨d, .call { callee := .builtin .copy, args := A, argTypes := T }, ty, pos, af, g⟩ :: rest) a w := h
theorem hold {p : Prop} (h : Hid p) : p := h.out
theorem nv_one (l : List Nat) : ∀ v ∈ l.map nv, v.oneCell' = true := fun v hv => by obtain ⟨n, _, rfl⟩ := List.mem_map.1 hv; rfl
theorem Sl.src {w : World} {A : Option Addr} {n c : Nat} {xs : List Value} (h : Sl w 1 (.slice A n c) n xs) (hp : 0 < xs.length) : ∃ ad, A = some ad ∧ ∀ (j : Nat) u, xs[j]? = some u → w.cell? (ad.add j) = some u := by
  obtain ⟨A', c', hv, _, hh⟩ := h.cellsOf
  injection hv with h1 h2 h3
  subst h1
  exact hh hp

set_option maxRecDepth 100000 in
set_option maxHeartbeats 2000000 in
theorem whole_n0 (s : List UInt8) (w : World) (ht : Tab w) (hm : MaxI w) (hl : s.length ≤ 1000000000) (hd : ddx s = none) (h1 : sidV true s = none) : Calls Tryz.prog 88 #[.string ⟨s.toArray⟩] w (WhPost w (plV s)) := by
  have hix : Lib.index (⟨s.toArray⟩ : ByteArray).data.toList (⟨#[58, 58]⟩ : ByteArray).data.toList = -1 := by have := index_ddx s; rw [hd] at this; exact this
  have Hix := Lib.hid hix
  clear hix
  have Hfin := Lib.hid (plV_n0 hd h1)
  have H1 := Lib.hid h1
  clear hd h1
  have Ht := Lib.hid ht
  have Hm := Lib.hid hm
  clear ht hm
  go_enter Tryz.func88, Tryz.ntmps88
  go_wp2_with (first
    | ((with_reducible refine wpList_allocZ (o := ⟨some 2, _, _, _, _, _⟩) rfl _ rfl a8_zero ?_); intro g2 w1 hg hB2 hb1 hs; have hg2 : w.heap.size = g2 := hg.symm; have hs2 : w1.heap.size = g2 + 1 := hs; clear hg hs)
    | ((with_reducible refine wpList_allocZ (o := ⟨some 4, _, _, _, _, _⟩) rfl _ rfl a8_zero ?_); intro g4 w2 hg hB4 hb2 hs; have hg4 : w1.heap.size = g4 := hg.symm; have hB22 := hB2.bel hb2; have hb02 := bel_tr hb1 hb2; clear hg hs; obtain ⟨mx, hmx⟩ := (Hm.out.below hb02))
    | (go_at_call 67; refine (Tryz.strings_Index _ _ mx _ (by simp [ByteArray.size]; omega) hmx).mono ?_; rintro ed w3 ⟨rfl, hw⟩; have hw2 := hw.symm; subst hw2; clear hw; rw [Hix.out])
    | (go_at_call 98; refine (csev_n (Ht.out.below hb02) hl H1.out).mono ?_; rintro ed w3 ⟨rfl, hb3⟩; have hb03 := bel_tr hb02 hb3; have hB23 := hB22.bel hb3; have hB43 := hB4.bel hb3)
    | (with_reducible refine wpList_loadB (o := ⟨some 27, _, _, _, _, _⟩) rfl _ _ rfl rfl hB43 a8_under rfl (a8_size rfl) ?_)
    | ((with_reducible refine wpList_storeB rfl _ _ _ rfl rfl rfl hB23 (a8_size rfl) rfl (gA_one _) ?_); intro wz hBz hSz))
  exact ret_a8 Tryz.results88 rfl rfl rfl hBz rfl ⟨by rw [Hfin.out]; rfl, hb03.trans (hSz.below (by omega))⟩

set_option maxRecDepth 100000 in
set_option maxHeartbeats 2000000 in
theorem whole_n1 (s : List UInt8) (w : World) (ht : Tab w) (hm : MaxI w) (hl : s.length ≤ 1000000000) (hd : ddx s = none) (l : List Nat) (h1 : sidV true s = some l) (h8 : l.length ≠ 8) : Calls Tryz.prog 88 #[.string ⟨s.toArray⟩] w (WhPost w (plV s)) := by
  have hix : Lib.index (⟨s.toArray⟩ : ByteArray).data.toList (⟨#[58, 58]⟩ : ByteArray).data.toList = -1 := by have := index_ddx s; rw [hd] at this; exact this
  have Hix := Lib.hid hix
  clear hix
  have Hfin := Lib.hid (plV_n1 hd h1 h8)
  have H1 := Lib.hid h1
  have j8 : ((l.length : Int) != 8) = true := by simp; omega
  clear hd h1
  have Ht := Lib.hid ht
  have Hm := Lib.hid hm
  clear ht hm
  go_enter Tryz.func88, Tryz.ntmps88
  go_wp2_with (first
    | ((with_reducible refine wpList_allocZ (o := ⟨some 2, _, _, _, _, _⟩) rfl _ rfl a8_zero ?_); intro g2 w1 hg hB2 hb1 hs; have hg2 : w.heap.size = g2 := hg.symm; have hs2 : w1.heap.size = g2 + 1 := hs; clear hg hs)
    | ((with_reducible refine wpList_allocZ (o := ⟨some 4, _, _, _, _, _⟩) rfl _ rfl a8_zero ?_); intro g4 w2 hg hB4 hb2 hs; have hg4 : w1.heap.size = g4 := hg.symm; have hB22 := hB2.bel hb2; have hb02 := bel_tr hb1 hb2; clear hg hs; obtain ⟨mx, hmx⟩ := (Hm.out.below hb02))
    | (go_at_call 67; refine (Tryz.strings_Index _ _ mx _ (by simp [ByteArray.size]; omega) hmx).mono ?_; rintro ed w3 ⟨rfl, hw⟩; have hw2 := hw.symm; subst hw2; clear hw; rw [Hix.out])
    | (go_at_call 98; refine (csev_s (Ht.out.below hb02) hl H1.out).mono ?_; rintro ed w3 ⟨A9, c9, rfl, hc9, hs9, hb3⟩; have hb03 := bel_tr hb02 hb3; have hB23 := hB22.bel hb3; have hB43 := hB4.bel hb3)
    | (with_reducible refine wpList_loadB (o := ⟨some 27, _, _, _, _, _⟩) rfl _ _ rfl rfl hB43 a8_under rfl (a8_size rfl) ?_)
    | ((with_reducible refine wpList_storeB rfl _ _ _ rfl rfl rfl hB23 (a8_size rfl) rfl (gA_one _) ?_); intro wz hBz hSz))
  exact ret_a8 Tryz.results88 rfl rfl rfl hBz rfl ⟨by rw [Hfin.out]; rfl, hb03.trans (hSz.below (by omega))⟩

set_option maxRecDepth 100000 in
set_option maxHeartbeats 2000000 in
theorem whole_n2 (s : List UInt8) (w : World) (ht : Tab w) (hm : MaxI w) (hl : s.length ≤ 1000000000) (hd : ddx s = none) (l : List Nat) (h1 : sidV true s = some l) (h8 : l.length = 8) : Calls Tryz.prog 88 #[.string ⟨s.toArray⟩] w (WhPost w (plV s)) := by
  have hix : Lib.index (⟨s.toArray⟩ : ByteArray).data.toList (⟨#[58, 58]⟩ : ByteArray).data.toList = -1 := by have := index_ddx s; rw [hd] at this; exact this
  have Hix := Lib.hid hix
  clear hix
  have Hfin := Lib.hid (plV_n2 hd h1 h8)
  have H1 := Lib.hid h1
  have H8 := Lib.hid h8
  have j8 : ((l.length : Int) != 8) = false := by simp [h8]
  clear hd h1 h8
  have Ht := Lib.hid ht
  have Hm := Lib.hid hm
  clear ht hm
  go_enter Tryz.func88, Tryz.ntmps88
  go_wp2_with (first
    | ((with_reducible refine wpList_allocZ (o := ⟨some 2, _, _, _, _, _⟩) rfl _ rfl a8_zero ?_); intro g2 w1 hg hB2 hb1 hs; have hg2 : w.heap.size = g2 := hg.symm; have hs2 : w1.heap.size = g2 + 1 := hs; clear hg hs)
    | ((with_reducible refine wpList_allocZ (o := ⟨some 4, _, _, _, _, _⟩) rfl _ rfl a8_zero ?_); intro g4 w2 hg hB4 hb2 hs; have hg4 : w1.heap.size = g4 := hg.symm; have hB22 := hB2.bel hb2; have hb02 := bel_tr hb1 hb2; clear hg hs; obtain ⟨mx, hmx⟩ := (Hm.out.below hb02))
    | (go_at_call 67; refine (Tryz.strings_Index _ _ mx _ (by simp [ByteArray.size]; omega) hmx).mono ?_; rintro ed w3 ⟨rfl, hw⟩; have hw2 := hw.symm; subst hw2; clear hw; rw [Hix.out])
    | (go_at_call 98; refine (csev_s (Ht.out.below hb02) hl H1.out).mono ?_; rintro ed w3 ⟨A9, c9, rfl, hc9, hs9, hb3⟩; have hb03 := bel_tr hb02 hb3; have hB23 := hB22.bel hb3; have hB43 := hB4.bel hb3)
    | (with_reducible refine at_copy ?_; refine hold ?_))
  refine Lib.hid ?_
  refine wpList_copy_splice rfl (.tmp 28) (.tmp 29) 103 103 rfl 3 Tryz.underlying103 (by kernel_rfl) (some ⟨g4, 0, none⟩) A9 8 8 l.length c9 rfl rfl g4 0 (z8.map nv) 99 hB43 (l.map nv) (by rw [List.length_map, H8.out]; rfl) (fun hp => ⟨rfl, (Sl.own hs9.out).src hp⟩) (by rw [List.length_map, H8.out]; decide) (nv_one _) g4 w3 (Below.refl _ _) (Nat.le_refl _) ?_
  intro w5 hg5 hb5
  have hB45 : Bk w5 g4 99 (gA l) := (by have := hg5.out; rw [splice_all H8.out] at this; exact this)
  have hB25 := hB23.below hb5 (by omega)
  have hb05 : Below w.heap.size w w5 := hb03.trans (hb5.mono (by omega))
  go_wp2_with (first
    | (with_reducible refine wpList_loadB (o := ⟨some 31, _, _, _, _, _⟩) rfl _ _ rfl rfl hB45 a8_under rfl (a8_size H8.out) ?_)
    | ((with_reducible refine wpList_storeB rfl _ _ _ rfl rfl rfl hB25 (a8_size H8.out) ((gA_size (l := z8) rfl).trans (gA_size H8.out).symm) (gA_one _) ?_); intro wz hBz hSz))
  exact ret_a8 Tryz.results88 H8.out rfl rfl hBz rfl ⟨by rw [Hfin.out]; rfl, hb05.trans (hSz.below (by omega))⟩

set_option maxRecDepth 100000 in
set_option maxHeartbeats 2000000 in
theorem whole_s0 (s : List UInt8) (w : World) (ht : Tab w) (hm : MaxI w) (hl : s.length ≤ 1000000000) (k : Nat) (hd : ddx s = some k) (h1 : sidV false (s.take k) = none) : Calls Tryz.prog 88 #[.string ⟨s.toArray⟩] w (WhPost w (plV s)) := by
  have hix : Lib.index (⟨s.toArray⟩ : ByteArray).data.toList (⟨#[58, 58]⟩ : ByteArray).data.toList = (k : Int) := by have := index_ddx s; rw [hd] at this; exact this
  have Hix := Lib.hid hix
  have hkb := ddx_bd hd
  have t2 : ((k : Int) + 2).toNat = k + 2 := by omega
  have i1 : (k : Int) ≤ (s.length : Int) := by omega
  have i2 : (k : Int) + 2 ≤ (s.length : Int) := by omega
  have i3 : (0 : Int) ≤ (k : Int) + 2 := by omega
  have q1 : (s.take k).length ≤ 1000000000 := by rw [List.length_take]; omega
  have q2 : (s.drop (k + 2)).length ≤ 1000000000 := by rw [List.length_drop]; omega
  have Q1 := Lib.hid q1
  have Q2 := Lib.hid q2
  clear hix q1 q2
  have Hfin := Lib.hid (plV_s0 hd h1)
  have H1 := Lib.hid h1
  clear hd h1
  have Ht := Lib.hid ht
  have Hm := Lib.hid hm
  clear ht hm
  go_enter Tryz.func88, Tryz.ntmps88
  go_wp2_with (first
    | ((with_reducible refine wpList_allocZ (o := ⟨some 2, _, _, _, _, _⟩) rfl _ rfl a8_zero ?_); intro g2 w1 hg hB2 hb1 hs; have hg2 : w.heap.size = g2 := hg.symm; have hs2 : w1.heap.size = g2 + 1 := hs; clear hg hs)
    | ((with_reducible refine wpList_allocZ (o := ⟨some 4, _, _, _, _, _⟩) rfl _ rfl a8_zero ?_); intro g4 w2 hg hB4 hb2 hs; have hg4 : w1.heap.size = g4 := hg.symm; have hB22 := hB2.bel hb2; have hb02 := bel_tr hb1 hb2; clear hg hs; obtain ⟨mx, hmx⟩ := (Hm.out.below hb02))
    | (go_at_call 67; refine (Tryz.strings_Index _ _ mx _ (by simp [ByteArray.size]; omega) hmx).mono ?_; rintro ed w3 ⟨rfl, hw⟩; have hw2 := hw.symm; subst hw2; clear hw; rw [Hix.out])
    | (go_at_call 98; refine (csev_n (s := s.take k) (Ht.out.below hb02) Q1.out H1.out).mono ?_; rintro ed w3 ⟨rfl, hb3⟩; have hb03 := bel_tr hb02 hb3; have hB23 := hB22.bel hb3; have hB43 := hB4.bel hb3)
    | (with_reducible refine wpList_loadB (o := ⟨some 41, _, _, _, _, _⟩) rfl _ _ rfl rfl hB43 a8_under rfl (a8_size rfl) ?_)
    | ((with_reducible refine wpList_storeB rfl _ _ _ rfl rfl rfl hB23 (a8_size rfl) rfl (gA_one _) ?_); intro wz hBz hSz))
  exact ret_a8 Tryz.results88 rfl rfl rfl hBz rfl ⟨by rw [Hfin.out]; rfl, hb03.trans (hSz.below (by omega))⟩

set_option maxRecDepth 100000 in
set_option maxHeartbeats 2000000 in
theorem whole_s1 (s : List UInt8) (w : World) (ht : Tab w) (hm : MaxI w) (hl : s.length ≤ 1000000000) (k : Nat) (hd : ddx s = some k) (x : List Nat) (h1 : sidV false (s.take k) = some x) (h2 : sidV true (s.drop (k + 2)) = none) : Calls Tryz.prog 88 #[.string ⟨s.toArray⟩] w (WhPost w (plV s)) := by
  have hix : Lib.index (⟨s.toArray⟩ : ByteArray).data.toList (⟨#[58, 58]⟩ : ByteArray).data.toList = (k : Int) := by have := index_ddx s; rw [hd] at this; exact this
  have Hix := Lib.hid hix
  have hkb := ddx_bd hd
  have t2 : ((k : Int) + 2).toNat = k + 2 := by omega
  have i1 : (k : Int) ≤ (s.length : Int) := by omega
  have i2 : (k : Int) + 2 ≤ (s.length : Int) := by omega
  have i3 : (0 : Int) ≤ (k : Int) + 2 := by omega
  have q1 : (s.take k).length ≤ 1000000000 := by rw [List.length_take]; omega
  have q2 : (s.drop (k + 2)).length ≤ 1000000000 := by rw [List.length_drop]; omega
  have Q1 := Lib.hid q1
  have Q2 := Lib.hid q2
  clear hix q1 q2
  have Hfin := Lib.hid (plV_s1 hd h1 h2)
  have H1 := Lib.hid h1
  have H2 := Lib.hid h2
  clear hd h1 h2
  have Ht := Lib.hid ht
  have Hm := Lib.hid hm
  clear ht hm
  go_enter Tryz.func88, Tryz.ntmps88
  go_wp2_with (first
    | ((with_reducible refine wpList_allocZ (o := ⟨some 2, _, _, _, _, _⟩) rfl _ rfl a8_zero ?_); intro g2 w1 hg hB2 hb1 hs; have hg2 : w.heap.size = g2 := hg.symm; have hs2 : w1.heap.size = g2 + 1 := hs; clear hg hs)
    | ((with_reducible refine wpList_allocZ (o := ⟨some 4, _, _, _, _, _⟩) rfl _ rfl a8_zero ?_); intro g4 w2 hg hB4 hb2 hs; have hg4 : w1.heap.size = g4 := hg.symm; have hB22 := hB2.bel hb2; have hb02 := bel_tr hb1 hb2; clear hg hs; obtain ⟨mx, hmx⟩ := (Hm.out.below hb02))
    | (go_at_call 67; refine (Tryz.strings_Index _ _ mx _ (by simp [ByteArray.size]; omega) hmx).mono ?_; rintro ed w3 ⟨rfl, hw⟩; have hw2 := hw.symm; subst hw2; clear hw; rw [Hix.out])
    | (go_at_call 98; with_reducible refine (csev_s (last := false) (s := s.take k) (Ht.out.below hb02) Q1.out H1.out).mono ?_; rintro ed w3 ⟨A8, c8, rfl, hc8, hs8, hb3⟩; have hb03 := bel_tr hb02 hb3; have hB23 := hB22.bel hb3; have hB43 := hB4.bel hb3)
    | (go_at_call 98; with_reducible refine (csev_n (last := true) (s := s.drop (k + 2)) (Ht.out.below hb03) Q2.out H2.out).mono ?_; rintro ed w4 ⟨rfl, hb4⟩; have hb04 := bel_tr hb03 hb4; have hB24 := hB23.bel hb4; have hB44 := hB43.bel hb4)
    | (with_reducible refine wpList_loadB (o := ⟨some 60, _, _, _, _, _⟩) rfl _ _ rfl rfl hB44 a8_under rfl (a8_size rfl) ?_)
    | ((with_reducible refine wpList_storeB rfl _ _ _ rfl rfl rfl hB24 (a8_size rfl) rfl (gA_one _) ?_); intro wz hBz hSz))
  exact ret_a8 Tryz.results88 rfl rfl rfl hBz rfl ⟨by rw [Hfin.out]; rfl, hb04.trans (hSz.below (by omega))⟩

set_option maxRecDepth 100000 in
set_option maxHeartbeats 2000000 in
theorem whole_s2 (s : List UInt8) (w : World) (ht : Tab w) (hm : MaxI w) (hl : s.length ≤ 1000000000) (k : Nat) (hd : ddx s = some k) (x y : List Nat) (h1 : sidV false (s.take k) = some x) (h2 : sidV true (s.drop (k + 2)) = some y) (h7 : ¬ x.length + y.length ≤ 7) : Calls Tryz.prog 88 #[.string ⟨s.toArray⟩] w (WhPost w (plV s)) := by
  have hix : Lib.index (⟨s.toArray⟩ : ByteArray).data.toList (⟨#[58, 58]⟩ : ByteArray).data.toList = (k : Int) := by have := index_ddx s; rw [hd] at this; exact this
  have Hix := Lib.hid hix
  have hkb := ddx_bd hd
  have t2 : ((k : Int) + 2).toNat = k + 2 := by omega
  have i1 : (k : Int) ≤ (s.length : Int) := by omega
  have i2 : (k : Int) + 2 ≤ (s.length : Int) := by omega
  have i3 : (0 : Int) ≤ (k : Int) + 2 := by omega
  have q1 : (s.take k).length ≤ 1000000000 := by rw [List.length_take]; omega
  have q2 : (s.drop (k + 2)).length ≤ 1000000000 := by rw [List.length_drop]; omega
  have Q1 := Lib.hid q1
  have Q2 := Lib.hid q2
  clear hix q1 q2
  have Hfin := Lib.hid (plV_s2 hd h1 h2 h7)
  have H1 := Lib.hid h1
  have H2 := Lib.hid h2
  have j7 : (7 : Int) < (x.length : Int) + (y.length : Int) := by omega
  have jx := sidV_len2 h1
  have jy := sidV_len2 h2
  rw [List.length_take] at jx
  rw [List.length_drop] at jy
  clear hd h1 h2 h7
  have Ht := Lib.hid ht
  have Hm := Lib.hid hm
  clear ht hm
  go_enter Tryz.func88, Tryz.ntmps88
  go_wp2_with (first
    | ((with_reducible refine wpList_allocZ (o := ⟨some 2, _, _, _, _, _⟩) rfl _ rfl a8_zero ?_); intro g2 w1 hg hB2 hb1 hs; have hg2 : w.heap.size = g2 := hg.symm; have hs2 : w1.heap.size = g2 + 1 := hs; clear hg hs)
    | ((with_reducible refine wpList_allocZ (o := ⟨some 4, _, _, _, _, _⟩) rfl _ rfl a8_zero ?_); intro g4 w2 hg hB4 hb2 hs; have hg4 : w1.heap.size = g4 := hg.symm; have hB22 := hB2.bel hb2; have hb02 := bel_tr hb1 hb2; clear hg hs; obtain ⟨mx, hmx⟩ := (Hm.out.below hb02))
    | (go_at_call 67; refine (Tryz.strings_Index _ _ mx _ (by simp [ByteArray.size]; omega) hmx).mono ?_; rintro ed w3 ⟨rfl, hw⟩; have hw2 := hw.symm; subst hw2; clear hw; rw [Hix.out])
    | (go_at_call 98; with_reducible refine (csev_s (last := false) (s := s.take k) (Ht.out.below hb02) Q1.out H1.out).mono ?_; rintro ed w3 ⟨A8, c8, rfl, hc8, hs8, hb3⟩; have hb03 := bel_tr hb02 hb3; have hB23 := hB22.bel hb3; have hB43 := hB4.bel hb3)
    | (go_at_call 98; with_reducible refine (csev_s (last := true) (s := s.drop (k + 2)) (Ht.out.below hb03) Q2.out H2.out).mono ?_; rintro ed w4 ⟨A9, c9, rfl, hc9, hs9, hb4⟩; have hb04 := bel_tr hb03 hb4; have hB24 := hB23.bel hb4; have hB44 := hB43.bel hb4)
    | (with_reducible refine wpList_loadB (o := ⟨some 60, _, _, _, _, _⟩) rfl _ _ rfl rfl hB44 a8_under rfl (a8_size rfl) ?_)
    | ((with_reducible refine wpList_storeB rfl _ _ _ rfl rfl rfl hB24 (a8_size rfl) rfl (gA_one _) ?_); intro wz hBz hSz))
  exact ret_a8 Tryz.results88 rfl rfl rfl hBz rfl ⟨by rw [Hfin.out]; rfl, hb04.trans (hSz.below (by omega))⟩
end Go.Proofs.YtgebcifkbldfoaaGreatDoor

/- The contract of colon.whole: the last way, and all ways together. -/
namespace Go.Proofs.YtgebcifkbldfoaaGreatDoor
open Go.RowKit
attribute [local go_sem] ba_get ext_take ext_drop ext_any ba_app

theorem Stays.refl (g : Nat) (w : World) : Stays g w w := ⟨rfl, rfl, rfl, rfl, fun _ _ => rfl⟩
theorem wpList_copy_st {P : Program} {w : World} {ops : Array Oper} {rest : List Oper} {o : Oper} {a : Act} {Q : Exit → Act → World → Prop} (hgd : o.guard = none) (d s : Operand) (dT sT : TypeId)
    (ho : o.op = .call { callee := .builtin .copy, args := #[d, s], argTypes := #[dT, sT] }) (elem : TypeId) (hu : P.underlying dT = some (.slice elem)) (hsz : (P.info? elem).map (·.size) = some 1)
    (dp sp : Option Addr) (dLen dCap sLen sCap : Nat) (hd : a.eval d = .slice dp dLen dCap) (hs : a.eval s = .slice sp sLen sCap)
    (g off : Nat) (cur : List Value) (t : TypeId) (hg : w.heap[g]? = some (.cells cur.toArray t (0, 0))) (cs : List Value) (hn : cs.length = Nat.min sLen dLen)
    (hpos : 0 < cs.length → dp = some ⟨g, off, none⟩ ∧ ∃ ad, sp = some ad ∧ ∀ (j : Nat) v, cs[j]? = some v → w.cell? (ad.add j) = some v)
    (hfit : off + cs.length ≤ cur.length) (h1 : ∀ v ∈ cs, v.oneCell' = true)
    (h : ∀ w', Hid (w'.heap[g]? = some (.cells (splice cur off cs).toArray t (0, 0))) → Stays g w w' → wpList P ops Q rest (a.put o.dst (goInt cs.length)) w') :
    wpList P ops Q (o :: rest) a w := by
  by_cases h0 : cs.length = 0
  · obtain rfl : cs = [] := List.eq_nil_of_length_eq_zero h0
    refine wpList_copy_nothing hgd d s dT sT ho elem hu hsz dp sp dLen dCap sLen sCap hd hs (by simpa using hn.symm) ?_
    exact h w (show _ = _ by simpa [splice] using hg) (Stays.refl g w)
  · obtain ⟨rfl, ad, rfl, hsrc⟩ := hpos (by omega)
    refine wpList_copy_own hgd d s dT sT ho elem hu hsz g off dLen dCap ad sLen sCap hd hs cur.toArray t hg cs hn hsrc (by simpa using hfit) h1 ?_
    exact h _ (show _ = _ by simpa [splice] using setRow_heap w g _ _ t _ hg) (Stays.row w g _)
theorem own_stays {w w' : World} {base : Nat} {e : TypeId} {size n : Nat} {v : Value} {xs : List Value} {g : Nat} (h : w.ownsRow base e size v n xs) (hb : Stays g w w') (hg : g < base) : w'.ownsRow base e size v n xs := by
  refine h.kept (row := some g) ⟨hb.os, hb.tape, hb.output, Nat.le_of_eq hb.size.symm, fun k _ hne => hb.block k (fun e => hne (by rw [e]))⟩ ?_
  cases hh : v.ownBlock with
  | none => exact .inl rfl
  | some k =>
    right
    intro e
    injection e with e
    have := (h.lt k hh).1
    omega
theorem splice_len (x : List Nat) (h : x.length ≤ 8) : (splice (z8.map nv) 0 (x.map nv)).length = 8 := by
  rw [length_splice _ _ _ (by simp [z8]; omega)]; rfl
theorem splice_nil (L : List Value) (k : Nat) : splice L k [] = L := by simp [splice]
theorem size_run {P : Program} {t : TypeId} {n : Nat} (hi : (P.info? t).map (·.size) = some n) (w : World) : (sizeOf t).run P w = .ok n w := by
  cases hi2 : P.info? t with
  | none => rw [hi2] at hi; cases hi
  | some i =>
    rw [hi2] at hi
    injection hi with hi
    simp [sizeOf, typeInfo, hi2, hi]
theorem slice8_l (w : World) (g : Nat) (l : Int) (h0 : 0 ≤ l) (h1 : l < 8) : (Instr.sliceAt 99 (.pointer (some ⟨g, 0, none⟩)) (some (.int .i64 l)) none none).run Tryz.prog w = .ok (.slice (some ⟨g, l.toNat, none⟩) (8 - l.toNat) (8 - l.toNat)) w := by
  have ha : Tryz.prog.arrayLen 99 = 8 := by kernel_rfl
  have he : Tryz.prog.elem 99 = 3 := by kernel_rfl
  have hs : (sizeOf 3).run Tryz.prog w = .ok 1 w := size_run (by kernel_rfl) w
  rw [run_sliceAt_array_l w _ _ (by rw [ha, he]; exact a8_under) .i64 l h0 (by rw [ha]; omega), he, hs, ha]
  simp only [Result.andThen_ok, slicedAt]
  rw [if_neg (by omega), Nat.mul_one, add_none, Nat.zero_add]
attribute [local go_sem] slice8_l

set_option maxRecDepth 100000 in
set_option maxHeartbeats 2000000 in
theorem whole_s3 (s : List UInt8) (w : World) (ht : Tab w) (hm : MaxI w) (hl : s.length ≤ 1000000000) (k : Nat) (hd : ddx s = some k) (x y : List Nat) (h1 : sidV false (s.take k) = some x) (h2 : sidV true (s.drop (k + 2)) = some y) (h7 : x.length + y.length ≤ 7) : Calls Tryz.prog 88 #[.string ⟨s.toArray⟩] w (WhPost w (plV s)) := by
  have hix : Lib.index (⟨s.toArray⟩ : ByteArray).data.toList (⟨#[58, 58]⟩ : ByteArray).data.toList = (k : Int) := by have := index_ddx s; rw [hd] at this; exact this
  have Hix := Lib.hid hix
  have hkb := ddx_bd hd
  have t2 : ((k : Int) + 2).toNat = k + 2 := by omega
  have i1 : (k : Int) ≤ (s.length : Int) := by omega
  have i2 : (k : Int) + 2 ≤ (s.length : Int) := by omega
  have i3 : (0 : Int) ≤ (k : Int) + 2 := by omega
  have q1 : (s.take k).length ≤ 1000000000 := by rw [List.length_take]; omega
  have q2 : (s.drop (k + 2)).length ≤ 1000000000 := by rw [List.length_drop]; omega
  have Q1 := Lib.hid q1
  have Q2 := Lib.hid q2
  clear hix q1 q2
  have Hfin := Lib.hid (plV_s3 hd h1 h2 h7)
  have hf8 : (x ++ List.replicate (8 - x.length - y.length) 0 ++ y).length = 8 := by simp; omega
  have Hsp := Lib.hid (splice_two h7)
  have Hsl := Lib.hid (splice_len x (by omega))
  obtain ⟨X1, hX1⟩ : ∃ X1, X1 = splice (z8.map nv) 0 (x.map nv) := ⟨_, rfl⟩
  obtain ⟨F, hF⟩ : ∃ F, F = x ++ List.replicate (8 - x.length - y.length) 0 ++ y := ⟨_, rfl⟩
  rw [← hF] at Hfin hf8 Hsp
  rw [← hX1] at Hsp Hsl
  have HX1 := Lib.hid hX1
  have HF8 := Lib.hid hf8
  clear hX1 hF hf8
  have H1 := Lib.hid h1
  have H2 := Lib.hid h2
  have j7 : (x.length : Int) + (y.length : Int) ≤ 7 := by omega
  have jy : (y.length : Int) ≤ 7 := by omega
  have e8 : (8 - (y.length : Int)).toNat = 8 - y.length := by omega
  have jz : (0 : Int) ≤ 8 - (y.length : Int) := by omega
  clear hd h1 h2
  have Ht := Lib.hid ht
  have Hm := Lib.hid hm
  clear ht hm
  go_enter Tryz.func88, Tryz.ntmps88
  go_wp2_with (first
    | ((with_reducible refine wpList_allocZ (o := ⟨some 2, _, _, _, _, _⟩) rfl _ rfl a8_zero ?_); intro g2 w1 hg hB2 hb1 hs; have hg2 : w.heap.size = g2 := hg.symm; have hs2 : w1.heap.size = g2 + 1 := hs; clear hg hs)
    | ((with_reducible refine wpList_allocZ (o := ⟨some 4, _, _, _, _, _⟩) rfl _ rfl a8_zero ?_); intro g4 w2 hg hB4 hb2 hs; have hg4 : w1.heap.size = g4 := hg.symm; have hs4 : w2.heap.size = g4 + 1 := hs; have hB22 := hB2.bel hb2; have hb02 := bel_tr hb1 hb2; clear hg hs; obtain ⟨mx, hmx⟩ := (Hm.out.below hb02))
    | (go_at_call 67; refine (Tryz.strings_Index _ _ mx _ (by simp [ByteArray.size]; omega) hmx).mono ?_; rintro ed w3 ⟨rfl, hw⟩; have hw2 := hw.symm; subst hw2; clear hw; rw [Hix.out])
    | (go_at_call 98; with_reducible refine (csev_s (last := false) (s := s.take k) (Ht.out.below hb02) Q1.out H1.out).mono ?_; rintro ed w3 ⟨A8, c8, rfl, hc8, hs8, hb3⟩; have hb03 := bel_tr hb02 hb3; have hB23 := hB22.bel hb3; have hB43 := hB4.bel hb3; have hz3 := hb3.size)
    | (go_at_call 98; with_reducible refine (csev_s (last := true) (s := s.drop (k + 2)) (Ht.out.below hb03) Q2.out H2.out).mono ?_; rintro ed w4 ⟨A9, c9, rfl, hc9, hs9, hb4⟩; have hb04 := bel_tr hb03 hb4; have hB24 := hB23.bel hb4; have hB44 := hB43.bel hb4; have hs84 : Hid (Sl w4 1 (.slice A8 x.length c8) x.length (x.map nv)) := Lib.hid ((Sl.own hs8.out).below hb4))
    | (with_reducible refine at_copy ?_; refine hold ?_))
  refine Lib.hid ?_
  refine wpList_copy_st rfl (.tmp 61) (.tmp 62) 103 103 rfl 3 Tryz.underlying103 (by kernel_rfl) (some ⟨g4, 0, none⟩) A8 8 8 x.length c8 rfl rfl g4 0 (z8.map nv) 99 hB44 (x.map nv) (by rw [List.length_map]; exact (Nat.min_eq_left (by omega)).symm) (fun hp => ⟨rfl, hs84.out.src hp⟩) (by rw [List.length_map]; simp [z8]; omega) (nv_one _) ?_
  intro w5 hg5 hS5
  have hB45 : Bk w5 g4 99 X1.toArray := (by have := hg5.out; rw [← HX1.out] at this; exact this)
  have hB25 := hB24.stays hS5 (by omega)
  have hb05 : Below w.heap.size w w5 := hb04.trans (hS5.below (by omega))
  have hs95 := Lib.hid (Sl.own (own_stays hs9.out hS5 (by omega)))
  clear hg5 HX1 hs9 hs8 hs84
  rcases Nat.eq_zero_or_pos y.length with hy | hy
  · have hy2 : y = [] := List.eq_nil_of_length_eq_zero hy
    subst hy2
    go_wp2_with (first | (with_reducible refine at_copy ?_; refine hold ?_))
    refine Lib.hid ?_
    refine wpList_copy_nothing rfl (.tmp 67) (.tmp 68) 103 103 rfl 3 Tryz.underlying103 (by kernel_rfl) _ _ _ _ _ _ rfl rfl (by simp) ?_
    have hB45' : Bk w5 g4 99 (gA F) := (by have e := Hsp.out; rw [List.map_nil, List.length_nil, splice_nil] at e; rw [e] at hB45; exact hB45)
    go_wp2_with (first
      | (with_reducible refine wpList_loadB (o := ⟨some 70, _, _, _, _, _⟩) rfl _ _ rfl rfl hB45' a8_under rfl (a8_size HF8.out) ?_)
      | ((with_reducible refine wpList_storeB rfl _ _ _ rfl rfl rfl hB25 (a8_size HF8.out) ((gA_size (l := z8) rfl).trans (gA_size HF8.out).symm) (gA_one _) ?_); intro wz hBz hSz))
    exact ret_a8 Tryz.results88 HF8.out rfl rfl hBz rfl ⟨by rw [Hfin.out]; rfl, hb05.trans (hSz.below (by omega))⟩
  · have jp : 8 - (y.length : Int) < 8 := by omega
    have jq : 8 - y.length < 8 := by omega
    have jr : (y.length : Int) ≤ 8 := by omega
    have js : (0 : Int) < (y.length : Int) := by omega
    have jt : y.length ≤ 8 := by omega
    go_wp2_with (first | (with_reducible refine at_copy ?_; refine hold ?_))
    refine Lib.hid ?_
    refine wpList_copy_st rfl (.tmp 67) (.tmp 68) 103 103 rfl 3 Tryz.underlying103 (by kernel_rfl) (some ⟨g4, 8 - y.length, none⟩) A9 _ _ y.length c9 rfl rfl g4 (8 - y.length) X1 99 hB45 (y.map nv) (by rw [List.length_map]; exact (Nat.min_eq_left (by omega)).symm) (fun hp => ⟨rfl, hs95.out.src hp⟩) (by rw [List.length_map, Hsl.out]; omega) (nv_one _) ?_
    intro w6 hg6 hS6
    have hB46 : Bk w6 g4 99 (gA F) := (by have := hg6.out; rw [Hsp.out] at this; exact this)
    have hB26 := hB25.stays hS6 (by omega)
    have hb06 : Below w.heap.size w w6 := hb05.trans (hS6.below (by omega))
    go_wp2_with (first
      | (with_reducible refine wpList_loadB (o := ⟨some 70, _, _, _, _, _⟩) rfl _ _ rfl rfl hB46 a8_under rfl (a8_size HF8.out) ?_)
      | ((with_reducible refine wpList_storeB rfl _ _ _ rfl rfl rfl hB26 (a8_size HF8.out) ((gA_size (l := z8) rfl).trans (gA_size HF8.out).symm) (gA_one _) ?_); intro wz hBz hSz))
    exact ret_a8 Tryz.results88 HF8.out rfl rfl hBz rfl ⟨by rw [Hfin.out]; rfl, hb06.trans (hSz.below (by omega))⟩

theorem whole_any (s : List UInt8) (w : World) (ht : Tab w) (hm : MaxI w) (hl : s.length ≤ 1000000000) : Calls Tryz.prog 88 #[.string ⟨s.toArray⟩] w (WhPost w (plV s)) := by
  cases hd : ddx s with
  | none =>
    cases h1 : sidV true s with
    | none => exact whole_n0 s w ht hm hl hd h1
    | some l => by_cases h8 : l.length = 8
                · exact whole_n2 s w ht hm hl hd l h1 h8
                · exact whole_n1 s w ht hm hl hd l h1 h8
  | some k =>
    cases h1 : sidV false (s.take k) with
    | none => exact whole_s0 s w ht hm hl k hd h1
    | some x =>
      cases h2 : sidV true (s.drop (k + 2)) with
      | none => exact whole_s1 s w ht hm hl k hd x h1 h2
      | some y => by_cases h7 : x.length + y.length ≤ 7
                  · exact whole_s3 s w ht hm hl k hd x y h1 h2 h7
                  · exact whole_s2 s w ht hm hl k hd x y h1 h2 h7
end Go.Proofs.YtgebcifkbldfoaaGreatDoor

/- The contract of colon.Parse. -/
namespace Go.Proofs.YtgebcifkbldfoaaGreatDoor
open Go.RowKit
attribute [local go_sem] ba_get ext_take ext_drop ext_any ba_app

def CoPost (w : World) (s : List UInt8) (e : Ending) (w' : World) : Prop := e = .returned (adS (colP s)) ∧ Below w.heap.size w w'
theorem CoPost.no {w w' : World} {s : List UInt8} {c : Int} (h : colP s = .inl c) (hb : Below w.heap.size w w') : CoPost w s (.returned (.tuple #[.agg (adA ad0), .int .i64 c])) w' := ⟨by rw [h]; rfl, hb⟩
theorem CoPost.yes {w w' : World} {s : List UInt8} {x : Ad} (h : colP s = .inr x) (hb : Below w.heap.size w w') : CoPost w s (.returned (.tuple #[.agg (adA x), .int .i64 0])) w' := ⟨by rw [h]; rfl, hb⟩
theorem gA_at {l : List Nat} {k : Nat} (h : k < l.length) : (gA l)[k]? = some (.int .i64 ((l[k] : Nat) : Int)) := by
  unfold gA
  rw [List.getElem?_toArray, List.getElem?_map, List.getElem?_eq_getElem h]
  rfl
theorem run_idx8 {l : List Nat} (h8 : l.length = 8) {k : Nat} (hk : k < l.length) (w : World) : (Instr.index 99 (.agg (gA l)) (.int .i64 (k : Int))).run Tryz.prog w = .ok (.int .i64 ((l[k] : Nat) : Int)) w := by
  have hs : (sizeOf 3).run Tryz.prog w = .ok 1 w := size_run (by kernel_rfl) w
  have hi : (0 : Int) ≤ (k : Int) ∧ (k : Int) < ((8 : Nat) : Int) := by omega
  have ha : (isAgg 3).run Tryz.prog w = .ok false w := by simp [isAgg, run_underlying Tryz.underlying3]
  simp only [Instr.index, asIntOf, Sem.run_bind, Sem.run_pure, Result.andThen_ok, run_underlying a8_under, if_pos hi, hs, part, ha, Bool.false_eq_true, if_false, Int.toNat_natCast, Nat.mul_one, gA_at hk]
theorem wpList_idx8 {w : World} {ops : Array Oper} {rest : List Oper} {o : Oper} {a : Act} {Q : Exit → Act → World → Prop} (hgd : o.guard = none) (x y : Operand) (ho : o.op = .index 99 x y) {l : List Nat} {k : Nat} (hx : a.eval x = .agg (gA l)) (hy : a.eval y = .int .i64 (k : Int)) (h8 : l.length = 8) (hk : k < l.length)
    (h : wpList Tryz.prog ops Q rest (a.put o.dst (.int .i64 ((l[k] : Nat) : Int))) w) : wpList Tryz.prog ops Q (o :: rest) a w := by
  refine wpList_plain hgd fun _ hK => ?_
  unfold Oper.wp execOp
  simp only [ho, hx, hy, Sem.run_bind, run_idx8 h8 hk, Result.andThen_ok]
  exact hK _ _ h
theorem built_6 : Tryz.prog.built 31 [(0, .int .i64 6)] = some (adA ad6) := by kernel_rfl
theorem colP_none {s : List UInt8} (h : plV (hdB 37 s) = none) : colP s = .inl 5 := by unfold colP; rw [h]
theorem colP_pln {s : List UInt8} {l : List Nat} (h : plV (hdB 37 s) = some l) (hz : hasB 37 s = false) : colP s = .inr (adG l) := by
  unfold colP; rw [h]; simp only; rw [if_neg (by rw [hz]; simp)]
theorem colP_zbad {s : List UInt8} {l : List Nat} {e : Int} (h : plV (hdB 37 s) = some l) (hz : hasB 37 s = true) (hn : zoR (tlB 37 s) = .inl e) : colP s = .inl e := by
  unfold colP; rw [h]; simp only; rw [if_pos hz]
  split
  · next e' he => rw [hn] at he; injection he with he; subst he; rfl
  · next n he => rw [hn] at he; cases he
theorem colP_zone {s : List UInt8} {l : List Nat} {n : Int} (h : plV (hdB 37 s) = some l) (hz : hasB 37 s = true) (hn : zoR (tlB 37 s) = .inr n) (hb : -9223372036854775808 ≤ n ∧ n ≤ 9223372036854775807) : colP s = .inr ((adG l).setZ n hb) := by
  unfold colP; rw [h]; simp only; rw [if_pos hz]
  split
  · next e' he => rw [hn] at he; cases he
  · next n' he => rw [hn] at he; injection he with he; subst he; rfl
/-- a zone's number, as the walk meets it. -/
theorem zo_cases (t : List UInt8) : (numV t 2147483647 = .tuple #[.int .i64 0, .int .i64 5] ∧ zoR t = .inl 5) ∨ (numV t 2147483647 = .tuple #[.int .i64 0, .int .i64 4] ∧ zoR t = .inl 4) ∨ (numV t 2147483647 = .tuple #[.int .i64 0, .int .i64 0] ∧ zoR t = .inl 4) ∨
    (∃ n : Int, 0 < n ∧ n ≤ 2147483647 ∧ numV t 2147483647 = .tuple #[.int .i64 n, .int .i64 0] ∧ zoR t = .inr n) := by
  unfold numV zoR
  by_cases h : t ≠ [] ∧ t.all dgB = true
  · rw [if_pos h, if_pos h]
    by_cases h2 : (val t : Int) ≤ 2147483647
    · rw [if_pos h2, if_pos h2]
      by_cases h3 : val t = 0
      · rw [if_pos h3, h3]; exact .inr (.inr (.inl ⟨rfl, rfl⟩))
      · rw [if_neg h3]; exact .inr (.inr (.inr ⟨_, by omega, h2, rfl, rfl⟩))
    · rw [if_neg h2, if_neg h2]; exact .inr (.inl ⟨rfl, rfl⟩)
  · rw [if_neg h, if_neg h]; exact .inl ⟨rfl, rfl⟩

set_option maxRecDepth 100000 in
set_option maxHeartbeats 2000000 in
theorem cparse_no (s : List UInt8) (w : World) (ht : Tab w) (hm : MaxI w) (hl : s.length ≤ 1000000000) (hp : plV (hdB 37 s) = none) : Calls Tryz.prog 76 #[.string ⟨s.toArray⟩] w (CoPost w s) := by
  have Ht := Lib.hid ht
  have Hm := Lib.hid hm
  have Hp := Lib.hid hp
  have Hno := Lib.hid (colP_none hp)
  have q1 := hdB_len 37 s
  clear ht hm hp
  go_enter Tryz.func76, Tryz.ntmps76
  go_wp2_with (first
    | ((with_reducible refine wpList_allocAd (o := ⟨some 2, _, _, _, _, _⟩) rfl rfl ?_); intro g2 w1 hg hB2 hb1 hs; have hg2 : w.heap.size = g2 := hg.symm; clear hg hs)
    | (go_at_call 87; refine (cut_any 37 _ _ (by omega)).mono ?_; rintro ed w2 ⟨rfl, hb2⟩; rw [cutV_eq]; have hb02 := bel_tr hb1 hb2; have hB22 := hB2.bel hb2)
    | (go_at_call 88; refine (whole_any _ _ (Ht.out.below hb02) (Hm.out.below hb02) (by omega)).mono ?_; rintro ed w3 ⟨rfl, hb3⟩; rw [Hp.out]; unfold whV; have hb03 := bel_tr hb02 hb3; have hB23 := hB22.bel hb3)
    | ((with_reducible refine wpList_allocZ (o := ⟨some 6, _, _, _, _, _⟩) rfl _ rfl a8_zero ?_); intro g6 w4 hg hB6 hb4 hs; have hg6 : w3.heap.size = g6 := hg.symm; have hB24 := hB23.bel hb4; have hb04 := bel_tr hb03 hb4; clear hg hs)
    | ((with_reducible refine wpList_storeB (cells := gA z8) rfl _ (.tmp 6) _ rfl rfl rfl hB6 (a8_size rfl) rfl (gA_one _) ?_); intro w5 hB65 hS5; have hB25 := hB24.stays hS5 (by have := hB23.lt; omega); have hb05 : Below w.heap.size w w5 := hb03.trans ((hb4.mono (by have := hb03.size; omega)).trans (hS5.below (by have := hb03.size; omega))))
    | (with_reducible refine wpList_buildL rfl 31 _ rfl built_0 rfl ?_)
    | ((with_reducible refine wpList_storeAd rfl _ _ rfl rfl rfl hB25 ?_); intro w6 hB26 hS6))
  exact ret_adE Tryz.results76 rfl rfl hB26 rfl (CoPost.no Hno.out (hb05.trans (hS6.below (by omega))))

def CoRel (w : World) (l : List Nat) (g2 g8 k : Nat) (wr : World) : Prop := Bk wr g2 31 (adA ad0) ∧ Bk wr g8 31 (adA (adP l k)) ∧ Below w.heap.size w wr
set_option maxRecDepth 100000 in
set_option maxHeartbeats 2000000 in
theorem cparse_some (s : List UInt8) (w : World) (ht : Tab w) (hm : MaxI w) (hl : s.length ≤ 1000000000) (l : List Nat) (hp : plV (hdB 37 s) = some l) : Calls Tryz.prog 76 #[.string ⟨s.toArray⟩] w (CoPost w s) := by
  have Ht := Lib.hid ht
  have Hm := Lib.hid hm
  have Hp := Lib.hid hp
  have H8 := Lib.hid (plV_ok hp).1
  have Hlt := Lib.hid (plV_ok hp).2
  have q1 := hdB_len 37 s
  have q2 := tlB_len 37 s
  clear ht hm hp
  go_enter Tryz.func76, Tryz.ntmps76
  go_wp2_with (first
    | ((with_reducible refine wpList_allocAd (o := ⟨some 2, _, _, _, _, _⟩) rfl rfl ?_); intro g2 w1 hg hB2 hb1 hs; have hg2 : w.heap.size = g2 := hg.symm; clear hg hs)
    | (go_at_call 87; refine (cut_any 37 _ _ (by omega)).mono ?_; rintro ed w2 ⟨rfl, hb2⟩; rw [cutV_eq]; have hb02 := bel_tr hb1 hb2; have hB22 := hB2.bel hb2)
    | (go_at_call 88; refine (whole_any _ _ (Ht.out.below hb02) (Hm.out.below hb02) (by omega)).mono ?_; rintro ed w3 ⟨rfl, hb3⟩; rw [Hp.out]; unfold whV; have hb03 := bel_tr hb02 hb3; have hB23 := hB22.bel hb3)
    | ((with_reducible refine wpList_allocZ (o := ⟨some 6, _, _, _, _, _⟩) rfl _ rfl a8_zero ?_); intro g6 w4 hg hB6 hb4 hs; have hg6 : w3.heap.size = g6 := hg.symm; have hB24 := hB23.bel hb4; have hb04 := bel_tr hb03 hb4; clear hg hs)
    | ((with_reducible refine wpList_storeB (cells := gA l) rfl _ (.tmp 6) _ rfl rfl rfl hB6 (a8_size H8.out) ((gA_size (l := z8) rfl).trans (gA_size H8.out).symm) (gA_one _) ?_); intro w5 hB65 hS5; have hB25 := hB24.stays hS5 (by have := hB23.lt; omega); have hb05 : Below w.heap.size w w5 := hb03.trans ((hb4.mono (by have := hb03.size; omega)).trans (hS5.below (by have := hb03.size; omega))))
    | (with_reducible refine wpList_buildL rfl 31 _ rfl built_6 rfl ?_)
    | ((with_reducible refine wpList_allocAd (o := ⟨some 8, _, _, _, _, _⟩) rfl rfl ?_); intro g8 w6 hg hB8 hb6 hs; have hg8 : w5.heap.size = g8 := hg.symm; have hB26 := hB25.bel hb6; have hB66 := hB65.bel hb6; have hb06 := bel_tr hb05 hb6; clear hg hs)
    | ((with_reducible refine wpList_storeAd rfl (.tmp 8) _ rfl rfl rfl hB8 ?_); intro w7 hB87 hS7; have hB27 := hB26.stays hS7 (by have := hB25.lt; omega); have hB67 := hB66.stays hS7 (by have := hB65.lt; omega); have hb07 : Below w.heap.size w w7 := hb05.trans ((hb6.mono (by have := hb05.size; omega)).trans (hS7.below (by have := hb05.size; omega))))
    | (with_reducible refine wpList_loadB (o := ⟨some 28, _, _, _, _, _⟩) rfl _ _ rfl rfl hB67 a8_under rfl (a8_size H8.out) ?_))
  have R0 : CoRel w l g2 g8 0 w7 := ⟨hB27, hB87, hb07⟩
  have hlt28 : g2 < g8 := by have := hB25.lt; omega
  have hwg : w.heap.size ≤ g2 := by omega
  clear hB2 hB22 hB23 hB24 hB25 hB26 hB27 hB6 hB65 hB66 hB67 hB8 hB87 hb1 hb2 hb3 hb4 hb6 hb02 hb03 hb04 hb05 hb06 hb07 hS5 hS7
  go_loopw [29] (fun i wr => ∃ k : Nat, k ≤ 8 ∧ i = .int .i64 k ∧ CoRel w l g2 g8 k wr) (fun i _ => 8 - (intOf i).toNat)
  case atStart => exact ⟨0, by omega, rfl, R0⟩
  case round =>
    obtain ⟨k, hk, rfl, r2, r8, rb⟩ := hrel
    clear R0
    by_cases hlt : k < 8
    · have hkl : k < l.length := by rw [H8.out]; exact hlt
      have j1 : (k : Int) < 8 := by omega
      have hn := Hlt.out l[k] (List.getElem_mem hkl)
      have Hnx := Lib.hid (adP_next hkl)
      have c0 := r8.cell (2 * k + 1)
      have c1 := r8.cell (2 * k + 1 + 1)
      rw [adA_ip _ (by omega)] at c0 c1
      rw [show 2 * k + 1 = 1 + 2 * k by omega] at c0
      rw [show 2 * k + 1 + 1 = 1 + (2 * k + 1) by omega] at c1
      have f0 := r8.free (1 + 2 * k)
      have f1 := r8.free (1 + (2 * k + 1))
      have t0 : (2 * (k : Int)).toNat = 2 * k := by omega
      have t1 : (2 * (k : Int) + 1).toNat = 2 * k + 1 := by omega
      go_wp2_with (first
        | (with_reducible refine wpList_idx8 rfl _ _ rfl rfl rfl H8.out hkl ?_; generalize l[k] = n at *))
      go_roundw
      case rel =>
        refine ⟨k + 1, by omega, by go_num, ?_, ?_, (rb.setCell (show w.heap.size ≤ g8 by omega) _).setCell (show w.heap.size ≤ g8 by omega) _⟩
        · exact (r2.far (by show g2 ≠ g8; omega) _).far (by show g2 ≠ g8; omega) _
        · have e0 : ((UInt8.ofNat (n / 256)).toNat : Int) = (n : Int) / 256 := by rw [UInt8.toNat_ofNat_of_lt' (show n / 256 < 256 by omega)]; omega
          have e1 : ((UInt8.ofNat (n % 256)).toNat : Int) = (n : Int) % 256 := by rw [UInt8.toNat_ofNat_of_lt' (show n % 256 < 256 by omega)]; omega
          have h1 := r8.set_ (2 * k + 1) (.int .u8 ((UInt8.ofNat (n / 256)).toNat : Int))
          rw [adA_setB _ (by omega)] at h1
          have h2 := h1.set_ (2 * k + 1 + 1) (.int .u8 ((UInt8.ofNat (n % 256)).toNat : Int))
          rw [adA_setB _ (by omega), ← Hnx.out, e0, e1, show 2 * k + 1 + 1 = 1 + (2 * k + 1) by omega, show 2 * k + 1 = 1 + 2 * k by omega] at h2
          rw [show 2 * k + 1 = 1 + 2 * k by omega]
          exact h2
      case measure => simp [intOf]; omega
    · have hk8 : k = 8 := by omega
      subst hk8
      rw [adP_8 H8.out] at r8
      have hg2w : w.heap.size ≤ g2 := by omega
      cases hz : hasB 37 s with
      | false =>
        have Hfin := Lib.hid (colP_pln Hp.out hz)
        clear hz
        go_wp2_with (first
          | (with_reducible refine wpList_loadAd (o := ⟨some 50, _, _, _, _, _⟩) rfl _ rfl rfl r8 ?_)
          | ((with_reducible refine wpList_storeAd rfl _ _ rfl rfl rfl r2 ?_); intro wz hBz hSz))
        exact ret_adE Tryz.results76 rfl rfl hBz rfl (CoPost.yes Hfin.out (rb.trans (hSz.below hg2w)))
      | true =>
        rcases zo_cases (tlB 37 s) with ⟨hn, hzr⟩ | ⟨hn, hzr⟩ | ⟨hn, hzr⟩ | ⟨n, hn0, hn1, hn, hzr⟩
        case' inl => have hfin := colP_zbad Hp.out hz hzr
        case' inr.inl => have hfin := colP_zbad Hp.out hz hzr
        case' inr.inr.inl => have hfin := colP_zbad Hp.out hz hzr
        case' inr.inr.inr => have hfin := colP_zone Hp.out hz hzr (by omega)
        case inr.inr.inr =>
          have Hfin := Lib.hid hfin
          have Hn := Lib.hid hn
          have i0 : (n == 0) = false := by simp; omega
          have c7 := r8.cell 17
          rw [adA_17] at c7
          have f7 := r8.free 17
          have hX : Bk (wr.setCell ⟨g8, 17, none⟩ (.int .i64 n)) g8 31 (adA ((adG l).setZ n (by omega))) := by
            have := r8.set_ 17 (.int .i64 n)
            rw [adA_setZ _ _ (by omega)] at this
            exact this
          have hY : Bk (wr.setCell ⟨g8, 17, none⟩ (.int .i64 n)) g2 31 (adA ad0) := r2.far (by show g2 ≠ g8; omega) _
          have hby : Below w.heap.size w (wr.setCell ⟨g8, 17, none⟩ (.int .i64 n)) := rb.setCell (show w.heap.size ≤ g8 by omega) _
          clear hfin hn hz hzr
          go_wp2_with (first
            | (go_at_call 63; refine (number_any _ _ _ (by omega) (by omega) (by omega)).mono ?_; rintro ed w8 ⟨rfl, rfl⟩; rw [Hn.out])
            | (with_reducible refine wpList_loadAd (o := ⟨some 65, _, _, _, _, _⟩) rfl _ rfl rfl hX ?_)
            | ((with_reducible refine wpList_storeAd rfl _ _ rfl rfl rfl hY ?_); intro wz hBz hSz))
          exact ret_adE Tryz.results76 rfl rfl hBz rfl (CoPost.yes Hfin.out (hby.trans (hSz.below hg2w)))
        all_goals
          have Hfin := Lib.hid hfin
          have Hn := Lib.hid hn
          clear hfin hn hz hzr
          go_wp2_with (first
            | (go_at_call 63; refine (number_any _ _ _ (by omega) (by omega) (by omega)).mono ?_; rintro ed w8 ⟨rfl, rfl⟩; rw [Hn.out])
            | (with_reducible refine wpList_buildL rfl 31 _ rfl built_0 rfl ?_)
            | ((with_reducible refine wpList_storeAd rfl _ _ rfl rfl rfl r2 ?_); intro wz hBz hSz))
          exact ret_adE Tryz.results76 rfl rfl hBz rfl (CoPost.no Hfin.out (rb.trans (hSz.below hg2w)))

theorem cparse_any (s : List UInt8) (w : World) (ht : Tab w) (hm : MaxI w) (hl : s.length ≤ 1000000000) : Calls Tryz.prog 76 #[.string ⟨s.toArray⟩] w (CoPost w s) := by
  cases hp : plV (hdB 37 s) with
  | none => exact cparse_no s w ht hm hl hp
  | some l => exact cparse_some s w ht hm hl l hp
end Go.Proofs.YtgebcifkbldfoaaGreatDoor

/- The contract of the reference's plain (8). -/
namespace Go.Proofs.YtgebcifkbldfoaaGreatDoor
open Go.RowKit
attribute [local go_sem] ba_get ext_take ext_drop ext_any ba_app

theorem ddx_short {s : List UInt8} (h : s.length < 2) : ddx s = none := by
  match s, h with
  | [], _ => rfl
  | [_], _ => rfl
theorem ddx_miss {s : List UInt8} {i : Nat} (h : i + 1 < s.length) (he : (s.take (i + 2)).drop i ≠ [58, 58]) : ddx (s.drop i) = (ddx (s.drop (i + 1))).map (· + 1) := by
  have e : (s.take (i + 2)).drop i = [s[i], s[i + 1]] := by
    rw [List.drop_take, show i + 2 - i = 2 by omega, List.drop_eq_getElem_cons (by omega), List.drop_eq_getElem_cons h]
    rfl
  rw [e] at he
  rw [List.drop_eq_getElem_cons (by omega), List.drop_eq_getElem_cons h, ddx, if_neg]
  rintro ⟨h1, h2⟩
  exact he (by rw [h1, h2])
/-- what is known at place i, nothing having been found ahead of it. -/
def DdN (s : List UInt8) (i : Nat) : Prop := ddx s = (ddx (s.drop i)).map (· + i)
theorem DdN.zero (s : List UInt8) : DdN s 0 := by unfold DdN; rw [List.drop_zero]; cases ddx s <;> rfl
theorem DdN.next {s : List UInt8} {i : Nat} (h0 : DdN s i) (h : i + 1 < s.length) (he : (s.take (i + 2)).drop i ≠ [58, 58]) : DdN s (i + 1) := by
  unfold DdN at h0 ⊢
  rw [h0, ddx_miss h he]
  cases ddx (s.drop (i + 1)) with
  | none => rfl
  | some k => show some (k + 1 + i) = some (k + (i + 1)); congr 1; omega
theorem DdN.done {s : List UInt8} {i : Nat} (h0 : DdN s i) (h : s.length ≤ i + 1) : ddx s = none := by
  unfold DdN at h0
  rw [h0, ddx_short (by rw [List.length_drop]; omega)]
  rfl
def PlPost (w : World) (s : List UInt8) (e : Ending) (w' : World) : Prop := e = .returned (match plV s with | some l => .tuple #[.agg (adA (adG l)), .bool true] | none => .tuple #[.agg (adA ad0), .bool false]) ∧ Below w.heap.size w w'

theorem PlPost.no {w w' : World} {s : List UInt8} (h : plV s = none) (hb : Below w.heap.size w w') : PlPost w s (.returned (.tuple #[.agg (adA ad0), .bool false])) w' := ⟨by rw [h], hb⟩
theorem PlPost.yes {w w' : World} {s : List UInt8} {l : List Nat} (h : plV s = some l) (hb : Below w.heap.size w w') : PlPost w s (.returned (.tuple #[.agg (adA (adG l)), .bool true])) w' := ⟨by rw [h], hb⟩
def ApRel (w4 : World) (x : List Nat) (m : Nat) (v : Value) (wr : World) : Prop := wr.ownsRow w4.heap.size 3 1 v (x.length + m) ((x ++ List.replicate m 0).map nv) ∧ Below w4.heap.size w4 wr
theorem ApRel.next {w4 wr : World} {x : List Nat} {m : Nat} {v : Value} (h : wr.ownsRow w4.heap.size 3 1 v (x.length + m + 1) ((x ++ List.replicate m 0).map nv ++ [.int .i64 0])) (hb : Below w4.heap.size w4 wr) : ApRel w4 x (m + 1) v wr := by
  refine ⟨?_, hb⟩
  rw [List.replicate_succ', ← List.append_assoc, List.map_append]
  exact h
end Go.Proofs.YtgebcifkbldfoaaGreatDoor
