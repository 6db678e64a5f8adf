/- Contracts and plain lemmas of our own, merged. -/
import Derived.Test.YtgebcifkbldfoaaDoorZHP11
import Derived.Test.YtgebcifkbldfoaaDoorZHP21
import Derived.Test.YtgebcifkbldfoaaDoorZHP22
/- The reference's All (16): the lines with fields, with their numbers. -/
namespace Go.Proofs.YtgebcifkbldfoaaDoor
open Go.RowKit
attribute [local go_sem] ba_get ext_take ext_drop ext_any

/-- a line: its number, its fields. -/
abbrev LnT := Nat × List (List UInt8)
def lnC (q : Value × LnT) : List Value := [.int .i64 (q.2.1 : Int), q.1]
theorem lnC_len (q : Value × LnT) : (lnC q).length = 2 := rfl
theorem lnC_one (q : Value × LnT) (h : q.1.oneCell' = true := by rfl) : ∀ u ∈ lnC q, u.oneCell' = true := by
  intro u hu
  unfold lnC at hu
  simp only [List.mem_cons, List.not_mem_nil, or_false] at hu
  rcases hu with rfl | rfl
  · rfl
  · exact h
theorem elt_lns : Elt Tryd.prog 99 102 2 32 := Elt.mk' (z := .agg #[.int .i64 0, .slice none 0 0]) Tryd.underlying99 (by kernel_rfl) (by kernel_rfl) (by decide)
/-- lines in a row of the call's own. -/
structure LnsOwn (b : Nat) (w : World) (v : Value) (X : List (Value × LnT)) : Prop where
  own : w.ownsRow b 102 2 v X.length (X.flatMap lnC)
  ok : ∀ q ∈ X, SlB b 9 w 1 q.1 q.2.2.length (q.2.2.map stv)
theorem LnsOwn.nil (b : Nat) (w : World) : LnsOwn b w (.slice none 0 0) [] := ⟨by simpa using World.ownsRow_nil w b 102 2, fun _ h => (by cases h)⟩
theorem LnsOwn.bel {b : Nat} {w w' : World} {v : Value} {X : List (Value × LnT)} (h : LnsOwn b w v X) (hb : Below w.heap.size w w') : LnsOwn b w' v X := ⟨own_below h.own hb, fun q hq => (h.ok q hq).bel hb⟩
theorem LnsOwn.add {b : Nat} {w w' : World} {v v' : Value} {X : List (Value × LnT)} {q : Value × LnT} (h : LnsOwn b w v X) (hx : SlB b 9 w 1 q.1 q.2.2.length (q.2.2.map stv)) (ho : w'.ownsRow b 102 2 v' (X.length + 1) (X.flatMap lnC ++ lnC q)) (hg : w.grownBy w' v.ownBlock) : LnsOwn b w' v' (X ++ [q]) := by
  refine ⟨?_, fun r hr => ?_⟩
  · rw [List.length_append, List.flatMap_append]
    simpa using ho
  · rcases List.mem_append.1 hr with hr | hr
    · exact (h.ok r hr).grown h.own (by decide) hg
    · rw [List.mem_singleton.1 hr]; exact hx.grown h.own (by decide) hg
/-- lines of a row, with fields. -/
def alD (any : Bool) (D : List (List UInt8)) : List LnT := ((numL D).map fun c => (c.1, lnF any c.2)).filter alP
theorem alL_D (any : Bool) (s : List UInt8) : alL any s = alD any (linL s) := rfl
theorem alD_snoc (any : Bool) (D : List (List UInt8)) (x : List UInt8) : alD any (D ++ [x]) = alD any D ++ (if lnF any x = [] then [] else [(D.length + 1, lnF any x)]) := by
  unfold alD numL
  rw [List.mapIdx_append, List.map_append, List.filter_append]
  congr 1
  by_cases h : lnF any x = [] <;> simp [alP, h]
structure LaRel (w : World) (any : Bool) (s : List UInt8) (i fr : Nat) (v : Value) (D : List (List UInt8)) (X : List (Value × LnT)) (wr : World) : Prop where
  own : LnsOwn w.heap.size wr v X
  is : X.map (·.2) = alD any D
  b : Below w.heap.size w wr
  hfr : fr ≤ i
  le : i ≤ s.length + 1
  few : D.length ≤ i
  at_ : (i ≤ s.length → linL s = D ++ spB 10 ((s.take i).drop fr) (s.drop i))
  fin : (i = s.length + 1 → linL s = D)
theorem spB_goL {s : List UInt8} {i fr : Nat} (hi : i < s.length) (hf : fr ≤ i) (h : s[i] ≠ 10) : spB 10 ((s.take i).drop fr) (s.drop i) = spB 10 ((s.take (i + 1)).drop fr) (s.drop (i + 1)) := by
  rw [List.drop_eq_getElem_cons hi, spB, if_neg h, List.take_succ_eq_append_getElem hi, List.drop_append_of_le_length (by rw [List.length_take]; omega)]
theorem spB_cutL {s : List UInt8} {i fr : Nat} (hi : i < s.length) (h : s[i] = 10) : spB 10 ((s.take i).drop fr) (s.drop i) = ((s.take i).drop fr) :: spB 10 ((s.take (i + 1)).drop (i + 1)) (s.drop (i + 1)) := by
  have h0 : (s.take (i + 1)).drop (i + 1) = [] := List.drop_eq_nil_of_le (by rw [List.length_take]; omega)
  rw [List.drop_eq_getElem_cons hi, spB, if_pos h, h0]
theorem spB_endL {s : List UInt8} {i fr : Nat} (hi : i = s.length) : spB 10 ((s.take i).drop fr) (s.drop i) = [(s.take i).drop fr] := by
  have h0 : s.drop i = [] := List.drop_eq_nil_of_le (by omega)
  rw [h0, spB]
def LnsPost (w : World) (S : List LnT) (e : Ending) (w' : World) : Prop := ∃ v X, e = .returned v ∧ LnsOwn w.heap.size w' v X ∧ X.map (·.2) = S ∧ Below w.heap.size w w'
set_option maxRecDepth 100000 in
set_option maxHeartbeats 4000000 in
theorem rall_any (any : Bool) (s : List UInt8) (w : World) (hl : s.length ≤ 100000) : Calls Tryd.prog 61 #[.string ⟨s.toArray⟩, .bool any] w (LnsPost w (alL any s)) := by
  rw [alL_D]
  go_enter Tryd.func61, Tryd.ntmps61
  go_wp2
  go_loopw [5, 6, 7, 8] (fun ov fv nv iv wr => ∃ (i fr : Nat) (D : List (List UInt8)) (X : List (Value × LnT)), fv = .int .i64 fr ∧ nv = .int .i64 ((D.length : Int) + 1) ∧ iv = .int .i64 i ∧ LaRel w any s i fr ov D X wr) (fun _ _ _ iv _ => s.length + 1 - (intOf iv).toNat)
  case atStart => exact ⟨0, 0, [], [], rfl, rfl, rfl, LnsOwn.nil _ _, rfl, Below.refl _ _, Nat.le_refl _, Nat.zero_le _, Nat.le_refl _, fun _ => rfl, fun h => by omega⟩
  case round =>
    obtain ⟨i, fr, D, X, rfl, rfl, rfl, rel⟩ := hrel
    obtain ⟨A, cp, rfl⟩ := own_any rel.own.own
    have hle := rel.le
    have hfi := rel.hfr
    have hfew := rel.few
    have hXl : X.length ≤ D.length := by
      have h := congrArg List.length rel.is
      rw [List.length_map] at h
      have h2 : (alD any D).length ≤ D.length := by
        refine Nat.le_trans (List.length_filter_le _ _) ?_
        rw [List.length_map, numL_len]
        exact Nat.le_refl _
      omega
    have Rel := Lib.hid rel
    clear rel
    by_cases hlt : i < s.length
    · have i1 : (i : Int) < (s.length : Int) := by omega
      by_cases h10 : s[i] = 10
      · have i2 : (((s[i].toNat : Nat) : Int) != 10) = false := by rw [h10] <;> rfl
        obtain ⟨t, ht⟩ : ∃ t, (s.take i).drop fr = t := ⟨_, rfl⟩
        have htl : t.length ≤ 1000000000 := by rw [← ht, List.length_drop, List.length_take]; omega
        have hcut : i + 1 ≤ s.length → linL s = (D ++ [t]) ++ spB 10 ((s.take (i + 1)).drop (i + 1)) (s.drop (i + 1)) := fun _ => by rw [Rel.out.at_ (by omega), spB_cutL hlt h10, ht]; simp
        have Hcut := Lib.hid hcut
        have hext : (ByteArray.mk s.toArray).extract fr i = ⟨t.toArray⟩ := by rw [ext_any, ht]
        clear h10 hcut
        by_cases hE : lnF any t = []
        · have HX := Lib.hid (rlnf_any any t wr htl)
          rw [hE] at HX
          have HD : Hid (alD any (D ++ [t]) = alD any D) := Lib.hid (by rw [alD_snoc, if_pos hE, List.append_nil])
          clear hE ht
          go_wp2_with (first
            | (go_at_call 27; refine HX.out.mono ?_; rintro e w3 ⟨v3, rfl, ho3, hb3⟩; obtain ⟨A3, q3, rfl⟩ := own_any ho3; have Hb3 := Lib.hid hb3; clear ho3 hb3))
          go_roundw
          case rel => exact ⟨i + 1, i + 1, D ++ [t], X, by go_num, by rw [List.length_append, List.length_singleton]; go_num, by go_num, Rel.out.own.bel Hb3.out, by rw [HD.out]; exact Rel.out.is, Rel.out.b.trans (Hb3.out.mono Rel.out.b.size), by omega, by omega, by rw [List.length_append, List.length_singleton]; omega, Hcut.out, fun h => by omega⟩
          case measure => (simp [intOf]) <;> omega
        · have HX := Lib.hid (rlnf_any any t wr htl)
          have hFl := (lnF_bd any t).1
          obtain ⟨F, hF⟩ : ∃ F, F = lnF any t := ⟨_, rfl⟩
          rw [← hF] at HX hE hFl
          have HD : Hid (alD any (D ++ [t]) = alD any D ++ [(D.length + 1, F)]) := Lib.hid (by rw [alD_snoc, ← hF, if_neg hE])
          have f0 : (0 : Int) < (F.length : Int) := by have := List.length_pos_iff.2 hE; omega
          clear hE ht hF
          go_wp2_with (first
            | (go_at_call 27; refine HX.out.mono ?_; rintro e w3 ⟨v3, rfl, ho3, hb3⟩; obtain ⟨A3, q3, rfl⟩ := own_any ho3; have Hb3 := Lib.hid hb3; have Ho3 := Lib.hid ho3; clear ho3 hb3)
            | ((with_reducible show wpList _ _ _ (⟨some 39, _, _, _, _, _⟩ :: _) _ _); refine wpList_lit (o := ⟨some 39, _, _, _, _, _⟩) rfl _ _ rfl elt_lns [.agg #[.int .i64 ((D.length : Int) + 1), .slice A3 F.length q3]] rfl (by decide) (by decide) (fun v hv => by rw [List.mem_singleton.1 hv]; rfl) rfl ?_; intro w8 hB8 hx8 hb8 hs8; clear hx8 hs8; have hB8 := bk_list (l := lnC (.slice A3 F.length q3, (D.length + 1, F))) hB8 rfl)
            | (at_builtin; refine wpList_app rfl (.tmp 35) (.tmp 39) _ rfl elt_lns rfl (own_below (own_below Rel.out.own.own Hb3.out) hb8) rfl (hB8.sl (size := 2) (n := 1) rfl 1 (Nat.le_refl _)) (lnC_one _) (Nat.le_trans Rel.out.b.size (Nat.le_trans Hb3.out.size hb8.size)) (by omega) (by omega) ?_; intro v9 w9 ho9 hb9 hg9))
          have hadd := ((Rel.out.own.bel Hb3.out).bel hb8).add (q := (Value.slice A3 F.length q3, (D.length + 1, F))) ((SlB.own Ho3.out).bel hb8) ho9 hg9
          have hbel := ((Rel.out.b.trans (Hb3.out.mono Rel.out.b.size)).trans (hb8.mono (Nat.le_trans Rel.out.b.size Hb3.out.size))).trans hb9
          have Hadd := Lib.hid hadd
          have Hbel := Lib.hid hbel
          clear hadd hbel ho9 hb9 hg9 hb8 hB8
          go_roundw
          case rel => exact ⟨i + 1, i + 1, D ++ [t], X ++ [(Value.slice A3 F.length q3, (D.length + 1, F))], by go_num, by rw [List.length_append, List.length_singleton]; go_num, by go_num, Hadd.out, by rw [HD.out, List.map_append, Rel.out.is]; rfl, Hbel.out, by omega, by omega, by rw [List.length_append, List.length_singleton]; omega, Hcut.out, fun h => by omega⟩
          case measure => (simp [intOf]) <;> omega
      · have i2 : (((s[i].toNat : Nat) : Int) != 10) = true := by
          rw [bne_iff_ne]
          intro h
          exact h10 (UInt8.toNat.inj (by have : (10 : UInt8).toNat = 10 := rfl; omega))
        have H10 := Lib.hid h10
        clear h10
        go_wp2
        go_roundw
        case rel =>
          refine ⟨i + 1, fr, D, X, rfl, rfl, by go_num, Rel.out.own, Rel.out.is, Rel.out.b, by omega, by omega, by omega, fun _ => ?_, fun h => by omega⟩
          rw [Rel.out.at_ (by omega), spB_goL hlt hfi H10.out]
        case measure => (simp [intOf]) <;> omega
    · have hi : i = s.length ∨ i = s.length + 1 := by omega
      rcases hi with hi | hi
      · subst hi
        have i1 : ¬ (s.length : Int) < (s.length : Int) := by omega
        have i0 : (s.length : Int) ≤ (s.length : Int) := by omega
        obtain ⟨t, ht⟩ : ∃ t, s.drop fr = t := ⟨_, rfl⟩
        have htl : t.length ≤ 1000000000 := by rw [← ht, List.length_drop]; omega
        have Hcut : Hid (linL s = D ++ [t]) := Lib.hid (by rw [Rel.out.at_ (by omega), spB_endL rfl, List.take_length, ht])
        have hext : (ByteArray.mk s.toArray).extract fr s.length = ⟨t.toArray⟩ := by rw [ext_any, List.take_length, ht]
        by_cases hE : lnF any t = []
        · have HX := Lib.hid (rlnf_any any t wr htl)
          rw [hE] at HX
          have HD : Hid (alD any (D ++ [t]) = alD any D) := Lib.hid (by rw [alD_snoc, if_pos hE, List.append_nil])
          clear hE ht
          go_wp2_with (first
            | (go_at_call 27; refine HX.out.mono ?_; rintro e w3 ⟨v3, rfl, ho3, hb3⟩; obtain ⟨A3, q3, rfl⟩ := own_any ho3; have Hb3 := Lib.hid hb3; clear ho3 hb3))
          go_roundw
          case rel => exact ⟨s.length + 1, s.length + 1, D ++ [t], X, by go_num, by rw [List.length_append, List.length_singleton]; go_num, by go_num, Rel.out.own.bel Hb3.out, by rw [HD.out]; exact Rel.out.is, Rel.out.b.trans (Hb3.out.mono Rel.out.b.size), by omega, by omega, by rw [List.length_append, List.length_singleton]; omega, fun h => by omega, fun _ => Hcut.out⟩
          case measure => (simp [intOf]) <;> omega
        · have HX := Lib.hid (rlnf_any any t wr htl)
          have hFl := (lnF_bd any t).1
          obtain ⟨F, hF⟩ : ∃ F, F = lnF any t := ⟨_, rfl⟩
          rw [← hF] at HX hE hFl
          have HD : Hid (alD any (D ++ [t]) = alD any D ++ [(D.length + 1, F)]) := Lib.hid (by rw [alD_snoc, ← hF, if_neg hE])
          have f0 : (0 : Int) < (F.length : Int) := by have := List.length_pos_iff.2 hE; omega
          clear hE ht hF
          go_wp2_with (first
            | (go_at_call 27; refine HX.out.mono ?_; rintro e w3 ⟨v3, rfl, ho3, hb3⟩; obtain ⟨A3, q3, rfl⟩ := own_any ho3; have Hb3 := Lib.hid hb3; have Ho3 := Lib.hid ho3; clear ho3 hb3)
            | ((with_reducible show wpList _ _ _ (⟨some 39, _, _, _, _, _⟩ :: _) _ _); refine wpList_lit (o := ⟨some 39, _, _, _, _, _⟩) rfl _ _ rfl elt_lns [.agg #[.int .i64 ((D.length : Int) + 1), .slice A3 F.length q3]] rfl (by decide) (by decide) (fun v hv => by rw [List.mem_singleton.1 hv]; rfl) rfl ?_; intro w8 hB8 hx8 hb8 hs8; clear hx8 hs8; have hB8 := bk_list (l := lnC (.slice A3 F.length q3, (D.length + 1, F))) hB8 rfl)
            | (at_builtin; refine wpList_app rfl (.tmp 35) (.tmp 39) _ rfl elt_lns rfl (own_below (own_below Rel.out.own.own Hb3.out) hb8) rfl (hB8.sl (size := 2) (n := 1) rfl 1 (Nat.le_refl _)) (lnC_one _) (Nat.le_trans Rel.out.b.size (Nat.le_trans Hb3.out.size hb8.size)) (by omega) (by omega) ?_; intro v9 w9 ho9 hb9 hg9))
          have hadd := ((Rel.out.own.bel Hb3.out).bel hb8).add (q := (Value.slice A3 F.length q3, (D.length + 1, F))) ((SlB.own Ho3.out).bel hb8) ho9 hg9
          have hbel := ((Rel.out.b.trans (Hb3.out.mono Rel.out.b.size)).trans (hb8.mono (Nat.le_trans Rel.out.b.size Hb3.out.size))).trans hb9
          have Hadd := Lib.hid hadd
          have Hbel := Lib.hid hbel
          clear hadd hbel ho9 hb9 hg9 hb8 hB8
          go_roundw
          case rel => exact ⟨s.length + 1, s.length + 1, D ++ [t], X ++ [(Value.slice A3 F.length q3, (D.length + 1, F))], by go_num, by rw [List.length_append, List.length_singleton]; go_num, by go_num, Hadd.out, by rw [HD.out, List.map_append, Rel.out.is]; rfl, Hbel.out, by omega, by omega, by rw [List.length_append, List.length_singleton]; omega, fun h => by omega, fun _ => Hcut.out⟩
          case measure => (simp [intOf]) <;> omega
      · have i0 : ¬ (i : Int) ≤ (s.length : Int) := by omega
        have Hfin : Hid (X.map (·.2) = alD any (linL s)) := Lib.hid (by rw [Rel.out.is, Rel.out.fin hi])
        go_wp2
        go_ret
        exact ⟨_, X, rfl, Rel.out.own, Hfin.out, Rel.out.b⟩
end Go.Proofs.YtgebcifkbldfoaaDoor
