/- Contracts and plain lemmas of our own, merged. -/
import Derived.Test.YtebfgaapcpehmaaZPT10
import Derived.Test.YtebfgaapcpehmaaZPT5
import Derived.Test.YtebfgaapcpehmaaZPT9
import Derived.Great.BuildSlice
/- Rows of structs: reading a member, a literal of one member; setup.left at addresses. -/
namespace Go.Proofs.Ytebfgaapcpehmaa
open Go.RowKit

/-- members of one size, side by side. -/
theorem flat_at {α β : Type} {f : α → List β} {s : Nat} (hs : ∀ a, (f a).length = s) : ∀ (L : List α) (k : Nat) (hk : k < L.length) (j : Nat), j < s → (L.flatMap f)[k * s + j]? = (f L[k])[j]?
  | x :: L, 0, _, j, hj => by
    rw [List.flatMap_cons, List.getElem?_append_left (by rw [hs]; omega)]
    simp
  | x :: L, k + 1, hk, j, hj => by
    have e : (k + 1) * s + j = s + (k * s + j) := by rw [Nat.add_mul]; omega
    rw [List.flatMap_cons, e, List.getElem?_append_right (by rw [hs]; omega), hs]
    have e2 : s + (k * s + j) - s = k * s + j := by omega
    rw [e2, flat_at hs L k (by simpa using hk) j hj]
    simp
theorem flat_len {α β : Type} {f : α → List β} {s : Nat} (hs : ∀ a, (f a).length = s) (L : List α) : (L.flatMap f).length = L.length * s := by
  induction L with
  | nil => simp
  | cons x L ih => rw [List.flatMap_cons, List.length_append, hs, ih, List.length_cons, Nat.add_mul]; omega
theorem range_of {w : World} {α : Type} {f : α → List Value} {s : Nat} (hs : ∀ a, (f a).length = s) {L : List α} {b off : Nat} (hc : ∀ j u, (L.flatMap f)[j]? = some u → w.cell? ⟨b, off + j, none⟩ = some u) {k : Nat} (hk : k < L.length) : w.rangeAt b (off + k * s) (f L[k]) := fun j v hv => by
  have hj : j < s := by have := (List.getElem?_eq_some_iff.1 hv).1; rw [hs] at this; exact this
  have := hc (k * s + j) v ((flat_at hs L k hk j hj).trans hv)
  rwa [← Nat.add_assoc] at this
theorem flat_one {α : Type} {f : α → List Value} (h1 : ∀ a, ∀ v ∈ f a, v.oneCell' = true) (L : List α) : ∀ u ∈ L.flatMap f, u.oneCell' = true := by
  intro u hu
  obtain ⟨a, _, ha⟩ := List.mem_flatMap.1 hu
  exact h1 a u ha
/-- a slice literal of members that are aggregates of one size. -/
theorem wpList_lit {P : Program} {ops : Array Oper} {rest : List Oper} {o : Oper} {a : Act} {w : World} {Q : Exit → Act → World → Prop} (hg : o.guard = none) (t : TypeId) (parts : Array (Nat × Operand)) {len : Nat} (ho : o.op = .buildSlice t len parts)
    {e : TypeId} {size bytes : Nat} (el : Elt P t e size bytes) (vs : List Value) (hlen : vs.length = len) (hpos : 0 < len) (hsm : len * size ≤ 16777216) (hv : ∀ v ∈ vs, v.cells.size = size)
    (hp : parts.toList.map (fun p => (p.1, a.eval p.2)) = (vs.zipIdx 0).map fun x => (x.2, x.1))
    (h : ∀ w', Bk w' w.heap.size e (vs.flatMap fun v => v.cells.toList).toArray → w'.ownsRow w.heap.size e size (.slice (some ⟨w.heap.size, 0, none⟩) len len) len (vs.flatMap fun v => v.cells.toList) → Below w.heap.size w w' → w'.heap.size = w.heap.size + 1 →
      wpList P ops Q rest (a.put o.dst (.slice (some ⟨w.heap.size, 0, none⟩) len len)) w') : wpList P ops Q (o :: rest) a w := by
  obtain ⟨i, z, hi, hz, hz1, hz2, hz3⟩ := el.info
  have hps := Nat.mul_pos hpos el.pos
  have hfl : (vs.flatMap fun v => v.cells.toList).length = len * size := by
    rw [← hlen]
    clear hp h hsm hps hlen
    induction vs with
    | nil => simp
    | cons x l ih =>
      rw [List.flatMap_cons, List.length_append, ih (fun v hv' => hv v (List.mem_cons_of_mem _ hv')), List.length_cons, Nat.add_mul, Array.length_toList, hv x (by simp)]
      omega
  refine wpList_buildSlice hg t e len parts ho (vs.flatMap fun v => v.cells.toList).toArray i z el.under hi hz (by rw [hz1]; omega) (by rw [hz1]; omega) ?_ (h _ (Bk.new _ _ _) ?_ ((Below.refl _ _).alloc (Nat.le_refl _) _) (by simp))
  · rw [hz1, Array.toList_map]
    have e2 : (parts.toList.map fun x => match x with | (i, x) => (i, a.eval x)) = (vs.zipIdx 0).map fun x => (x.2, x.1) := hp
    rw [e2]
    exact Great.fill_whole el.pos vs _ hv (by simp [hlen])
  · have := World.ownsRow_lit (base := w.heap.size) (e := e) (size := size) w (vs.flatMap fun v => v.cells.toList).toArray len (Nat.le_refl _) (by have := Nat.le_mul_of_pos_right len el.pos; unfold maxLen; omega) (by rw [List.size_toArray]; exact hfl)
    simpa using this
theorem bk_list {w : World} {g : Nat} {e : TypeId} {l : List Value} {cs : Array Value} (h : Bk w g e ([Value.agg cs].flatMap fun v => v.cells.toList).toArray) (hc : cs.toList = l) : Bk w g e l.toArray := by
  subst hc
  simpa [Value.cells] using h

theorem elt_ads : Elt Try.prog 22 40 18 32 := Elt.mk' (z := .agg (adA ad0)) Try.underlying22 (by kernel_rfl) (by kernel_rfl) (by decide)
theorem elt_pfs : Elt Try.prog 24 67 19 40 := Elt.mk' (z := .agg (pfA ⟨ad0, 0, by decide⟩)) Try.underlying24 (by kernel_rfl) (by kernel_rfl) (by decide)
theorem elt_nms : Elt Try.prog 23 55 1 24 := Elt.mk' (z := .slice none 0 0) Try.underlying23 (by kernel_rfl) (by kernel_rfl) (by decide)
end Go.Proofs.Ytebfgaapcpehmaa

/- setup.left at addresses, prefixes and names, with the functions that it is handed. -/
namespace Go.Proofs.Ytebfgaapcpehmaa
open Go.RowKit

/-- the first members that may be. -/
def leftL {α : Type} (p : α → Bool) (most : Nat) (L : List α) : List α := (L.filter p).take most
theorem leftL_stop {α : Type} {p : α → Bool} {most k : Nat} {L : List α} (h : most ≤ ((L.take k).filter p).length) : leftL p most L = ((L.take k).filter p).take most := by
  unfold leftL
  conv => lhs; rw [← List.take_append_drop k L, List.filter_append, List.take_append_of_le_length h]
theorem filter_next {α : Type} {p : α → Bool} {L : List α} {k : Nat} (h : k < L.length) : (L.take (k + 1)).filter p = (L.take k).filter p ++ if p L[k] = true then [L[k]] else [] := by
  rw [List.take_succ_eq_append_getElem h, List.filter_append]
  by_cases hp : p L[k] = true
  · rw [if_pos hp]; simp [hp]
  · rw [if_neg hp]; simp [hp]
def okA (a : Ad) : Bool := chkA a == 0
def okP (p : Pf) : Bool := chkP p == 0
def okN (A : List (List UInt8)) : Bool := decide (0 < A.length) && (chk A == 0)

set_option maxRecDepth 100000 in
set_option maxHeartbeats 400000 in
theorem mayServer_any (a : Ad) (w : World) : Calls Try.prog 43 #[.agg (adA a)] w fun e w' => e = .returned (.bool (okA a)) ∧ Below w.heap.size w w' := by
  go_enter Try.func43, Try.ntmps43
  go_wp2_with (first
    | ((with_reducible refine wpList_boxB rfl _ _ rfl rfl ?_); intro g w1 hg hB hb hs; clear hg hs)
    | ((with_reducible refine wpList_loadAd rfl _ rfl rfl hB ?_))
    | (go_at_call 59; refine (acheck_any _ _).mono ?_; rintro e w2 ⟨rfl, hb2⟩))
  go_ret
  exact ⟨rfl, bel_tr hb hb2⟩
theorem pf_under : Try.prog.underlying 67 = some (.struct (Try.prog.fieldsOf 67)) := by kernel_rfl
theorem pf_size : (Try.prog.info? 67).map (·.size) = some 19 := by kernel_rfl
theorem pfA_one (p : Pf) : (pfA p).all (·.oneCell') = true := all_oneCell_toArray (pfL_one p)
theorem wpList_loadPf {w : World} {ops : Array Oper} {rest : List Oper} {o : Oper} {a : Act} {Q : Exit → Act → World → Prop} (hgd : o.guard = none) (x : Operand) (ho : o.op = .load 67 x) {g : Nat} (hx : a.eval x = .pointer (some ⟨g, 0, none⟩))
    {t : TypeId} {b : Pf} (hB : Bk w g t (pfA b)) (h : wpList Try.prog ops Q rest (a.put o.dst (.agg (pfA b))) w) : wpList Try.prog ops Q (o :: rest) a w :=
  wpList_loadB hgd _ x ho hx hB pf_under rfl (by rw [pfA_size]; exact pf_size) h
theorem wpList_storePf {w : World} {ops : Array Oper} {rest : List Oper} {o : Oper} {a : Act} {Q : Exit → Act → World → Prop} (hgd : o.guard = none) (x y : Operand) (ho : o.op = .store 67 x y) {g : Nat} {b c : Pf} (hx : a.eval x = .pointer (some ⟨g, 0, none⟩)) (hy : a.eval y = .agg (pfA b))
    {t : TypeId} (hB : Bk w g t (pfA c)) (h : ∀ w', Bk w' g t (pfA b) → Stays g w w' → wpList Try.prog ops Q rest (a.put o.dst undef) w') : wpList Try.prog ops Q (o :: rest) a w :=
  wpList_storeB hgd _ x y ho hx hy hB (by rw [pfA_size]; exact pf_size) (by rw [pfA_size, pfA_size]) (pfA_one b) h
theorem wpList_loadPfM {w : World} {ops : Array Oper} {rest : List Oper} {o : Oper} {a : Act} {Q : Exit → Act → World → Prop} (hgd : o.guard = none) (x : Operand) (ho : o.op = .load 67 x) {g off : Nat} (hx : a.eval x = .pointer (some ⟨g, off, none⟩))
    {b : Pf} (hB : w.rangeAt g off (pfL b)) (h : wpList Try.prog ops Q rest (a.put o.dst (.agg (pfA b))) w) : wpList Try.prog ops Q (o :: rest) a w :=
  wpList_load_mid hgd _ x ho g off hx (pfL b) _ hB pf_under rfl (by rw [pfL_len]; exact pf_size) h
def pf0 : Pf := ⟨ad0, 0, by decide⟩
theorem pf_zero : ZeroIs Try.prog 67 (pfA pf0) := by unfold ZeroIs; kernel_rfl

set_option maxRecDepth 100000 in
set_option maxHeartbeats 400000 in
theorem mayPrefix_any (a : Pf) (w : World) : Calls Try.prog 48 #[.agg (pfA a)] w fun e w' => e = .returned (.bool (okP a)) ∧ Below w.heap.size w w' := by
  go_enter Try.func48, Try.ntmps48
  go_wp2_with (first
    | ((with_reducible refine wpList_boxB rfl _ _ rfl rfl ?_); intro g w1 hg hB hb hs; clear hg hs)
    | ((with_reducible refine wpList_loadPf rfl _ rfl rfl hB ?_))
    | (go_at_call 60; refine (holds_any _ _).mono ?_; rintro e w2 ⟨rfl, hb2⟩))
  go_ret
  exact ⟨rfl, bel_tr hb hb2⟩
set_option maxRecDepth 100000 in
set_option maxHeartbeats 400000 in
theorem mayName_any (A : List (List UInt8)) (v : Value) (w : World) (h : Sl w 1 v A.length (A.map stv)) (hA : A.length ≤ 1000000000) (hl : ∀ l ∈ A, l.length ≤ 140737488351232) : Calls Try.prog 46 #[v] w fun e w' => e = .returned (.bool (okN A)) ∧ w = w' := by
  obtain ⟨a1, c1, hv1, hc1⟩ := h.any
  subst hv1
  have H := Lib.hid h
  have Hl := Lib.hid hl
  clear h hl
  by_cases h0 : 0 < A.length
  · have i0 : (0 : Int) < (A.length : Int) := by omega
    have ho : okN A = (chk A == 0) := by unfold okN; simp [h0]
    have Ho := Lib.hid ho
    clear ho
    go_enter Try.func46, Try.ntmps46
    go_wp2_with (go_at_call 56; refine (check_any A _ _ H.out hA Hl.out).mono ?_; rintro e w' ⟨rfl, rfl⟩)
    go_ret
    exact ⟨retb Ho.out.symm, rfl⟩
  · have ho : okN A = false := by unfold okN; simp [h0]
    have Ho := Lib.hid ho
    clear ho
    have i0 : ¬ (0 : Int) < (A.length : Int) := by omega
    go_enter Try.func46, Try.ntmps46
    go_wp2
    go_ret
    exact ⟨retb Ho.out.symm, rfl⟩

/-- what left leaves: a row of its own. -/
def LeftPost (w : World) (e : TypeId) (size : Nat) (xs : List Value) (n : Nat) (ed : Ending) (w' : World) : Prop := ∃ v, ed = .returned v ∧ w'.ownsRow w.heap.size e size v n xs ∧ Below w.heap.size w w'
def LeftRel (w : World) (e : TypeId) (size : Nat) {α : Type} (f : α → List Value) (p : α → Bool) (most : Nat) (L : List α) (k : Nat) (v : Value) (wr : World) : Prop :=
  ((L.take k).filter p).length ≤ most ∧ wr.ownsRow w.heap.size e size v ((L.take k).filter p).length (((L.take k).filter p).flatMap f) ∧ Below w.heap.size w wr
theorem own_any {w : World} {base : Nat} {e : TypeId} {size n : Nat} {v : Value} {xs : List Value} (h : w.ownsRow base e size v n xs) : ∃ A c, v = .slice A n c := by
  obtain ⟨A, c, hv, _⟩ := (Sl.own h).any
  exact ⟨A, c, hv⟩

set_option maxRecDepth 100000 in
set_option maxHeartbeats 2000000 in
theorem left_ad (L : List Ad) (most : Nat) (v : Value) (w : World) (h : Sl w 18 v L.length (L.flatMap adL)) (hl : L.length ≤ 1000000) (hm : most ≤ 1000000) :
    Calls Try.prog 42 #[v, .int .i64 most, .func (.func 43) #[] #[]] w (LeftPost w 40 18 ((leftL okA most L).flatMap adL) (leftL okA most L).length) := by
  obtain ⟨a1, c1, hv1, hc1⟩ := h.any
  subst hv1
  have H := Lib.hid h
  clear h
  go_enter Try.func42, Try.ntmps42
  go_wp2
  go_loopw [7, 12] (fun v i wr => ∃ k : Nat, k ≤ L.length ∧ i = .int .i64 k ∧ LeftRel w 40 18 adL okA most L k v wr) (fun _ i _ => L.length - (intOf i).toNat)
  case atStart => exact ⟨0, Nat.zero_le _, rfl, by simp, by simpa using World.ownsRow_nil w w.heap.size 40 18, Below.refl _ _⟩
  case round =>
    obtain ⟨k, hk, rfl, hcnt, hown, hbel⟩ := hrel
    obtain ⟨ao, co, rfl⟩ := own_any hown
    have Hown := Lib.hid hown
    clear hown
    by_cases hlt : k < L.length
    · obtain ⟨b, off, c, hv, hc, hbl, hcell⟩ := H.out.pos (by omega)
      injection hv with hv1 _ hv2
      subst hv1 hv2
      have hR := (range_of adL_len hcell hlt)
      have HR : Hid (wr.rangeAt b (off + k * 18) (adL L[k])) := Lib.hid (fun j u hu => ((hbel.cell (p := ⟨b, off + k * 18 + j, none⟩) hbl).trans (hR j u hu)))
      clear hR hcell hbl
      have hltI : (k : Int) < (L.length : Int) := by omega
      by_cases hst : most ≤ ((L.take k).filter okA).length
      · have hfin : leftL okA most L = (L.take k).filter okA := by rw [leftL_stop hst, List.take_of_length_le hcnt]
        have Hfin := Lib.hid hfin
        clear hfin
        have hstI : (most : Int) ≤ (((L.take k).filter okA).length : Int) := by omega
        go_wp2_with (first
          | ((with_reducible refine wpList_loadAdM rfl _ rfl rfl HR.out ?_))
          | ((with_reducible refine wpList_allocAd rfl rfl ?_); intro g2 w2 hg hB2 hb2 hs; have hg2 : wr.heap.size ≤ g2 := Nat.le_of_eq hg.symm; clear hg hs)
          | ((with_reducible refine wpList_storeAd rfl _ _ rfl rfl rfl hB2 ?_); intro w4 hB4 hS4))
        go_ret
        have hb4 : Below wr.heap.size wr w4 := hb2.trans (hS4.below (by omega))
        refine ⟨_, rfl, ?_, hbel.trans (hb4.mono hbel.size)⟩
        rw [Hfin.out]
        exact own_below Hown.out hb4
      · have hstI : ¬ (most : Int) ≤ (((L.take k).filter okA).length : Int) := by omega
        have hst2 : ((L.take k).filter okA).length < most := by omega
        have hnx := filter_next (p := okA) hlt
        have Hnx := Lib.hid hnx
        clear hnx
        cases hok : okA L[k]
        all_goals
          have Hok := Lib.hid hok
          clear hok
          go_wp2_with (first
            | ((with_reducible refine wpList_loadAdM rfl _ rfl rfl HR.out ?_))
            | ((with_reducible refine wpList_allocAd rfl rfl ?_); intro g2 w2 hg hB2 hb2 hs; have hg2 : wr.heap.size ≤ g2 := Nat.le_of_eq hg.symm; clear hg hs)
            | ((with_reducible refine wpList_storeAd rfl _ _ rfl rfl rfl hB2 ?_); intro w4 hB4 hS4; have hb4 : Below wr.heap.size wr w4 := hb2.trans (hS4.below (by omega)))
            | ((with_reducible refine wpList_loadAd rfl _ rfl rfl hB4 ?_))
            | ((with_reducible refine wpList_loadAd rfl _ rfl rfl hB5 ?_))
            | (refine wpList_lit (o := ⟨some 25, _, _, _, _, _⟩) rfl _ _ rfl elt_ads [.agg (adA L[k])] rfl (by decide) (by decide) (fun v hv => by rw [List.mem_singleton.1 hv]; exact adA_size _) rfl ?_; intro w6 hB6 hx6 hb6 hs6; clear hx6 hs6; have hb06 := bel_tr hb4 (bel_tr hb5 hb6); have hB6 := bk_list (l := adL L[k]) hB6 rfl)
            | (at_builtin; refine wpList_app rfl (.tmp 23) (.tmp 25) _ rfl elt_ads rfl (own_below Hown.out hb06) rfl (hB6.sl (size := 18) (n := 1) (adL_len _) 1 (Nat.le_refl _)) (adL_one _) (Nat.le_trans hbel.size hb06.size) (by omega) (by omega) ?_; intro v7 w7 ho7 hb7 hg7; clear hg7)
            | (go_at_call 43; refine (mayServer_any _ _).mono ?_; rintro e w5 ⟨rfl, hb5⟩; rw [Hok.out]; have hB5 := hB4.bel hb5))
          skip
        · go_roundw
          case rel =>
            refine ⟨k + 1, by omega, by go_num, ?_⟩
            have hb05 := bel_tr hb4 hb5
            unfold LeftRel
            rw [Hnx.out, if_neg (by rw [Hok.out]; decide), List.append_nil]
            exact ⟨hcnt, own_below Hown.out hb05, hbel.trans (hb05.mono hbel.size)⟩
          case measure => simp [intOf]; omega
        · go_roundw
          case rel =>
            refine ⟨k + 1, by omega, by go_num, ?_⟩
            unfold LeftRel
            rw [Hnx.out, if_pos Hok.out, List.length_append, List.flatMap_append]
            refine ⟨by simp; omega, ?_, (hbel.trans (hb06.mono hbel.size)).trans hb7⟩
            simpa using ho7
          case measure => simp [intOf]; omega
    · have hkl : k = L.length := by omega
      subst hkl
      have hfin : leftL okA most L = (L.take L.length).filter okA := by rw [leftL, List.take_length, List.take_of_length_le (by rw [List.take_length] at hcnt; exact hcnt)]
      have Hfin := Lib.hid hfin
      clear hfin
      go_wp2
      go_ret
      refine ⟨_, rfl, ?_, hbel⟩
      rw [Hfin.out]
      exact Hown.out
end Go.Proofs.Ytebfgaapcpehmaa

/- setup.left at prefixes and at names. -/
namespace Go.Proofs.Ytebfgaapcpehmaa
open Go.RowKit

set_option maxRecDepth 100000 in
set_option maxHeartbeats 2000000 in
theorem left_pf (L : List Pf) (most : Nat) (v : Value) (w : World) (h : Sl w 19 v L.length (L.flatMap pfL)) (hl : L.length ≤ 1000000) (hm : most ≤ 1000000) :
    Calls Try.prog 47 #[v, .int .i64 most, .func (.func 48) #[] #[]] w (LeftPost w 67 19 ((leftL okP most L).flatMap pfL) (leftL okP most L).length) := by
  obtain ⟨a1, c1, hv1, hc1⟩ := h.any
  subst hv1
  have H := Lib.hid h
  clear h
  go_enter Try.func47, Try.ntmps47
  go_wp2
  go_loopw [7, 12] (fun v i wr => ∃ k : Nat, k ≤ L.length ∧ i = .int .i64 k ∧ LeftRel w 67 19 pfL okP most L k v wr) (fun _ i _ => L.length - (intOf i).toNat)
  case atStart => exact ⟨0, Nat.zero_le _, rfl, by simp, by simpa using World.ownsRow_nil w w.heap.size 67 19, Below.refl _ _⟩
  case round =>
    obtain ⟨k, hk, rfl, hcnt, hown, hbel⟩ := hrel
    obtain ⟨ao, co, rfl⟩ := own_any hown
    have Hown := Lib.hid hown
    clear hown
    by_cases hlt : k < L.length
    · obtain ⟨b, off, c, hv, hc, hbl, hcell⟩ := H.out.pos (by omega)
      injection hv with hv1 _ hv2
      subst hv1 hv2
      have hR := (range_of pfL_len hcell hlt)
      have HR : Hid (wr.rangeAt b (off + k * 19) (pfL L[k])) := Lib.hid (fun j u hu => ((hbel.cell (p := ⟨b, off + k * 19 + j, none⟩) hbl).trans (hR j u hu)))
      clear hR hcell hbl
      have hltI : (k : Int) < (L.length : Int) := by omega
      by_cases hst : most ≤ ((L.take k).filter okP).length
      · have hfin : leftL okP most L = (L.take k).filter okP := by rw [leftL_stop hst, List.take_of_length_le hcnt]
        have Hfin := Lib.hid hfin
        clear hfin
        have hstI : (most : Int) ≤ (((L.take k).filter okP).length : Int) := by omega
        go_wp2_with (first
          | ((with_reducible refine wpList_loadPfM rfl _ rfl rfl HR.out ?_))
          | ((with_reducible refine wpList_allocZ rfl _ rfl pf_zero ?_); intro g2 w2 hg hB2 hb2 hs; have hg2 : wr.heap.size ≤ g2 := Nat.le_of_eq hg.symm; clear hg hs)
          | ((with_reducible refine wpList_storePf rfl _ _ rfl rfl rfl hB2 ?_); intro w4 hB4 hS4))
        go_ret
        have hb4 : Below wr.heap.size wr w4 := hb2.trans (hS4.below (by omega))
        refine ⟨_, rfl, ?_, hbel.trans (hb4.mono hbel.size)⟩
        rw [Hfin.out]
        exact own_below Hown.out hb4
      · have hstI : ¬ (most : Int) ≤ (((L.take k).filter okP).length : Int) := by omega
        have hst2 : ((L.take k).filter okP).length < most := by omega
        have hnx := filter_next (p := okP) hlt
        have Hnx := Lib.hid hnx
        clear hnx
        cases hok : okP L[k]
        all_goals
          have Hok := Lib.hid hok
          clear hok
          go_wp2_with (first
            | ((with_reducible refine wpList_loadPfM rfl _ rfl rfl HR.out ?_))
            | ((with_reducible refine wpList_allocZ rfl _ rfl pf_zero ?_); intro g2 w2 hg hB2 hb2 hs; have hg2 : wr.heap.size ≤ g2 := Nat.le_of_eq hg.symm; clear hg hs)
            | ((with_reducible refine wpList_storePf rfl _ _ rfl rfl rfl hB2 ?_); intro w4 hB4 hS4; have hb4 : Below wr.heap.size wr w4 := hb2.trans (hS4.below (by omega)))
            | ((with_reducible refine wpList_loadPf rfl _ rfl rfl hB4 ?_))
            | ((with_reducible refine wpList_loadPf rfl _ rfl rfl hB5 ?_))
            | (refine wpList_lit (o := ⟨some 25, _, _, _, _, _⟩) rfl _ _ rfl elt_pfs [.agg (pfA L[k])] rfl (by decide) (by decide) (fun v hv => by rw [List.mem_singleton.1 hv]; exact pfA_size _) rfl ?_; intro w6 hB6 hx6 hb6 hs6; clear hx6 hs6; have hb06 := bel_tr hb4 (bel_tr hb5 hb6); have hB6 := bk_list (l := pfL L[k]) hB6 rfl)
            | (at_builtin; refine wpList_app rfl (.tmp 23) (.tmp 25) _ rfl elt_pfs rfl (own_below Hown.out hb06) rfl (hB6.sl (size := 19) (n := 1) (pfL_len _) 1 (Nat.le_refl _)) (pfL_one _) (Nat.le_trans hbel.size hb06.size) (by omega) (by omega) ?_; intro v7 w7 ho7 hb7 hg7; clear hg7)
            | (go_at_call 48; refine (mayPrefix_any _ _).mono ?_; rintro e w5 ⟨rfl, hb5⟩; rw [Hok.out]; have hB5 := hB4.bel hb5))
          skip
        · go_roundw
          case rel =>
            refine ⟨k + 1, by omega, by go_num, ?_⟩
            have hb05 := bel_tr hb4 hb5
            unfold LeftRel
            rw [Hnx.out, if_neg (by rw [Hok.out]; decide), List.append_nil]
            exact ⟨hcnt, own_below Hown.out hb05, hbel.trans (hb05.mono hbel.size)⟩
          case measure => simp [intOf]; omega
        · go_roundw
          case rel =>
            refine ⟨k + 1, by omega, by go_num, ?_⟩
            unfold LeftRel
            rw [Hnx.out, if_pos Hok.out, List.length_append, List.flatMap_append]
            refine ⟨by simp; omega, ?_, (hbel.trans (hb06.mono hbel.size)).trans hb7⟩
            simpa using ho7
          case measure => simp [intOf]; omega
    · have hkl : k = L.length := by omega
      subst hkl
      have hfin : leftL okP most L = (L.take L.length).filter okP := by rw [leftL, List.take_length, List.take_of_length_le (by rw [List.take_length] at hcnt; exact hcnt)]
      have Hfin := Lib.hid hfin
      clear hfin
      go_wp2
      go_ret
      refine ⟨_, rfl, ?_, hbel⟩
      rw [Hfin.out]
      exact Hown.out

/-- names in a row: each with its slice. -/
structure NmOk (w : World) (p : Value × List (List UInt8)) : Prop where
  sl : Sl w 1 p.1 p.2.length (p.2.map stv)
  few : p.2.length ≤ 1000000000
  len : ∀ l ∈ p.2, l.length ≤ 140737488351232
theorem NmOk.bel {w w' : World} {p : Value × List (List UInt8)} (h : NmOk w p) (hb : Below w.heap.size w w') : NmOk w' p := ⟨h.sl.below hb, h.few, h.len⟩
def nmF (p : Value × List (List UInt8)) : List Value := [p.1]
theorem nmF_len (p : Value × List (List UInt8)) : (nmF p).length = 1 := rfl
def okNp (p : Value × List (List UInt8)) : Bool := okN p.2

set_option maxRecDepth 100000 in
set_option maxHeartbeats 2000000 in
theorem left_nm (L : List (Value × List (List UInt8))) (most : Nat) (v : Value) (w : World) (h : Sl w 1 v L.length (L.flatMap nmF)) (hN : ∀ p ∈ L, NmOk w p) (hl : L.length ≤ 1000000) (hm : most ≤ 1000000) :
    Calls Try.prog 45 #[v, .int .i64 most, .func (.func 46) #[] #[]] w (LeftPost w 55 1 ((leftL okNp most L).flatMap nmF) (leftL okNp most L).length) := by
  obtain ⟨a1, c1, hv1, hc1⟩ := h.any
  subst hv1
  have H := Lib.hid h
  have HN := Lib.hid hN
  clear h hN
  go_enter Try.func45, Try.ntmps45
  go_wp2
  go_loopw [7, 12] (fun v i wr => ∃ k : Nat, k ≤ L.length ∧ i = .int .i64 k ∧ LeftRel w 55 1 nmF okNp most L k v wr) (fun _ i _ => L.length - (intOf i).toNat)
  case atStart => exact ⟨0, Nat.zero_le _, rfl, by simp, by simpa using World.ownsRow_nil w w.heap.size 55 1, Below.refl _ _⟩
  case round =>
    obtain ⟨k, hk, rfl, hcnt, hown, hbel⟩ := hrel
    obtain ⟨ao, co, rfl⟩ := own_any hown
    have Hown := Lib.hid hown
    clear hown
    by_cases hlt : k < L.length
    · obtain ⟨b, off, c, hv, hc, hbl, hcell⟩ := H.out.pos (by omega)
      injection hv with hv1 _ hv2
      subst hv1 hv2
      have hnm := HN.out _ (List.getElem_mem hlt)
      have hR := (range_of nmF_len hcell hlt)
      have hR1 : wr.cell? ⟨b, off + k, none⟩ = some L[k].1 := by
        have := (hbel.cell (p := ⟨b, off + k * 1 + 0, none⟩) hbl).trans (hR 0 _ rfl)
        simpa using this
      obtain ⟨P, hP⟩ : ∃ P, L[k] = P := ⟨_, rfl⟩
      obtain ⟨pv, pn⟩ := P
      rw [hP] at hR1 hnm
      obtain ⟨na, nc, hnv, hnc⟩ := hnm.sl.any
      dsimp only at hnv hnc hR1
      subst hnv
      have Hnm := Lib.hid (show NmOk wr (Value.slice na pn.length nc, pn) from ⟨hnm.sl.below hbel, hnm.few, hnm.len⟩)
      have HP := Lib.hid hP
      clear hR hcell hbl hnm hP
      have hltI : (k : Int) < (L.length : Int) := by omega
      by_cases hst : most ≤ ((L.take k).filter okNp).length
      · have hfin : leftL okNp most L = (L.take k).filter okNp := by rw [leftL_stop hst, List.take_of_length_le hcnt]
        have Hfin := Lib.hid hfin
        clear hfin
        have hstI : (most : Int) ≤ (((L.take k).filter okNp).length : Int) := by omega
        go_wp2
        go_ret
        refine ⟨_, rfl, ?_, hbel⟩
        rw [Hfin.out]
        exact Hown.out
      · have hstI : ¬ (most : Int) ≤ (((L.take k).filter okNp).length : Int) := by omega
        have hst2 : ((L.take k).filter okNp).length < most := by omega
        have hnx := filter_next (p := okNp) hlt
        have Hnx := Lib.hid hnx
        clear hnx
        cases hok : okN pn
        all_goals
          have Hok := Lib.hid hok
          clear hok
          go_wp2_with (first
            | (at_builtin; refine wpList_appLit (n := ((L.take k).filter okNp).length) (m := 1) rfl (.tmp 23) (.tmp 25) _ rfl elt_nms rfl Hown.out [Value.slice na pn.length nc] rfl rfl (by intro u hu; rw [List.mem_singleton.1 hu]; rfl) hbel.size (by omega) (by omega) ?_; intro v7 w7 ho7 hb7 hg7; clear hg7)
            | (go_at_call 46; refine (mayName_any pn _ _ Hnm.out.sl Hnm.out.few Hnm.out.len).mono ?_; rintro e w5 ⟨rfl, rfl⟩; rw [Hok.out]))
          skip
        · go_roundw
          case rel =>
            refine ⟨k + 1, by omega, by go_num, ?_⟩
            unfold LeftRel
            rw [Hnx.out, if_neg (by rw [HP.out]; unfold okNp; rw [Hok.out]; decide), List.append_nil]
            exact ⟨hcnt, Hown.out, hbel⟩
          case measure => simp [intOf]; omega
        · go_roundw
          case rel =>
            refine ⟨k + 1, by omega, by go_num, ?_⟩
            unfold LeftRel
            rw [Hnx.out, if_pos (by rw [HP.out]; exact Hok.out), List.length_append, List.flatMap_append]
            refine ⟨by simp; omega, ?_, hbel.trans hb7⟩
            rw [HP.out]
            simpa [nmF] using ho7
          case measure => simp [intOf]; omega
    · have hkl : k = L.length := by omega
      subst hkl
      have hfin : leftL okNp most L = (L.take L.length).filter okNp := by rw [leftL, List.take_length, List.take_of_length_le (by rw [List.take_length] at hcnt; exact hcnt)]
      have Hfin := Lib.hid hfin
      clear hfin
      go_wp2
      go_ret
      refine ⟨_, rfl, ?_, hbel⟩
      rw [Hfin.out]
      exact Hown.out
end Go.Proofs.Ytebfgaapcpehmaa

/- setup.Held at what resolv.conf says alone: the small functions that it calls. -/
namespace Go.Proofs.Ytebfgaapcpehmaa
open Go.RowKit

/-- one cell of a block is stored into. -/
theorem wpList_storeC {P : Program} {w : World} {ops : Array Oper} {rest : List Oper} {o : Oper} {a : Act} {Q : Exit → Act → World → Prop} (hgd : o.guard = none) (ty : TypeId) (x y : Operand) (ho : o.op = .store ty x y) {g i : Nat} {v : Value} (hx : a.eval x = .pointer (some ⟨g, i, none⟩)) (hy : a.eval y = v) (h1 : v.oneCell' = true)
    {t : TypeId} {cs : Array Value} (hB : Bk w g t cs) (hi : i < cs.size) (hsz : (P.info? ty).map (·.size) = some 1)
    (h : ∀ w', Bk w' g t (cs.setIfInBounds i v) → Stays g w w' → wpList P ops Q rest (a.put o.dst undef) w') : wpList P ops Q (o :: rest) a w := by
  refine wpList_plain hgd fun _ hK => ?_
  have hr : (storeVar ty ⟨g, i, none⟩ v).run P w = .ok () (w.setCell ⟨g, i, none⟩ v) := by
    have := run_storeCells_cells (P := P) g i [v] 0 w (fun j hj => by
      have hj0 : j = 0 := by simpa using hj
      subst hj0
      rw [hB.cell, Array.getElem?_eq_getElem (by simpa using hi)]; rfl) (fun j _ => hB.free _) (fun u hu => by rw [List.mem_singleton.1 hu]; exact h1)
    have hc : v.cells = #[v] := by cases v <;> first | rfl | cases h1
    cases hq : P.info? ty with
    | none => simp [hq] at hsz
    | some ie =>
      have hs : ie.size = 1 := by simpa [hq] using hsz
      simp [storeVar, sizeOf, typeInfo, hq, hc, hs, this, World.setCells]
  unfold Oper.wp execOp
  simp only [ho, hx, hy, Instr.storeAt, Instr.sureAddr, Sem.run_bind, Sem.run_pure, Result.andThen_ok, hr]
  exact hK _ _ (h _ (hB.set_ i v) (Stays.cell w g i v))

/-- left at a list without members. -/
def NilPost (w : World) (ed : Ending) (w' : World) : Prop := ed = .returned (.slice none 0 0) ∧ w = w'
set_option maxRecDepth 100000 in
theorem left_so0 (X : Option Addr) (c : Nat) (m : Int) (f : Value) (w : World) : Calls Try.prog 50 #[.slice X 0 c, .int .i64 m, f] w (NilPost w) := by
  go_enter Try.func50, Try.ntmps50
  go_wp2
  go_loopw [7, 12] (fun v i wr => v = .slice none 0 0 ∧ i = .int .i64 0 ∧ w = wr) (fun _ _ _ => 0)
  case atStart => exact ⟨rfl, rfl, rfl⟩
  case round =>
    obtain ⟨rfl, rfl, rfl⟩ := hrel
    go_wp2
    go_ret
    exact ⟨rfl, rfl⟩
set_option maxRecDepth 100000 in
theorem left_sv0 (X : Option Addr) (c : Nat) (m : Int) (f : Value) (w : World) : Calls Try.prog 54 #[.slice X 0 c, .int .i64 m, f] w (NilPost w) := by
  go_enter Try.func54, Try.ntmps54
  go_wp2
  go_loopw [7, 12] (fun v i wr => v = .slice none 0 0 ∧ i = .int .i64 0 ∧ w = wr) (fun _ _ _ => 0)
  case atStart => exact ⟨rfl, rfl, rfl⟩
  case round =>
    obtain ⟨rfl, rfl, rfl⟩ := hrel
    go_wp2
    go_ret
    exact ⟨rfl, rfl⟩
set_option maxRecDepth 100000 in
theorem left_ho0 (X : Option Addr) (c : Nat) (m : Int) (f : Value) (w : World) : Calls Try.prog 62 #[.slice X 0 c, .int .i64 m, f] w (NilPost w) := by
  go_enter Try.func62, Try.ntmps62
  go_wp2
  go_loopw [7, 12] (fun v i wr => v = .slice none 0 0 ∧ i = .int .i64 0 ∧ w = wr) (fun _ _ _ => 0)
  case atStart => exact ⟨rfl, rfl, rfl⟩
  case round =>
    obtain ⟨rfl, rfl, rfl⟩ := hrel
    go_wp2
    go_ret
    exact ⟨rfl, rfl⟩
theorem elt_hosts : Elt Try.prog 28 59 19 56 := Elt.mk' (z := .agg ((adL ad0 ++ [Value.slice none 0 0]).toArray)) Try.underlying28 (by kernel_rfl) (by kernel_rfl) (by decide)
set_option maxRecDepth 100000 in
theorem heldHosts0 (w : World) : Calls Try.prog 53 #[.slice none 0 0] w fun e w' => e = .returned (.slice none 0 0) ∧ Below w.heap.size w w' := by
  go_enter Try.func53, Try.ntmps53
  go_wp2_with (first | (at_make; refine wpList_mk0 rfl _ _ _ rfl elt_hosts (base := w.heap.size) 0 rfl rfl rfl (by omega) (by omega) (Nat.le_refl _) ?_; intro w0 ho0 hbw0; clear ho0))
  go_loopw [11] (fun i wr => i = .int .i64 0 ∧ w0 = wr) (fun _ _ => 0)
  case atStart => exact ⟨rfl, rfl⟩
  case round =>
    obtain ⟨rfl, rfl⟩ := hrel
    go_wp2_with (go_at_call 62; refine (left_ho0 _ _ _ _ _).mono ?_; rintro e w2 ⟨rfl, rfl⟩)
    go_ret
    exact ⟨rfl, hbw0⟩
def heldI (n a b : Int) : Int := min (max n a) b
set_option maxRecDepth 100000 in
theorem held_any (n a b : Int) (w : World) : Calls Try.prog 49 #[.int .i64 n, .int .i64 a, .int .i64 b] w fun e w' => e = .returned (.int .i64 (heldI n a b)) ∧ w = w' := by
  go_enter Try.func49, Try.ntmps49
  go_wp2
  go_ret
  exact ⟨rfl, rfl⟩
def soA (k : Int) : Array Value := #[.int .i64 k, .bool true, .bool false, .bool false, .bool false]
set_option maxRecDepth 100000 in
theorem nsource_any (k : Int) (w : World) : Calls Try.prog 61 #[.int .i64 k] w fun e w' => e = .returned (.agg (soA k)) ∧ Below w.heap.size w w' := by
  go_enter Try.func61, Try.ntmps61
  go_wp2
  exact bodyPost_ret (v := .agg (soA k)) (by simp [results, Try.results61, go_sem, soA]) rfl ⟨rfl, ((Below.refl _ _).alloc (Nat.le_refl _) _).alloc (by simp) _⟩
set_option maxRecDepth 100000 in
theorem nplain_any (w : World) : Calls Try.prog 52 #[] w fun e w' => (∃ A, e = .returned (.slice (some A) 2 2)) ∧ Below w.heap.size w w' := by
  go_enter Try.func52, Try.ntmps52
  go_wp2_with fail
  refine (nsource_any _ _).mono ?_
  rintro e w1 ⟨rfl, hb1⟩
  unfold soA
  go_wp2_with fail
  refine (nsource_any _ _).mono ?_
  rintro e w2 ⟨rfl, hb2⟩
  unfold soA
  go_wp2
  go_ret
  exact ⟨⟨_, rfl⟩, (bel_tr hb1 hb2).trans (((Below.refl _ _).alloc (Nat.le_refl _) _).mono (bel_tr hb1 hb2).size)⟩
end Go.Proofs.Ytebfgaapcpehmaa

/- What resolv.conf says, as a value; setup.Held. -/
namespace Go.Proofs.Ytebfgaapcpehmaa
open Go.RowKit

structure Rs where
  S : List Ad
  N : List (Value × List (List UInt8))
  P : List Pf
  nd : Int
  tm : Int
  tr : Int
  rot : Bool
  vc : Bool
  sg : Bool
  ed : Bool
def rsL (vs vn vp : Value) (R : Rs) : List Value := [vs, vn, vp, .int .i64 R.nd, .int .i64 R.tm, .int .i64 R.tr, .bool R.rot, .bool R.vc, .bool R.sg, .bool R.ed]
structure RsAt (w : World) (vs vn vp : Value) (R : Rs) : Prop where
  s : Sl w 18 vs R.S.length (R.S.flatMap adL)
  n : Sl w 1 vn R.N.length (R.N.flatMap nmF)
  p : Sl w 19 vp R.P.length (R.P.flatMap pfL)
  nm : ∀ q ∈ R.N, NmOk w q
  ls : R.S.length ≤ 1000000
  ln : R.N.length ≤ 1000000
  lp : R.P.length ≤ 1000000
theorem RsAt.bel {w w' : World} {vs vn vp : Value} {R : Rs} (h : RsAt w vs vn vp R) (hb : Below w.heap.size w w') : RsAt w' vs vn vp R := ⟨h.s.below hb, h.n.below hb, h.p.below hb, fun q hq => (h.nm q hq).bel hb, h.ls, h.ln, h.lp⟩
/-- the same, the rows being of the call's own: their blocks are new from b on. -/
structure RsOwn (b : Nat) (w : World) (vs vn vp : Value) (R : Rs) : Prop where
  rs : RsAt w vs vn vp R
  os : w.ownsRow b 40 18 vs R.S.length (R.S.flatMap adL)
  on : w.ownsRow b 55 1 vn R.N.length (R.N.flatMap nmF)
  op : w.ownsRow b 67 19 vp R.P.length (R.P.flatMap pfL)
theorem own_low {w : World} {b b' : Nat} {e : TypeId} {size n : Nat} {v : Value} {xs : List Value} (h : w.ownsRow b e size v n xs) (hb : b' ≤ b) : w.ownsRow b' e size v n xs := by
  refine ⟨h.1, ?_⟩
  rcases h.2 with hn | ⟨g, cap, cur, rfl, hb', hgg, rest⟩
  · exact .inl hn
  · exact .inr ⟨g, cap, cur, rfl, Nat.le_trans hb hb', hgg, rest⟩
theorem own_stays {w w' : World} {base g : Nat} {e : TypeId} {size n : Nat} {v : Value} {xs : List Value} (h : w.ownsRow base e size v n xs) (hs : Stays g w w') (hg : g < base) : w'.ownsRow base e size v n xs := by
  refine h.kept (row := some g) ⟨hs.os, hs.tape, hs.output, Nat.le_of_eq hs.size.symm, fun k _ hk => hs.block k (fun e => hk (by rw [e]))⟩ ?_
  cases hv : v.ownBlock with
  | none => exact .inl rfl
  | some k => exact .inr (fun e => by injection e with e; have := (h.lt k hv).1; omega)
theorem RsOwn.stays {b g : Nat} {w w' : World} {vs vn vp : Value} {R : Rs} (h : RsOwn b w vs vn vp R) (hs : Stays g w w') (hg : g < b) (hn : ∀ q ∈ R.N, NmOk w' q) : RsOwn b w' vs vn vp R :=
  ⟨⟨Sl.own (own_stays h.os hs hg), Sl.own (own_stays h.on hs hg), Sl.own (own_stays h.op hs hg), hn, h.rs.ls, h.rs.ln, h.rs.lp⟩, own_stays h.os hs hg, own_stays h.on hs hg, own_stays h.op hs hg⟩
theorem RsOwn.bel {b : Nat} {w w' : World} {vs vn vp : Value} {R : Rs} (h : RsOwn b w vs vn vp R) (hb : Below w.heap.size w w') : RsOwn b w' vs vn vp R := ⟨h.rs.bel hb, own_below h.os hb, own_below h.on hb, own_below h.op hb⟩
def srvL (S : List Ad) : List Ad := if leftL okA 3 S = [] then [adOf 127 0 0 1] else leftL okA 3 S
def heldR (R : Rs) : Rs := ⟨srvL R.S, leftL okNp 6 R.N, leftL okP 10 R.P, heldI R.nd 0 15, heldI R.tm 1 30, heldI R.tr 1 5, R.rot, R.vc, R.sg, R.ed⟩
theorem leftL_len {α : Type} (p : α → Bool) (m : Nat) (L : List α) : (leftL p m L).length ≤ m := by unfold leftL; rw [List.length_take]; omega
theorem leftL_mem {α : Type} {p : α → Bool} {m : Nat} {L : List α} {x : α} (h : x ∈ leftL p m L) : x ∈ L ∧ p x = true := by
  have := List.mem_of_mem_take h
  rw [List.mem_filter] at this
  exact this
def HeldPost (w : World) (R : Rs) (e : Ending) (w' : World) : Prop :=
  ∃ vs vn vp vh vo vv, e = .returned (.agg #[vs, vn, vp, .int .i64 (heldR R).nd, .int .i64 (heldR R).tm, .int .i64 (heldR R).tr, .bool R.rot, .bool R.vc, .bool R.sg, .bool R.ed, vh, vo, vv]) ∧ RsOwn w.heap.size w' vs vn vp (heldR R) ∧ Below w.heap.size w w'

theorem rs_under : Try.prog.underlying 26 = some (.struct (Try.prog.fieldsOf 26)) := by kernel_rfl
theorem rs_size : (Try.prog.info? 26).map (·.size) = some 10 := by kernel_rfl
theorem cf_under : Try.prog.underlying 32 = some (.struct (Try.prog.fieldsOf 32)) := by kernel_rfl
theorem cf_size : (Try.prog.info? 32).map (·.size) = some 13 := by kernel_rfl
def rsZ : Array Value := #[.slice none 0 0, .slice none 0 0, .slice none 0 0, .int .i64 0, .int .i64 0, .int .i64 0, .bool false, .bool false, .bool false, .bool false]
def cfZ : Array Value := #[.slice none 0 0, .slice none 0 0, .slice none 0 0, .int .i64 0, .int .i64 0, .int .i64 0, .bool false, .bool false, .bool false, .bool false, .slice none 0 0, .slice none 0 0, .slice none 0 0]
theorem rs_zero : ZeroIs Try.prog 26 rsZ := by unfold ZeroIs; kernel_rfl
theorem cf_zero : ZeroIs Try.prog 32 cfZ := by unfold ZeroIs; kernel_rfl
theorem sz_ads : (Try.prog.info? 22).map (·.size) = some 1 := by kernel_rfl
theorem sz_nms : (Try.prog.info? 23).map (·.size) = some 1 := by kernel_rfl
theorem sz_pfs : (Try.prog.info? 24).map (·.size) = some 1 := by kernel_rfl
theorem sz_int : (Try.prog.info? 3).map (·.size) = some 1 := by kernel_rfl
theorem sl_one {w : World} {size n : Nat} {v : Value} {xs : List Value} (h : Sl w size v n xs) : v.oneCell' = true := by
  obtain ⟨A, c, rfl, _⟩ := h.any
  rfl
theorem quiet_loadRow {P : Program} {w : World} {o : Oper} {a a' : Act} {K : Act → Prop} (ty : TypeId) (x : Operand) (ho : o.op = .load ty x) {g off : Nat} (hx : a.eval x = .pointer (some ⟨g, off, none⟩)) {cs : List Value} (hB : w.rangeAt g off cs)
    {d : TypeDesc} (hu : P.underlying ty = some d) (hd : d.isRow = true) (hi : (P.info? ty).map (·.size) = some cs.length) (ha : a.put o.dst (.agg cs.toArray) = a') (hk : K a') : o.quiet P a (fun w' => ∃ y : BelT w, w' = y.at_) K := by
  subst ha
  refine ⟨_, ?_, hk⟩
  rintro _ ⟨y, rfl⟩
  unfold Oper.quietAt execOp
  have hr : y.at_.rangeAt g off cs := fun j v hv => y.cell (hB j v hv)
  simp only [ho, hx, Instr.loadAt, Instr.sureAddr, Sem.run_bind, Sem.run_pure, Result.andThen_ok, run_loadVar_mid y.at_ g off ty cs _ hr hu hd hi]
  exact ⟨rfl, rfl⟩
theorem ret_row {P : Program} {fn : Func} {p : Tmp} {ty : TypeId} (h : fn.results = #[.cell p ty]) {R : Ending → World → Prop} {a : Act} {w : World} {g : Nat} {t : TypeId} {cs : Array Value} {d : TypeDesc}
    (hp : a.tmps.getD p undef = .pointer (some ⟨g, 0, none⟩)) (hB : Bk w g t cs) (hu : P.underlying ty = some d) (hr : d.isRow = true) (hi : (P.info? ty).map (·.size) = some cs.size) (hd : a.defers = []) (hR : R (.returned (.agg cs)) w) : bodyPost P fn R .ret a w :=
  bodyPost_ret_by (results_cell_row h a.tmps w g t cs (0, 0) _ hp hB hu (by cases d <;> first | rfl | cases hr) hi) hd hR

theorem holdE {p : Prop} (h : Hid p) : p := h.out
theorem rsL_one {vs vn vp : Value} (R : Rs) (h1 : vs.oneCell' = true) (h2 : vn.oneCell' = true) (h3 : vp.oneCell' = true) : (rsL vs vn vp R).toArray.all (·.oneCell') = true := by
  refine all_oneCell_toArray fun v hv => ?_
  simp only [rsL, List.mem_cons, List.not_mem_nil, or_false] at hv
  rcases hv with rfl | rfl | rfl | rfl | rfl | rfl | rfl | rfl | rfl | rfl <;> first | assumption | rfl
def cfL (vs vn vp : Value) (R : Rs) (a b c : Value) : List Value := [vs, vn, vp, .int .i64 R.nd, .int .i64 R.tm, .int .i64 R.tr, .bool R.rot, .bool R.vc, .bool R.sg, .bool R.ed, a, b, c]
theorem cfL_one {vs vn vp a b c : Value} (R : Rs) (h1 : vs.oneCell' = true) (h2 : vn.oneCell' = true) (h3 : vp.oneCell' = true) (h4 : a.oneCell' = true) (h5 : b.oneCell' = true) (h6 : c.oneCell' = true) : (cfL vs vn vp R a b c).toArray.all (·.oneCell') = true := by
  refine all_oneCell_toArray fun v hv => ?_
  simp only [cfL, List.mem_cons, List.not_mem_nil, or_false] at hv
  rcases hv with rfl | rfl | rfl | rfl | rfl | rfl | rfl | rfl | rfl | rfl | rfl | rfl | rfl <;> first | assumption | rfl

theorem left_ad3 (L : List Ad) (v : Value) (w : World) (h : Sl w 18 v L.length (L.flatMap adL)) (hl : L.length ≤ 1000000) :
    Calls Try.prog 42 #[v, .int .i64 3, .func (.func 43) #[] #[]] w (LeftPost w 40 18 ((leftL okA 3 L).flatMap adL) (leftL okA 3 L).length) := left_ad L 3 v w h hl (by omega)
theorem left_nm6 (L : List (Value × List (List UInt8))) (v : Value) (w : World) (h : Sl w 1 v L.length (L.flatMap nmF)) (hN : ∀ p ∈ L, NmOk w p) (hl : L.length ≤ 1000000) :
    Calls Try.prog 45 #[v, .int .i64 6, .func (.func 46) #[] #[]] w (LeftPost w 55 1 ((leftL okNp 6 L).flatMap nmF) (leftL okNp 6 L).length) := left_nm L 6 v w h hN hl (by omega)
theorem left_pf10 (L : List Pf) (v : Value) (w : World) (h : Sl w 19 v L.length (L.flatMap pfL)) (hl : L.length ≤ 1000000) :
    Calls Try.prog 47 #[v, .int .i64 10, .func (.func 48) #[] #[]] w (LeftPost w 67 19 ((leftL okP 10 L).flatMap pfL) (leftL okP 10 L).length) := left_pf L 10 v w h hl (by omega)
theorem of_127 (w : World) : Calls Try.prog 44 #[.int .u8 127, .int .u8 0, .int .u8 0, .int .u8 1] w (AdPost w (adOf 127 0 0 1)) := of_any 127 0 0 1 w
theorem bk_stays {w w' : World} {g B : Nat} (hz : Below B w w') {w'' : World} (hs : Stays g w' w'') (hg : B ≤ g) : Below B w w'' := hz.trans (hs.below hg)
theorem bk_trans {w w' w'' : World} {B : Nat} (hz : Below B w w') (hB : B ≤ w.heap.size) (hb : Below w'.heap.size w' w'') : Below B w w'' := hz.trans (hb.mono (Nat.le_trans hB hz.size))

theorem heldR_at {w : World} {b1 b2 b3 : Nat} {vs vn vp : Value} {R : Rs} (q1 : w.ownsRow b1 40 18 vs (srvL R.S).length ((srvL R.S).flatMap adL)) (q2 : w.ownsRow b2 55 1 vn (leftL okNp 6 R.N).length ((leftL okNp 6 R.N).flatMap nmF))
    (q3 : w.ownsRow b3 67 19 vp (leftL okP 10 R.P).length ((leftL okP 10 R.P).flatMap pfL)) (hn : ∀ q ∈ R.N, NmOk w q) {b : Nat} (h1 : b ≤ b1) (h2 : b ≤ b2) (h3 : b ≤ b3) : RsOwn b w vs vn vp (heldR R) := by
  refine ⟨?_, own_low q1 h1, own_low q2 h2, own_low q3 h3⟩
  refine ⟨Sl.own q1, Sl.own q2, Sl.own q3, fun q hq => hn q (leftL_mem hq).1, ?_, ?_, ?_⟩
  · show (srvL R.S).length ≤ 1000000
    unfold srvL
    have := leftL_len okA 3 R.S
    split
    · simp
    · omega
  · have := leftL_len okNp 6 R.N
    show (leftL okNp 6 R.N).length ≤ 1000000
    omega
  · have := leftL_len okP 10 R.P
    show (leftL okP 10 R.P).length ≤ 1000000
    omega
theorem built_cf (a1 a2 a3 : Option Addr) (n1 c1 n2 c2 n3 c3 : Nat) (R : Rs) (A : Addr) : Try.prog.built 32 [(0, .agg (rsL (.slice a1 n1 c1) (.slice a2 n2 c2) (.slice a3 n3 c3) R).toArray), (1, .slice none 0 0), (2, .slice (some A) 2 2), (3, .slice none 0 0)] = some (cfL (.slice a1 n1 c1) (.slice a2 n2 c2) (.slice a3 n3 c3) R (.slice none 0 0) (.slice (some A) 2 2) (.slice none 0 0)).toArray := by kernel_rfl

set_option maxRecDepth 100000 in
set_option maxHeartbeats 4000000 in
theorem setHeld_any (vs vn vp : Value) (R : Rs) (w : World) (h : RsAt w vs vn vp R) :
    Calls Try.prog 32 #[.agg #[vs, vn, vp, .int .i64 R.nd, .int .i64 R.tm, .int .i64 R.tr, .bool R.rot, .bool R.vc, .bool R.sg, .bool R.ed, .slice none 0 0, .slice none 0 0, .slice none 0 0]] w (HeldPost w R) := by
  obtain ⟨asl, cs, hvs, hcs⟩ := h.s.any
  obtain ⟨an, cn, hvn, hcn⟩ := h.n.any
  obtain ⟨ap, cp, hvp, hcp⟩ := h.p.any
  subst hvs hvn hvp
  have H := Lib.hid h
  clear h
  go_enter Try.func32, Try.ntmps32
  go_wp2_with (first
    | ((with_reducible refine wpList_boxB rfl _ _ rfl rfl ?_); intro g1 w1 hg1 hB1 hb1 hs1; have hg1' : w.heap.size ≤ g1 := Nat.le_of_eq hg1.symm; clear hg1 hs1)
    | ((with_reducible refine wpList_allocZ (o := ⟨some 2, _, _, _, _, _⟩) rfl _ rfl cf_zero ?_); intro g2 w2 hg2 hB2 hb2 hs2; have hg2' : w1.heap.size ≤ g2 := Nat.le_of_eq hg2.symm; clear hg2 hs2; have hB12 := hB1.bel hb2; have hg12 : g1 < g2 := Nat.lt_of_lt_of_le hB1.lt hg2'; have hb02 := bel_tr hb1 hb2)
    | (refine wpList_load_mid (op := ⟨some 6, _, _, _, _, _⟩) rfl _ _ rfl _ _ rfl _ _ (hB12.rangeL 0 (rsL (.slice asl R.S.length cs) (.slice an R.N.length cn) (.slice ap R.P.length cp) R) [.slice none 0 0, .slice none 0 0, .slice none 0 0] rfl) rs_under rfl rs_size ?_)
    | ((with_reducible refine wpList_allocZ (o := ⟨some 3, _, _, _, _, _⟩) rfl _ rfl rs_zero ?_); intro g3 w3 hg3 hB3 hb3 hs3; have hg3' : w2.heap.size ≤ g3 := Nat.le_of_eq hg3.symm; clear hg3 hs3)
    | (refine wpList_storeB rfl _ (.tmp 3) (.tmp 6) rfl rfl rfl hB3 rs_size rfl (rsL_one _ rfl rfl rfl) ?_; intro w4 hB4 hS4
       have c4 : w4.cell? ⟨g3, 0, none⟩ = some (.slice asl R.S.length cs) := hB4.cell 0
       have hz4 := bk_stays hb3 hS4 hg3'
       have hg34 : g3 < w4.heap.size := hB4.lt)
    | (go_at_call 42; refine (left_ad3 R.S _ _ (H.out.s.below (hb02.trans (hz4.mono hb02.size))) H.out.ls).mono ?_
       rintro e w5 ⟨v5, rfl, ho5, hb5⟩
       obtain ⟨a5, k5, rfl⟩ := own_any ho5
       have hB45 := hB4.bel hb5
       have hz5 := bk_trans hz4 (Nat.le_refl _) hb5)
    | (refine wpList_storeC (o := ⟨none, .store _ (.tmp 10) _, _, _, _, _⟩) rfl _ _ _ rfl rfl rfl rfl hB45 (show 0 < 10 from by decide) sz_ads ?_
       intro w6 hB6' hS6
       have hB6 : Bk w6 g3 26 (rsL (.slice a5 (leftL okA 3 R.S).length k5) (.slice an R.N.length cn) (.slice ap R.P.length cp) R).toArray := hB6'
       have c6 : w6.cell? ⟨g3, 0, none⟩ = some (.slice a5 (leftL okA 3 R.S).length k5) := hB6.cell 0
       have hz6 := bk_stays hz5 hS6 hg3'
       have ho6 := own_stays ho5 hS6 hg34
       refine holdE ?_))
  refine Lib.hid ?_
  clear c4
  by_cases hE : leftL okA 3 R.S = []
  case' pos =>
    have hn : (((leftL okA 3 R.S).length : Nat) == 0) = true := by rw [hE]; rfl
    have hn2 : (((leftL okA 3 R.S).length : Int) == 0) = true := by rw [hE]; rfl
    have hsrv : srvL R.S = [adOf 127 0 0 1] := by unfold srvL; rw [if_pos hE]
    have Hsrv := Lib.hid hsrv
    clear hE hsrv
    go_wp2_with (first
      | (go_at_call 44; refine (of_127 _).mono ?_; rintro e w7 ⟨rfl, hb7⟩; have hB67 := hB6.bel hb7; have hz7 := bk_trans hz6 (Nat.le_refl _) hb7; have hg37 : g3 < w7.heap.size := hB67.lt)
      | (refine wpList_lit (o := ⟨some 16, _, _, _, _, _⟩) rfl _ _ rfl elt_ads [.agg (adA (adOf 127 0 0 1))] rfl (by decide) (by decide) (fun v hv => by rw [List.mem_singleton.1 hv]; exact adA_size _) rfl ?_
         intro w8 hB8 ho8 hb8 hs8
         clear hB8 hs8
         have hz8 := bk_trans hz7 (Nat.le_refl _) hb8
         have hB68 := hB67.bel hb8
         generalize (w7.heap.size) = b7 at ho8 hg37 hb8 ⊢)
      | (refine wpList_storeC (o := ⟨none, .store _ (.tmp 17) _, _, _, _, _⟩) rfl _ _ _ rfl rfl rfl rfl hB68 (show 0 < 10 from by decide) sz_ads ?_
         intro wj hBj' hSj
         have hoj' := own_stays ho8 hSj hg37
         obtain ⟨aj, kj, hvj⟩ : ∃ aj kj, Value.slice (some ⟨b7, 0, none⟩) 1 1 = .slice aj (srvL R.S).length kj := ⟨_, 1, by rw [Hsrv.out]; rfl⟩
         have hBj : Bk wj g3 26 (rsL (.slice aj (srvL R.S).length kj) (.slice an R.N.length cn) (.slice ap R.P.length cp) R).toArray := by rw [← hvj]; exact hBj'
         have hoj : wj.ownsRow b7 40 18 (.slice aj (srvL R.S).length kj) (srvL R.S).length ((srvL R.S).flatMap adL) := by rw [← hvj, Hsrv.out]; exact hoj'
         have hzj := bk_stays hz8 hSj hg3'
         have hbj : g3 < b7 := hg37
         clear hvj hBj' hoj' hb8 hg37
         refine holdE ?_))
    refine Lib.hid ?_
  case' neg =>
    have hn : (((leftL okA 3 R.S).length : Nat) == 0) = false := by simpa using hE
    have hn2 : (((leftL okA 3 R.S).length : Int) == 0) = false := by simpa using hE
    have hsrv : srvL R.S = leftL okA 3 R.S := by unfold srvL; rw [if_neg hE]
    obtain ⟨wj, hwj⟩ : ∃ wj, wj = w6 := ⟨_, rfl⟩
    obtain ⟨aj, haj⟩ : ∃ aj, aj = a5 := ⟨_, rfl⟩
    obtain ⟨kj, hkj⟩ : ∃ kj, kj = k5 := ⟨_, rfl⟩
    obtain ⟨b7, hb7⟩ : ∃ b7, b7 = w4.heap.size := ⟨_, rfl⟩
    have hBj : Bk wj g3 26 (rsL (.slice aj (srvL R.S).length kj) (.slice an R.N.length cn) (.slice ap R.P.length cp) R).toArray := by rw [hwj, haj, hkj, hsrv]; exact hB6
    have hoj : wj.ownsRow b7 40 18 (.slice aj (srvL R.S).length kj) (srvL R.S).length ((srvL R.S).flatMap adL) := by rw [hwj, haj, hkj, hb7, hsrv]; exact ho6
    have hzj : Below w2.heap.size w2 wj := by rw [hwj]; exact hz6
    have hbj : g3 < b7 := by rw [hb7]; exact hg34
    subst hwj
    clear haj hkj hb7 hsrv hE
  all_goals
    have hgj : g3 < wj.heap.size := hBj.lt
    have cj : wj.cell? ⟨g3, 1, none⟩ = some (.slice an R.N.length cn) := hBj.cell 1
    have h0j := hb02.trans (hzj.mono hb02.size)
    have HN := Lib.hid (fun q hq => (H.out.nm q hq).bel h0j)
    go_wp2_with (first
      | (go_at_call 45; refine (left_nm6 R.N _ _ (H.out.n.below h0j) HN.out H.out.ln).mono ?_
         rintro e w9 ⟨v9, rfl, ho9, hb9⟩
         obtain ⟨a9, k9, rfl⟩ := own_any ho9
         have hB9 := hBj.bel hb9
         have hz9 := bk_trans hzj (Nat.le_refl _) hb9
         have hoj9 := own_below hoj hb9)
      | (refine wpList_storeC (o := ⟨none, .store _ (.tmp 21) _, _, _, _, _⟩) rfl _ _ _ rfl rfl rfl rfl hB9 (show 1 < 10 from by decide) sz_nms ?_
         intro wk hBk' hSk
         have hBk : Bk wk g3 26 (rsL (.slice aj (srvL R.S).length kj) (.slice a9 (leftL okNp 6 R.N).length k9) (.slice ap R.P.length cp) R).toArray := hBk'
         have ck : wk.cell? ⟨g3, 2, none⟩ = some (.slice ap R.P.length cp) := hBk.cell 2
         have hzk := bk_stays hz9 hSk hg3'
         have hojk := own_stays hoj9 hSk hbj
         have honk := own_stays ho9 hSk hgj
         have hgk : g3 < wk.heap.size := hBk.lt
         clear hBk' cj
         refine holdE ?_))
    refine Lib.hid ?_
    go_wp2_with (first
      | (go_at_call 47; refine (left_pf10 R.P _ _ (H.out.p.below (hb02.trans (hzk.mono hb02.size))) H.out.lp).mono ?_
         rintro e wp ⟨vp, rfl, hop, hbp⟩
         obtain ⟨ap2, kp2, rfl⟩ := own_any hop
         have hBp := hBk.bel hbp
         have hzp := bk_trans hzk (Nat.le_refl _) hbp
         have hojp := own_below hojk hbp
         have honp := own_below honk hbp)
      | (refine wpList_storeC (o := ⟨none, .store _ (.tmp 25) _, _, _, _, _⟩) rfl _ _ _ rfl rfl rfl rfl hBp (show 2 < 10 from by decide) sz_pfs ?_
         intro wq hBq' hSq
         have hBq : Bk wq g3 26 (rsL (.slice aj (srvL R.S).length kj) (.slice a9 (leftL okNp 6 R.N).length k9) (.slice ap2 (leftL okP 10 R.P).length kp2) R).toArray := hBq'
         have cq : wq.cell? ⟨g3, 3, none⟩ = some (.int .i64 R.nd) := hBq.cell 3
         have hzq := bk_stays hzp hSq hg3'
         have hojq := own_stays hojp hSq hbj
         have honq := own_stays honp hSq hgj
         have hopq := own_stays hop hSq hgk
         clear hBq' ck
         refine holdE ?_))
    refine Lib.hid ?_
    go_wp2_with (first
      | (go_at_call 49; refine (held_any _ _ _ _).mono ?_; rintro e wh ⟨rfl, rfl⟩)
      | (refine wpList_storeC (o := ⟨none, .store _ (.tmp 29) _, _, _, _, _⟩) rfl _ _ _ rfl rfl rfl rfl hBq (show 3 < 10 from by decide) sz_int ?_
         intro wr hBr' hSr
         have hBr : Bk wr g3 26 (rsL (.slice aj (srvL R.S).length kj) (.slice a9 (leftL okNp 6 R.N).length k9) (.slice ap2 (leftL okP 10 R.P).length kp2) { R with nd := heldI R.nd 0 15 }).toArray := hBr'
         have cr : wr.cell? ⟨g3, 4, none⟩ = some (.int .i64 R.tm) := hBr.cell 4
         have hzr := bk_stays hzq hSr hg3'
         clear hBr' cq
         refine holdE ?_))
    refine Lib.hid ?_
    go_wp2_with (first
      | (go_at_call 49; refine (held_any _ _ _ _).mono ?_; rintro e wh ⟨rfl, rfl⟩)
      | (refine wpList_storeC (o := ⟨none, .store _ (.tmp 33) _, _, _, _, _⟩) rfl _ _ _ rfl rfl rfl rfl hBr (show 4 < 10 from by decide) sz_int ?_
         intro ws hBs' hSs
         have hBs : Bk ws g3 26 (rsL (.slice aj (srvL R.S).length kj) (.slice a9 (leftL okNp 6 R.N).length k9) (.slice ap2 (leftL okP 10 R.P).length kp2) { R with nd := heldI R.nd 0 15, tm := heldI R.tm 1 30 }).toArray := hBs'
         have cs' : ws.cell? ⟨g3, 5, none⟩ = some (.int .i64 R.tr) := hBs.cell 5
         have hzs := bk_stays hzr hSs hg3'
         clear hBs' cr
         refine holdE ?_))
    refine Lib.hid ?_
    go_wp2_with (first
      | (go_at_call 49; refine (held_any _ _ _ _).mono ?_; rintro e wh ⟨rfl, rfl⟩)
      | (refine wpList_storeC (o := ⟨none, .store _ (.tmp 37) _, _, _, _, _⟩) rfl _ _ _ rfl rfl rfl rfl hBs (show 5 < 10 from by decide) sz_int ?_
         intro wt hBt' hSt
         have hBt : Bk wt g3 26 (rsL (.slice aj (srvL R.S).length kj) (.slice a9 (leftL okNp 6 R.N).length k9) (.slice ap2 (leftL okP 10 R.P).length kp2) (heldR R)).toArray := hBt'
         have hzt := bk_stays hzs hSt hg3'
         have hB1t := hB12.below hzt hB12.lt
         have ct : wt.cell? ⟨g1, 11, none⟩ = some (.slice none 0 0) := hB1t.cell 11
         have hS3 := (hSr.trans hSs).trans hSt
         have hojt := own_stays hojq hS3 hbj
         have hont := own_stays honq hS3 hgj
         have hopt := own_stays hopq hS3 hgk
         clear hBt' cs'
         refine holdE ?_))
    refine Lib.hid ?_
    go_wp2_with (first
      | (go_at_call 50; refine (left_so0 _ _ _ _ _).mono ?_; rintro e wh ⟨rfl, rfl⟩)
      | (go_at_call 52; refine (nplain_any _).mono ?_; rintro e wu ⟨⟨Au, rfl⟩, hbu⟩
         have hBu := hBt.bel hbu
         have hzu := bk_trans hzt (Nat.le_refl _) hbu
         have hB1u := hB12.below hzu hB12.lt
         have hB2u := hB2.below hzu hB2.lt
         clear ct))
    have c10 : wu.cell? ⟨g1, 10, none⟩ = some (.slice none 0 0) := hB1u.cell 10
    have c12 : wu.cell? ⟨g1, 12, none⟩ = some (.slice none 0 0) := hB1u.cell 12
    have x10 := fun x : BelT wu => x.cell c10
    have x12 := fun x : BelT wu => x.cell c12
    have hR3 := hBu.rangeL 0 _ [] (List.append_nil _).symm
    clear c10 c12
    refine wp_region_bel_tail 11 (by kernel_rfl) (by kernel_rfl) ?_
    simp only [List.take_succ_cons, List.take_zero, List.drop_succ_cons, List.drop_zero]
    repeat (first
      | go_big_quiet_skip
      | (go_big_quiet_want; first
          | (refine quiet_loadRow (o := ⟨some 45, _, _, _, _, _⟩) _ _ rfl rfl hR3 rs_under rfl rs_size (by simp only [Act.put, List.setIfInBounds_toArray, List.set_cons_succ, List.set_cons_zero]; exact rfl) ?_; go_big_quiet_on)
          | (go_big_quiet_op; first | go_big_quiet_on | go_big_quiet_call (first | (refine bel_call (heldHosts0 _)) | (refine bel_call_eq (left_sv0 _ _ _ _ _))))))
    refine wpQuiet_nil ?_
    rintro _ ⟨x, rfl⟩
    clear x10 x12 hR3
    have hzx := bk_trans hzu (Nat.le_refl _) x.bel
    have hB2x := hB2.below hzx hB2.lt
    refine wpList_buildL rfl _ [(0, .tmp 45), (1, .tmp 48), (2, .tmp 49), (3, .tmp 55)] rfl (built_cf aj a9 ap2 (srvL R.S).length kj (leftL okNp 6 R.N).length k9 (leftL okP 10 R.P).length kp2 (heldR R) Au) rfl ?_
    go_wp2_with (first
      | (refine wpList_storeB rfl _ (.tmp 2) (.tmp 56) rfl rfl rfl hB2x cf_size rfl (cfL_one _ rfl rfl rfl rfl rfl rfl) ?_; intro wz hBz hSz))
    have hb0z : Below w.heap.size w wz := hb02.trans ((hzx.mono hb02.size).trans (hSz.below (Nat.le_trans hb1.size hg2')))
    have hg23 : g2 < g3 := Nat.lt_of_lt_of_le hB2.lt hg3'
    have hbx := bel_tr hbu x.bel
    have hw3 : w.heap.size ≤ g3 := Nat.le_trans hb02.size hg3'
    have q1 := own_stays (own_below hojt hbx) hSz (Nat.lt_trans hg23 hbj)
    have q2 := own_stays (own_below hont hbx) hSz (Nat.lt_trans hg23 hgj)
    have q3 := own_stays (own_below hopt hbx) hSz (Nat.lt_trans hg23 hgk)
    exact ret_row Try.results32 rfl hBz cf_under rfl cf_size rfl ⟨_, _, _, _, _, _, rfl, heldR_at q1 q2 q3 (fun q hq => (H.out.nm q hq).bel hb0z) (by omega) (by omega) (by omega), hb0z⟩
end Go.Proofs.Ytebfgaapcpehmaa

/- The reference's Few (21), at what resolv.conf says alone. -/
namespace Go.Proofs.Ytebfgaapcpehmaa
open Go.RowKit

structure NmRaw (w : World) (p : Value × List (List UInt8)) : Prop where
  sl : Sl w 1 p.1 p.2.length (p.2.map stv)
  few : p.2.length ≤ maxLen
  len : ∀ l ∈ p.2, l.length ≤ 140737488351232
structure RsRaw (w : World) (vs vn vp : Value) (R : Rs) : Prop where
  s : Sl w 18 vs R.S.length (R.S.flatMap adL)
  n : Sl w 1 vn R.N.length (R.N.flatMap nmF)
  p : Sl w 19 vp R.P.length (R.P.flatMap pfL)
  nm : ∀ q ∈ R.N, NmRaw w q
  ls : R.S.length ≤ maxLen
  ln : R.N.length ≤ maxLen
  lp : R.P.length ≤ maxLen
theorem NmRaw.bel {w w' : World} {p : Value × List (List UInt8)} (h : NmRaw w p) (hb : Below w.heap.size w w') : NmRaw w' p := ⟨h.sl.below hb, h.few, h.len⟩
theorem RsRaw.bel {w w' : World} {vs vn vp : Value} {R : Rs} (h : RsRaw w vs vn vp R) (hb : Below w.heap.size w w') : RsRaw w' vs vn vp R := ⟨h.s.below hb, h.n.below hb, h.p.below hb, fun q hq => (h.nm q hq).bel hb, h.ls, h.ln, h.lp⟩
/-- what resolv.conf says, as an argument. -/
def RsArg (w : World) (v : Value) (a : Value × Value × Value × Rs) : Prop := v = .agg (rsL a.1 a.2.1 a.2.2.1 a.2.2.2).toArray ∧ RsRaw w a.1 a.2.1 a.2.2.1 a.2.2.2
def fewR (R : Rs) : Bool := decide (R.S.length ≤ 20) && (decide (R.N.length ≤ 20) && (decide (R.P.length ≤ 20) && R.N.all (fun q => fewB q.2)))
theorem fewR_at {w : World} {vs vn vp : Value} {R : Rs} (h : RsRaw w vs vn vp R) (hf : fewR R = true) : RsAt w vs vn vp R := by
  unfold fewR at hf
  simp only [Bool.and_eq_true, decide_eq_true_eq, List.all_eq_true] at hf
  obtain ⟨h1, h2, h3, h4⟩ := hf
  refine ⟨h.s, h.n, h.p, fun q hq => ?_, by omega, by omega, by omega⟩
  obtain ⟨f1, _, f3⟩ := few_bds (h4 q hq)
  exact ⟨(h.nm q hq).sl, by omega, fun l hl => by have := f3 l hl; omega⟩

set_option maxRecDepth 100000 in
set_option maxHeartbeats 4000000 in
theorem rfew21_any (vs vn vp : Value) (R : Rs) (w : World) (h : RsRaw w vs vn vp R) :
    Calls Try.prog 7 #[.agg (cfL vs vn vp R (.slice none 0 0) (.slice none 0 0) (.slice none 0 0)).toArray] w fun e w' => e = .returned (.bool (fewR R)) ∧ Below w.heap.size w w' := by
  obtain ⟨asl, cs, hvs, hcs⟩ := h.s.any
  obtain ⟨an, cn, hvn, hcn⟩ := h.n.any
  obtain ⟨ap, cp, hvp, hcp⟩ := h.p.any
  subst hvs hvn hvp
  have hls := h.ls
  have hln := h.ln
  have hlp := h.lp
  unfold maxLen at hls hln hlp
  have H := Lib.hid h
  clear h
  rcases (show ¬ R.S.length ≤ 20 ∨ (R.S.length ≤ 20 ∧ ¬ R.N.length ≤ 20) ∨ (R.S.length ≤ 20 ∧ R.N.length ≤ 20 ∧ ¬ R.P.length ≤ 20) ∨ (R.S.length ≤ 20 ∧ R.N.length ≤ 20 ∧ R.P.length ≤ 20) by omega) with h1 | ⟨h1, h2⟩ | ⟨h1, h2, h3⟩ | ⟨h1, h2, h3⟩
  case' inl => have hf : fewR R = false := by unfold fewR; simp [h1]
  case' inr.inl => have hf : fewR R = false := by unfold fewR; simp [h1, h2]
  case' inr.inr.inl => have hf : fewR R = false := by unfold fewR; simp [h1, h2, h3]
  case' inr.inr.inr => have hf : fewR R = R.N.all (fun q => fewB q.2) := by unfold fewR; simp [h1, h2, h3]
  case' inl => have i1 : (20 : Int) < (R.S.length : Int) := by omega
  case' inr.inl => have i1 : ¬ (20 : Int) < (R.S.length : Int) := by omega
  case' inr.inl => have i2 : (20 : Int) < (R.N.length : Int) := by omega
  case' inr.inr.inl => have i1 : ¬ (20 : Int) < (R.S.length : Int) := by omega
  case' inr.inr.inl => have i2 : ¬ (20 : Int) < (R.N.length : Int) := by omega
  case' inr.inr.inl => have i3 : (20 : Int) < (R.P.length : Int) := by omega
  case' inr.inr.inr => have i1 : ¬ (20 : Int) < (R.S.length : Int) := by omega
  case' inr.inr.inr => have i2 : ¬ (20 : Int) < (R.N.length : Int) := by omega
  case' inr.inr.inr => have i3 : ¬ (20 : Int) < (R.P.length : Int) := by omega
  all_goals
    have Hf := Lib.hid hf
    clear hf
    go_enter Try.func7, Try.ntmps7
    go_wp2_with (first
      | ((with_reducible refine wpList_boxB rfl _ _ rfl rfl ?_); intro g1 w1 hg1 hB1 hb1 hs1; clear hg1 hs1
         have c0 : w1.cell? ⟨g1, 0, none⟩ = some (.slice asl R.S.length cs) := hB1.cell 0
         have c1 : w1.cell? ⟨g1, 1, none⟩ = some (.slice an R.N.length cn) := hB1.cell 1
         have c2 : w1.cell? ⟨g1, 2, none⟩ = some (.slice ap R.P.length cp) := hB1.cell 2
         have c10 : w1.cell? ⟨g1, 10, none⟩ = some (.slice none 0 0) := hB1.cell 10
         have c11 : w1.cell? ⟨g1, 11, none⟩ = some (.slice none 0 0) := hB1.cell 11
         have c12 : w1.cell? ⟨g1, 12, none⟩ = some (.slice none 0 0) := hB1.cell 12))
  all_goals try (go_ret; exact ⟨retb Hf.out.symm, hb1⟩)
  · go_loopw [3] (fun i wr => ∃ k : Nat, k ≤ R.N.length ∧ i = .int .i64 k ∧ (∀ j (hj : j < R.N.length), j < k → fewB R.N[j].2 = true) ∧ w1 = wr) (fun i _ => R.N.length - (intOf i).toNat)
    case atStart => exact ⟨0, Nat.zero_le _, rfl, fun j _ h => absurd h (by omega), rfl⟩
    case round =>
      obtain ⟨k, hk, rfl, hall, rfl⟩ := hrel
      have Hall := Lib.hid hall
      clear hall
      by_cases hlt : k < R.N.length
      · obtain ⟨b, off, c, hv, hc, hbl, hcell⟩ := (H.out.n.below hb1).pos (by omega)
        injection hv with hv1 _ hv2
        subst hv1 hv2
        have hnm := (H.out.nm _ (List.getElem_mem hlt)).bel hb1
        have hR := (range_of nmF_len hcell hlt)
        have hR1 : w1.cell? ⟨b, off + k, none⟩ = some R.N[k].1 := by
          have := hR 0 _ rfl
          simpa using this
        obtain ⟨P, hP⟩ : ∃ P, R.N[k] = P := ⟨_, rfl⟩
        obtain ⟨pv, pn⟩ := P
        rw [hP] at hR1 hnm
        obtain ⟨na, nc, hnv, hnc⟩ := hnm.sl.any
        dsimp only at hnv hnc hR1
        subst hnv
        have Hnm := Lib.hid hnm
        have HP := Lib.hid hP
        clear hR hcell hbl hnm hP
        have hltI : (k : Int) < (R.N.length : Int) := by omega
        cases hok : fewB pn
        all_goals
          have Hok := Lib.hid hok
          clear hok
          go_wp2_with (first
            | (go_at_call 25; refine (few_any pn _ _ Hnm.out.sl Hnm.out.few Hnm.out.len).mono ?_; rintro e w5 ⟨rfl, rfl⟩; rw [Hok.out]))
        · go_ret
          refine ⟨retb ?_, hb1⟩
          rw [Hf.out]
          cases ha : R.N.all (fun q => fewB q.2)
          · rfl
          · exfalso
            have := List.all_eq_true.1 ha _ (List.getElem_mem hlt)
            rw [HP.out] at this
            dsimp only at this
            rw [Hok.out] at this
            cases this
        · go_roundw
          case rel =>
            refine ⟨k + 1, by omega, by go_num, fun j hj h => ?_, by first | trivial | rfl⟩
            rcases Nat.lt_or_eq_of_le (Nat.le_of_lt_succ h) with h' | h'
            · exact Hall.out j hj h'
            · subst h'; rw [HP.out]; exact Hok.out
          case measure => simp [intOf]; omega
      · have hltI : ¬ (k : Int) < (R.N.length : Int) := by omega
        have hfin : fewR R = true := by
          rw [Hf.out, List.all_eq_true]
          intro q hq
          obtain ⟨j, hj, rfl⟩ := List.getElem_of_mem hq
          exact Hall.out j hj (by omega)
        have Hfin := Lib.hid hfin
        clear hfin
        go_wp2_with fail
        go_loopw [4] (fun i wr => i = .int .i64 0 ∧ w1 = wr) (fun _ _ => 0)
        case atStart => first | exact ⟨rfl, rfl⟩ | exact ⟨trivial, rfl⟩ | exact ⟨rfl, trivial⟩ | simp
        case round =>
          obtain ⟨rfl, rfl⟩ := hrel
          go_wp2_with fail
          go_loopw [6] (fun i wr => i = .int .i64 0 ∧ w1 = wr) (fun _ _ => 0)
          case atStart => first | exact ⟨rfl, rfl⟩ | exact ⟨trivial, rfl⟩ | exact ⟨rfl, trivial⟩ | simp
          case round =>
            obtain ⟨rfl, rfl⟩ := hrel
            go_wp2_with fail
            go_ret
            exact ⟨retb Hfin.out.symm, hb1⟩
end Go.Proofs.Ytebfgaapcpehmaa

/- plan.held and plan.Servers. -/
namespace Go.Proofs.Ytebfgaapcpehmaa
open Go.RowKit

def ResPost (w : World) (R : Rs) (e : Ending) (w' : World) : Prop :=
  ∃ vs vn vp, e = .returned (.agg (rsL vs vn vp (heldR R)).toArray) ∧ RsOwn w.heap.size w' vs vn vp (heldR R) ∧ Below w.heap.size w w'
/-- what follows one operation of a region, as a post. -/
def Qk (K : Act → World → Prop) (Q : Exit → Act → World → Prop) : Exit → Act → World → Prop
  | .normal, a, w => K a w
  | e, a, w => Q e a w
theorem wpOp_of_list {P : Program} {ops : Array Oper} {Q : Exit → Act → World → Prop} {i : Nat} {K : Act → World → Prop} {a : Act} {w : World} {o : Oper} (hi : ops[i]? = some o) (h : wpList P ops (Qk K Q) [o] a w) : wpOp P ops Q i K a w := by
  unfold wpOp
  simp only [hi]
  unfold wpList at h
  split
  · next hw =>
    rw [if_pos hw] at h
    rcases h with h | ⟨h1, h2⟩
    · refine .inl ?_
      unfold Oper.wp at h ⊢
      generalize (execOp a.eval o).run P w = r at h ⊢
      unfold Oper.upon at h ⊢
      cases r with
      | ok n w' => cases n <;> first | exact h | (refine Calls.mono h ?_; intro e w'' he; cases e <;> exact he)
      | halt x w' => cases x <;> first | exact h | exact h.elim
    · exact .inr ⟨h1, h2⟩
  · next hw =>
    rw [if_neg hw] at h
    exact h
/-- a field of a struct that is a value. -/
theorem wpList_fieldRow {P : Program} {w : World} {ops : Array Oper} {rest : List Oper} {o : Oper} {a : Act} {Q : Exit → Act → World → Prop} (hgd : o.guard = none) (t : TypeId) (x : Operand) (i : Nat) (ho : o.op = .field t x i) {cs ds : Array Value} (hx : a.eval x = .agg cs)
    {fs : Array Field} (hu : P.underlying t = some (.struct fs)) {ty : TypeId} {off : Nat} (hf : fs[i]?.map (fun f => (f.type, f.offset)) = some (ty, off)) {d : TypeDesc} (hu2 : P.underlying ty = some d) (hd : d.isRow = true) {sz : Nat} (hi : (P.info? ty).map (·.size) = some sz) (he : cs.extract off (off + sz) = ds)
    (h : wpList P ops Q rest (a.put o.dst (.agg ds)) w) : wpList P ops Q (o :: rest) a w := by
  refine wpList_plain hgd fun _ hK => ?_
  obtain ⟨f, hf1, hf2⟩ := Option.map_eq_some_iff.1 hf
  injection hf2 with hf2 hf3
  have ha : (isAgg ty).run P w = .ok true w := by cases d <;> first | (cases hd; done) | simp [isAgg, run_underlying hu2]
  have hs : (sizeOf ty).run P w = .ok sz w := by
    cases hq : P.info? ty with
    | none => simp [hq] at hi
    | some ie =>
      have : ie.size = sz := by simpa [hq] using hi
      simp [sizeOf, typeInfo, hq, this]
  have hr : (Instr.field t (.agg cs) i).run P w = .ok (.agg ds) w := by
    subst hf2 hf3
    simp only [Instr.field, Sem.run_bind, run_underlying hu, Result.andThen_ok, hf1, asAgg, Sem.run_pure, part, ha, if_true, hs, he]
  unfold Oper.wp execOp
  simp only [ho, hx, Sem.run_bind, hr, Result.andThen_ok]
  exact hK _ _ h
theorem wpList_fieldOne {P : Program} {w : World} {ops : Array Oper} {rest : List Oper} {o : Oper} {a : Act} {Q : Exit → Act → World → Prop} (hgd : o.guard = none) (t : TypeId) (x : Operand) (i : Nat) (ho : o.op = .field t x i) {cs : Array Value} (hx : a.eval x = .agg cs)
    {fs : Array Field} (hu : P.underlying t = some (.struct fs)) {ty : TypeId} {off : Nat} (hf : fs[i]?.map (fun f => (f.type, f.offset)) = some (ty, off)) {d : TypeDesc} (hu2 : P.underlying ty = some d) (hd : d.isRow = false) {v : Value} (he : cs[off]? = some v)
    (h : wpList P ops Q rest (a.put o.dst v) w) : wpList P ops Q (o :: rest) a w := by
  refine wpList_plain hgd fun _ hK => ?_
  obtain ⟨f, hf1, hf2⟩ := Option.map_eq_some_iff.1 hf
  injection hf2 with hf2 hf3
  have ha : (isAgg ty).run P w = .ok false w := by cases d <;> first | (cases hd; done) | simp [isAgg, run_underlying hu2]
  have hr : (Instr.field t (.agg cs) i).run P w = .ok v w := by
    subst hf2 hf3
    simp only [Instr.field, Sem.run_bind, run_underlying hu, Result.andThen_ok, hf1, asAgg, Sem.run_pure, part, ha, if_false, Bool.false_eq_true, he]
  unfold Oper.wp execOp
  simp only [ho, hx, Sem.run_bind, hr, Result.andThen_ok]
  exact hK _ _ h
theorem yieldsIf_fieldOne {P : Program} {ops : Array Oper} {S : World → Prop} {o : Oper} {a : Act} (hw : Region.wanted o (yielded ops a.tmps) = true) (t : TypeId) (x : Operand) (i : Nat) (ho : o.op = .field t x i) {cs : Array Value} (hx : a.eval x = .agg cs)
    {fs : Array Field} (hu : P.underlying t = some (.struct fs)) {ty : TypeId} {off : Nat} (hf : fs[i]?.map (fun f => (f.type, f.offset)) = some (ty, off)) {d : TypeDesc} (hu2 : P.underlying ty = some d) (hd : d.isRow = false) {v : Value} (he : cs[off]? = some v) : YieldsIf P ops S o v a :=
  .inl ⟨hw, fun w _ => by
    obtain ⟨f, hf1, hf2⟩ := Option.map_eq_some_iff.1 hf
    injection hf2 with hf2 hf3
    have ha : (isAgg ty).run P w = .ok false w := by cases d <;> first | (cases hd; done) | simp [isAgg, run_underlying hu2]
    have hr : (Instr.field t (.agg cs) i).run P w = .ok v w := by
      subst hf2 hf3
      simp only [Instr.field, Sem.run_bind, run_underlying hu, Result.andThen_ok, hf1, asAgg, Sem.run_pure, part, ha, if_false, Bool.false_eq_true, he]
    unfold execOp
    simp only [ho, hx, Sem.run_bind, hr, Result.andThen_ok, Sem.run_pure]⟩
theorem built_cf0 (vs vn vp : Value) (R : Rs) : Try.prog.built 32 [(0, .agg (rsL vs vn vp R).toArray)] = some (cfL vs vn vp R (.slice none 0 0) (.slice none 0 0) (.slice none 0 0)).toArray := by kernel_rfl
theorem setHeld_cf (vs vn vp : Value) (R : Rs) (w : World) (h : RsAt w vs vn vp R) :
    Calls Try.prog 32 #[.agg (cfL vs vn vp R (.slice none 0 0) (.slice none 0 0) (.slice none 0 0)).toArray] w (HeldPost w R) := setHeld_any vs vn vp R w h
set_option maxRecDepth 100000 in
set_option maxHeartbeats 1000000 in
theorem pheld_any (vs vn vp : Value) (R : Rs) (w : World) (h : RsAt w vs vn vp R) :
    Calls Try.prog 27 #[.agg (rsL vs vn vp R).toArray] w (ResPost w R) := by
  have Hb := Lib.hid (built_cf0 vs vn vp R)
  have H := Lib.hid h
  clear h
  go_enter Try.func27, Try.ntmps27
  go_wp2_with (first
    | ((with_reducible refine wpList_boxB rfl _ _ rfl rfl ?_); intro g1 w1 hg1 hB1 hb1 hs1; have hg1' : w.heap.size ≤ g1 := Nat.le_of_eq hg1.symm; clear hg1 hs1)
    | ((with_reducible refine wpList_allocZ (o := ⟨some 2, _, _, _, _, _⟩) rfl _ rfl rs_zero ?_); intro g2 w2 hg2 hB2 hb2 hs2; have hg2' : w1.heap.size ≤ g2 := Nat.le_of_eq hg2.symm; clear hg2 hs2; have hB12 := hB1.bel hb2; have hb02 := bel_tr hb1 hb2)
    | (refine wpList_loadB (o := ⟨some 3, _, _, _, _, _⟩) rfl _ _ rfl rfl hB12 rs_under rfl rs_size ?_)
    | (refine wpList_buildL (o := ⟨some 4, _, _, _, _, _⟩) rfl _ [(0, .tmp 3)] rfl Hb.out rfl ?_)
    | (go_at_call 32; refine (setHeld_cf vs vn vp R _ (H.out.bel hb02)).mono ?_
       rintro e w3 ⟨xs, xn, xp, xh, xo, xv, rfl, hR3, hb3⟩
       have hB23 := hB2.bel hb3
       have HR3 := Lib.hid hR3
       clear hR3
       refine holdE ?_))
  refine Lib.hid ?_
  go_wp2_with (first
    | (refine wpList_fieldRow (o := ⟨some 6, _, _, _, _, _⟩) rfl _ _ 0 rfl rfl cf_under (ty := 26) (off := 0) (by kernel_rfl) rs_under rfl rs_size (ds := (rsL xs xn xp (heldR R)).toArray) rfl ?_)
    | (refine wpList_storeB rfl _ (.tmp 2) (.tmp 6) rfl rfl rfl hB23 rs_size rfl (rsL_one _ (sl_one HR3.out.rs.s) (sl_one HR3.out.rs.n) (sl_one HR3.out.rs.p)) ?_; intro w4 hB4 hS4))
  have hb24 : Below w.heap.size w w4 := hb02.trans ((hb3.mono hb02.size).trans (hS4.below (Nat.le_trans hb1.size hg2')))
  have hR4 := HR3.out.stays hS4 hB2.lt (fun q hq => (H.out.nm q (leftL_mem hq).1).bel hb24)
  exact ret_row Try.results27 rfl hB4 rs_under rfl rs_size rfl ⟨_, _, _, rfl, ⟨hR4.rs, own_low hR4.os hb02.size, own_low hR4.on hb02.size, own_low hR4.op hb02.size⟩, hb24⟩
end Go.Proofs.Ytebfgaapcpehmaa

/- plan.Servers. -/
namespace Go.Proofs.Ytebfgaapcpehmaa
open Go.RowKit

theorem Sl.cutS {w : World} {size b off n c k : Nat} {xs : List Value} (h : Sl w size (.slice (some ⟨b, off, none⟩) n c) n xs) (hk : k ≤ n) : Sl w size (.slice (some ⟨b, off + k * size, none⟩) (n - k) (c - k)) (n - k) (xs.drop (k * size)) := by
  obtain ⟨h0, A, c', hv, hc, hA, hcell⟩ := h
  injection hv with e1 _ e2
  subst e1 e2
  refine ⟨by rw [List.length_drop, h0, Nat.sub_mul], _, _, rfl, by omega, (fun h => by cases h), fun ad had hpos => ?_⟩
  injection had with had
  subst had
  obtain ⟨h1, _, h3⟩ := hcell _ rfl (by omega)
  refine ⟨h1, rfl, fun j u hu => ?_⟩
  rw [List.getElem?_drop] at hu
  have := h3 _ _ hu
  dsimp only at this ⊢
  rwa [Nat.add_assoc]
theorem Sl.takeS {w : World} {size b off n c k : Nat} {xs : List Value} (h : Sl w size (.slice (some ⟨b, off, none⟩) n c) n xs) (hk : k ≤ n) : Sl w size (.slice (some ⟨b, off, none⟩) k c) k (xs.take (k * size)) := by
  obtain ⟨h0, A, c', hv, hc, hA, hcell⟩ := h
  injection hv with e1 _ e2
  subst e1 e2
  refine ⟨by rw [List.length_take, h0]; have := Nat.mul_le_mul_right size hk; omega, _, _, rfl, by omega, (fun h => by cases h), fun ad had hpos => ?_⟩
  injection had with had
  subst had
  obtain ⟨h1, _, h3⟩ := hcell _ rfl (by omega)
  refine ⟨h1, rfl, fun j u hu => h3 j u ?_⟩
  rw [List.getElem?_take] at hu
  split at hu
  · exact hu
  · cases hu
theorem flat_take {α β : Type} {f : α → List β} {s : Nat} (hs : ∀ a, (f a).length = s) : ∀ (k : Nat) (L : List α), (L.flatMap f).take (k * s) = (L.take k).flatMap f
  | 0, L => by simp
  | k + 1, [] => by simp
  | k + 1, x :: L => by
    rw [List.flatMap_cons, List.take_succ_cons, List.flatMap_cons, Nat.add_mul, Nat.one_mul, Nat.add_comm, List.take_append, hs, List.take_of_length_le (by rw [hs]; omega)]
    congr 1
    rw [show s + k * s - s = k * s by omega, flat_take hs k L]
theorem flat_drop {α β : Type} {f : α → List β} {s : Nat} (hs : ∀ a, (f a).length = s) : ∀ (k : Nat) (L : List α), (L.flatMap f).drop (k * s) = (L.drop k).flatMap f
  | 0, L => by simp
  | k + 1, [] => by simp
  | k + 1, x :: L => by
    rw [List.flatMap_cons, List.drop_succ_cons, Nat.add_mul, Nat.one_mul, Nat.add_comm, List.drop_append, hs, List.drop_eq_nil_of_le (by rw [hs]; omega), List.nil_append]
    rw [show s + k * s - s = k * s by omega, flat_drop hs k L]
/-- the turn as the code counts it. -/
def u64n (turn : Int) : Nat := (IntKind.u64.wrap turn).toNat
theorem u64n_eq (turn : Int) : IntKind.u64.wrap turn = (u64n turn : Int) := by
  unfold u64n
  have : 0 ≤ IntKind.u64.wrap turn := by simp [IntKind.wrap, IntKind.signed, IntKind.bits]; omega
  omega
def rotAt (R : Rs) (turn : Int) : Nat := if R.rot then u64n turn % (srvL R.S).length else 0
def rotL (R : Rs) (turn : Int) : List Ad := (srvL R.S).drop (rotAt R turn) ++ (srvL R.S).take (rotAt R turn)
theorem srvL_len (S : List Ad) : 1 ≤ (srvL S).length ∧ (srvL S).length ≤ 3 := by
  unfold srvL
  have := leftL_len okA 3 S
  split
  · simp
  · next h => exact ⟨List.length_pos_iff.2 h, this⟩
theorem rotAt_lt (R : Rs) (turn : Int) : rotAt R turn < (srvL R.S).length := by
  have := (srvL_len R.S).1
  unfold rotAt
  split
  · exact Nat.mod_lt _ (by omega)
  · omega
def SrvPost (w : World) (L : List Ad) (e : Ending) (w' : World) : Prop := ∃ v, e = .returned v ∧ w'.ownsRow w.heap.size 40 18 v L.length (L.flatMap adL) ∧ Below w.heap.size w w'

set_option maxRecDepth 100000 in
set_option maxHeartbeats 1000000 in
theorem pservers_any (vs vn vp : Value) (R : Rs) (turn : Int) (w : World) (h : RsAt w vs vn vp R) :
    Calls Try.prog 12 #[.agg (rsL vs vn vp R).toArray, .int .i64 turn] w (SrvPost w (rotL R turn)) := by
  have H := Lib.hid h
  clear h
  obtain ⟨hn1, hn3⟩ := srvL_len R.S
  have hU := u64n_eq turn
  have hlt := rotAt_lt R turn
  obtain ⟨U, hU2⟩ : ∃ U, u64n turn = U := ⟨_, rfl⟩
  rw [hU2] at hU
  obtain ⟨M, hM2⟩ : ∃ M, U % (srvL R.S).length = M := ⟨_, rfl⟩
  have hM : (U : Int) % ((srvL R.S).length : Int) = (M : Int) := by rw [← hM2]; exact (Int.natCast_emod U _).symm
  have hMlt : M < (srvL R.S).length := by rw [← hM2]; exact Nat.mod_lt _ (by omega)
  have hMlI : (M : Int) < ((srvL R.S).length : Int) := by omega
  have hn0 : (0 : Int) < ((srvL R.S).length : Int) := by omega
  go_enter Try.func12, Try.ntmps12
  cases hrot : R.rot
  all_goals
    have hra : rotAt R turn = (if R.rot then M else 0) := by unfold rotAt; rw [hU2, hM2]
    rw [hrot] at hra
    have Hra := Lib.hid hra
    have Hrot := Lib.hid hrot
    clear hra hrot
    go_wp2_with (first
      | ((with_reducible refine wpList_boxB rfl _ _ rfl rfl ?_); intro g1 w1 hg1 hB1 hb1 hs1; have hg1' : w.heap.size ≤ g1 := Nat.le_of_eq hg1.symm; clear hg1 hs1)
      | (refine wpList_loadB (o := ⟨some 8, _, _, _, _, _⟩) rfl _ _ rfl rfl hB1 rs_under rfl rs_size ?_)
      | (go_at_call 27; refine (pheld_any vs vn vp R _ (H.out.bel hb1)).mono ?_
         rintro e w2 ⟨xs, xn, xp, rfl, hR2, hb2⟩
         have hB12 := hB1.bel hb2)
      | (refine wpList_storeB rfl _ (.tmp 2) (.tmp 9) rfl rfl rfl hB12 rs_size rfl (rsL_one _ (sl_one hR2.rs.s) (sl_one hR2.rs.n) (sl_one hR2.rs.p)) ?_; intro w3 hB3 hS3
         have ho3 := own_stays hR2.os hS3 hB1.lt
         obtain ⟨b, off, c, rfl, hc, hbl, hcl⟩ := (Sl.own ho3).pos hn1
         clear hcl
         have c0 : w3.cell? ⟨g1, 0, none⟩ = some (.slice (some ⟨b, off, none⟩) (srvL R.S).length c) := hB3.cell 0
         have c6 : w3.cell? ⟨g1, 6, none⟩ = some (.bool R.rot) := hB3.cell 6
         rw [Hrot.out] at c6
         have HR2 := Lib.hid hR2
         have Ho3 := Lib.hid ho3
         clear hR2 ho3
         refine holdE ?_))
    refine Lib.hid ?_
    have hcM : ¬ c = M := by have : (srvL R.S).length ≤ c := hc; omega
    have hc' : (srvL R.S).length ≤ c := hc
    clear hU2 hM2
    have s3 : Sl w3 18 (.slice (some ⟨b, off, none⟩) (srvL R.S).length c) (srvL R.S).length ((srvL R.S).flatMap adL) := Sl.own Ho3.out
    have S3 := Lib.hid s3
    have hg13 : g1 < w3.heap.size := hB3.lt
    have hb03 : Below w.heap.size w w3 := (hb1.trans (hb2.mono hb1.size)).trans (hS3.below hg1')
    have hone := flat_one adL_one (srvL R.S)
    have Hone := Lib.hid hone
    clear s3 hone
    go_wp2_with (first
      | (at_make; refine wpList_mk0 rfl _ _ _ rfl elt_ads (base := w3.heap.size) (srvL R.S).length rfl rfl rfl (by omega) (by omega) (Nat.le_refl _) ?_; intro w4 ho4 hb4
         have c04 : w4.cell? ⟨g1, 0, none⟩ = some (.slice (some ⟨b, off, none⟩) (srvL R.S).length c) := (hB3.bel hb4).cell 0
         refine holdE ?_))
    refine Lib.hid ?_
  · have s4 := S3.out.below hb4
    have Ho4 := Lib.hid ho4
    have S4 := Lib.hid s4
    clear ho4 s4
    go_wp2_with (first
      | (at_builtin; refine wpList_app rfl (.tmp 27) (.tmp 31) _ rfl elt_ads rfl Ho4.out rfl S4.out Hone.out hb4.size (by omega) (by omega) ?_
         intro v5 w5 ho5 hb5 hg5
         clear hg5
         rw [Nat.zero_add, List.nil_append] at ho5
         obtain ⟨a5, k5, rfl⟩ := own_any ho5
         have hb35 := hb4.trans hb5
         have c05 : w5.cell? ⟨g1, 0, none⟩ = some (.slice (some ⟨b, off, none⟩) (srvL R.S).length c) := (hB3.bel hb35).cell 0
         have S5 := Lib.hid ((S3.out.below hb35).takeS (k := 0) (by omega))
         have Ho5 := Lib.hid ho5
         clear ho5
         refine holdE ?_))
    refine Lib.hid ?_
    go_wp2_with (first
      | (at_builtin; refine wpList_app rfl (.tmp 33) (.tmp 37) _ rfl elt_ads rfl Ho5.out rfl S5.out (fun u hu => Hone.out u (List.mem_of_mem_take hu)) hb35.size (by omega) (by omega) ?_
         intro v6 w6 ho6 hb6 hg6
         clear hg6))
    go_ret
    refine ⟨_, rfl, ?_, hb03.trans ((hb35.trans hb6).mono hb03.size)⟩
    refine own_low (b := w3.heap.size) ?_ hb03.size
    have e : rotL R turn = srvL R.S := by unfold rotL; rw [Hra.out]; simp
    rw [e]
    simpa using ho6
  · have s4 := (S3.out.below hb4).cutS (k := M) (by omega)
    have Ho4 := Lib.hid ho4
    have S4 := Lib.hid s4
    clear ho4 s4
    go_wp2_with (first
      | (at_builtin; refine wpList_app rfl (.tmp 27) (.tmp 31) _ rfl elt_ads rfl Ho4.out rfl S4.out (fun u hu => Hone.out u (List.mem_of_mem_drop hu)) hb4.size (by omega) (by omega) ?_
         intro v5 w5 ho5 hb5 hg5
         clear hg5
         rw [Nat.zero_add, List.nil_append] at ho5
         obtain ⟨a5, k5, rfl⟩ := own_any ho5
         have hb35 := hb4.trans hb5
         have c05 : w5.cell? ⟨g1, 0, none⟩ = some (.slice (some ⟨b, off, none⟩) (srvL R.S).length c) := (hB3.bel hb35).cell 0
         have S5 := Lib.hid ((S3.out.below hb35).takeS (k := M) (by omega))
         have Ho5 := Lib.hid ho5
         clear ho5
         refine holdE ?_))
    refine Lib.hid ?_
    go_wp2_with (first
      | (at_builtin; refine wpList_app rfl (.tmp 33) (.tmp 37) _ rfl elt_ads rfl Ho5.out rfl S5.out (fun u hu => Hone.out u (List.mem_of_mem_take hu)) hb35.size (by omega) (by omega) ?_
         intro v6 w6 ho6 hb6 hg6
         clear hg6))
    go_ret
    refine ⟨_, rfl, ?_, hb03.trans ((hb35.trans hb6).mono hb03.size)⟩
    refine own_low (b := w3.heap.size) ?_ hb03.size
    have e : rotL R turn = (srvL R.S).drop M ++ (srvL R.S).take M := by unfold rotL; rw [Hra.out]; simp
    rw [e, List.flatMap_append, ← flat_drop adL_len, ← flat_take adL_len, List.length_append, List.length_drop, List.length_take, Nat.min_eq_left (Nat.le_of_lt hMlt)]
    simpa using ho6
end Go.Proofs.Ytebfgaapcpehmaa

/- plan.Tries, plan.Most, plan.Ticks. -/
namespace Go.Proofs.Ytebfgaapcpehmaa
open Go.RowKit

/-- a try: a server and its round. -/
def mkT (a : Ad) (r : Nat) (h : r ≤ 1000) : Pf := ⟨a, (r : Int), by omega⟩
def rnd (L : List Ad) (r : Nat) : List Pf := if h : r ≤ 1000 then L.map (fun a => mkT a r h) else []
def trsL (L : List Ad) (n : Nat) : List Pf := (List.range n).flatMap (rnd L)
def trsP (L : List Ad) (k j : Nat) : List Pf := trsL L k ++ rnd (L.take j) k
theorem rnd_len (L : List Ad) {r : Nat} (h : r ≤ 1000) : (rnd L r).length = L.length := by unfold rnd; rw [dif_pos h, List.length_map]
theorem trsL_succ (L : List Ad) (n : Nat) : trsL L (n + 1) = trsL L n ++ rnd L n := by
  unfold trsL
  rw [List.range_succ, List.flatMap_append]
  simp
theorem trsL_len (L : List Ad) : ∀ {n : Nat}, n ≤ 1000 → (trsL L n).length = n * L.length
  | 0, _ => by simp [trsL]
  | n + 1, h => by rw [trsL_succ, List.length_append, trsL_len L (by omega), rnd_len L (by omega), Nat.add_mul]; omega
theorem trsP_zero (L : List Ad) (k : Nat) : trsP L k 0 = trsL L k := by
  unfold trsP rnd
  split <;> simp
theorem trsP_full (L : List Ad) (k : Nat) : trsP L k L.length = trsL L (k + 1) := by rw [trsL_succ]; unfold trsP; rw [List.take_length]
theorem trsP_next (L : List Ad) {k j : Nat} (hj : j < L.length) (hk : k ≤ 1000) : trsP L k (j + 1) = trsP L k j ++ [mkT L[j] k hk] := by
  unfold trsP rnd
  rw [dif_pos hk, dif_pos hk, List.take_succ_eq_append_getElem hj, List.map_append, List.append_assoc]
  rfl
theorem trsP_len (L : List Ad) {k j : Nat} (hj : j ≤ L.length) (hk : k ≤ 1000) : (trsP L k j).length = k * L.length + j := by
  unfold trsP
  rw [List.length_append, trsL_len L hk, rnd_len _ hk, List.length_take, Nat.min_eq_left hj]
theorem rotL_len (R : Rs) (turn : Int) : (rotL R turn).length = (srvL R.S).length := by
  have := rotAt_lt R turn
  unfold rotL
  rw [List.length_append, List.length_drop, List.length_take]
  omega
theorem elt_trs : Elt Try.prog 34 42 19 40 := Elt.mk' (z := .agg (pfA ⟨ad0, 0, by decide⟩)) Try.underlying34 (by kernel_rfl) (by kernel_rfl) (by decide)
def adGen (f z : Int) (c0 c1 c2 c3 c4 c5 c6 c7 c8 c9 c10 c11 c12 c13 c14 c15 : UInt8) : Array Value := #[.int .i64 f, byv c0, byv c1, byv c2, byv c3, byv c4, byv c5, byv c6, byv c7, byv c8, byv c9, byv c10, byv c11, byv c12, byv c13, byv c14, byv c15, .int .i64 z]
theorem built_try0 (f z : Int) (c0 c1 c2 c3 c4 c5 c6 c7 c8 c9 c10 c11 c12 c13 c14 c15 : UInt8) (r : Int) : Try.prog.built 42 [(0, .agg (adGen f z c0 c1 c2 c3 c4 c5 c6 c7 c8 c9 c10 c11 c12 c13 c14 c15)), (1, .int .i64 r)] = some #[.int .i64 f, byv c0, byv c1, byv c2, byv c3, byv c4, byv c5, byv c6, byv c7, byv c8, byv c9, byv c10, byv c11, byv c12, byv c13, byv c14, byv c15, .int .i64 z, .int .i64 r] := by kernel_rfl
theorem built_try (a : Ad) (r : Nat) (h : r ≤ 1000) : Try.prog.built 42 [(0, .agg (adA a)), (1, .int .i64 r)] = some (pfA (mkT a r h)) := by
  obtain ⟨c0, c1, c2, c3, c4, c5, c6, c7, c8, c9, c10, c11, c12, c13, c14, c15, hl⟩ := len16 a.len
  have e1 : adA a = adGen a.fam a.zone c0 c1 c2 c3 c4 c5 c6 c7 c8 c9 c10 c11 c12 c13 c14 c15 := by unfold adA adL; rw [hl]; rfl
  have e2 : pfA (mkT a r h) = #[.int .i64 a.fam, byv c0, byv c1, byv c2, byv c3, byv c4, byv c5, byv c6, byv c7, byv c8, byv c9, byv c10, byv c11, byv c12, byv c13, byv c14, byv c15, .int .i64 a.zone, .int .i64 r] := by unfold pfA pfL adL mkT; simp only; rw [hl]; rfl
  rw [e1, e2]
  exact built_try0 _ _ _ _ _ _ _ _ _ _ _ _ _ _ _ _ _ _ _
def TriesRel (w3 : World) (L : List Pf) (v : Value) (wr : World) : Prop := wr.ownsRow w3.heap.size 42 19 v L.length (L.flatMap pfL) ∧ Below w3.heap.size w3 wr
def TriesPost (w : World) (L : List Pf) (e : Ending) (w' : World) : Prop := ∃ v, e = .returned v ∧ w'.ownsRow w.heap.size 42 19 v L.length (L.flatMap pfL) ∧ Below w.heap.size w w'
def trN (R : Rs) : Nat := (heldI R.tr 1 5).toNat
theorem trN_eq (R : Rs) : heldI R.tr 1 5 = (trN R : Int) ∧ 1 ≤ trN R ∧ trN R ≤ 5 := by unfold trN heldI; omega

set_option maxRecDepth 100000 in
set_option maxHeartbeats 2000000 in
theorem ptries_any (vs vn vp : Value) (R : Rs) (turn : Int) (w : World) (h : RsAt w vs vn vp R) :
    Calls Try.prog 9 #[.agg (rsL vs vn vp R).toArray, .int .i64 turn] w (TriesPost w (trsL (rotL R turn) (trN R))) := by
  have H := Lib.hid h
  clear h
  obtain ⟨hn1, hn3⟩ := srvL_len R.S
  have hrl := rotL_len R turn
  obtain ⟨htr, ht1, ht5⟩ := trN_eq R
  obtain ⟨T, hT⟩ : ∃ T, trN R = T := ⟨_, rfl⟩
  rw [hT] at htr ht1 ht5 ⊢
  obtain ⟨L, hL⟩ : ∃ L, rotL R turn = L := ⟨_, rfl⟩
  have HL := Lib.hid hL
  have hl1 : 1 ≤ L.length := by rw [← hL, hrl]; exact hn1
  have hl3 : L.length ≤ 3 := by rw [← hL, hrl]; exact hn3
  rw [hL]
  have Htr := Lib.hid htr
  clear hL hT hrl hn1 hn3 htr
  go_enter Try.func9, Try.ntmps9
  go_wp2_with (first
    | ((with_reducible refine wpList_boxB rfl _ _ rfl rfl ?_); intro g1 w1 hg1 hB1 hb1 hs1; have hg1' : w.heap.size ≤ g1 := Nat.le_of_eq hg1.symm; clear hg1 hs1)
    | (refine wpList_loadB (o := ⟨some 10, _, _, _, _, _⟩) rfl _ _ rfl rfl hB1 rs_under rfl rs_size ?_)
    | (go_at_call 12; refine (pservers_any vs vn vp R _ _ (H.out.bel hb1)).mono ?_
       rw [HL.out]
       rintro e w2 ⟨v2, rfl, ho2, hb2⟩
       obtain ⟨b, off, c, rfl, hc, hbl, hcl⟩ := (Sl.own ho2).pos (by omega)
       have Ho2 := Lib.hid ho2
       clear ho2 hcl
       have hB12 := hB1.bel hb2)
    | (refine wpList_loadB (o := ⟨some 13, _, _, _, _, _⟩) rfl _ _ rfl rfl hB12 rs_under rfl rs_size ?_)
    | (go_at_call 27; refine (pheld_any vs vn vp R _ (H.out.bel (bel_tr hb1 hb2))).mono ?_
       rintro e w3 ⟨xs, xn, xp, rfl, hR3, hb3⟩
       clear hR3)
    | (refine wpList_fieldOne (o := ⟨some 15, _, _, _, _, _⟩) rfl _ _ 5 rfl rfl rs_under (ty := 3) (off := 5) (by kernel_rfl) Try.underlying3 rfl (v := .int .i64 (heldI R.tr 1 5)) rfl ?_; rw [Htr.out]))
  have s3 := (Sl.own Ho2.out).below hb3
  obtain ⟨hx0, hx1, hx2, hx3, hx4, hx5, hcell⟩ := id s3
  have hb03 := bel_tr (bel_tr hb1 hb2) hb3
  have S3 := Lib.hid s3
  clear s3 hx0 hx1 hx2 hx3 hx4 hx5 hcell
  go_loopw [6, 16] (fun v i wr => ∃ k : Nat, k ≤ T ∧ i = .int .i64 k ∧ TriesRel w3 (trsL L k) v wr) (fun _ i _ => T - (intOf i).toNat)
  case atStart => exact ⟨0, Nat.zero_le _, rfl, by simpa [trsL] using World.ownsRow_nil w3 w3.heap.size 42 19, Below.refl _ _⟩
  case round =>
    obtain ⟨k, hk, rfl, hown, hbel⟩ := hrel
    have Hown := Lib.hid hown
    clear hown
    by_cases hlt : k < T
    · have hltI : (k : Int) < (T : Int) := by omega
      go_wp2_with fail
      go_loopw [6, 21] (fun v i wr => ∃ j : Nat, j ≤ L.length ∧ i = .int .i64 j ∧ TriesRel w3 (trsP L k j) v wr) (fun _ i _ => L.length - (intOf i).toNat)
      case atStart => exact ⟨0, Nat.zero_le _, rfl, by rw [trsP_zero]; exact Hown.out, hbel⟩
      case round =>
        obtain ⟨j, hj, rfl, hown, hbel⟩ := hrel
        obtain ⟨ao, co, rfl⟩ := own_any hown
        have Hown := Lib.hid hown
        clear hown
        by_cases hjl : j < L.length
        · have hjI : (j : Int) < (L.length : Int) := by omega
          obtain ⟨b', off', c', hv, hc', hbl', hcell⟩ := S3.out.pos hl1
          injection hv with hv1 _ hv2
          injection hv1 with hv1
          injection hv1 with hv3 hv4
          subst hv3 hv4 hv2
          have hR := range_of adL_len hcell hjl
          have HR : Hid (wr.rangeAt b (off + j * 18) (adL L[j])) := Lib.hid (fun i u hu => ((hbel.cell (p := ⟨b, off + j * 18 + i, none⟩) hbl').trans (hR i u hu)))
          have Hbt := Lib.hid (built_try L[j] k (by omega))
          have Hnx := Lib.hid (trsP_next L hjl (show k ≤ 1000 by omega))
          have hlen := trsP_len L hj (show k ≤ 1000 by omega)
          have hle : (trsP L k j).length ≤ 100 := by
            rw [hlen]
            have : k * L.length ≤ 5 * 3 := Nat.mul_le_mul (by omega) hl3
            omega
          clear hlen hR hcell
          go_wp2_with (first
            | ((with_reducible refine wpList_loadAdM rfl _ rfl rfl HR.out ?_))
            | ((with_reducible refine wpList_allocAd rfl rfl ?_); intro g5 w5 hg hB5 hb5 hs; have hg5 : wr.heap.size ≤ g5 := Nat.le_of_eq hg.symm; clear hg hs)
            | ((with_reducible refine wpList_storeAd rfl _ _ rfl rfl rfl hB5 ?_); intro w6 hB6 hS6; have hb6 : Below wr.heap.size wr w6 := hb5.trans (hS6.below hg5))
            | ((with_reducible refine wpList_loadAd rfl _ rfl rfl hB6 ?_))
            | (refine wpList_buildL (o := ⟨some 28, _, _, _, _, _⟩) rfl _ [(0, .tmp 26), (1, .tmp 27)] rfl Hbt.out rfl ?_)
            | (refine wpList_lit (o := ⟨some 29, _, _, _, _, _⟩) rfl _ _ rfl elt_trs [.agg (pfA (mkT L[j] k (by omega)))] rfl (by decide) (by decide) (fun v hv => by rw [List.mem_singleton.1 hv]; exact pfA_size _) rfl ?_; intro w7 hB7 hx7 hb7 hs7; clear hx7 hs7; have hb07 := bel_tr hb6 hb7; have hB7 := bk_list (l := pfL (mkT L[j] k (by omega))) hB7 rfl)
            | (at_builtin; refine wpList_app rfl (.tmp 25) (.tmp 29) _ rfl elt_trs rfl (own_below Hown.out hb07) rfl (hB7.sl (size := 19) (n := 1) (pfL_len _) 1 (Nat.le_refl _)) (pfL_one _) (Nat.le_trans hbel.size hb07.size) (by omega) (by omega) ?_; intro v8 w8 ho8 hb8 hg8; clear hg8))
          go_roundw
          case rel =>
            refine ⟨j + 1, by omega, by go_num, ?_, (hbel.trans (hb07.mono hbel.size)).trans hb8⟩
            rw [Hnx.out, List.length_append, List.flatMap_append]
            simpa using ho8
          case measure => simp [intOf]; omega
        · have hjI : ¬ (j : Int) < (L.length : Int) := by omega
          obtain rfl : j = L.length := by omega
          go_wp2_with fail
          go_roundw
          case rel => exact ⟨k + 1, by omega, by go_num, by rw [← trsP_full]; exact Hown.out, hbel⟩
          case measure => simp [intOf]; omega
    · have hltI : ¬ (k : Int) < (T : Int) := by omega
      obtain rfl : k = T := by omega
      go_wp2
      go_ret
      exact ⟨_, rfl, own_low Hown.out hb03.size, hb03.trans (hbel.mono hb03.size)⟩
end Go.Proofs.Ytebfgaapcpehmaa

/- plan.Most, plan.Ticks. -/
namespace Go.Proofs.Ytebfgaapcpehmaa
open Go.RowKit

def mostN (R : Rs) : Nat := 3 * (trN R * (srvL R.S).length)
theorem mostN_le (R : Rs) : mostN R ≤ 45 := by
  unfold mostN
  have := (trN_eq R).2.2
  have := (srvL_len R.S).2
  have : trN R * (srvL R.S).length ≤ 5 * 3 := Nat.mul_le_mul (by omega) (by omega)
  omega
theorem trsL_all (R : Rs) (turn : Int) : (trsL (rotL R turn) (trN R)).length = trN R * (srvL R.S).length := by
  rw [trsL_len _ (by have := (trN_eq R).2.2; omega), rotL_len]

set_option maxRecDepth 100000 in
set_option maxHeartbeats 1000000 in
theorem pmost_any (vs vn vp : Value) (R : Rs) (w : World) (h : RsAt w vs vn vp R) :
    Calls Try.prog 14 #[.agg (rsL vs vn vp R).toArray] w fun e w' => e = .returned (.int .i64 (mostN R)) ∧ Below w.heap.size w w' := by
  have H := Lib.hid h
  have hm := mostN_le R
  have hal := trsL_all R 0
  have hml : mostN R = 3 * (trsL (rotL R 0) (trN R)).length := by rw [hal]; rfl
  have Hml := Lib.hid hml
  obtain ⟨L, hL⟩ : ∃ L, trsL (rotL R 0) (trN R) = L := ⟨_, rfl⟩
  rw [hL] at hml
  have HL := Lib.hid hL
  have hll : L.length ≤ 15 := by omega
  clear h hL hal hml
  go_enter Try.func14, Try.ntmps14
  go_wp2_with (first
    | ((with_reducible refine wpList_boxB rfl _ _ rfl rfl ?_); intro g1 w1 hg1 hB1 hb1 hs1; clear hg1 hs1)
    | (refine wpList_loadB (o := ⟨some 3, _, _, _, _, _⟩) rfl _ _ rfl rfl hB1 rs_under rfl rs_size ?_)
    | (go_at_call 9; refine (ptries_any vs vn vp R 0 _ (H.out.bel hb1)).mono ?_
       rw [HL.out]
       rintro e w2 ⟨v2, rfl, ho2, hb2⟩
       obtain ⟨a2, c2, rfl⟩ := own_any ho2
       clear ho2))
  go_ret
  refine ⟨reti ?_, bel_tr hb1 hb2⟩
  rw [Hml.out, HL.out]
  omega

def tmN (R : Rs) : Nat := (heldI R.tm 1 30).toNat
theorem tmN_eq (R : Rs) : heldI R.tm 1 30 = (tmN R : Int) ∧ 1 ≤ tmN R ∧ tmN R ≤ 30 := by unfold tmN heldI; omega
set_option maxRecDepth 100000 in
set_option maxHeartbeats 1000000 in
theorem pticks_any (vs vn vp : Value) (R : Rs) (w : World) (h : RsAt w vs vn vp R) :
    Calls Try.prog 16 #[.agg (rsL vs vn vp R).toArray] w fun e w' => e = .returned (.int .i64 ((tmN R * mostN R : Nat) : Int)) ∧ Below w.heap.size w w' := by
  have H := Lib.hid h
  have hm := mostN_le R
  obtain ⟨ht, ht1, ht2⟩ := tmN_eq R
  have hle : tmN R * mostN R ≤ 30 * 45 := Nat.mul_le_mul ht2 hm
  obtain ⟨J, hJ⟩ : ∃ J, tmN R * mostN R = J := ⟨_, rfl⟩
  have hJI : (tmN R : Int) * (mostN R : Int) = (J : Int) := by rw [← hJ]; exact (Int.natCast_mul _ _).symm
  rw [hJ] at hle ⊢
  have Ht := Lib.hid ht
  clear h hJ ht
  go_enter Try.func16, Try.ntmps16
  go_wp2_with (first
    | ((with_reducible refine wpList_boxB rfl _ _ rfl rfl ?_); intro g1 w1 hg1 hB1 hb1 hs1; clear hg1 hs1))
  have hR1 := hB1.rangeL 0 _ [] (List.append_nil _).symm
  have hSz : ∀ w', Below w1.heap.size w1 w' → w'.rangeAt g1 0 (rsL vs vn vp R) := fun w' hb j u hu => (hb.cell (p := ⟨g1, 0 + j, none⟩) hB1.lt).trans (hR1 j u hu)
  have HSz := Lib.hid hSz
  have hd1 : Below w1.heap.size w1 w1.drew := (Below.refl _ _).drew
  clear hSz hR1
  refine wp_region_held (S := fun w' => w'.rangeAt g1 0 (rsL vs vn vp R)) (by kernel_rfl) ?_
  refine wpAnyH_take (i := 0) (oi := ⟨some 3, .load 26 (.tmp 1), _, _, _, none⟩) (v := .agg (rsL vs vn vp R).toArray) rfl (by kernel_rfl) (by kernel_rfl) (by kernel_rfl) (fun _ _ _ h => h) (yieldsIf_load_mid (by rfl) _ _ rfl _ _ rfl (rsL vs vn vp R) _ (fun w' hS' => hS') rs_under rfl rs_size) (HSz.out _ hd1) ?_
  dsimp only [Act.put, List.setIfInBounds_toArray, List.set_cons_zero, List.set_cons_succ]
  refine wpAnyH_take (i := 3) (oi := ⟨some 6, .load 26 (.tmp 1), _, _, _, none⟩) (v := .agg (rsL vs vn vp R).toArray) rfl (by kernel_rfl) (by kernel_rfl) (by kernel_rfl) (fun _ _ _ h => h) (yieldsIf_load_mid (by rfl) _ _ rfl _ _ rfl (rsL vs vn vp R) _ (fun w' hS' => hS') rs_under rfl rs_size) (HSz.out _ hd1) ?_
  dsimp only [Act.put, List.setIfInBounds_toArray, List.set_cons_zero, List.set_cons_succ]
  refine wpAnyH_all (rs := [1]) (by kernel_rfl) (by decide) ?_
  intro i hi
  obtain rfl := List.mem_singleton.1 hi
  refine wpOp_of_list (o := ⟨some 4, .call { callee := .value (.func 27), args := #[.tmp 3], argTypes := #[26] }, _, _, _, none⟩) rfl ?_
  go_wp2_with (first
    | (go_at_call 27; refine (pheld_any vs vn vp R _ (H.out.bel (hb1.trans (hd1.mono hb1.size)))).mono ?_
       rintro e w3 ⟨xs, xn, xp, rfl, hR3, hb3⟩
       clear hR3))
  have hz3 := bel_tr hd1 hb3
  show _ ∧ _
  refine ⟨HSz.out _ hz3, ?_⟩
  refine wpAnyH_take (i := 2) (oi := ⟨some 5, .field 26 (.tmp 4) 4, _, _, _, none⟩) (v := .int .i64 (heldI R.tm 1 30)) rfl (by kernel_rfl) (by kernel_rfl) (by kernel_rfl) (fun _ _ _ h => h) (yieldsIf_fieldOne (by rfl) _ _ 4 rfl rfl rs_under (ty := 3) (off := 4) (by kernel_rfl) Try.underlying3 rfl rfl) (HSz.out _ hz3) ?_
  dsimp only [Act.put, List.setIfInBounds_toArray, List.set_cons_zero, List.set_cons_succ]
  rw [Ht.out]
  refine wpAnyH_all (rs := [4]) (by kernel_rfl) (by decide) ?_
  intro i hi
  obtain rfl := List.mem_singleton.1 hi
  refine wpOp_of_list (o := ⟨some 7, .call { callee := .value (.func 14), args := #[.tmp 6], argTypes := #[26] }, _, _, _, none⟩) rfl ?_
  go_wp2_with (first
    | (go_at_call 14; refine (pmost_any vs vn vp R _ (H.out.bel (bel_tr hb1 hz3))).mono ?_
       rintro e w4 ⟨rfl, hb4⟩))
  have hz4 := bel_tr hz3 hb4
  show _ ∧ _
  refine ⟨HSz.out _ hz4, ?_⟩
  refine wpAnyH_all (rs := [5]) (by kernel_rfl) (by decide) ?_
  intro i hi
  obtain rfl := List.mem_singleton.1 hi
  refine wpOp_of_list (o := ⟨some 8, .binOp .mul 3 (.tmp 5) (.tmp 7) 3, _, _, _, none⟩) rfl ?_
  go_wp2_with fail
  show _ ∧ _
  refine ⟨HSz.out _ hz4, ?_⟩
  refine wpAnyH_all (rs := [6]) (by kernel_rfl) (by decide) ?_
  intro i hi
  obtain rfl := List.mem_singleton.1 hi
  refine wpOp_of_list (o := ⟨some 2, .assign (.tmp 8), _, _, _, none⟩) rfl ?_
  go_wp2_with fail
  show _ ∧ _
  refine ⟨HSz.out _ hz4, ?_⟩
  refine wpAnyH_done (by kernel_rfl) ?_ _
  go_wp2
  go_ret
  exact ⟨rfl, bel_tr hb1 hz4⟩
end Go.Proofs.Ytebfgaapcpehmaa

/- The reference's names and Resolv (21). -/
namespace Go.Proofs.Ytebfgaapcpehmaa
open Go.RowKit

set_option maxRecDepth 100000 in
set_option maxHeartbeats 400000 in
theorem rname21_any (A : List (List UInt8)) (v : Value) (w : World) (h : Sl w 1 v A.length (A.map stv)) (hA : A.length ≤ 1000000000) (hl : ∀ l ∈ A, l.length ≤ 140737488351232) : Calls Try.prog 39 #[v] w fun e w' => e = .returned (.bool (okN A)) ∧ w = w' := by
  obtain ⟨a1, c1, hv1, hc1⟩ := h.any
  subst hv1
  have H := Lib.hid h
  have Hl := Lib.hid hl
  clear h hl
  by_cases h0 : 0 < A.length
  · have i0 : (0 : Int) < (A.length : Int) := by omega
    have ho : okN A = (chk A == 0) := by unfold okN; simp [h0]
    have Ho := Lib.hid ho
    clear ho
    go_enter Try.func39, Try.ntmps39
    go_wp2_with (go_at_call 23; refine (rcheck_any A _ _ H.out hA Hl.out).mono ?_; rintro e w' ⟨rfl, rfl⟩)
    go_ret
    exact ⟨retb Ho.out.symm, rfl⟩
  · have ho : okN A = false := by unfold okN; simp [h0]
    have Ho := Lib.hid ho
    clear ho
    have i0 : ¬ (0 : Int) < (A.length : Int) := by omega
    go_enter Try.func39, Try.ntmps39
    go_wp2
    go_ret
    exact ⟨retb Ho.out.symm, rfl⟩

set_option maxRecDepth 100000 in
set_option maxHeartbeats 2000000 in
theorem rnames_any (L : List (Value × List (List UInt8))) (most : Nat) (v : Value) (w : World) (h : Sl w 1 v L.length (L.flatMap nmF)) (hN : ∀ p ∈ L, NmOk w p) (hl : L.length ≤ 1000000) (hm : most ≤ 1000000) :
    Calls Try.prog 30 #[v, .int .i64 most] w (LeftPost w 55 1 ((leftL okNp most L).flatMap nmF) (leftL okNp most L).length) := by
  obtain ⟨a1, c1, hv1, hc1⟩ := h.any
  subst hv1
  have H := Lib.hid h
  have HN := Lib.hid hN
  clear h hN
  go_enter Try.func30, Try.ntmps30
  go_wp2
  go_loopw [5, 6] (fun v i wr => ∃ k : Nat, k ≤ L.length ∧ i = .int .i64 k ∧ LeftRel w 55 1 nmF okNp most L k v wr) (fun _ i _ => L.length - (intOf i).toNat)
  case atStart => exact ⟨0, Nat.zero_le _, rfl, by simp, by simpa using World.ownsRow_nil w w.heap.size 55 1, Below.refl _ _⟩
  case round =>
    obtain ⟨k, hk, rfl, hcnt, hown, hbel⟩ := hrel
    obtain ⟨ao, co, rfl⟩ := own_any hown
    have Hown := Lib.hid hown
    clear hown
    by_cases hlt : k < L.length
    · obtain ⟨b, off, c, hv, hc, hbl, hcell⟩ := H.out.pos (by omega)
      injection hv with hv1 _ hv2
      subst hv1 hv2
      have hnm := HN.out _ (List.getElem_mem hlt)
      have hR := (range_of nmF_len hcell hlt)
      have hR1 : wr.cell? ⟨b, off + k, none⟩ = some L[k].1 := by
        have := (hbel.cell (p := ⟨b, off + k * 1 + 0, none⟩) hbl).trans (hR 0 _ rfl)
        simpa using this
      obtain ⟨P, hP⟩ : ∃ P, L[k] = P := ⟨_, rfl⟩
      obtain ⟨pv, pn⟩ := P
      rw [hP] at hR1 hnm
      obtain ⟨na, nc, hnv, hnc⟩ := hnm.sl.any
      dsimp only at hnv hnc hR1
      subst hnv
      have Hnm := Lib.hid (show NmOk wr (Value.slice na pn.length nc, pn) from ⟨hnm.sl.below hbel, hnm.few, hnm.len⟩)
      have HP := Lib.hid hP
      clear hR hcell hbl hnm hP
      have hltI : (k : Int) < (L.length : Int) := by omega
      by_cases hst : most ≤ ((L.take k).filter okNp).length
      · have hfin : leftL okNp most L = (L.take k).filter okNp := by rw [leftL_stop hst, List.take_of_length_le hcnt]
        have Hfin := Lib.hid hfin
        clear hfin
        have hstI : ¬ (((L.take k).filter okNp).length : Int) < (most : Int) := by omega
        go_wp2
        go_ret
        refine ⟨_, rfl, ?_, hbel⟩
        rw [Hfin.out]
        exact Hown.out
      · have hstI : (((L.take k).filter okNp).length : Int) < (most : Int) := by omega
        have hst2 : ((L.take k).filter okNp).length < most := by omega
        have hnx := filter_next (p := okNp) hlt
        have Hnx := Lib.hid hnx
        clear hnx
        cases hok : okN pn
        all_goals
          have Hok := Lib.hid hok
          clear hok
          go_wp2_with (first
            | (at_builtin; refine wpList_appLit (n := ((L.take k).filter okNp).length) (m := 1) rfl (.tmp 24) (.tmp 29) _ rfl elt_nms rfl Hown.out [Value.slice na pn.length nc] rfl rfl (by intro u hu; rw [List.mem_singleton.1 hu]; rfl) hbel.size (by omega) (by omega) ?_; intro v7 w7 ho7 hb7 hg7; clear hg7)
            | (go_at_call 39; refine (rname21_any pn _ _ Hnm.out.sl Hnm.out.few Hnm.out.len).mono ?_; rintro e w5 ⟨rfl, rfl⟩; rw [Hok.out]))
          skip
        · go_roundw
          case rel =>
            refine ⟨k + 1, by omega, by go_num, ?_⟩
            unfold LeftRel
            rw [Hnx.out, if_neg (by rw [HP.out]; unfold okNp; rw [Hok.out]; decide), List.append_nil]
            exact ⟨hcnt, Hown.out, hbel⟩
          case measure => simp [intOf]; omega
        · go_roundw
          case rel =>
            refine ⟨k + 1, by omega, by go_num, ?_⟩
            unfold LeftRel
            rw [Hnx.out, if_pos (by rw [HP.out]; exact Hok.out), List.length_append, List.flatMap_append]
            refine ⟨by simp; omega, ?_, hbel.trans hb7⟩
            rw [HP.out]
            simpa [nmF] using ho7
          case measure => simp [intOf]; omega
    · have hkl : k = L.length := by omega
      subst hkl
      have hfin : leftL okNp most L = (L.take L.length).filter okNp := by rw [leftL, List.take_length, List.take_of_length_le (by rw [List.take_length] at hcnt; exact hcnt)]
      have Hfin := Lib.hid hfin
      clear hfin
      go_wp2
      go_ret
      refine ⟨_, rfl, ?_, hbel⟩
      rw [Hfin.out]
      exact Hown.out
theorem rnames6 (L : List (Value × List (List UInt8))) (v : Value) (w : World) (h : Sl w 1 v L.length (L.flatMap nmF)) (hN : ∀ p ∈ L, NmOk w p) (hl : L.length ≤ 1000000) :
    Calls Try.prog 30 #[v, .int .i64 6] w (LeftPost w 55 1 ((leftL okNp 6 L).flatMap nmF) (leftL okNp 6 L).length) := rnames_any L 6 v w h hN hl (by omega)
end Go.Proofs.Ytebfgaapcpehmaa

/- The reference's SameAddrs (17). -/
namespace Go.Proofs.Ytebfgaapcpehmaa
open Go.RowKit

set_option maxRecDepth 100000 in
set_option maxHeartbeats 1000000 in
theorem sameAds_any (L M : List Ad) (va vb : Value) (w : World) (ha : Sl w 18 va L.length (L.flatMap adL)) (hb : Sl w 18 vb M.length (M.flatMap adL)) (hl : L.length ≤ 1000000) (hm : M.length ≤ 1000000) :
    Calls Try.prog 11 #[va, vb] w fun e w' => e = .returned (.bool (decide (L = M))) ∧ Below w.heap.size w w' := by
  obtain ⟨a1, c1, hv1, hc1⟩ := ha.any
  subst hv1
  obtain ⟨a2, c2, hv2, hc2⟩ := hb.any
  subst hv2
  have Ha := Lib.hid ha
  have Hb := Lib.hid hb
  clear ha hb
  by_cases hn : L.length = M.length
  · have i1 : ((L.length : Int) != (M.length : Int)) = false := by simp [hn]
    have i2 : (L.length != M.length) = false := by simp [hn]
    have Hn := Lib.hid hn
    have hle : L.length ≤ M.length := by omega
    clear hn
    go_enter Try.func11, Try.ntmps11
    go_wp2
    go_loopw [5] (fun i wr => ∃ k : Nat, k ≤ L.length ∧ i = .int .i64 k ∧ (L.take k = M.take k) ∧ Below w.heap.size w wr) (fun i _ => L.length - (intOf i).toNat)
    case atStart => exact ⟨0, Nat.zero_le _, rfl, rfl, Below.refl _ _⟩
    case round =>
      obtain ⟨k, hk, rfl, heq, hbel⟩ := hrel
      have Heq := Lib.hid heq
      clear heq
      by_cases hlt : k < L.length
      · have hltM : k < M.length := by omega
        have hltI : (k : Int) < (L.length : Int) := by omega
        have hltJ : (k : Int) < (M.length : Int) := by omega
        have hk0 : (0 : Int) ≤ (k : Int) := by omega
        obtain ⟨b, off, c, hv, hc, hbl, hcell⟩ := Ha.out.pos (by omega)
        injection hv with hv1 _ hv2
        subst hv1 hv2
        obtain ⟨b2, off2, c3, hv, hc3, hbl2, hcell2⟩ := Hb.out.pos (by omega)
        injection hv with hv1 _ hv2
        subst hv1 hv2
        have hR := range_of adL_len hcell hlt
        have hR2 := range_of adL_len hcell2 hltM
        have HR : wr.rangeAt b (off + k * 18) (adL L[k]) := fun j u hu => ((hbel.cell (p := ⟨b, off + k * 18 + j, none⟩) hbl).trans (hR j u hu))
        have HR2 : wr.rangeAt b2 (off2 + k * 18) (adL M[k]) := fun j u hu => ((hbel.cell (p := ⟨b2, off2 + k * 18 + j, none⟩) hbl2).trans (hR2 j u hu))
        clear hR hR2 hcell hcell2
        cases hr : (!decide (L[k] = M[k]))
        all_goals
          have Hr := Lib.hid hr
          clear hr
          go_wp2
          refine wp_region_bel (by kernel_rfl) (by kernel_rfl) ?_
          repeat (first
            | go_big_quiet_skip
            | (go_big_quiet_want; first
                | (refine quiet_loadAd (o := ⟨some 20, _, _, _, _, _⟩) _ rfl rfl HR (by simp only [Act.put, List.setIfInBounds_toArray, List.set_cons_succ, List.set_cons_zero]; exact rfl) ?_; go_big_quiet_on)
                | (refine quiet_loadAd (o := ⟨some 24, _, _, _, _, _⟩) _ rfl rfl HR2 (by simp only [Act.put, List.setIfInBounds_toArray, List.set_cons_succ, List.set_cons_zero]; exact rfl) ?_; go_big_quiet_on)
                | (refine quiet_neqAd _ _ rfl rfl rfl Hr.out (by simp only [Act.put, List.setIfInBounds_toArray, List.set_cons_succ, List.set_cons_zero]; exact rfl) ?_; go_big_quiet_on)
                | (go_big_quiet_op; go_big_quiet_on)))
          refine wpQuiet_nil ?_
          rintro _ ⟨x, rfl⟩
          go_wp2
        · go_roundw
          case rel =>
            have he : L[k] = M[k] := by simpa using Hr.out
            refine ⟨k + 1, by omega, by go_num, ?_, hbel.trans (x.bel.mono hbel.size)⟩
            rw [List.take_succ_eq_append_getElem hlt, List.take_succ_eq_append_getElem hltM, Heq.out, he]
          case measure => simp [intOf]; omega
        · go_ret
          have he : L[k] ≠ M[k] := by simpa using Hr.out
          refine ⟨retb ?_, hbel.trans (x.bel.mono hbel.size)⟩
          rw [eq_comm, decide_eq_false_iff_not]
          intro h
          subst h
          exact he rfl
      · have hltI : ¬ (k : Int) < (L.length : Int) := by omega
        go_wp2
        go_ret
        refine ⟨retb ?_, hbel⟩
        rw [eq_comm, decide_eq_true_iff]
        have := Heq.out
        rwa [List.take_of_length_le (by omega), List.take_of_length_le (by have := Hn.out; omega)] at this
  · have i1 : ((L.length : Int) != (M.length : Int)) = true := by simp; omega
    have i2 : (L.length != M.length) = true := by simp; omega
    go_enter Try.func11, Try.ntmps11
    go_wp2
    go_ret
    refine ⟨retb ?_, Below.refl _ _⟩
    rw [eq_comm, decide_eq_false_iff_not]
    intro h
    exact hn (by rw [h])
end Go.Proofs.Ytebfgaapcpehmaa

/- wayfinderlaw23.works. -/
namespace Go.Proofs.Ytebfgaapcpehmaa
open Go.RowKit

def ad1 : Ad := adOf 1 2 3 4
def ad2 : Ad := adOf 5 6 7 8
theorem rof_1234 (w : World) : Calls Try.prog 26 #[.int .i64 1, .int .i64 2, .int .i64 3, .int .i64 4] w (AdPost w ad1) := rof_any 1 2 3 4 w
theorem rof_5678 (w : World) : Calls Try.prog 26 #[.int .i64 5, .int .i64 6, .int .i64 7, .int .i64 8] w (AdPost w ad2) := rof_any 5 6 7 8 w
def Rs1 : Rs := ⟨[ad1, ad2], [], [], 0, 0, 0, true, false, false, false⟩
def Rs0 : Rs := ⟨[], [], [], 0, 0, 0, false, false, false, false⟩
theorem rot1 : rotL Rs1 1 = [ad2, ad1] := by decide +kernel
theorem most0 : mostN Rs0 = 3 := by decide +kernel
theorem built_w1 (g : Nat) : Try.prog.built 26 [(0, .slice (some ⟨g, 0, none⟩) 2 2), (6, .bool true)] = some (rsL (.slice (some ⟨g, 0, none⟩) 2 2) (.slice none 0 0) (.slice none 0 0) Rs1).toArray := by kernel_rfl
theorem built_w0 : Try.prog.built 26 [] = some (rsL (.slice none 0 0) (.slice none 0 0) (.slice none 0 0) Rs0).toArray := by kernel_rfl
theorem rs_nil (w : World) : RsAt w (.slice none 0 0) (.slice none 0 0) (.slice none 0 0) Rs0 := ⟨Sl.nil _ _, Sl.nil _ _, Sl.nil _ _, (fun _ h => by cases h), by simp [Rs0], by simp [Rs0], by simp [Rs0]⟩
theorem rs_two {w : World} {v : Value} (h : Sl w 18 v 2 ([ad1, ad2].flatMap adL)) : RsAt w v (.slice none 0 0) (.slice none 0 0) Rs1 := ⟨h, Sl.nil _ _, Sl.nil _ _, (fun _ h => by cases h), by simp [Rs1], by simp [Rs1], by simp [Rs1]⟩

set_option maxRecDepth 100000 in
set_option maxHeartbeats 400000 in
theorem works23_any (w : World) : Calls Try.prog 8 #[] w fun e w' => e = .returned (.bool true) ∧ Below w.heap.size w w' := by
  have Hr := Lib.hid rot1
  have Hm := Lib.hid most0
  have H1 := Lib.hid built_w1
  have H0 := Lib.hid built_w0
  go_enter Try.func8, Try.ntmps8
  go_wp2_with (first
    | (go_at_call 26; (with_reducible refine (rof_1234 _).mono ?_); rintro e w1 ⟨rfl, hb1⟩)
    | (go_at_call 26; (with_reducible refine (rof_5678 _).mono ?_); rintro e w2 ⟨rfl, hb2⟩; have hb02 := bel_tr hb1 hb2; clear hb1 hb2)
    | ((with_reducible refine wpList_allocAd (o := ⟨some 1, _, _, _, _, _⟩) rfl rfl ?_); intro g3 w3 hg3 hB3 hb3 hs3; have hb03 := bel_tr hb02 hb3; have hg3' : w.heap.size ≤ g3 := by rw [hg3]; exact hb02.size
       clear hg3 hs3 hb02 hb3)
    | ((with_reducible refine wpList_allocAd (o := ⟨some 2, _, _, _, _, _⟩) rfl rfl ?_); intro g4 w4 hg4 hB4 hb4 hs4; have hb04 := bel_tr hb03 hb4; have hg4' : g3 < g4 := by rw [hg4]; exact hB3.lt
       have hB3 := hB3.bel hb4
       clear hg4 hs4 hb03 hb4)
    | ((with_reducible refine wpList_storeAd (o := ⟨none, .store _ (.tmp 1) _, _, _, _, _⟩) rfl _ _ rfl rfl rfl hB3 ?_); intro w5 hB5 hS5
       have hB4' := hB4.stays hS5 (Nat.ne_of_gt hg4')
       have hb05 := hb04.trans (hS5.below hg3')
       clear hB3 hB4 hb04 hS5)
    | ((with_reducible refine wpList_storeAd (o := ⟨none, .store _ (.tmp 2) _, _, _, _, _⟩) rfl _ _ rfl rfl rfl hB4' ?_); intro w6 hB6 hS6
       have hB56 := hB5.stays hS6 (Nat.ne_of_lt hg4')
       have hb06 := hb05.trans (hS6.below (Nat.le_trans hg3' (Nat.le_of_lt hg4')))
       clear hB5 hB4' hb05 hS6
       refine holdE ?_))
  refine Lib.hid ?_
  go_wp2_with (first
    | ((with_reducible refine wpList_loadAd (o := ⟨some 6, _, _, _, _, _⟩) rfl _ rfl rfl hB56 ?_))
    | ((with_reducible refine wpList_loadAd (o := ⟨some 7, _, _, _, _, _⟩) rfl _ rfl rfl hB6 ?_))
    | (refine wpList_lit (o := ⟨some 8, _, _, _, _, _⟩) rfl _ _ rfl elt_ads [.agg (adA ad1), .agg (adA ad2)] rfl (by decide) (by decide) (fun v hv => by rcases List.mem_cons.1 hv with rfl | hv; exact adA_size _; rw [List.mem_singleton.1 hv]; exact adA_size _) rfl ?_
       intro w7 hB7 ho7 hb7 hs7
       have hb07 := bel_tr hb06 hb7
       have hB67 := hB6.bel hb7
       have hB57 := hB56.bel hb7
       have ho7' : Sl w7 18 (.slice (some ⟨w6.heap.size, 0, none⟩) 2 2) 2 ([ad1, ad2].flatMap adL) := Sl.own ho7
       clear hB7 hs7 hb7 hb06 hB6 hB56 ho7
       generalize w6.heap.size = b7 at ho7' ⊢
       refine holdE ?_))
  refine Lib.hid ?_
  go_wp2_with (first
    | (refine wpList_buildL (o := ⟨some 9, _, _, _, _, _⟩) rfl _ [(0, .tmp 8), (6, .const (.bool true))] rfl (H1.out _) rfl ?_)
    | (go_at_call 12; refine (pservers_any _ _ _ Rs1 1 _ (rs_two ho7')).mono ?_
       rw [Hr.out]
       rintro e w8 ⟨v8, rfl, ho8, hb8⟩
       obtain ⟨a8, c8, rfl⟩ := own_any ho8
       have hb08 := bel_tr hb07 hb8
       have hB68 := hB67.bel hb8
       have hB58 := hB57.bel hb8
       have So8 := Sl.own ho8
       clear ho8 hb8 hb07 hB67 hB57 ho7'
       refine holdE ?_))
  refine Lib.hid ?_
  go_wp2_with (first
    | ((with_reducible refine wpList_loadAd (o := ⟨some 12, _, _, _, _, _⟩) rfl _ rfl rfl hB68 ?_))
    | ((with_reducible refine wpList_loadAd (o := ⟨some 13, _, _, _, _, _⟩) rfl _ rfl rfl hB58 ?_))
    | (refine wpList_lit (o := ⟨some 14, _, _, _, _, _⟩) rfl _ _ rfl elt_ads [.agg (adA ad2), .agg (adA ad1)] rfl (by decide) (by decide) (fun v hv => by rcases List.mem_cons.1 hv with rfl | hv; exact adA_size _; rw [List.mem_singleton.1 hv]; exact adA_size _) rfl ?_
       intro w9 hB9 ho9 hb9 hs9
       have hb09 := bel_tr hb08 hb9
       have So9 := So8.below hb9
       have ho9' : Sl w9 18 (.slice (some ⟨w8.heap.size, 0, none⟩) 2 2) 2 ([ad2, ad1].flatMap adL) := Sl.own ho9
       clear hB9 hs9 hb9 hb08 ho9 So8
       generalize w8.heap.size = b9 at ho9' ⊢
       refine holdE ?_))
  refine Lib.hid ?_
  go_wp2_with (first
    | (go_at_call 11; refine (sameAds_any [ad2, ad1] [ad2, ad1] _ _ _ So9 ho9' (by simp) (by simp)).mono ?_
       rw [decide_eq_true (rfl : [ad2, ad1] = [ad2, ad1])]
       rintro e wa ⟨rfl, hba⟩; have hb0a := bel_tr hb09 hba
       refine holdE ?_))
  refine Lib.hid ?_
  go_wp2_with (first
    | (refine wpList_buildL (o := ⟨some 17, _, _, _, _, _⟩) rfl _ [] rfl H0.out rfl ?_)
    | (go_at_call 14; refine (pmost_any _ _ _ Rs0 _ (rs_nil _)).mono ?_
       rw [Hm.out]
       rintro e wb ⟨rfl, hbb⟩; have hb0b := bel_tr hb0a hbb))
  go_ret
  exact ⟨rfl, hb0b⟩
end Go.Proofs.Ytebfgaapcpehmaa

/- The walk of PlanFair. -/
namespace Go.Proofs.Ytebfgaapcpehmaa
open Go.RowKit

theorem pf_adR {w : World} {b o : Nat} {p : Pf} (h : w.rangeAt b o (pfL p)) : w.rangeAt b o (adL p.ad) := fun j u hu => h j u (by
  unfold pfL
  rw [List.getElem?_append_left (List.getElem?_eq_some_iff.1 hu).1]
  exact hu)
def Fair (w : World) (e : Ending) (w' : World) : Prop := e = .returned (.bool true) ∧ Below w.heap.size w w'

end Go.Proofs.Ytebfgaapcpehmaa
