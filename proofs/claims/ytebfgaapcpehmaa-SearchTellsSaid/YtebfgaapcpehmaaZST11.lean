/- Contracts and plain lemmas of our own, merged. -/
import Derived.Test.YtebfgaapcpehmaaZST10
import Derived.Test.YtebfgaapcpehmaaZST5
import Derived.Test.YtebfgaapcpehmaaZST9
import Derived.Great.BuildSlice
/- Rows of structs: reading a member, a literal of one member; setup.left at addresses. -/
namespace Go.Proofs.Ytebfgaapcpehmaa
open Go.RowKit

/-- members of one size, side by side. -/
theorem flat_at {α β : Type} {f : α → List β} {s : Nat} (hs : ∀ a, (f a).length = s) : ∀ (L : List α) (k : Nat) (hk : k < L.length) (j : Nat), j < s → (L.flatMap f)[k * s + j]? = (f L[k])[j]?
  | x :: L, 0, _, j, hj => by
    rw [List.flatMap_cons, List.getElem?_append_left (by rw [hs]; omega)]
    simp
  | x :: L, k + 1, hk, j, hj => by
    have e : (k + 1) * s + j = s + (k * s + j) := by rw [Nat.add_mul]; omega
    rw [List.flatMap_cons, e, List.getElem?_append_right (by rw [hs]; omega), hs]
    have e2 : s + (k * s + j) - s = k * s + j := by omega
    rw [e2, flat_at hs L k (by simpa using hk) j hj]
    simp
theorem flat_len {α β : Type} {f : α → List β} {s : Nat} (hs : ∀ a, (f a).length = s) (L : List α) : (L.flatMap f).length = L.length * s := by
  induction L with
  | nil => simp
  | cons x L ih => rw [List.flatMap_cons, List.length_append, hs, ih, List.length_cons, Nat.add_mul]; omega
theorem range_of {w : World} {α : Type} {f : α → List Value} {s : Nat} (hs : ∀ a, (f a).length = s) {L : List α} {b off : Nat} (hc : ∀ j u, (L.flatMap f)[j]? = some u → w.cell? ⟨b, off + j, none⟩ = some u) {k : Nat} (hk : k < L.length) : w.rangeAt b (off + k * s) (f L[k]) := fun j v hv => by
  have hj : j < s := by have := (List.getElem?_eq_some_iff.1 hv).1; rw [hs] at this; exact this
  have := hc (k * s + j) v ((flat_at hs L k hk j hj).trans hv)
  rwa [← Nat.add_assoc] at this
/-- a slice literal of members that are aggregates of one size. -/
theorem wpList_lit {P : Program} {ops : Array Oper} {rest : List Oper} {o : Oper} {a : Act} {w : World} {Q : Exit → Act → World → Prop} (hg : o.guard = none) (t : TypeId) (parts : Array (Nat × Operand)) {len : Nat} (ho : o.op = .buildSlice t len parts)
    {e : TypeId} {size bytes : Nat} (el : Elt P t e size bytes) (vs : List Value) (hlen : vs.length = len) (hpos : 0 < len) (hsm : len * size ≤ 16777216) (hv : ∀ v ∈ vs, v.cells.size = size)
    (hp : parts.toList.map (fun p => (p.1, a.eval p.2)) = (vs.zipIdx 0).map fun x => (x.2, x.1))
    (h : ∀ w', Bk w' w.heap.size e (vs.flatMap fun v => v.cells.toList).toArray → w'.ownsRow w.heap.size e size (.slice (some ⟨w.heap.size, 0, none⟩) len len) len (vs.flatMap fun v => v.cells.toList) → Below w.heap.size w w' → w'.heap.size = w.heap.size + 1 →
      wpList P ops Q rest (a.put o.dst (.slice (some ⟨w.heap.size, 0, none⟩) len len)) w') : wpList P ops Q (o :: rest) a w := by
  obtain ⟨i, z, hi, hz, hz1, hz2, hz3⟩ := el.info
  have hps := Nat.mul_pos hpos el.pos
  have hfl : (vs.flatMap fun v => v.cells.toList).length = len * size := by
    rw [← hlen]
    clear hp h hsm hps hlen
    induction vs with
    | nil => simp
    | cons x l ih =>
      rw [List.flatMap_cons, List.length_append, ih (fun v hv' => hv v (List.mem_cons_of_mem _ hv')), List.length_cons, Nat.add_mul, Array.length_toList, hv x (by simp)]
      omega
  refine wpList_buildSlice hg t e len parts ho (vs.flatMap fun v => v.cells.toList).toArray i z el.under hi hz (by rw [hz1]; omega) (by rw [hz1]; omega) ?_ (h _ (Bk.new _ _ _) ?_ ((Below.refl _ _).alloc (Nat.le_refl _) _) (by simp))
  · rw [hz1, Array.toList_map]
    have e2 : (parts.toList.map fun x => match x with | (i, x) => (i, a.eval x)) = (vs.zipIdx 0).map fun x => (x.2, x.1) := hp
    rw [e2]
    exact Great.fill_whole el.pos vs _ hv (by simp [hlen])
  · have := World.ownsRow_lit (base := w.heap.size) (e := e) (size := size) w (vs.flatMap fun v => v.cells.toList).toArray len (Nat.le_refl _) (by have := Nat.le_mul_of_pos_right len el.pos; unfold maxLen; omega) (by rw [List.size_toArray]; exact hfl)
    simpa using this
theorem bk_list {w : World} {g : Nat} {e : TypeId} {l : List Value} {cs : Array Value} (h : Bk w g e ([Value.agg cs].flatMap fun v => v.cells.toList).toArray) (hc : cs.toList = l) : Bk w g e l.toArray := by
  subst hc
  simpa [Value.cells] using h

theorem elt_ads : Elt Try.prog 22 40 18 32 := Elt.mk' (z := .agg (adA ad0)) Try.underlying22 (by kernel_rfl) (by kernel_rfl) (by decide)
theorem elt_pfs : Elt Try.prog 24 67 19 40 := Elt.mk' (z := .agg (pfA ⟨ad0, 0, by decide⟩)) Try.underlying24 (by kernel_rfl) (by kernel_rfl) (by decide)
theorem elt_nms : Elt Try.prog 23 55 1 24 := Elt.mk' (z := .slice none 0 0) Try.underlying23 (by kernel_rfl) (by kernel_rfl) (by decide)
end Go.Proofs.Ytebfgaapcpehmaa

/- setup.left at addresses, prefixes and names, with the functions that it is handed. -/
namespace Go.Proofs.Ytebfgaapcpehmaa
open Go.RowKit

/-- the first members that may be. -/
def leftL {α : Type} (p : α → Bool) (most : Nat) (L : List α) : List α := (L.filter p).take most
theorem leftL_stop {α : Type} {p : α → Bool} {most k : Nat} {L : List α} (h : most ≤ ((L.take k).filter p).length) : leftL p most L = ((L.take k).filter p).take most := by
  unfold leftL
  conv => lhs; rw [← List.take_append_drop k L, List.filter_append, List.take_append_of_le_length h]
theorem filter_next {α : Type} {p : α → Bool} {L : List α} {k : Nat} (h : k < L.length) : (L.take (k + 1)).filter p = (L.take k).filter p ++ if p L[k] = true then [L[k]] else [] := by
  rw [List.take_succ_eq_append_getElem h, List.filter_append]
  by_cases hp : p L[k] = true
  · rw [if_pos hp]; simp [hp]
  · rw [if_neg hp]; simp [hp]
def okA (a : Ad) : Bool := chkA a == 0
def okP (p : Pf) : Bool := chkP p == 0
def okN (A : List (List UInt8)) : Bool := decide (0 < A.length) && (chk A == 0)

set_option maxRecDepth 100000 in
set_option maxHeartbeats 400000 in
theorem mayServer_any (a : Ad) (w : World) : Calls Try.prog 43 #[.agg (adA a)] w fun e w' => e = .returned (.bool (okA a)) ∧ Below w.heap.size w w' := by
  go_enter Try.func43, Try.ntmps43
  go_wp2_with (first
    | ((with_reducible refine wpList_boxB rfl _ _ rfl rfl ?_); intro g w1 hg hB hb hs; clear hg hs)
    | ((with_reducible refine wpList_loadAd rfl _ rfl rfl hB ?_))
    | (go_at_call 59; refine (acheck_any _ _).mono ?_; rintro e w2 ⟨rfl, hb2⟩))
  go_ret
  exact ⟨rfl, bel_tr hb hb2⟩
theorem pf_under : Try.prog.underlying 67 = some (.struct (Try.prog.fieldsOf 67)) := by kernel_rfl
theorem pf_size : (Try.prog.info? 67).map (·.size) = some 19 := by kernel_rfl
theorem pfA_one (p : Pf) : (pfA p).all (·.oneCell') = true := all_oneCell_toArray (pfL_one p)
theorem wpList_loadPf {w : World} {ops : Array Oper} {rest : List Oper} {o : Oper} {a : Act} {Q : Exit → Act → World → Prop} (hgd : o.guard = none) (x : Operand) (ho : o.op = .load 67 x) {g : Nat} (hx : a.eval x = .pointer (some ⟨g, 0, none⟩))
    {t : TypeId} {b : Pf} (hB : Bk w g t (pfA b)) (h : wpList Try.prog ops Q rest (a.put o.dst (.agg (pfA b))) w) : wpList Try.prog ops Q (o :: rest) a w :=
  wpList_loadB hgd _ x ho hx hB pf_under rfl (by rw [pfA_size]; exact pf_size) h
theorem wpList_storePf {w : World} {ops : Array Oper} {rest : List Oper} {o : Oper} {a : Act} {Q : Exit → Act → World → Prop} (hgd : o.guard = none) (x y : Operand) (ho : o.op = .store 67 x y) {g : Nat} {b c : Pf} (hx : a.eval x = .pointer (some ⟨g, 0, none⟩)) (hy : a.eval y = .agg (pfA b))
    {t : TypeId} (hB : Bk w g t (pfA c)) (h : ∀ w', Bk w' g t (pfA b) → Stays g w w' → wpList Try.prog ops Q rest (a.put o.dst undef) w') : wpList Try.prog ops Q (o :: rest) a w :=
  wpList_storeB hgd _ x y ho hx hy hB (by rw [pfA_size]; exact pf_size) (by rw [pfA_size, pfA_size]) (pfA_one b) h
theorem wpList_loadPfM {w : World} {ops : Array Oper} {rest : List Oper} {o : Oper} {a : Act} {Q : Exit → Act → World → Prop} (hgd : o.guard = none) (x : Operand) (ho : o.op = .load 67 x) {g off : Nat} (hx : a.eval x = .pointer (some ⟨g, off, none⟩))
    {b : Pf} (hB : w.rangeAt g off (pfL b)) (h : wpList Try.prog ops Q rest (a.put o.dst (.agg (pfA b))) w) : wpList Try.prog ops Q (o :: rest) a w :=
  wpList_load_mid hgd _ x ho g off hx (pfL b) _ hB pf_under rfl (by rw [pfL_len]; exact pf_size) h
def pf0 : Pf := ⟨ad0, 0, by decide⟩
theorem pf_zero : ZeroIs Try.prog 67 (pfA pf0) := by unfold ZeroIs; kernel_rfl

set_option maxRecDepth 100000 in
set_option maxHeartbeats 400000 in
theorem mayPrefix_any (a : Pf) (w : World) : Calls Try.prog 48 #[.agg (pfA a)] w fun e w' => e = .returned (.bool (okP a)) ∧ Below w.heap.size w w' := by
  go_enter Try.func48, Try.ntmps48
  go_wp2_with (first
    | ((with_reducible refine wpList_boxB rfl _ _ rfl rfl ?_); intro g w1 hg hB hb hs; clear hg hs)
    | ((with_reducible refine wpList_loadPf rfl _ rfl rfl hB ?_))
    | (go_at_call 60; refine (holds_any _ _).mono ?_; rintro e w2 ⟨rfl, hb2⟩))
  go_ret
  exact ⟨rfl, bel_tr hb hb2⟩
set_option maxRecDepth 100000 in
set_option maxHeartbeats 400000 in
theorem mayName_any (A : List (List UInt8)) (v : Value) (w : World) (h : Sl w 1 v A.length (A.map stv)) (hA : A.length ≤ 1000000000) (hl : ∀ l ∈ A, l.length ≤ 140737488351232) : Calls Try.prog 46 #[v] w fun e w' => e = .returned (.bool (okN A)) ∧ w = w' := by
  obtain ⟨a1, c1, hv1, hc1⟩ := h.any
  subst hv1
  have H := Lib.hid h
  have Hl := Lib.hid hl
  clear h hl
  by_cases h0 : 0 < A.length
  · have i0 : (0 : Int) < (A.length : Int) := by omega
    have ho : okN A = (chk A == 0) := by unfold okN; simp [h0]
    have Ho := Lib.hid ho
    clear ho
    go_enter Try.func46, Try.ntmps46
    go_wp2_with (go_at_call 56; refine (check_any A _ _ H.out hA Hl.out).mono ?_; rintro e w' ⟨rfl, rfl⟩)
    go_ret
    exact ⟨retb Ho.out.symm, rfl⟩
  · have ho : okN A = false := by unfold okN; simp [h0]
    have Ho := Lib.hid ho
    clear ho
    have i0 : ¬ (0 : Int) < (A.length : Int) := by omega
    go_enter Try.func46, Try.ntmps46
    go_wp2
    go_ret
    exact ⟨retb Ho.out.symm, rfl⟩

/-- what left leaves: a row of its own. -/
def LeftPost (w : World) (e : TypeId) (size : Nat) (xs : List Value) (n : Nat) (ed : Ending) (w' : World) : Prop := ∃ v, ed = .returned v ∧ w'.ownsRow w.heap.size e size v n xs ∧ Below w.heap.size w w'
def LeftRel (w : World) (e : TypeId) (size : Nat) {α : Type} (f : α → List Value) (p : α → Bool) (most : Nat) (L : List α) (k : Nat) (v : Value) (wr : World) : Prop :=
  ((L.take k).filter p).length ≤ most ∧ wr.ownsRow w.heap.size e size v ((L.take k).filter p).length (((L.take k).filter p).flatMap f) ∧ Below w.heap.size w wr
theorem own_any {w : World} {base : Nat} {e : TypeId} {size n : Nat} {v : Value} {xs : List Value} (h : w.ownsRow base e size v n xs) : ∃ A c, v = .slice A n c := by
  obtain ⟨A, c, hv, _⟩ := (Sl.own h).any
  exact ⟨A, c, hv⟩

set_option maxRecDepth 100000 in
set_option maxHeartbeats 2000000 in
theorem left_ad (L : List Ad) (most : Nat) (v : Value) (w : World) (h : Sl w 18 v L.length (L.flatMap adL)) (hl : L.length ≤ 1000000) (hm : most ≤ 1000000) :
    Calls Try.prog 42 #[v, .int .i64 most, .func (.func 43) #[] #[]] w (LeftPost w 40 18 ((leftL okA most L).flatMap adL) (leftL okA most L).length) := by
  obtain ⟨a1, c1, hv1, hc1⟩ := h.any
  subst hv1
  have H := Lib.hid h
  clear h
  go_enter Try.func42, Try.ntmps42
  go_wp2
  go_loopw [7, 12] (fun v i wr => ∃ k : Nat, k ≤ L.length ∧ i = .int .i64 k ∧ LeftRel w 40 18 adL okA most L k v wr) (fun _ i _ => L.length - (intOf i).toNat)
  case atStart => exact ⟨0, Nat.zero_le _, rfl, by simp, by simpa using World.ownsRow_nil w w.heap.size 40 18, Below.refl _ _⟩
  case round =>
    obtain ⟨k, hk, rfl, hcnt, hown, hbel⟩ := hrel
    obtain ⟨ao, co, rfl⟩ := own_any hown
    have Hown := Lib.hid hown
    clear hown
    by_cases hlt : k < L.length
    · obtain ⟨b, off, c, hv, hc, hbl, hcell⟩ := H.out.pos (by omega)
      injection hv with hv1 _ hv2
      subst hv1 hv2
      have hR := (range_of adL_len hcell hlt)
      have HR : Hid (wr.rangeAt b (off + k * 18) (adL L[k])) := Lib.hid (fun j u hu => ((hbel.cell (p := ⟨b, off + k * 18 + j, none⟩) hbl).trans (hR j u hu)))
      clear hR hcell hbl
      have hltI : (k : Int) < (L.length : Int) := by omega
      by_cases hst : most ≤ ((L.take k).filter okA).length
      · have hfin : leftL okA most L = (L.take k).filter okA := by rw [leftL_stop hst, List.take_of_length_le hcnt]
        have Hfin := Lib.hid hfin
        clear hfin
        have hstI : (most : Int) ≤ (((L.take k).filter okA).length : Int) := by omega
        go_wp2_with (first
          | ((with_reducible refine wpList_loadAdM rfl _ rfl rfl HR.out ?_))
          | ((with_reducible refine wpList_allocAd rfl rfl ?_); intro g2 w2 hg hB2 hb2 hs; have hg2 : wr.heap.size ≤ g2 := Nat.le_of_eq hg.symm; clear hg hs)
          | ((with_reducible refine wpList_storeAd rfl _ _ rfl rfl rfl hB2 ?_); intro w4 hB4 hS4))
        go_ret
        have hb4 : Below wr.heap.size wr w4 := hb2.trans (hS4.below (by omega))
        refine ⟨_, rfl, ?_, hbel.trans (hb4.mono hbel.size)⟩
        rw [Hfin.out]
        exact own_below Hown.out hb4
      · have hstI : ¬ (most : Int) ≤ (((L.take k).filter okA).length : Int) := by omega
        have hst2 : ((L.take k).filter okA).length < most := by omega
        have hnx := filter_next (p := okA) hlt
        have Hnx := Lib.hid hnx
        clear hnx
        cases hok : okA L[k]
        all_goals
          have Hok := Lib.hid hok
          clear hok
          go_wp2_with (first
            | ((with_reducible refine wpList_loadAdM rfl _ rfl rfl HR.out ?_))
            | ((with_reducible refine wpList_allocAd rfl rfl ?_); intro g2 w2 hg hB2 hb2 hs; have hg2 : wr.heap.size ≤ g2 := Nat.le_of_eq hg.symm; clear hg hs)
            | ((with_reducible refine wpList_storeAd rfl _ _ rfl rfl rfl hB2 ?_); intro w4 hB4 hS4; have hb4 : Below wr.heap.size wr w4 := hb2.trans (hS4.below (by omega)))
            | ((with_reducible refine wpList_loadAd rfl _ rfl rfl hB4 ?_))
            | ((with_reducible refine wpList_loadAd rfl _ rfl rfl hB5 ?_))
            | (refine wpList_lit (o := ⟨some 25, _, _, _, _, _⟩) rfl _ _ rfl elt_ads [.agg (adA L[k])] rfl (by decide) (by decide) (fun v hv => by rw [List.mem_singleton.1 hv]; exact adA_size _) rfl ?_; intro w6 hB6 hx6 hb6 hs6; clear hx6 hs6; have hb06 := bel_tr hb4 (bel_tr hb5 hb6); have hB6 := bk_list (l := adL L[k]) hB6 rfl)
            | (at_builtin; refine wpList_app rfl (.tmp 23) (.tmp 25) _ rfl elt_ads rfl (own_below Hown.out hb06) rfl (hB6.sl (size := 18) (n := 1) (adL_len _) 1 (Nat.le_refl _)) (adL_one _) (Nat.le_trans hbel.size hb06.size) (by omega) (by omega) ?_; intro v7 w7 ho7 hb7 hg7; clear hg7)
            | (go_at_call 43; refine (mayServer_any _ _).mono ?_; rintro e w5 ⟨rfl, hb5⟩; rw [Hok.out]; have hB5 := hB4.bel hb5))
          skip
        · go_roundw
          case rel =>
            refine ⟨k + 1, by omega, by go_num, ?_⟩
            have hb05 := bel_tr hb4 hb5
            unfold LeftRel
            rw [Hnx.out, if_neg (by rw [Hok.out]; decide), List.append_nil]
            exact ⟨hcnt, own_below Hown.out hb05, hbel.trans (hb05.mono hbel.size)⟩
          case measure => simp [intOf]; omega
        · go_roundw
          case rel =>
            refine ⟨k + 1, by omega, by go_num, ?_⟩
            unfold LeftRel
            rw [Hnx.out, if_pos Hok.out, List.length_append, List.flatMap_append]
            refine ⟨by simp; omega, ?_, (hbel.trans (hb06.mono hbel.size)).trans hb7⟩
            simpa using ho7
          case measure => simp [intOf]; omega
    · have hkl : k = L.length := by omega
      subst hkl
      have hfin : leftL okA most L = (L.take L.length).filter okA := by rw [leftL, List.take_length, List.take_of_length_le (by rw [List.take_length] at hcnt; exact hcnt)]
      have Hfin := Lib.hid hfin
      clear hfin
      go_wp2
      go_ret
      refine ⟨_, rfl, ?_, hbel⟩
      rw [Hfin.out]
      exact Hown.out
end Go.Proofs.Ytebfgaapcpehmaa

/- setup.left at prefixes and at names. -/
namespace Go.Proofs.Ytebfgaapcpehmaa
open Go.RowKit

set_option maxRecDepth 100000 in
set_option maxHeartbeats 2000000 in
theorem left_pf (L : List Pf) (most : Nat) (v : Value) (w : World) (h : Sl w 19 v L.length (L.flatMap pfL)) (hl : L.length ≤ 1000000) (hm : most ≤ 1000000) :
    Calls Try.prog 47 #[v, .int .i64 most, .func (.func 48) #[] #[]] w (LeftPost w 67 19 ((leftL okP most L).flatMap pfL) (leftL okP most L).length) := by
  obtain ⟨a1, c1, hv1, hc1⟩ := h.any
  subst hv1
  have H := Lib.hid h
  clear h
  go_enter Try.func47, Try.ntmps47
  go_wp2
  go_loopw [7, 12] (fun v i wr => ∃ k : Nat, k ≤ L.length ∧ i = .int .i64 k ∧ LeftRel w 67 19 pfL okP most L k v wr) (fun _ i _ => L.length - (intOf i).toNat)
  case atStart => exact ⟨0, Nat.zero_le _, rfl, by simp, by simpa using World.ownsRow_nil w w.heap.size 67 19, Below.refl _ _⟩
  case round =>
    obtain ⟨k, hk, rfl, hcnt, hown, hbel⟩ := hrel
    obtain ⟨ao, co, rfl⟩ := own_any hown
    have Hown := Lib.hid hown
    clear hown
    by_cases hlt : k < L.length
    · obtain ⟨b, off, c, hv, hc, hbl, hcell⟩ := H.out.pos (by omega)
      injection hv with hv1 _ hv2
      subst hv1 hv2
      have hR := (range_of pfL_len hcell hlt)
      have HR : Hid (wr.rangeAt b (off + k * 19) (pfL L[k])) := Lib.hid (fun j u hu => ((hbel.cell (p := ⟨b, off + k * 19 + j, none⟩) hbl).trans (hR j u hu)))
      clear hR hcell hbl
      have hltI : (k : Int) < (L.length : Int) := by omega
      by_cases hst : most ≤ ((L.take k).filter okP).length
      · have hfin : leftL okP most L = (L.take k).filter okP := by rw [leftL_stop hst, List.take_of_length_le hcnt]
        have Hfin := Lib.hid hfin
        clear hfin
        have hstI : (most : Int) ≤ (((L.take k).filter okP).length : Int) := by omega
        go_wp2_with (first
          | ((with_reducible refine wpList_loadPfM rfl _ rfl rfl HR.out ?_))
          | ((with_reducible refine wpList_allocZ rfl _ rfl pf_zero ?_); intro g2 w2 hg hB2 hb2 hs; have hg2 : wr.heap.size ≤ g2 := Nat.le_of_eq hg.symm; clear hg hs)
          | ((with_reducible refine wpList_storePf rfl _ _ rfl rfl rfl hB2 ?_); intro w4 hB4 hS4))
        go_ret
        have hb4 : Below wr.heap.size wr w4 := hb2.trans (hS4.below (by omega))
        refine ⟨_, rfl, ?_, hbel.trans (hb4.mono hbel.size)⟩
        rw [Hfin.out]
        exact own_below Hown.out hb4
      · have hstI : ¬ (most : Int) ≤ (((L.take k).filter okP).length : Int) := by omega
        have hst2 : ((L.take k).filter okP).length < most := by omega
        have hnx := filter_next (p := okP) hlt
        have Hnx := Lib.hid hnx
        clear hnx
        cases hok : okP L[k]
        all_goals
          have Hok := Lib.hid hok
          clear hok
          go_wp2_with (first
            | ((with_reducible refine wpList_loadPfM rfl _ rfl rfl HR.out ?_))
            | ((with_reducible refine wpList_allocZ rfl _ rfl pf_zero ?_); intro g2 w2 hg hB2 hb2 hs; have hg2 : wr.heap.size ≤ g2 := Nat.le_of_eq hg.symm; clear hg hs)
            | ((with_reducible refine wpList_storePf rfl _ _ rfl rfl rfl hB2 ?_); intro w4 hB4 hS4; have hb4 : Below wr.heap.size wr w4 := hb2.trans (hS4.below (by omega)))
            | ((with_reducible refine wpList_loadPf rfl _ rfl rfl hB4 ?_))
            | ((with_reducible refine wpList_loadPf rfl _ rfl rfl hB5 ?_))
            | (refine wpList_lit (o := ⟨some 25, _, _, _, _, _⟩) rfl _ _ rfl elt_pfs [.agg (pfA L[k])] rfl (by decide) (by decide) (fun v hv => by rw [List.mem_singleton.1 hv]; exact pfA_size _) rfl ?_; intro w6 hB6 hx6 hb6 hs6; clear hx6 hs6; have hb06 := bel_tr hb4 (bel_tr hb5 hb6); have hB6 := bk_list (l := pfL L[k]) hB6 rfl)
            | (at_builtin; refine wpList_app rfl (.tmp 23) (.tmp 25) _ rfl elt_pfs rfl (own_below Hown.out hb06) rfl (hB6.sl (size := 19) (n := 1) (pfL_len _) 1 (Nat.le_refl _)) (pfL_one _) (Nat.le_trans hbel.size hb06.size) (by omega) (by omega) ?_; intro v7 w7 ho7 hb7 hg7; clear hg7)
            | (go_at_call 48; refine (mayPrefix_any _ _).mono ?_; rintro e w5 ⟨rfl, hb5⟩; rw [Hok.out]; have hB5 := hB4.bel hb5))
          skip
        · go_roundw
          case rel =>
            refine ⟨k + 1, by omega, by go_num, ?_⟩
            have hb05 := bel_tr hb4 hb5
            unfold LeftRel
            rw [Hnx.out, if_neg (by rw [Hok.out]; decide), List.append_nil]
            exact ⟨hcnt, own_below Hown.out hb05, hbel.trans (hb05.mono hbel.size)⟩
          case measure => simp [intOf]; omega
        · go_roundw
          case rel =>
            refine ⟨k + 1, by omega, by go_num, ?_⟩
            unfold LeftRel
            rw [Hnx.out, if_pos Hok.out, List.length_append, List.flatMap_append]
            refine ⟨by simp; omega, ?_, (hbel.trans (hb06.mono hbel.size)).trans hb7⟩
            simpa using ho7
          case measure => simp [intOf]; omega
    · have hkl : k = L.length := by omega
      subst hkl
      have hfin : leftL okP most L = (L.take L.length).filter okP := by rw [leftL, List.take_length, List.take_of_length_le (by rw [List.take_length] at hcnt; exact hcnt)]
      have Hfin := Lib.hid hfin
      clear hfin
      go_wp2
      go_ret
      refine ⟨_, rfl, ?_, hbel⟩
      rw [Hfin.out]
      exact Hown.out

/-- names in a row: each with its slice. -/
structure NmOk (w : World) (p : Value × List (List UInt8)) : Prop where
  sl : Sl w 1 p.1 p.2.length (p.2.map stv)
  few : p.2.length ≤ 1000000000
  len : ∀ l ∈ p.2, l.length ≤ 140737488351232
theorem NmOk.bel {w w' : World} {p : Value × List (List UInt8)} (h : NmOk w p) (hb : Below w.heap.size w w') : NmOk w' p := ⟨h.sl.below hb, h.few, h.len⟩
def nmF (p : Value × List (List UInt8)) : List Value := [p.1]
theorem nmF_len (p : Value × List (List UInt8)) : (nmF p).length = 1 := rfl
def okNp (p : Value × List (List UInt8)) : Bool := okN p.2

set_option maxRecDepth 100000 in
set_option maxHeartbeats 2000000 in
theorem left_nm (L : List (Value × List (List UInt8))) (most : Nat) (v : Value) (w : World) (h : Sl w 1 v L.length (L.flatMap nmF)) (hN : ∀ p ∈ L, NmOk w p) (hl : L.length ≤ 1000000) (hm : most ≤ 1000000) :
    Calls Try.prog 45 #[v, .int .i64 most, .func (.func 46) #[] #[]] w (LeftPost w 55 1 ((leftL okNp most L).flatMap nmF) (leftL okNp most L).length) := by
  obtain ⟨a1, c1, hv1, hc1⟩ := h.any
  subst hv1
  have H := Lib.hid h
  have HN := Lib.hid hN
  clear h hN
  go_enter Try.func45, Try.ntmps45
  go_wp2
  go_loopw [7, 12] (fun v i wr => ∃ k : Nat, k ≤ L.length ∧ i = .int .i64 k ∧ LeftRel w 55 1 nmF okNp most L k v wr) (fun _ i _ => L.length - (intOf i).toNat)
  case atStart => exact ⟨0, Nat.zero_le _, rfl, by simp, by simpa using World.ownsRow_nil w w.heap.size 55 1, Below.refl _ _⟩
  case round =>
    obtain ⟨k, hk, rfl, hcnt, hown, hbel⟩ := hrel
    obtain ⟨ao, co, rfl⟩ := own_any hown
    have Hown := Lib.hid hown
    clear hown
    by_cases hlt : k < L.length
    · obtain ⟨b, off, c, hv, hc, hbl, hcell⟩ := H.out.pos (by omega)
      injection hv with hv1 _ hv2
      subst hv1 hv2
      have hnm := HN.out _ (List.getElem_mem hlt)
      have hR := (range_of nmF_len hcell hlt)
      have hR1 : wr.cell? ⟨b, off + k, none⟩ = some L[k].1 := by
        have := (hbel.cell (p := ⟨b, off + k * 1 + 0, none⟩) hbl).trans (hR 0 _ rfl)
        simpa using this
      obtain ⟨P, hP⟩ : ∃ P, L[k] = P := ⟨_, rfl⟩
      obtain ⟨pv, pn⟩ := P
      rw [hP] at hR1 hnm
      obtain ⟨na, nc, hnv, hnc⟩ := hnm.sl.any
      dsimp only at hnv hnc hR1
      subst hnv
      have Hnm := Lib.hid (show NmOk wr (Value.slice na pn.length nc, pn) from ⟨hnm.sl.below hbel, hnm.few, hnm.len⟩)
      have HP := Lib.hid hP
      clear hR hcell hbl hnm hP
      have hltI : (k : Int) < (L.length : Int) := by omega
      by_cases hst : most ≤ ((L.take k).filter okNp).length
      · have hfin : leftL okNp most L = (L.take k).filter okNp := by rw [leftL_stop hst, List.take_of_length_le hcnt]
        have Hfin := Lib.hid hfin
        clear hfin
        have hstI : (most : Int) ≤ (((L.take k).filter okNp).length : Int) := by omega
        go_wp2
        go_ret
        refine ⟨_, rfl, ?_, hbel⟩
        rw [Hfin.out]
        exact Hown.out
      · have hstI : ¬ (most : Int) ≤ (((L.take k).filter okNp).length : Int) := by omega
        have hst2 : ((L.take k).filter okNp).length < most := by omega
        have hnx := filter_next (p := okNp) hlt
        have Hnx := Lib.hid hnx
        clear hnx
        cases hok : okN pn
        all_goals
          have Hok := Lib.hid hok
          clear hok
          go_wp2_with (first
            | (at_builtin; refine wpList_appLit (n := ((L.take k).filter okNp).length) (m := 1) rfl (.tmp 23) (.tmp 25) _ rfl elt_nms rfl Hown.out [Value.slice na pn.length nc] rfl rfl (by intro u hu; rw [List.mem_singleton.1 hu]; rfl) hbel.size (by omega) (by omega) ?_; intro v7 w7 ho7 hb7 hg7; clear hg7)
            | (go_at_call 46; refine (mayName_any pn _ _ Hnm.out.sl Hnm.out.few Hnm.out.len).mono ?_; rintro e w5 ⟨rfl, rfl⟩; rw [Hok.out]))
          skip
        · go_roundw
          case rel =>
            refine ⟨k + 1, by omega, by go_num, ?_⟩
            unfold LeftRel
            rw [Hnx.out, if_neg (by rw [HP.out]; unfold okNp; rw [Hok.out]; decide), List.append_nil]
            exact ⟨hcnt, Hown.out, hbel⟩
          case measure => simp [intOf]; omega
        · go_roundw
          case rel =>
            refine ⟨k + 1, by omega, by go_num, ?_⟩
            unfold LeftRel
            rw [Hnx.out, if_pos (by rw [HP.out]; exact Hok.out), List.length_append, List.flatMap_append]
            refine ⟨by simp; omega, ?_, hbel.trans hb7⟩
            rw [HP.out]
            simpa [nmF] using ho7
          case measure => simp [intOf]; omega
    · have hkl : k = L.length := by omega
      subst hkl
      have hfin : leftL okNp most L = (L.take L.length).filter okNp := by rw [leftL, List.take_length, List.take_of_length_le (by rw [List.take_length] at hcnt; exact hcnt)]
      have Hfin := Lib.hid hfin
      clear hfin
      go_wp2
      go_ret
      refine ⟨_, rfl, ?_, hbel⟩
      rw [Hfin.out]
      exact Hown.out
end Go.Proofs.Ytebfgaapcpehmaa

/- setup.Held at what resolv.conf says alone: the small functions that it calls. -/
namespace Go.Proofs.Ytebfgaapcpehmaa
open Go.RowKit

/-- one cell of a block is stored into. -/
theorem wpList_storeC {P : Program} {w : World} {ops : Array Oper} {rest : List Oper} {o : Oper} {a : Act} {Q : Exit → Act → World → Prop} (hgd : o.guard = none) (ty : TypeId) (x y : Operand) (ho : o.op = .store ty x y) {g i : Nat} {v : Value} (hx : a.eval x = .pointer (some ⟨g, i, none⟩)) (hy : a.eval y = v) (h1 : v.oneCell' = true)
    {t : TypeId} {cs : Array Value} (hB : Bk w g t cs) (hi : i < cs.size) (hsz : (P.info? ty).map (·.size) = some 1)
    (h : ∀ w', Bk w' g t (cs.setIfInBounds i v) → Stays g w w' → wpList P ops Q rest (a.put o.dst undef) w') : wpList P ops Q (o :: rest) a w := by
  refine wpList_plain hgd fun _ hK => ?_
  have hr : (storeVar ty ⟨g, i, none⟩ v).run P w = .ok () (w.setCell ⟨g, i, none⟩ v) := by
    have := run_storeCells_cells (P := P) g i [v] 0 w (fun j hj => by
      have hj0 : j = 0 := by simpa using hj
      subst hj0
      rw [hB.cell, Array.getElem?_eq_getElem (by simpa using hi)]; rfl) (fun j _ => hB.free _) (fun u hu => by rw [List.mem_singleton.1 hu]; exact h1)
    have hc : v.cells = #[v] := by cases v <;> first | rfl | cases h1
    cases hq : P.info? ty with
    | none => simp [hq] at hsz
    | some ie =>
      have hs : ie.size = 1 := by simpa [hq] using hsz
      simp [storeVar, sizeOf, typeInfo, hq, hc, hs, this, World.setCells]
  unfold Oper.wp execOp
  simp only [ho, hx, hy, Instr.storeAt, Instr.sureAddr, Sem.run_bind, Sem.run_pure, Result.andThen_ok, hr]
  exact hK _ _ (h _ (hB.set_ i v) (Stays.cell w g i v))

/-- left at a list without members. -/
def NilPost (w : World) (ed : Ending) (w' : World) : Prop := ed = .returned (.slice none 0 0) ∧ w = w'
set_option maxRecDepth 100000 in
theorem left_so0 (X : Option Addr) (c : Nat) (m : Int) (f : Value) (w : World) : Calls Try.prog 50 #[.slice X 0 c, .int .i64 m, f] w (NilPost w) := by
  go_enter Try.func50, Try.ntmps50
  go_wp2
  go_loopw [7, 12] (fun v i wr => v = .slice none 0 0 ∧ i = .int .i64 0 ∧ w = wr) (fun _ _ _ => 0)
  case atStart => exact ⟨rfl, rfl, rfl⟩
  case round =>
    obtain ⟨rfl, rfl, rfl⟩ := hrel
    go_wp2
    go_ret
    exact ⟨rfl, rfl⟩
set_option maxRecDepth 100000 in
theorem left_sv0 (X : Option Addr) (c : Nat) (m : Int) (f : Value) (w : World) : Calls Try.prog 54 #[.slice X 0 c, .int .i64 m, f] w (NilPost w) := by
  go_enter Try.func54, Try.ntmps54
  go_wp2
  go_loopw [7, 12] (fun v i wr => v = .slice none 0 0 ∧ i = .int .i64 0 ∧ w = wr) (fun _ _ _ => 0)
  case atStart => exact ⟨rfl, rfl, rfl⟩
  case round =>
    obtain ⟨rfl, rfl, rfl⟩ := hrel
    go_wp2
    go_ret
    exact ⟨rfl, rfl⟩
set_option maxRecDepth 100000 in
theorem left_ho0 (X : Option Addr) (c : Nat) (m : Int) (f : Value) (w : World) : Calls Try.prog 62 #[.slice X 0 c, .int .i64 m, f] w (NilPost w) := by
  go_enter Try.func62, Try.ntmps62
  go_wp2
  go_loopw [7, 12] (fun v i wr => v = .slice none 0 0 ∧ i = .int .i64 0 ∧ w = wr) (fun _ _ _ => 0)
  case atStart => exact ⟨rfl, rfl, rfl⟩
  case round =>
    obtain ⟨rfl, rfl, rfl⟩ := hrel
    go_wp2
    go_ret
    exact ⟨rfl, rfl⟩
theorem elt_hosts : Elt Try.prog 28 59 19 56 := Elt.mk' (z := .agg ((adL ad0 ++ [Value.slice none 0 0]).toArray)) Try.underlying28 (by kernel_rfl) (by kernel_rfl) (by decide)
set_option maxRecDepth 100000 in
theorem heldHosts0 (w : World) : Calls Try.prog 53 #[.slice none 0 0] w fun e w' => e = .returned (.slice none 0 0) ∧ Below w.heap.size w w' := by
  go_enter Try.func53, Try.ntmps53
  go_wp2_with (first | (at_make; refine wpList_mk0 rfl _ _ _ rfl elt_hosts (base := w.heap.size) 0 rfl rfl rfl (by omega) (by omega) (Nat.le_refl _) ?_; intro w0 ho0 hbw0; clear ho0))
  go_loopw [11] (fun i wr => i = .int .i64 0 ∧ w0 = wr) (fun _ _ => 0)
  case atStart => exact ⟨rfl, rfl⟩
  case round =>
    obtain ⟨rfl, rfl⟩ := hrel
    go_wp2_with (go_at_call 62; refine (left_ho0 _ _ _ _ _).mono ?_; rintro e w2 ⟨rfl, rfl⟩)
    go_ret
    exact ⟨rfl, hbw0⟩
def heldI (n a b : Int) : Int := min (max n a) b
set_option maxRecDepth 100000 in
theorem held_any (n a b : Int) (w : World) : Calls Try.prog 49 #[.int .i64 n, .int .i64 a, .int .i64 b] w fun e w' => e = .returned (.int .i64 (heldI n a b)) ∧ w = w' := by
  go_enter Try.func49, Try.ntmps49
  go_wp2
  go_ret
  exact ⟨rfl, rfl⟩
def soA (k : Int) : Array Value := #[.int .i64 k, .bool true, .bool false, .bool false, .bool false]
set_option maxRecDepth 100000 in
theorem nsource_any (k : Int) (w : World) : Calls Try.prog 61 #[.int .i64 k] w fun e w' => e = .returned (.agg (soA k)) ∧ Below w.heap.size w w' := by
  go_enter Try.func61, Try.ntmps61
  go_wp2
  exact bodyPost_ret (v := .agg (soA k)) (by simp [results, Try.results61, go_sem, soA]) rfl ⟨rfl, ((Below.refl _ _).alloc (Nat.le_refl _) _).alloc (by simp) _⟩
set_option maxRecDepth 100000 in
theorem nplain_any (w : World) : Calls Try.prog 52 #[] w fun e w' => (∃ A, e = .returned (.slice (some A) 2 2)) ∧ Below w.heap.size w w' := by
  go_enter Try.func52, Try.ntmps52
  go_wp2_with fail
  refine (nsource_any _ _).mono ?_
  rintro e w1 ⟨rfl, hb1⟩
  unfold soA
  go_wp2_with fail
  refine (nsource_any _ _).mono ?_
  rintro e w2 ⟨rfl, hb2⟩
  unfold soA
  go_wp2
  go_ret
  exact ⟨⟨_, rfl⟩, (bel_tr hb1 hb2).trans (((Below.refl _ _).alloc (Nat.le_refl _) _).mono (bel_tr hb1 hb2).size)⟩
end Go.Proofs.Ytebfgaapcpehmaa

/- What resolv.conf says, as a value; setup.Held. -/
namespace Go.Proofs.Ytebfgaapcpehmaa
open Go.RowKit

structure Rs where
  S : List Ad
  N : List (Value × List (List UInt8))
  P : List Pf
  nd : Int
  tm : Int
  tr : Int
  rot : Bool
  vc : Bool
  sg : Bool
  ed : Bool
def rsL (vs vn vp : Value) (R : Rs) : List Value := [vs, vn, vp, .int .i64 R.nd, .int .i64 R.tm, .int .i64 R.tr, .bool R.rot, .bool R.vc, .bool R.sg, .bool R.ed]
structure RsAt (w : World) (vs vn vp : Value) (R : Rs) : Prop where
  s : Sl w 18 vs R.S.length (R.S.flatMap adL)
  n : Sl w 1 vn R.N.length (R.N.flatMap nmF)
  p : Sl w 19 vp R.P.length (R.P.flatMap pfL)
  nm : ∀ q ∈ R.N, NmOk w q
  ls : R.S.length ≤ 1000000
  ln : R.N.length ≤ 1000000
  lp : R.P.length ≤ 1000000
theorem RsAt.bel {w w' : World} {vs vn vp : Value} {R : Rs} (h : RsAt w vs vn vp R) (hb : Below w.heap.size w w') : RsAt w' vs vn vp R := ⟨h.s.below hb, h.n.below hb, h.p.below hb, fun q hq => (h.nm q hq).bel hb, h.ls, h.ln, h.lp⟩
/-- the same, the rows being of the call's own: their blocks are new from b on. -/
structure RsOwn (b : Nat) (w : World) (vs vn vp : Value) (R : Rs) : Prop where
  rs : RsAt w vs vn vp R
  os : w.ownsRow b 40 18 vs R.S.length (R.S.flatMap adL)
  on : w.ownsRow b 55 1 vn R.N.length (R.N.flatMap nmF)
  op : w.ownsRow b 67 19 vp R.P.length (R.P.flatMap pfL)
theorem own_low {w : World} {b b' : Nat} {e : TypeId} {size n : Nat} {v : Value} {xs : List Value} (h : w.ownsRow b e size v n xs) (hb : b' ≤ b) : w.ownsRow b' e size v n xs := by
  refine ⟨h.1, ?_⟩
  rcases h.2 with hn | ⟨g, cap, cur, rfl, hb', hgg, rest⟩
  · exact .inl hn
  · exact .inr ⟨g, cap, cur, rfl, Nat.le_trans hb hb', hgg, rest⟩
theorem own_stays {w w' : World} {base g : Nat} {e : TypeId} {size n : Nat} {v : Value} {xs : List Value} (h : w.ownsRow base e size v n xs) (hs : Stays g w w') (hg : g < base) : w'.ownsRow base e size v n xs := by
  refine h.kept (row := some g) ⟨hs.os, hs.tape, hs.output, Nat.le_of_eq hs.size.symm, fun k _ hk => hs.block k (fun e => hk (by rw [e]))⟩ ?_
  cases hv : v.ownBlock with
  | none => exact .inl rfl
  | some k => exact .inr (fun e => by injection e with e; have := (h.lt k hv).1; omega)
theorem RsOwn.stays {b g : Nat} {w w' : World} {vs vn vp : Value} {R : Rs} (h : RsOwn b w vs vn vp R) (hs : Stays g w w') (hg : g < b) (hn : ∀ q ∈ R.N, NmOk w' q) : RsOwn b w' vs vn vp R :=
  ⟨⟨Sl.own (own_stays h.os hs hg), Sl.own (own_stays h.on hs hg), Sl.own (own_stays h.op hs hg), hn, h.rs.ls, h.rs.ln, h.rs.lp⟩, own_stays h.os hs hg, own_stays h.on hs hg, own_stays h.op hs hg⟩
theorem RsOwn.bel {b : Nat} {w w' : World} {vs vn vp : Value} {R : Rs} (h : RsOwn b w vs vn vp R) (hb : Below w.heap.size w w') : RsOwn b w' vs vn vp R := ⟨h.rs.bel hb, own_below h.os hb, own_below h.on hb, own_below h.op hb⟩
def srvL (S : List Ad) : List Ad := if leftL okA 3 S = [] then [adOf 127 0 0 1] else leftL okA 3 S
def heldR (R : Rs) : Rs := ⟨srvL R.S, leftL okNp 6 R.N, leftL okP 10 R.P, heldI R.nd 0 15, heldI R.tm 1 30, heldI R.tr 1 5, R.rot, R.vc, R.sg, R.ed⟩
theorem leftL_len {α : Type} (p : α → Bool) (m : Nat) (L : List α) : (leftL p m L).length ≤ m := by unfold leftL; rw [List.length_take]; omega
theorem leftL_mem {α : Type} {p : α → Bool} {m : Nat} {L : List α} {x : α} (h : x ∈ leftL p m L) : x ∈ L ∧ p x = true := by
  have := List.mem_of_mem_take h
  rw [List.mem_filter] at this
  exact this
def HeldPost (w : World) (R : Rs) (e : Ending) (w' : World) : Prop :=
  ∃ vs vn vp vh vo vv, e = .returned (.agg #[vs, vn, vp, .int .i64 (heldR R).nd, .int .i64 (heldR R).tm, .int .i64 (heldR R).tr, .bool R.rot, .bool R.vc, .bool R.sg, .bool R.ed, vh, vo, vv]) ∧ RsOwn w.heap.size w' vs vn vp (heldR R) ∧ Below w.heap.size w w'

theorem rs_under : Try.prog.underlying 26 = some (.struct (Try.prog.fieldsOf 26)) := by kernel_rfl
theorem rs_size : (Try.prog.info? 26).map (·.size) = some 10 := by kernel_rfl
theorem cf_under : Try.prog.underlying 32 = some (.struct (Try.prog.fieldsOf 32)) := by kernel_rfl
theorem cf_size : (Try.prog.info? 32).map (·.size) = some 13 := by kernel_rfl
def rsZ : Array Value := #[.slice none 0 0, .slice none 0 0, .slice none 0 0, .int .i64 0, .int .i64 0, .int .i64 0, .bool false, .bool false, .bool false, .bool false]
def cfZ : Array Value := #[.slice none 0 0, .slice none 0 0, .slice none 0 0, .int .i64 0, .int .i64 0, .int .i64 0, .bool false, .bool false, .bool false, .bool false, .slice none 0 0, .slice none 0 0, .slice none 0 0]
theorem rs_zero : ZeroIs Try.prog 26 rsZ := by unfold ZeroIs; kernel_rfl
theorem cf_zero : ZeroIs Try.prog 32 cfZ := by unfold ZeroIs; kernel_rfl
theorem sz_ads : (Try.prog.info? 22).map (·.size) = some 1 := by kernel_rfl
theorem sz_nms : (Try.prog.info? 23).map (·.size) = some 1 := by kernel_rfl
theorem sz_pfs : (Try.prog.info? 24).map (·.size) = some 1 := by kernel_rfl
theorem sz_int : (Try.prog.info? 3).map (·.size) = some 1 := by kernel_rfl
theorem sl_one {w : World} {size n : Nat} {v : Value} {xs : List Value} (h : Sl w size v n xs) : v.oneCell' = true := by
  obtain ⟨A, c, rfl, _⟩ := h.any
  rfl
theorem quiet_loadRow {P : Program} {w : World} {o : Oper} {a a' : Act} {K : Act → Prop} (ty : TypeId) (x : Operand) (ho : o.op = .load ty x) {g off : Nat} (hx : a.eval x = .pointer (some ⟨g, off, none⟩)) {cs : List Value} (hB : w.rangeAt g off cs)
    {d : TypeDesc} (hu : P.underlying ty = some d) (hd : d.isRow = true) (hi : (P.info? ty).map (·.size) = some cs.length) (ha : a.put o.dst (.agg cs.toArray) = a') (hk : K a') : o.quiet P a (fun w' => ∃ y : BelT w, w' = y.at_) K := by
  subst ha
  refine ⟨_, ?_, hk⟩
  rintro _ ⟨y, rfl⟩
  unfold Oper.quietAt execOp
  have hr : y.at_.rangeAt g off cs := fun j v hv => y.cell (hB j v hv)
  simp only [ho, hx, Instr.loadAt, Instr.sureAddr, Sem.run_bind, Sem.run_pure, Result.andThen_ok, run_loadVar_mid y.at_ g off ty cs _ hr hu hd hi]
  exact ⟨rfl, rfl⟩
theorem ret_row {P : Program} {fn : Func} {p : Tmp} {ty : TypeId} (h : fn.results = #[.cell p ty]) {R : Ending → World → Prop} {a : Act} {w : World} {g : Nat} {t : TypeId} {cs : Array Value} {d : TypeDesc}
    (hp : a.tmps.getD p undef = .pointer (some ⟨g, 0, none⟩)) (hB : Bk w g t cs) (hu : P.underlying ty = some d) (hr : d.isRow = true) (hi : (P.info? ty).map (·.size) = some cs.size) (hd : a.defers = []) (hR : R (.returned (.agg cs)) w) : bodyPost P fn R .ret a w :=
  bodyPost_ret_by (results_cell_row h a.tmps w g t cs (0, 0) _ hp hB hu (by cases d <;> first | rfl | cases hr) hi) hd hR

theorem holdE {p : Prop} (h : Hid p) : p := h.out
theorem rsL_one {vs vn vp : Value} (R : Rs) (h1 : vs.oneCell' = true) (h2 : vn.oneCell' = true) (h3 : vp.oneCell' = true) : (rsL vs vn vp R).toArray.all (·.oneCell') = true := by
  refine all_oneCell_toArray fun v hv => ?_
  simp only [rsL, List.mem_cons, List.not_mem_nil, or_false] at hv
  rcases hv with rfl | rfl | rfl | rfl | rfl | rfl | rfl | rfl | rfl | rfl <;> first | assumption | rfl
def cfL (vs vn vp : Value) (R : Rs) (a b c : Value) : List Value := [vs, vn, vp, .int .i64 R.nd, .int .i64 R.tm, .int .i64 R.tr, .bool R.rot, .bool R.vc, .bool R.sg, .bool R.ed, a, b, c]
theorem cfL_one {vs vn vp a b c : Value} (R : Rs) (h1 : vs.oneCell' = true) (h2 : vn.oneCell' = true) (h3 : vp.oneCell' = true) (h4 : a.oneCell' = true) (h5 : b.oneCell' = true) (h6 : c.oneCell' = true) : (cfL vs vn vp R a b c).toArray.all (·.oneCell') = true := by
  refine all_oneCell_toArray fun v hv => ?_
  simp only [cfL, List.mem_cons, List.not_mem_nil, or_false] at hv
  rcases hv with rfl | rfl | rfl | rfl | rfl | rfl | rfl | rfl | rfl | rfl | rfl | rfl | rfl <;> first | assumption | rfl

theorem left_ad3 (L : List Ad) (v : Value) (w : World) (h : Sl w 18 v L.length (L.flatMap adL)) (hl : L.length ≤ 1000000) :
    Calls Try.prog 42 #[v, .int .i64 3, .func (.func 43) #[] #[]] w (LeftPost w 40 18 ((leftL okA 3 L).flatMap adL) (leftL okA 3 L).length) := left_ad L 3 v w h hl (by omega)
theorem left_nm6 (L : List (Value × List (List UInt8))) (v : Value) (w : World) (h : Sl w 1 v L.length (L.flatMap nmF)) (hN : ∀ p ∈ L, NmOk w p) (hl : L.length ≤ 1000000) :
    Calls Try.prog 45 #[v, .int .i64 6, .func (.func 46) #[] #[]] w (LeftPost w 55 1 ((leftL okNp 6 L).flatMap nmF) (leftL okNp 6 L).length) := left_nm L 6 v w h hN hl (by omega)
theorem left_pf10 (L : List Pf) (v : Value) (w : World) (h : Sl w 19 v L.length (L.flatMap pfL)) (hl : L.length ≤ 1000000) :
    Calls Try.prog 47 #[v, .int .i64 10, .func (.func 48) #[] #[]] w (LeftPost w 67 19 ((leftL okP 10 L).flatMap pfL) (leftL okP 10 L).length) := left_pf L 10 v w h hl (by omega)
theorem of_127 (w : World) : Calls Try.prog 44 #[.int .u8 127, .int .u8 0, .int .u8 0, .int .u8 1] w (AdPost w (adOf 127 0 0 1)) := of_any 127 0 0 1 w
theorem bk_stays {w w' : World} {g B : Nat} (hz : Below B w w') {w'' : World} (hs : Stays g w' w'') (hg : B ≤ g) : Below B w w'' := hz.trans (hs.below hg)
theorem bk_trans {w w' w'' : World} {B : Nat} (hz : Below B w w') (hB : B ≤ w.heap.size) (hb : Below w'.heap.size w' w'') : Below B w w'' := hz.trans (hb.mono (Nat.le_trans hB hz.size))

theorem heldR_at {w : World} {b1 b2 b3 : Nat} {vs vn vp : Value} {R : Rs} (q1 : w.ownsRow b1 40 18 vs (srvL R.S).length ((srvL R.S).flatMap adL)) (q2 : w.ownsRow b2 55 1 vn (leftL okNp 6 R.N).length ((leftL okNp 6 R.N).flatMap nmF))
    (q3 : w.ownsRow b3 67 19 vp (leftL okP 10 R.P).length ((leftL okP 10 R.P).flatMap pfL)) (hn : ∀ q ∈ R.N, NmOk w q) {b : Nat} (h1 : b ≤ b1) (h2 : b ≤ b2) (h3 : b ≤ b3) : RsOwn b w vs vn vp (heldR R) := by
  refine ⟨?_, own_low q1 h1, own_low q2 h2, own_low q3 h3⟩
  refine ⟨Sl.own q1, Sl.own q2, Sl.own q3, fun q hq => hn q (leftL_mem hq).1, ?_, ?_, ?_⟩
  · show (srvL R.S).length ≤ 1000000
    unfold srvL
    have := leftL_len okA 3 R.S
    split
    · simp
    · omega
  · have := leftL_len okNp 6 R.N
    show (leftL okNp 6 R.N).length ≤ 1000000
    omega
  · have := leftL_len okP 10 R.P
    show (leftL okP 10 R.P).length ≤ 1000000
    omega
theorem built_cf (a1 a2 a3 : Option Addr) (n1 c1 n2 c2 n3 c3 : Nat) (R : Rs) (A : Addr) : Try.prog.built 32 [(0, .agg (rsL (.slice a1 n1 c1) (.slice a2 n2 c2) (.slice a3 n3 c3) R).toArray), (1, .slice none 0 0), (2, .slice (some A) 2 2), (3, .slice none 0 0)] = some (cfL (.slice a1 n1 c1) (.slice a2 n2 c2) (.slice a3 n3 c3) R (.slice none 0 0) (.slice (some A) 2 2) (.slice none 0 0)).toArray := by kernel_rfl

set_option maxRecDepth 100000 in
set_option maxHeartbeats 4000000 in
theorem setHeld_any (vs vn vp : Value) (R : Rs) (w : World) (h : RsAt w vs vn vp R) :
    Calls Try.prog 32 #[.agg #[vs, vn, vp, .int .i64 R.nd, .int .i64 R.tm, .int .i64 R.tr, .bool R.rot, .bool R.vc, .bool R.sg, .bool R.ed, .slice none 0 0, .slice none 0 0, .slice none 0 0]] w (HeldPost w R) := by
  obtain ⟨asl, cs, hvs, hcs⟩ := h.s.any
  obtain ⟨an, cn, hvn, hcn⟩ := h.n.any
  obtain ⟨ap, cp, hvp, hcp⟩ := h.p.any
  subst hvs hvn hvp
  have H := Lib.hid h
  clear h
  go_enter Try.func32, Try.ntmps32
  go_wp2_with (first
    | ((with_reducible refine wpList_boxB rfl _ _ rfl rfl ?_); intro g1 w1 hg1 hB1 hb1 hs1; have hg1' : w.heap.size ≤ g1 := Nat.le_of_eq hg1.symm; clear hg1 hs1)
    | ((with_reducible refine wpList_allocZ (o := ⟨some 2, _, _, _, _, _⟩) rfl _ rfl cf_zero ?_); intro g2 w2 hg2 hB2 hb2 hs2; have hg2' : w1.heap.size ≤ g2 := Nat.le_of_eq hg2.symm; clear hg2 hs2; have hB12 := hB1.bel hb2; have hg12 : g1 < g2 := Nat.lt_of_lt_of_le hB1.lt hg2'; have hb02 := bel_tr hb1 hb2)
    | (refine wpList_load_mid (op := ⟨some 6, _, _, _, _, _⟩) rfl _ _ rfl _ _ rfl _ _ (hB12.rangeL 0 (rsL (.slice asl R.S.length cs) (.slice an R.N.length cn) (.slice ap R.P.length cp) R) [.slice none 0 0, .slice none 0 0, .slice none 0 0] rfl) rs_under rfl rs_size ?_)
    | ((with_reducible refine wpList_allocZ (o := ⟨some 3, _, _, _, _, _⟩) rfl _ rfl rs_zero ?_); intro g3 w3 hg3 hB3 hb3 hs3; have hg3' : w2.heap.size ≤ g3 := Nat.le_of_eq hg3.symm; clear hg3 hs3)
    | (refine wpList_storeB rfl _ (.tmp 3) (.tmp 6) rfl rfl rfl hB3 rs_size rfl (rsL_one _ rfl rfl rfl) ?_; intro w4 hB4 hS4
       have c4 : w4.cell? ⟨g3, 0, none⟩ = some (.slice asl R.S.length cs) := hB4.cell 0
       have hz4 := bk_stays hb3 hS4 hg3'
       have hg34 : g3 < w4.heap.size := hB4.lt)
    | (go_at_call 42; refine (left_ad3 R.S _ _ (H.out.s.below (hb02.trans (hz4.mono hb02.size))) H.out.ls).mono ?_
       rintro e w5 ⟨v5, rfl, ho5, hb5⟩
       obtain ⟨a5, k5, rfl⟩ := own_any ho5
       have hB45 := hB4.bel hb5
       have hz5 := bk_trans hz4 (Nat.le_refl _) hb5)
    | (refine wpList_storeC (o := ⟨none, .store _ (.tmp 10) _, _, _, _, _⟩) rfl _ _ _ rfl rfl rfl rfl hB45 (show 0 < 10 from by decide) sz_ads ?_
       intro w6 hB6' hS6
       have hB6 : Bk w6 g3 26 (rsL (.slice a5 (leftL okA 3 R.S).length k5) (.slice an R.N.length cn) (.slice ap R.P.length cp) R).toArray := hB6'
       have c6 : w6.cell? ⟨g3, 0, none⟩ = some (.slice a5 (leftL okA 3 R.S).length k5) := hB6.cell 0
       have hz6 := bk_stays hz5 hS6 hg3'
       have ho6 := own_stays ho5 hS6 hg34
       refine holdE ?_))
  refine Lib.hid ?_
  clear c4
  by_cases hE : leftL okA 3 R.S = []
  case' pos =>
    have hn : (((leftL okA 3 R.S).length : Nat) == 0) = true := by rw [hE]; rfl
    have hn2 : (((leftL okA 3 R.S).length : Int) == 0) = true := by rw [hE]; rfl
    have hsrv : srvL R.S = [adOf 127 0 0 1] := by unfold srvL; rw [if_pos hE]
    have Hsrv := Lib.hid hsrv
    clear hE hsrv
    go_wp2_with (first
      | (go_at_call 44; refine (of_127 _).mono ?_; rintro e w7 ⟨rfl, hb7⟩; have hB67 := hB6.bel hb7; have hz7 := bk_trans hz6 (Nat.le_refl _) hb7; have hg37 : g3 < w7.heap.size := hB67.lt)
      | (refine wpList_lit (o := ⟨some 16, _, _, _, _, _⟩) rfl _ _ rfl elt_ads [.agg (adA (adOf 127 0 0 1))] rfl (by decide) (by decide) (fun v hv => by rw [List.mem_singleton.1 hv]; exact adA_size _) rfl ?_
         intro w8 hB8 ho8 hb8 hs8
         clear hB8 hs8
         have hz8 := bk_trans hz7 (Nat.le_refl _) hb8
         have hB68 := hB67.bel hb8
         generalize (w7.heap.size) = b7 at ho8 hg37 hb8 ⊢)
      | (refine wpList_storeC (o := ⟨none, .store _ (.tmp 17) _, _, _, _, _⟩) rfl _ _ _ rfl rfl rfl rfl hB68 (show 0 < 10 from by decide) sz_ads ?_
         intro wj hBj' hSj
         have hoj' := own_stays ho8 hSj hg37
         obtain ⟨aj, kj, hvj⟩ : ∃ aj kj, Value.slice (some ⟨b7, 0, none⟩) 1 1 = .slice aj (srvL R.S).length kj := ⟨_, 1, by rw [Hsrv.out]; rfl⟩
         have hBj : Bk wj g3 26 (rsL (.slice aj (srvL R.S).length kj) (.slice an R.N.length cn) (.slice ap R.P.length cp) R).toArray := by rw [← hvj]; exact hBj'
         have hoj : wj.ownsRow b7 40 18 (.slice aj (srvL R.S).length kj) (srvL R.S).length ((srvL R.S).flatMap adL) := by rw [← hvj, Hsrv.out]; exact hoj'
         have hzj := bk_stays hz8 hSj hg3'
         have hbj : g3 < b7 := hg37
         clear hvj hBj' hoj' hb8 hg37
         refine holdE ?_))
    refine Lib.hid ?_
  case' neg =>
    have hn : (((leftL okA 3 R.S).length : Nat) == 0) = false := by simpa using hE
    have hn2 : (((leftL okA 3 R.S).length : Int) == 0) = false := by simpa using hE
    have hsrv : srvL R.S = leftL okA 3 R.S := by unfold srvL; rw [if_neg hE]
    obtain ⟨wj, hwj⟩ : ∃ wj, wj = w6 := ⟨_, rfl⟩
    obtain ⟨aj, haj⟩ : ∃ aj, aj = a5 := ⟨_, rfl⟩
    obtain ⟨kj, hkj⟩ : ∃ kj, kj = k5 := ⟨_, rfl⟩
    obtain ⟨b7, hb7⟩ : ∃ b7, b7 = w4.heap.size := ⟨_, rfl⟩
    have hBj : Bk wj g3 26 (rsL (.slice aj (srvL R.S).length kj) (.slice an R.N.length cn) (.slice ap R.P.length cp) R).toArray := by rw [hwj, haj, hkj, hsrv]; exact hB6
    have hoj : wj.ownsRow b7 40 18 (.slice aj (srvL R.S).length kj) (srvL R.S).length ((srvL R.S).flatMap adL) := by rw [hwj, haj, hkj, hb7, hsrv]; exact ho6
    have hzj : Below w2.heap.size w2 wj := by rw [hwj]; exact hz6
    have hbj : g3 < b7 := by rw [hb7]; exact hg34
    subst hwj
    clear haj hkj hb7 hsrv hE
  all_goals
    have hgj : g3 < wj.heap.size := hBj.lt
    have cj : wj.cell? ⟨g3, 1, none⟩ = some (.slice an R.N.length cn) := hBj.cell 1
    have h0j := hb02.trans (hzj.mono hb02.size)
    have HN := Lib.hid (fun q hq => (H.out.nm q hq).bel h0j)
    go_wp2_with (first
      | (go_at_call 45; refine (left_nm6 R.N _ _ (H.out.n.below h0j) HN.out H.out.ln).mono ?_
         rintro e w9 ⟨v9, rfl, ho9, hb9⟩
         obtain ⟨a9, k9, rfl⟩ := own_any ho9
         have hB9 := hBj.bel hb9
         have hz9 := bk_trans hzj (Nat.le_refl _) hb9
         have hoj9 := own_below hoj hb9)
      | (refine wpList_storeC (o := ⟨none, .store _ (.tmp 21) _, _, _, _, _⟩) rfl _ _ _ rfl rfl rfl rfl hB9 (show 1 < 10 from by decide) sz_nms ?_
         intro wk hBk' hSk
         have hBk : Bk wk g3 26 (rsL (.slice aj (srvL R.S).length kj) (.slice a9 (leftL okNp 6 R.N).length k9) (.slice ap R.P.length cp) R).toArray := hBk'
         have ck : wk.cell? ⟨g3, 2, none⟩ = some (.slice ap R.P.length cp) := hBk.cell 2
         have hzk := bk_stays hz9 hSk hg3'
         have hojk := own_stays hoj9 hSk hbj
         have honk := own_stays ho9 hSk hgj
         have hgk : g3 < wk.heap.size := hBk.lt
         clear hBk' cj
         refine holdE ?_))
    refine Lib.hid ?_
    go_wp2_with (first
      | (go_at_call 47; refine (left_pf10 R.P _ _ (H.out.p.below (hb02.trans (hzk.mono hb02.size))) H.out.lp).mono ?_
         rintro e wp ⟨vp, rfl, hop, hbp⟩
         obtain ⟨ap2, kp2, rfl⟩ := own_any hop
         have hBp := hBk.bel hbp
         have hzp := bk_trans hzk (Nat.le_refl _) hbp
         have hojp := own_below hojk hbp
         have honp := own_below honk hbp)
      | (refine wpList_storeC (o := ⟨none, .store _ (.tmp 25) _, _, _, _, _⟩) rfl _ _ _ rfl rfl rfl rfl hBp (show 2 < 10 from by decide) sz_pfs ?_
         intro wq hBq' hSq
         have hBq : Bk wq g3 26 (rsL (.slice aj (srvL R.S).length kj) (.slice a9 (leftL okNp 6 R.N).length k9) (.slice ap2 (leftL okP 10 R.P).length kp2) R).toArray := hBq'
         have cq : wq.cell? ⟨g3, 3, none⟩ = some (.int .i64 R.nd) := hBq.cell 3
         have hzq := bk_stays hzp hSq hg3'
         have hojq := own_stays hojp hSq hbj
         have honq := own_stays honp hSq hgj
         have hopq := own_stays hop hSq hgk
         clear hBq' ck
         refine holdE ?_))
    refine Lib.hid ?_
    go_wp2_with (first
      | (go_at_call 49; refine (held_any _ _ _ _).mono ?_; rintro e wh ⟨rfl, rfl⟩)
      | (refine wpList_storeC (o := ⟨none, .store _ (.tmp 29) _, _, _, _, _⟩) rfl _ _ _ rfl rfl rfl rfl hBq (show 3 < 10 from by decide) sz_int ?_
         intro wr hBr' hSr
         have hBr : Bk wr g3 26 (rsL (.slice aj (srvL R.S).length kj) (.slice a9 (leftL okNp 6 R.N).length k9) (.slice ap2 (leftL okP 10 R.P).length kp2) { R with nd := heldI R.nd 0 15 }).toArray := hBr'
         have cr : wr.cell? ⟨g3, 4, none⟩ = some (.int .i64 R.tm) := hBr.cell 4
         have hzr := bk_stays hzq hSr hg3'
         clear hBr' cq
         refine holdE ?_))
    refine Lib.hid ?_
    go_wp2_with (first
      | (go_at_call 49; refine (held_any _ _ _ _).mono ?_; rintro e wh ⟨rfl, rfl⟩)
      | (refine wpList_storeC (o := ⟨none, .store _ (.tmp 33) _, _, _, _, _⟩) rfl _ _ _ rfl rfl rfl rfl hBr (show 4 < 10 from by decide) sz_int ?_
         intro ws hBs' hSs
         have hBs : Bk ws g3 26 (rsL (.slice aj (srvL R.S).length kj) (.slice a9 (leftL okNp 6 R.N).length k9) (.slice ap2 (leftL okP 10 R.P).length kp2) { R with nd := heldI R.nd 0 15, tm := heldI R.tm 1 30 }).toArray := hBs'
         have cs' : ws.cell? ⟨g3, 5, none⟩ = some (.int .i64 R.tr) := hBs.cell 5
         have hzs := bk_stays hzr hSs hg3'
         clear hBs' cr
         refine holdE ?_))
    refine Lib.hid ?_
    go_wp2_with (first
      | (go_at_call 49; refine (held_any _ _ _ _).mono ?_; rintro e wh ⟨rfl, rfl⟩)
      | (refine wpList_storeC (o := ⟨none, .store _ (.tmp 37) _, _, _, _, _⟩) rfl _ _ _ rfl rfl rfl rfl hBs (show 5 < 10 from by decide) sz_int ?_
         intro wt hBt' hSt
         have hBt : Bk wt g3 26 (rsL (.slice aj (srvL R.S).length kj) (.slice a9 (leftL okNp 6 R.N).length k9) (.slice ap2 (leftL okP 10 R.P).length kp2) (heldR R)).toArray := hBt'
         have hzt := bk_stays hzs hSt hg3'
         have hB1t := hB12.below hzt hB12.lt
         have ct : wt.cell? ⟨g1, 11, none⟩ = some (.slice none 0 0) := hB1t.cell 11
         have hS3 := (hSr.trans hSs).trans hSt
         have hojt := own_stays hojq hS3 hbj
         have hont := own_stays honq hS3 hgj
         have hopt := own_stays hopq hS3 hgk
         clear hBt' cs'
         refine holdE ?_))
    refine Lib.hid ?_
    go_wp2_with (first
      | (go_at_call 50; refine (left_so0 _ _ _ _ _).mono ?_; rintro e wh ⟨rfl, rfl⟩)
      | (go_at_call 52; refine (nplain_any _).mono ?_; rintro e wu ⟨⟨Au, rfl⟩, hbu⟩
         have hBu := hBt.bel hbu
         have hzu := bk_trans hzt (Nat.le_refl _) hbu
         have hB1u := hB12.below hzu hB12.lt
         have hB2u := hB2.below hzu hB2.lt
         clear ct))
    have c10 : wu.cell? ⟨g1, 10, none⟩ = some (.slice none 0 0) := hB1u.cell 10
    have c12 : wu.cell? ⟨g1, 12, none⟩ = some (.slice none 0 0) := hB1u.cell 12
    have x10 := fun x : BelT wu => x.cell c10
    have x12 := fun x : BelT wu => x.cell c12
    have hR3 := hBu.rangeL 0 _ [] (List.append_nil _).symm
    clear c10 c12
    refine wp_region_bel_tail 11 (by kernel_rfl) (by kernel_rfl) ?_
    simp only [List.take_succ_cons, List.take_zero, List.drop_succ_cons, List.drop_zero]
    repeat (first
      | go_big_quiet_skip
      | (go_big_quiet_want; first
          | (refine quiet_loadRow (o := ⟨some 45, _, _, _, _, _⟩) _ _ rfl rfl hR3 rs_under rfl rs_size (by simp only [Act.put, List.setIfInBounds_toArray, List.set_cons_succ, List.set_cons_zero]; exact rfl) ?_; go_big_quiet_on)
          | (go_big_quiet_op; first | go_big_quiet_on | go_big_quiet_call (first | (refine bel_call (heldHosts0 _)) | (refine bel_call_eq (left_sv0 _ _ _ _ _))))))
    refine wpQuiet_nil ?_
    rintro _ ⟨x, rfl⟩
    clear x10 x12 hR3
    have hzx := bk_trans hzu (Nat.le_refl _) x.bel
    have hB2x := hB2.below hzx hB2.lt
    refine wpList_buildL rfl _ [(0, .tmp 45), (1, .tmp 48), (2, .tmp 49), (3, .tmp 55)] rfl (built_cf aj a9 ap2 (srvL R.S).length kj (leftL okNp 6 R.N).length k9 (leftL okP 10 R.P).length kp2 (heldR R) Au) rfl ?_
    go_wp2_with (first
      | (refine wpList_storeB rfl _ (.tmp 2) (.tmp 56) rfl rfl rfl hB2x cf_size rfl (cfL_one _ rfl rfl rfl rfl rfl rfl) ?_; intro wz hBz hSz))
    have hb0z : Below w.heap.size w wz := hb02.trans ((hzx.mono hb02.size).trans (hSz.below (Nat.le_trans hb1.size hg2')))
    have hg23 : g2 < g3 := Nat.lt_of_lt_of_le hB2.lt hg3'
    have hbx := bel_tr hbu x.bel
    have hw3 : w.heap.size ≤ g3 := Nat.le_trans hb02.size hg3'
    have q1 := own_stays (own_below hojt hbx) hSz (Nat.lt_trans hg23 hbj)
    have q2 := own_stays (own_below hont hbx) hSz (Nat.lt_trans hg23 hgj)
    have q3 := own_stays (own_below hopt hbx) hSz (Nat.lt_trans hg23 hgk)
    exact ret_row Try.results32 rfl hBz cf_under rfl cf_size rfl ⟨_, _, _, _, _, _, rfl, heldR_at q1 q2 q3 (fun q hq => (H.out.nm q hq).bel hb0z) (by omega) (by omega) (by omega), hb0z⟩
end Go.Proofs.Ytebfgaapcpehmaa

/- The reference's Few (21), at what resolv.conf says alone. -/
namespace Go.Proofs.Ytebfgaapcpehmaa
open Go.RowKit

structure NmRaw (w : World) (p : Value × List (List UInt8)) : Prop where
  sl : Sl w 1 p.1 p.2.length (p.2.map stv)
  few : p.2.length ≤ maxLen
  len : ∀ l ∈ p.2, l.length ≤ 140737488351232
structure RsRaw (w : World) (vs vn vp : Value) (R : Rs) : Prop where
  s : Sl w 18 vs R.S.length (R.S.flatMap adL)
  n : Sl w 1 vn R.N.length (R.N.flatMap nmF)
  p : Sl w 19 vp R.P.length (R.P.flatMap pfL)
  nm : ∀ q ∈ R.N, NmRaw w q
  ls : R.S.length ≤ maxLen
  ln : R.N.length ≤ maxLen
  lp : R.P.length ≤ maxLen
theorem NmRaw.bel {w w' : World} {p : Value × List (List UInt8)} (h : NmRaw w p) (hb : Below w.heap.size w w') : NmRaw w' p := ⟨h.sl.below hb, h.few, h.len⟩
theorem RsRaw.bel {w w' : World} {vs vn vp : Value} {R : Rs} (h : RsRaw w vs vn vp R) (hb : Below w.heap.size w w') : RsRaw w' vs vn vp R := ⟨h.s.below hb, h.n.below hb, h.p.below hb, fun q hq => (h.nm q hq).bel hb, h.ls, h.ln, h.lp⟩
/-- what resolv.conf says, as an argument. -/
def RsArg (w : World) (v : Value) (a : Value × Value × Value × Rs) : Prop := v = .agg (rsL a.1 a.2.1 a.2.2.1 a.2.2.2).toArray ∧ RsRaw w a.1 a.2.1 a.2.2.1 a.2.2.2
def fewR (R : Rs) : Bool := decide (R.S.length ≤ 20) && (decide (R.N.length ≤ 20) && (decide (R.P.length ≤ 20) && R.N.all (fun q => fewB q.2)))
theorem fewR_at {w : World} {vs vn vp : Value} {R : Rs} (h : RsRaw w vs vn vp R) (hf : fewR R = true) : RsAt w vs vn vp R := by
  unfold fewR at hf
  simp only [Bool.and_eq_true, decide_eq_true_eq, List.all_eq_true] at hf
  obtain ⟨h1, h2, h3, h4⟩ := hf
  refine ⟨h.s, h.n, h.p, fun q hq => ?_, by omega, by omega, by omega⟩
  obtain ⟨f1, _, f3⟩ := few_bds (h4 q hq)
  exact ⟨(h.nm q hq).sl, by omega, fun l hl => by have := f3 l hl; omega⟩

set_option maxRecDepth 100000 in
set_option maxHeartbeats 4000000 in
theorem rfew21_any (vs vn vp : Value) (R : Rs) (w : World) (h : RsRaw w vs vn vp R) :
    Calls Try.prog 7 #[.agg (cfL vs vn vp R (.slice none 0 0) (.slice none 0 0) (.slice none 0 0)).toArray] w fun e w' => e = .returned (.bool (fewR R)) ∧ Below w.heap.size w w' := by
  obtain ⟨asl, cs, hvs, hcs⟩ := h.s.any
  obtain ⟨an, cn, hvn, hcn⟩ := h.n.any
  obtain ⟨ap, cp, hvp, hcp⟩ := h.p.any
  subst hvs hvn hvp
  have hls := h.ls
  have hln := h.ln
  have hlp := h.lp
  unfold maxLen at hls hln hlp
  have H := Lib.hid h
  clear h
  rcases (show ¬ R.S.length ≤ 20 ∨ (R.S.length ≤ 20 ∧ ¬ R.N.length ≤ 20) ∨ (R.S.length ≤ 20 ∧ R.N.length ≤ 20 ∧ ¬ R.P.length ≤ 20) ∨ (R.S.length ≤ 20 ∧ R.N.length ≤ 20 ∧ R.P.length ≤ 20) by omega) with h1 | ⟨h1, h2⟩ | ⟨h1, h2, h3⟩ | ⟨h1, h2, h3⟩
  case' inl => have hf : fewR R = false := by unfold fewR; simp [h1]
  case' inr.inl => have hf : fewR R = false := by unfold fewR; simp [h1, h2]
  case' inr.inr.inl => have hf : fewR R = false := by unfold fewR; simp [h1, h2, h3]
  case' inr.inr.inr => have hf : fewR R = R.N.all (fun q => fewB q.2) := by unfold fewR; simp [h1, h2, h3]
  case' inl => have i1 : (20 : Int) < (R.S.length : Int) := by omega
  case' inr.inl => have i1 : ¬ (20 : Int) < (R.S.length : Int) := by omega
  case' inr.inl => have i2 : (20 : Int) < (R.N.length : Int) := by omega
  case' inr.inr.inl => have i1 : ¬ (20 : Int) < (R.S.length : Int) := by omega
  case' inr.inr.inl => have i2 : ¬ (20 : Int) < (R.N.length : Int) := by omega
  case' inr.inr.inl => have i3 : (20 : Int) < (R.P.length : Int) := by omega
  case' inr.inr.inr => have i1 : ¬ (20 : Int) < (R.S.length : Int) := by omega
  case' inr.inr.inr => have i2 : ¬ (20 : Int) < (R.N.length : Int) := by omega
  case' inr.inr.inr => have i3 : ¬ (20 : Int) < (R.P.length : Int) := by omega
  all_goals
    have Hf := Lib.hid hf
    clear hf
    go_enter Try.func7, Try.ntmps7
    go_wp2_with (first
      | ((with_reducible refine wpList_boxB rfl _ _ rfl rfl ?_); intro g1 w1 hg1 hB1 hb1 hs1; clear hg1 hs1
         have c0 : w1.cell? ⟨g1, 0, none⟩ = some (.slice asl R.S.length cs) := hB1.cell 0
         have c1 : w1.cell? ⟨g1, 1, none⟩ = some (.slice an R.N.length cn) := hB1.cell 1
         have c2 : w1.cell? ⟨g1, 2, none⟩ = some (.slice ap R.P.length cp) := hB1.cell 2
         have c10 : w1.cell? ⟨g1, 10, none⟩ = some (.slice none 0 0) := hB1.cell 10
         have c11 : w1.cell? ⟨g1, 11, none⟩ = some (.slice none 0 0) := hB1.cell 11
         have c12 : w1.cell? ⟨g1, 12, none⟩ = some (.slice none 0 0) := hB1.cell 12))
  all_goals try (go_ret; exact ⟨retb Hf.out.symm, hb1⟩)
  · go_loopw [3] (fun i wr => ∃ k : Nat, k ≤ R.N.length ∧ i = .int .i64 k ∧ (∀ j (hj : j < R.N.length), j < k → fewB R.N[j].2 = true) ∧ w1 = wr) (fun i _ => R.N.length - (intOf i).toNat)
    case atStart => exact ⟨0, Nat.zero_le _, rfl, fun j _ h => absurd h (by omega), rfl⟩
    case round =>
      obtain ⟨k, hk, rfl, hall, rfl⟩ := hrel
      have Hall := Lib.hid hall
      clear hall
      by_cases hlt : k < R.N.length
      · obtain ⟨b, off, c, hv, hc, hbl, hcell⟩ := (H.out.n.below hb1).pos (by omega)
        injection hv with hv1 _ hv2
        subst hv1 hv2
        have hnm := (H.out.nm _ (List.getElem_mem hlt)).bel hb1
        have hR := (range_of nmF_len hcell hlt)
        have hR1 : w1.cell? ⟨b, off + k, none⟩ = some R.N[k].1 := by
          have := hR 0 _ rfl
          simpa using this
        obtain ⟨P, hP⟩ : ∃ P, R.N[k] = P := ⟨_, rfl⟩
        obtain ⟨pv, pn⟩ := P
        rw [hP] at hR1 hnm
        obtain ⟨na, nc, hnv, hnc⟩ := hnm.sl.any
        dsimp only at hnv hnc hR1
        subst hnv
        have Hnm := Lib.hid hnm
        have HP := Lib.hid hP
        clear hR hcell hbl hnm hP
        have hltI : (k : Int) < (R.N.length : Int) := by omega
        cases hok : fewB pn
        all_goals
          have Hok := Lib.hid hok
          clear hok
          go_wp2_with (first
            | (go_at_call 25; refine (few_any pn _ _ Hnm.out.sl Hnm.out.few Hnm.out.len).mono ?_; rintro e w5 ⟨rfl, rfl⟩; rw [Hok.out]))
        · go_ret
          refine ⟨retb ?_, hb1⟩
          rw [Hf.out]
          cases ha : R.N.all (fun q => fewB q.2)
          · rfl
          · exfalso
            have := List.all_eq_true.1 ha _ (List.getElem_mem hlt)
            rw [HP.out] at this
            dsimp only at this
            rw [Hok.out] at this
            cases this
        · go_roundw
          case rel =>
            refine ⟨k + 1, by omega, by go_num, fun j hj h => ?_, by first | trivial | rfl⟩
            rcases Nat.lt_or_eq_of_le (Nat.le_of_lt_succ h) with h' | h'
            · exact Hall.out j hj h'
            · subst h'; rw [HP.out]; exact Hok.out
          case measure => simp [intOf]; omega
      · have hltI : ¬ (k : Int) < (R.N.length : Int) := by omega
        have hfin : fewR R = true := by
          rw [Hf.out, List.all_eq_true]
          intro q hq
          obtain ⟨j, hj, rfl⟩ := List.getElem_of_mem hq
          exact Hall.out j hj (by omega)
        have Hfin := Lib.hid hfin
        clear hfin
        go_wp2_with fail
        go_loopw [4] (fun i wr => i = .int .i64 0 ∧ w1 = wr) (fun _ _ => 0)
        case atStart => first | exact ⟨rfl, rfl⟩ | exact ⟨trivial, rfl⟩ | exact ⟨rfl, trivial⟩ | simp
        case round =>
          obtain ⟨rfl, rfl⟩ := hrel
          go_wp2_with fail
          go_loopw [6] (fun i wr => i = .int .i64 0 ∧ w1 = wr) (fun _ _ => 0)
          case atStart => first | exact ⟨rfl, rfl⟩ | exact ⟨trivial, rfl⟩ | exact ⟨rfl, trivial⟩ | simp
          case round =>
            obtain ⟨rfl, rfl⟩ := hrel
            go_wp2_with fail
            go_ret
            exact ⟨retb Hfin.out.symm, hb1⟩
end Go.Proofs.Ytebfgaapcpehmaa

/- plan.held and plan.Servers. -/
namespace Go.Proofs.Ytebfgaapcpehmaa
open Go.RowKit

def ResPost (w : World) (R : Rs) (e : Ending) (w' : World) : Prop :=
  ∃ vs vn vp, e = .returned (.agg (rsL vs vn vp (heldR R)).toArray) ∧ RsOwn w.heap.size w' vs vn vp (heldR R) ∧ Below w.heap.size w w'
/-- what follows one operation of a region, as a post. -/
def Qk (K : Act → World → Prop) (Q : Exit → Act → World → Prop) : Exit → Act → World → Prop
  | .normal, a, w => K a w
  | e, a, w => Q e a w
theorem wpOp_of_list {P : Program} {ops : Array Oper} {Q : Exit → Act → World → Prop} {i : Nat} {K : Act → World → Prop} {a : Act} {w : World} {o : Oper} (hi : ops[i]? = some o) (h : wpList P ops (Qk K Q) [o] a w) : wpOp P ops Q i K a w := by
  unfold wpOp
  simp only [hi]
  unfold wpList at h
  split
  · next hw =>
    rw [if_pos hw] at h
    rcases h with h | ⟨h1, h2⟩
    · refine .inl ?_
      unfold Oper.wp at h ⊢
      generalize (execOp a.eval o).run P w = r at h ⊢
      unfold Oper.upon at h ⊢
      cases r with
      | ok n w' => cases n <;> first | exact h | (refine Calls.mono h ?_; intro e w'' he; cases e <;> exact he)
      | halt x w' => cases x <;> first | exact h | exact h.elim
    · exact .inr ⟨h1, h2⟩
  · next hw =>
    rw [if_neg hw] at h
    exact h
/-- a field of a struct that is a value. -/
theorem wpList_fieldRow {P : Program} {w : World} {ops : Array Oper} {rest : List Oper} {o : Oper} {a : Act} {Q : Exit → Act → World → Prop} (hgd : o.guard = none) (t : TypeId) (x : Operand) (i : Nat) (ho : o.op = .field t x i) {cs ds : Array Value} (hx : a.eval x = .agg cs)
    {fs : Array Field} (hu : P.underlying t = some (.struct fs)) {ty : TypeId} {off : Nat} (hf : fs[i]?.map (fun f => (f.type, f.offset)) = some (ty, off)) {d : TypeDesc} (hu2 : P.underlying ty = some d) (hd : d.isRow = true) {sz : Nat} (hi : (P.info? ty).map (·.size) = some sz) (he : cs.extract off (off + sz) = ds)
    (h : wpList P ops Q rest (a.put o.dst (.agg ds)) w) : wpList P ops Q (o :: rest) a w := by
  refine wpList_plain hgd fun _ hK => ?_
  obtain ⟨f, hf1, hf2⟩ := Option.map_eq_some_iff.1 hf
  injection hf2 with hf2 hf3
  have ha : (isAgg ty).run P w = .ok true w := by cases d <;> first | (cases hd; done) | simp [isAgg, run_underlying hu2]
  have hs : (sizeOf ty).run P w = .ok sz w := by
    cases hq : P.info? ty with
    | none => simp [hq] at hi
    | some ie =>
      have : ie.size = sz := by simpa [hq] using hi
      simp [sizeOf, typeInfo, hq, this]
  have hr : (Instr.field t (.agg cs) i).run P w = .ok (.agg ds) w := by
    subst hf2 hf3
    simp only [Instr.field, Sem.run_bind, run_underlying hu, Result.andThen_ok, hf1, asAgg, Sem.run_pure, part, ha, if_true, hs, he]
  unfold Oper.wp execOp
  simp only [ho, hx, Sem.run_bind, hr, Result.andThen_ok]
  exact hK _ _ h
theorem built_cf0 (vs vn vp : Value) (R : Rs) : Try.prog.built 32 [(0, .agg (rsL vs vn vp R).toArray)] = some (cfL vs vn vp R (.slice none 0 0) (.slice none 0 0) (.slice none 0 0)).toArray := by kernel_rfl
theorem setHeld_cf (vs vn vp : Value) (R : Rs) (w : World) (h : RsAt w vs vn vp R) :
    Calls Try.prog 32 #[.agg (cfL vs vn vp R (.slice none 0 0) (.slice none 0 0) (.slice none 0 0)).toArray] w (HeldPost w R) := setHeld_any vs vn vp R w h
end Go.Proofs.Ytebfgaapcpehmaa

/- The reference's SameNames (17). -/
namespace Go.Proofs.Ytebfgaapcpehmaa
open Go.RowKit

theorem map_snd_next {L : List (Value × List (List UInt8))} {k : Nat} (h : k < L.length) {p : Value} {n : List (List UInt8)} (hP : L[k] = (p, n)) : (L.take (k + 1)).map (·.2) = (L.take k).map (·.2) ++ [n] := by
  rw [List.take_succ_eq_append_getElem h, List.map_append, hP]; rfl
set_option maxRecDepth 100000 in
set_option maxHeartbeats 1000000 in
theorem sameNms_any (L M : List (Value × List (List UInt8))) (va vb : Value) (w : World) (ha : Sl w 1 va L.length (L.flatMap nmF)) (hb : Sl w 1 vb M.length (M.flatMap nmF)) (hL : ∀ q ∈ L, NmOk w q) (hM : ∀ q ∈ M, NmOk w q) (hl : L.length ≤ 1000000) (hm : M.length ≤ 1000000) :
    Calls Try.prog 21 #[va, vb] w fun e w' => e = .returned (.bool (decide (L.map (·.2) = M.map (·.2)))) ∧ Below w.heap.size w w' := by
  obtain ⟨a1, c1, hv1, hc1⟩ := ha.any
  subst hv1
  obtain ⟨a2, c2, hv2, hc2⟩ := hb.any
  subst hv2
  have Ha := Lib.hid ha
  have Hb := Lib.hid hb
  have HL := Lib.hid hL
  have HM := Lib.hid hM
  clear ha hb hL hM
  by_cases hn : L.length = M.length
  · have i1 : ((L.length : Int) != (M.length : Int)) = false := by simp [hn]
    have i2 : (L.length != M.length) = false := by simp [hn]
    have Hn := Lib.hid hn
    have hle : L.length ≤ M.length := by omega
    clear hn
    go_enter Try.func21, Try.ntmps21
    go_wp2
    go_loopw [5] (fun i wr => ∃ k : Nat, k ≤ L.length ∧ i = .int .i64 k ∧ ((L.take k).map (·.2) = (M.take k).map (·.2)) ∧ Below w.heap.size w wr) (fun i _ => L.length - (intOf i).toNat)
    case atStart => exact ⟨0, Nat.zero_le _, rfl, rfl, Below.refl _ _⟩
    case round =>
      obtain ⟨k, hk, rfl, heq, hbel⟩ := hrel
      have Heq := Lib.hid heq
      clear heq
      by_cases hlt : k < L.length
      · have hltM : k < M.length := by omega
        have hltI : (k : Int) < (L.length : Int) := by omega
        have hltJ : (k : Int) < (M.length : Int) := by omega
        have hk0 : (0 : Int) ≤ (k : Int) := by omega
        obtain ⟨b, off, c, hv, hc, hbl, hcell⟩ := Ha.out.pos (by omega)
        injection hv with hv1 _ hv2
        subst hv1 hv2
        obtain ⟨b2, off2, c3, hv, hc3, hbl2, hcell2⟩ := Hb.out.pos (by omega)
        injection hv with hv1 _ hv2
        subst hv1 hv2
        have hnm := (HL.out _ (List.getElem_mem hlt)).sl.below hbel
        have hnm2 := (HM.out _ (List.getElem_mem hltM)).sl.below hbel
        have hfw := (HL.out _ (List.getElem_mem hlt)).few
        have hR := (range_of nmF_len hcell hlt)
        have hR2 := (range_of nmF_len hcell2 hltM)
        have e1 : wr.cell? ⟨b, off + k, none⟩ = some L[k].1 := by
          have := (hbel.cell (p := ⟨b, off + k * 1 + 0, none⟩) hbl).trans (hR 0 _ rfl)
          simpa using this
        have e2 : wr.cell? ⟨b2, off2 + k, none⟩ = some M[k].1 := by
          have := (hbel.cell (p := ⟨b2, off2 + k * 1 + 0, none⟩) hbl2).trans (hR2 0 _ rfl)
          simpa using this
        obtain ⟨P, hP⟩ : ∃ P, L[k] = P := ⟨_, rfl⟩
        obtain ⟨pv, pn⟩ := P
        obtain ⟨P2, hP2⟩ : ∃ P, M[k] = P := ⟨_, rfl⟩
        obtain ⟨qv, qn⟩ := P2
        rw [hP] at e1 hnm hfw
        rw [hP2] at e2 hnm2
        obtain ⟨na, nc, hnv, hnc⟩ := hnm.any
        obtain ⟨na2, nc2, hnv2, hnc2⟩ := hnm2.any
        dsimp only at hnv hnc hnv2 hnc2 e1 e2 hnm hnm2 hfw
        subst hnv hnv2
        have Hnm := Lib.hid hnm
        have Hnm2 := Lib.hid hnm2
        have HP := Lib.hid hP
        have HP2 := Lib.hid hP2
        have E1 := Lib.hid e1
        have E2 := Lib.hid e2
        clear hR hcell hbl hnm hP hR2 hcell2 hbl2 hnm2 hP2 e1 e2
        cases hr : decide (pn = qn)
        all_goals
          have Hr := Lib.hid hr
          clear hr
          have HX : ∀ (x : BelT wr), Calls Try.prog 24 #[.slice na pn.length nc, .slice na2 qn.length nc2] x.at_ fun e w' => e = .returned (.bool (decide (pn = qn))) ∧ Below x.at_.heap.size x.at_ w' := fun x => exact_any pn qn _ _ _ (Hnm.out.below x.bel) (Hnm2.out.below x.bel) hfw
          rw [Hr.out] at HX
          go_wp2
          refine wp_region_bel (by kernel_rfl) (by kernel_rfl) ?_
          repeat (first
            | go_big_quiet_skip
            | (go_big_quiet_want; first
                | (refine quiet_loadC (o := ⟨some 20, _, _, _, _, _⟩) _ _ rfl rfl E1.out Try.underlying55 rfl (by simp only [Act.put, List.setIfInBounds_toArray, List.set_cons_succ, List.set_cons_zero]; exact rfl) ?_; go_big_quiet_on)
                | (refine quiet_loadC (o := ⟨some 24, _, _, _, _, _⟩) _ _ rfl rfl E2.out Try.underlying55 rfl (by simp only [Act.put, List.setIfInBounds_toArray, List.set_cons_succ, List.set_cons_zero]; exact rfl) ?_; go_big_quiet_on)
                | (go_big_quiet_op; first | go_big_quiet_on | go_big_quiet_call ((refine bel_call (HX _))))))
          refine wpQuiet_nil ?_
          rintro _ ⟨x, rfl⟩
          go_wp2
        · go_ret
          have he : pn ≠ qn := by simpa using Hr.out
          refine ⟨retb ?_, hbel.trans (x.bel.mono hbel.size)⟩
          rw [eq_comm, decide_eq_false_iff_not]
          intro h
          have h1 : (L.map (·.2))[k]? = (M.map (·.2))[k]? := by rw [h]
          rw [List.getElem?_map, List.getElem?_map, List.getElem?_eq_getElem hlt, List.getElem?_eq_getElem hltM, HP.out, HP2.out] at h1
          exact he (by simpa using h1)
        · go_roundw
          case rel =>
            have he : pn = qn := by simpa using Hr.out
            refine ⟨k + 1, by omega, by go_num, ?_, hbel.trans (x.bel.mono hbel.size)⟩
            rw [map_snd_next hlt HP.out, map_snd_next hltM HP2.out, Heq.out, he]
          case measure => simp [intOf]; omega
      · have hltI : ¬ (k : Int) < (L.length : Int) := by omega
        go_wp2
        go_ret
        refine ⟨retb ?_, hbel⟩
        rw [eq_comm, decide_eq_true_iff]
        have := Heq.out
        rwa [List.take_of_length_le (by omega), List.take_of_length_le (by have := Hn.out; omega)] at this
  · have i1 : ((L.length : Int) != (M.length : Int)) = true := by simp; omega
    have i2 : (L.length != M.length) = true := by simp; omega
    go_enter Try.func21, Try.ntmps21
    go_wp2
    go_ret
    refine ⟨retb ?_, Below.refl _ _⟩
    rw [eq_comm, decide_eq_false_iff_not]
    intro h
    exact hn (by simpa using congrArg List.length h)
end Go.Proofs.Ytebfgaapcpehmaa

/- Rows of rows: which blocks the members of a row of names lie in; domain.Cat with its row its own. -/
namespace Go.Proofs.Ytebfgaapcpehmaa
open Go.RowKit

/-- what reads so lies below b, or in a block of element type t. -/
structure SlB (b : Nat) (t : TypeId) (w : World) (size : Nat) (v : Value) (n : Nat) (xs : List Value) : Prop where
  sl : Sl w size v n xs
  far : ∀ g off c, v = .slice (some ⟨g, off, none⟩) n c → 0 < n → g < b ∨ ∃ cur fr, w.heap[g]? = some (.cells cur t fr)
section
variable {b b' size n : Nat} {t : TypeId} {w w' : World} {v : Value} {xs : List Value}
theorem SlB.own (h : w.ownsRow b' t size v n xs) : SlB b t w size v n xs := by
  refine ⟨Sl.own h, fun g off c hv hn => .inr ?_⟩
  rcases h.2 with ⟨rfl, _⟩ | ⟨g', cap, cur, rfl, _, hg, _⟩
  · cases hv
  · injection hv with hv _ _
    injection hv with hv
    injection hv with hv _
    subst hv
    exact ⟨cur, _, hg⟩
theorem SlB.old (h : Sl w size v n xs) (hb : w.heap.size ≤ b) : SlB b t w size v n xs := by
  refine ⟨h, fun g off c hv hn => .inl ?_⟩
  obtain ⟨b2, off2, c2, hv2, _, hl, _⟩ := h.pos hn
  rw [hv2] at hv
  injection hv with hv _ _
  injection hv with hv
  injection hv with hv _
  omega
theorem SlB.bel (h : SlB b t w size v n xs) (hb : Below w.heap.size w w') : SlB b t w' size v n xs := by
  refine ⟨h.sl.below hb, fun g off c hv hn => ?_⟩
  rcases h.far g off c hv hn with hl | ⟨cur, fr, hg⟩
  · exact .inl hl
  · refine .inr ⟨cur, fr, (hb.block g ?_).trans hg⟩
    rcases Nat.lt_or_ge g w.heap.size with hlt | hge
    · exact hlt
    · rw [Array.getElem?_eq_none hge] at hg; cases hg
/-- an append to a row of another element type leaves it as it was. -/
theorem SlB.grown (h : SlB b t w size v n xs) {e : TypeId} {vo : Value} {so no : Nat} {xo : List Value} (ho : w.ownsRow b e so vo no xo) (he : t ≠ e) (hg : w.grownBy w' vo.ownBlock) : SlB b t w' size v n xs := by
  have key : ∀ g off c, v = .slice (some ⟨g, off, none⟩) n c → 0 < n → some g ≠ vo.ownBlock := by
    intro g off c hv hn hgo
    rcases ho.2 with ⟨rfl, _⟩ | ⟨g', cap, cur, rfl, hb', hg', _⟩
    · cases hgo
    · have hgg : g = g' := by simpa [Value.ownBlock] using hgo
      subst hgg
      rcases h.far g off c hv hn with hl | ⟨cur2, fr, h2⟩
      · omega
      · rw [hg'] at h2
        injection h2 with h2
        injection h2 with _ h2 _
        exact he h2.symm
  refine ⟨?_, fun g off c hv hn => ?_⟩
  · obtain ⟨h0, A, c, rfl, hc, hA, hcell⟩ := h.sl
    refine ⟨h0, A, c, rfl, hc, hA, fun ad had hn => ?_⟩
    obtain ⟨h1, h2, h3⟩ := hcell ad had hn
    obtain ⟨g, off, sp⟩ := ad
    dsimp only at h1 h2 h3
    subst had h2
    exact ⟨Nat.lt_of_lt_of_le h1 hg.size, rfl, fun j u hu => hg.cell (h3 j u hu) (key g off c rfl hn)⟩
  · rcases h.far g off c hv hn with hl | ⟨cur, fr, hh⟩
    · exact .inl hl
    · refine .inr ⟨cur, fr, (hg.block g ?_ (key g off c hv hn)).trans hh⟩
      rcases Nat.lt_or_ge g w.heap.size with hlt | hge
      · exact hlt
      · rw [Array.getElem?_eq_none hge] at hh; cases hh
end
/-- a name that is a member of a row. -/
structure NmB (b : Nat) (w : World) (q : Value × List (List UInt8)) : Prop where
  sl : SlB b 9 w 1 q.1 q.2.length (q.2.map stv)
  few : q.2.length ≤ 1000000000
  len : ∀ l ∈ q.2, l.length ≤ 140737488351232
theorem NmB.ok {b : Nat} {w : World} {q : Value × List (List UInt8)} (h : NmB b w q) : NmOk w q := ⟨h.sl.sl, h.few, h.len⟩
theorem NmB.bel {b : Nat} {w w' : World} {q : Value × List (List UInt8)} (h : NmB b w q) (hb : Below w.heap.size w w') : NmB b w' q := ⟨h.sl.bel hb, h.few, h.len⟩
theorem NmB.old {b : Nat} {w : World} {q : Value × List (List UInt8)} (h : NmOk w q) (hb : w.heap.size ≤ b) : NmB b w q := ⟨.old h.sl hb, h.few, h.len⟩
theorem NmB.grown {b : Nat} {w w' : World} {q : Value × List (List UInt8)} (h : NmB b w q) {vo : Value} {no : Nat} {xo : List Value} (ho : w.ownsRow b 55 1 vo no xo) (hg : w.grownBy w' vo.ownBlock) : NmB b w' q := ⟨h.sl.grown ho (by decide) hg, h.few, h.len⟩

/-- both together, the row being of the call's own. -/
def CatOwn (w : World) (A B : List (List UInt8)) (e : Ending) (w' : World) : Prop :=
  ∃ v, e = .returned (.tuple #[v, .int .i64 (chk (A ++ B))]) ∧ (∃ C : List (List UInt8), C = (if chk (A ++ B) = 0 then A ++ B else []) ∧ w'.ownsRow w.heap.size 9 1 v C.length (C.map stv)) ∧ Below w.heap.size w w'
theorem CatOwn.ok {w w' : World} {A B : List (List UInt8)} {v : Value} (h : chk (A ++ B) = 0) (hs : w'.ownsRow w.heap.size 9 1 v (A ++ B).length ((A ++ B).map stv)) (hb : Below w.heap.size w w') : CatOwn w A B (.returned (.tuple #[v, .int .i64 0])) w' :=
  ⟨v, by rw [h], ⟨_, rfl, by rw [if_pos h]; exact hs⟩, hb⟩
theorem CatOwn.no {w w' : World} {A B : List (List UInt8)} (h : chk (A ++ B) ≠ 0) (hb : Below w.heap.size w w') : CatOwn w A B (.returned (.tuple #[.slice none 0 0, .int .i64 (chk (A ++ B))])) w' :=
  ⟨_, rfl, ⟨_, rfl, by rw [if_neg h]; simpa using World.ownsRow_nil w' w.heap.size 9 1⟩, hb⟩

set_option maxRecDepth 100000 in
set_option maxHeartbeats 800000 in
theorem catO_any (A B : List (List UInt8)) (va vb : Value) (w : World) (ha : Sl w 1 va A.length (A.map stv)) (hb : Sl w 1 vb B.length (B.map stv)) (hA : A.length ≤ 100000000) (hB : B.length ≤ 100000000) (hl : ∀ l ∈ A ++ B, l.length ≤ 140737488351232) :
    Calls Try.prog 33 #[va, vb] w (CatOwn w A B) := by
  obtain ⟨a1, c1, hv1, hc1⟩ := ha.any
  subst hv1
  obtain ⟨a2, c2, hv2, hc2⟩ := hb.any
  subst hv2
  have Ha := Lib.hid ha
  have Hb := Lib.hid hb
  have Hl := Lib.hid hl
  clear ha hb hl
  have hAB : (A ++ B).length = A.length + B.length := List.length_append
  have HAB := Lib.hid hAB
  clear hAB
  go_enter Try.func33, Try.ntmps33
  by_cases hc : chk (A ++ B) = 0
  all_goals
    go_wp2_with (first | (at_make; refine wpList_mk0 rfl _ _ _ rfl elt_name (base := w.heap.size) (A.length + B.length) rfl rfl (by omega) (by omega) (by omega) (Nat.le_refl _) ?_; intro w0 ho0 hbw0; have hsz0 := hbw0.size) | (at_builtin; refine wpList_app rfl (.tmp 14) (.tmp 15) _ rfl elt_name rfl ho0 rfl (Ha.out.below hbw0) (stv_one _) hsz0 (by omega) (by omega) ?_; intro v1 w1 ho1 hbw1 hg1; have hb01 := hbw0.trans hbw1; have hsz1 := hb01.size) | (at_builtin; refine wpList_app rfl (.tmp 16) (.tmp 17) _ rfl elt_name rfl ho1 rfl (Hb.out.below hb01) (stv_one _) hsz1 (by omega) (by omega) ?_; intro v2 w2 ho2 hbw2 hg2) | fail)
    have hb02 := hb01.trans hbw2
    have howo : w2.ownsRow w.heap.size 9 1 v2 (A ++ B).length ((A ++ B).map stv) := by
      rw [HAB.out, List.map_append]
      simpa using ho2
    have hown := Sl.own howo
    ((with_reducible refine (check_any (A ++ B) _ _ hown (by have := HAB.out; omega) Hl.out).mono ?_); rintro e w' ⟨rfl, rfl⟩)
  · rw [hc]
    have Hc := Lib.hid hc
    clear hc
    go_wp2_with fail
    go_ret2
    exact CatOwn.ok Hc.out howo hb02
  · have hc1 : ((chk (A ++ B) : Int) != 0) = true := by simpa using hc
    have Hc := Lib.hid hc
    clear hc
    go_wp2_with fail
    go_ret2
    exact CatOwn.no Hc.out hb02

set_option maxRecDepth 100000 in
set_option maxHeartbeats 800000 in
theorem rcatO_any (A B : List (List UInt8)) (va vb : Value) (w : World) (ha : Sl w 1 va A.length (A.map stv)) (hb : Sl w 1 vb B.length (B.map stv)) (hA : A.length ≤ 100000000) (hB : B.length ≤ 100000000) (hl : ∀ l ∈ A ++ B, l.length ≤ 140737488351232) :
    Calls Try.prog 34 #[va, vb] w (CatOwn w A B) := by
  obtain ⟨a1, c1, hv1, hc1⟩ := ha.any
  subst hv1
  obtain ⟨a2, c2, hv2, hc2⟩ := hb.any
  subst hv2
  have Ha := Lib.hid ha
  have Hb := Lib.hid hb
  have Hl := Lib.hid hl
  clear ha hb hl
  have hAB : (A ++ B).length = A.length + B.length := List.length_append
  have HAB := Lib.hid hAB
  clear hAB
  have ho0 := World.ownsRow_nil w w.heap.size 9 1
  go_enter Try.func34, Try.ntmps34
  by_cases hc : chk (A ++ B) = 0
  all_goals
    go_wp2_with (first | (at_builtin; refine wpList_app rfl (.tmp 8) (.tmp 9) _ rfl elt_strs rfl ho0 rfl Ha.out (stv_one _) (Nat.le_refl _) (by omega) (by omega) ?_; intro v1 w1 ho1 hbw1 hg1; have hsz1 := hbw1.size) | (at_builtin; refine wpList_app rfl (.tmp 11) (.tmp 12) _ rfl elt_strs rfl ho1 rfl (Hb.out.below hbw1) (stv_one _) hsz1 (by omega) (by omega) ?_; intro v2 w2 ho2 hbw2 hg2) | fail)
    have hb02 := hbw1.trans hbw2
    have howo : w2.ownsRow w.heap.size 9 1 v2 (A ++ B).length ((A ++ B).map stv) := by
      rw [HAB.out, List.map_append]
      simpa using ho2
    have hown := Sl.own howo
    ((with_reducible refine (rcheck_any (A ++ B) _ _ hown (by have := HAB.out; omega) Hl.out).mono ?_); rintro e w' ⟨rfl, rfl⟩)
  · rw [hc]
    have Hc := Lib.hid hc
    clear hc
    go_wp2_with fail
    go_ret2
    exact CatOwn.ok Hc.out howo hb02
  · have hc1 : ((chk (A ++ B) : Int) != 0) = true := by simpa using hc
    have Hc := Lib.hid hc
    clear hc
    go_wp2_with fail
    go_ret2
    exact CatOwn.no Hc.out hb02
end Go.Proofs.Ytebfgaapcpehmaa

/- search.Candidates. -/
namespace Go.Proofs.Ytebfgaapcpehmaa
open Go.RowKit

abbrev NmL := List (List UInt8)
/-- the names that come of a name and of those within which it is looked for. -/
def catsL (n : NmL) (N : List (Value × NmL)) : List NmL := N.filterMap fun q => if chk (n ++ q.2) = 0 then some (n ++ q.2) else none
theorem catsL_next {n : NmL} {N : List (Value × NmL)} {k : Nat} (h : k < N.length) : catsL n (N.take (k + 1)) = catsL n (N.take k) ++ if chk (n ++ N[k].2) = 0 then [n ++ N[k].2] else [] := by
  unfold catsL
  rw [List.take_succ_eq_append_getElem h, List.filterMap_append]
  congr 1
  by_cases hc : chk (n ++ N[k].2) = 0
  · rw [List.filterMap_cons_some (b := n ++ N[k].2) (by rw [if_pos hc]), List.filterMap_nil, if_pos hc]
  · rw [List.filterMap_cons_none (by rw [if_neg hc]), List.filterMap_nil, if_neg hc]
def firstB (n : NmL) (R : Rs) : Bool := decide ((heldR R).nd ≤ (n.length : Int) - 1)
def candL (n : NmL) (R : Rs) : List NmL := if firstB n R = true then n :: catsL n (heldR R).N else catsL n (heldR R).N ++ [n]
/-- what a text may stand for, and the error. -/
def candC (R : Rs) (s : List UInt8) : List NmL × Int := match prs s with
  | .inl _ => ([], 8)
  | .inr (n, dot) => if n = [] then ([], 8) else if dot = true then ([n], 0) else (candL n R, 0)
/-- a row of names of the call's own. -/
structure NmsOwn (b : Nat) (w : World) (v : Value) (C : List NmL) (N : List (Value × NmL)) : Prop where
  own : w.ownsRow b 55 1 v N.length (N.flatMap nmF)
  ok : ∀ q ∈ N, NmB b w q
  is : N.map (·.2) = C
theorem NmsOwn.nil (b : Nat) (w : World) : NmsOwn b w (.slice none 0 0) [] [] := ⟨by simpa using World.ownsRow_nil w b 55 1, fun _ h => (by cases h), rfl⟩
theorem NmsOwn.bel {b : Nat} {w w' : World} {v : Value} {C : List NmL} {N : List (Value × NmL)} (h : NmsOwn b w v C N) (hb : Below w.heap.size w w') : NmsOwn b w' v C N := ⟨own_below h.own hb, fun q hq => (h.ok q hq).bel hb, h.is⟩
theorem NmsOwn.add {b : Nat} {w w' : World} {v v' : Value} {C : List NmL} {N : List (Value × NmL)} (h : NmsOwn b w v C N) {x : Value} {n : NmL} (ho : w'.ownsRow b 55 1 v' (N.length + 1) (N.flatMap nmF ++ [x])) (hok : ∀ q ∈ N, NmB b w' q) (hx : NmB b w' (x, n)) : NmsOwn b w' v' (C ++ [n]) (N ++ [(x, n)]) := by
  refine ⟨?_, fun q hq => ?_, by rw [List.map_append, h.is]; rfl⟩
  · rw [List.length_append, List.flatMap_append]
    simpa [nmF] using ho
  · rcases List.mem_append.1 hq with hq | hq
    · exact hok q hq
    · rw [List.mem_singleton.1 hq]; exact hx
/-- a row of names that is read. -/
structure NmsAt (w : World) (v : Value) (C : List NmL) (N : List (Value × NmL)) : Prop where
  sl : Sl w 1 v N.length (N.flatMap nmF)
  ok : ∀ q ∈ N, NmOk w q
  is : N.map (·.2) = C
theorem NmsOwn.at_ {b : Nat} {w : World} {v : Value} {C : List NmL} {N : List (Value × NmL)} (h : NmsOwn b w v C N) : NmsAt w v C N := ⟨Sl.own h.own, fun q hq => (h.ok q hq).ok, h.is⟩
theorem NmsAt.bel {w w' : World} {v : Value} {C : List NmL} {N : List (Value × NmL)} (h : NmsAt w v C N) (hb : Below w.heap.size w w') : NmsAt w' v C N := ⟨h.sl.below hb, fun q hq => (h.ok q hq).bel hb, h.is⟩
def CandPost (w : World) (C : List NmL × Int) (e : Ending) (w' : World) : Prop :=
  ∃ v N, e = .returned (.tuple #[v, .int .i64 C.2]) ∧ NmsAt w' v C.1 N ∧ Below w.heap.size w w'
theorem CandPost.err {w w' : World} {C : List NmL × Int} (h : C = ([], 8)) (hb : Below w.heap.size w w') : CandPost w C (.returned (.tuple #[.slice none 0 0, .int .i64 8])) w' := by
  rw [h]; exact ⟨_, [], rfl, ⟨Sl.nil _ _, fun _ h => (by cases h), rfl⟩, hb⟩
theorem CandPost.ok {w w' : World} {C : List NmL × Int} {D : List NmL} {v : Value} {N : List (Value × NmL)} (h : C = (D, 0)) (ho : NmsAt w' v D N) (hb : Below w.heap.size w w') : CandPost w C (.returned (.tuple #[v, .int .i64 0])) w' := by
  rw [h]; exact ⟨_, _, rfl, ho, hb⟩

theorem prsF_ne (k : Nat) : ∀ (n : List (List UInt8)) (d : Bool) (r : List UInt8), prsF k n d r ≠ .inl 0 := by
  induction k with
  | zero =>
    intro n d r h
    simp only [prsF] at h
    split at h
    · injection h with h; cases h
    · cases h
  | succ k ih =>
    intro n d r h
    simp only [prsF] at h
    split at h
    · split at h
      · injection h with h; cases h
      · cases h
    · split at h
      · exact ih _ _ _ h
      · next hc => injection h with h; exact hc h
theorem prs_ne {s : List UInt8} : prs s ≠ .inl 0 := by
  intro h
  unfold prs at h
  split at h
  · cases h
  · split at h
    · injection h with h; cases h
    · exact prsF_ne _ _ _ _ h
theorem chk_len {n : NmL} (h : chk n = 0) : ∀ l ∈ n, l.length ≤ 140737488351232 := by
  intro l hl
  unfold chk at h
  split at h
  · next ha =>
    have := List.all_eq_true.1 ha l hl
    unfold lokB at this
    simp only [decide_eq_true_eq] at this
    omega
  · cases h
theorem sz_geF : ∀ (A : List (List UInt8)) (m : Nat), A.length + m ≤ A.foldl (fun n l => n + l.length + 1) m
  | [], m => by simp
  | a :: A, m => by
    have := sz_geF A (m + a.length + 1)
    rw [List.foldl_cons, List.length_cons]
    omega
theorem sz_ge (A : List (List UInt8)) : A.length + 1 ≤ sz A := sz_geF A 1
theorem chk_few {n : NmL} (h : chk n = 0) : n.length ≤ 255 := by
  have := sz_ge n
  unfold chk at h
  split at h
  · split at h
    · cases h
    · omega
  · cases h
theorem candC_err {R : Rs} {s : List UInt8} {c : Int} (h : prs s = .inl c) : candC R s = ([], 8) := by unfold candC; rw [h]
theorem candC_nil {R : Rs} {s : List UInt8} {d : Bool} (h : prs s = .inr ([], d)) : candC R s = ([], 8) := by unfold candC; rw [h]; rfl
theorem candC_dot {R : Rs} {s : List UInt8} {n : NmL} (h : prs s = .inr (n, true)) (hn : n ≠ []) : candC R s = ([n], 0) := by unfold candC; rw [h]; simp only; rw [if_neg hn]; simp only [if_true]
theorem candC_at {R : Rs} {s : List UInt8} {n : NmL} (h : prs s = .inr (n, false)) (hn : n ≠ []) : candC R s = (candL n R, 0) := by unfold candC; rw [h]; simp only; rw [if_neg hn, if_neg (by decide)]
theorem heldR_N (R : Rs) : (heldR R).N.length ≤ 6 := leftL_len _ _ _
/-- the row that grows: what came so far of the names within which one looks. -/
def CndRel (b : Nat) (w2 : World) (pre : List NmL) (n : NmL) (M : List (Value × NmL)) (k : Nat) (v : Value) (wr : World) : Prop :=
  ∃ N, NmsOwn b wr v (pre ++ catsL n (M.take k)) N ∧ N.length ≤ k + 1 ∧ Below w2.heap.size w2 wr
/-- a text row is no block of what resolv.conf says. -/
theorem sl_stays_rs {w w' : World} {g : Nat} {t : TypeId} {v : Value} {n : NmL} {a1 a2 a3 : Option Addr} {n1 n2 n3 c1 c2 c3 : Nat} {R : Rs} (h : Sl w 1 v n.length (n.map stv))
    (hB : Bk w g t (rsL (.slice a1 n1 c1) (.slice a2 n2 c2) (.slice a3 n3 c3) R).toArray) (hs : Stays g w w') : Sl w' 1 v n.length (n.map stv) := by
  obtain ⟨h0, A, c, rfl, hc, hA, hcell⟩ := h
  refine ⟨h0, A, c, rfl, hc, hA, fun ad had hn => ?_⟩
  obtain ⟨h1, h2, h3⟩ := hcell ad had hn
  have hne : ad.block ≠ g := by
    intro e
    have h4 := h3 0 (stv n[0]) (by rw [List.getElem?_map, List.getElem?_eq_getElem hn]; rfl)
    rw [e, hB.cell, List.getElem?_toArray] at h4
    have h5 := List.mem_of_getElem? h4
    simp [rsL, stv] at h5
  refine ⟨by rw [hs.size]; exact h1, h2, fun j u hu => ?_⟩
  have := h3 j u hu
  unfold World.cell? at this ⊢
  rw [hs.block _ hne]
  exact this
set_option maxRecDepth 100000 in
set_option maxHeartbeats 2000000 in
theorem cand_easy (vs vn vp : Value) (R : Rs) (s : List UInt8) (w : World) (h : RsAt w vs vn vp R) (hs : s.length ≤ 1000000) (hno : ¬ ∃ n, prs s = .inr (n, false) ∧ n ≠ []) :
    Calls Try.prog 19 #[.agg (rsL vs vn vp R).toArray, .string ⟨s.toArray⟩] w (CandPost w (candC R s)) := by
  have H := Lib.hid h
  have Hb := Lib.hid (built_cf0 vs vn vp R)
  clear h
  obtain ⟨C, hC⟩ : ∃ C, candC R s = C := ⟨_, rfl⟩
  rw [hC]
  have HC := Lib.hid hC
  clear hC
  cases hp : prs s with
  | inl c =>
    have hc0 : ((c : Int) != 0) = true := by
      rw [bne_iff_ne]
      intro h0
      subst h0
      exact prs_ne hp
    have hE : C = ([], 8) := by rw [← HC.out]; exact candC_err hp
    have HE := Lib.hid hE
    have Hp := Lib.hid hp
    clear hE hp
    go_enter Try.func19, Try.ntmps19
    go_wp2_with (first
      | ((with_reducible refine wpList_boxB rfl _ _ rfl rfl ?_); intro g1 w1 hg1 hB1 hb1 hs1; clear hg1 hs1)
      | (go_at_call 31; refine (parse_any s _ hs).mono ?_
         intro e w2 h2
         obtain ⟨v2, rfl, hs2, hb2⟩ := prs_open_err h2 Hp.out
         have hb02 := bel_tr hb1 hb2
         clear h2))
    go_ret2
    exact CandPost.err HE.out hb02
  | inr p =>
    obtain ⟨n, dot⟩ := p
    obtain ⟨hchk, hnl⟩ := prs_ok hp
    have hlen := chk_len hchk
    have hn200 := chk_few hchk
    by_cases hn : n = []
    · subst hn
      have hE : C = ([], 8) := by rw [← HC.out]; exact candC_nil hp
      have HE := Lib.hid hE
      have Hp := Lib.hid hp
      clear hE hp hchk hlen hn200 hnl
      go_enter Try.func19, Try.ntmps19
      go_wp2_with (first
        | ((with_reducible refine wpList_boxB rfl _ _ rfl rfl ?_); intro g1 w1 hg1 hB1 hb1 hs1; clear hg1 hs1)
        | (go_at_call 31; refine (parse_any s _ hs).mono ?_
           intro e w2 h2
           obtain ⟨v2, rfl, hs2, hb2⟩ := prs_open h2 Hp.out
           obtain ⟨a2, c2, rfl, _⟩ := hs2.any
           have hb02 := bel_tr hb1 hb2
           clear h2))
      go_ret2
      exact CandPost.err HE.out hb02
    · have hpos : 0 < n.length := List.length_pos_iff.2 hn
      have hn0 : ((n.length : Int) == 0) = false := by rw [beq_eq_false_iff_ne]; omega
      have hn1 : ((n.length : Nat) == 0) = false := by rw [beq_eq_false_iff_ne]; omega
      cases dot
      · exact absurd ⟨n, hp, hn⟩ hno
      · have hE : C = ([n], 0) := by rw [← HC.out]; exact candC_dot hp hn
        have HE := Lib.hid hE
        have Hp := Lib.hid hp
        have Hlen := Lib.hid hlen
        clear hE hp hchk hlen hn
        go_enter Try.func19, Try.ntmps19
        go_wp2_with (first
          | ((with_reducible refine wpList_boxB rfl _ _ rfl rfl ?_); intro g1 w1 hg1 hB1 hb1 hs1; clear hg1 hs1)
          | (go_at_call 31; refine (parse_any s _ hs).mono ?_
             intro e w2 h2
             obtain ⟨v2, rfl, hs2, hb2⟩ := prs_open h2 Hp.out
             obtain ⟨a2, c2, rfl, _⟩ := hs2.any
             have hb02 := bel_tr hb1 hb2
             clear h2)
          | (refine wpList_lit (o := ⟨some 30, _, _, _, _, _⟩) rfl _ _ rfl elt_nms [Value.slice a2 n.length c2] rfl (by decide) (by decide) (fun v hv => by rw [List.mem_singleton.1 hv]; rfl) rfl ?_
             intro w3 hB3 ho3 hb3 hs3))
        go_ret2
        have hb03 := bel_tr hb02 hb3
        refine CandPost.ok (N := [(.slice a2 n.length c2, n)]) HE.out ⟨Sl.own ho3, fun q hq => ?_, rfl⟩ hb03
        rw [List.mem_singleton.1 hq]
        exact ⟨hs2.below hb3, by show n.length ≤ _; omega, Hlen.out⟩
end Go.Proofs.Ytebfgaapcpehmaa

/- search.Candidates: a name that is looked for within others. -/
namespace Go.Proofs.Ytebfgaapcpehmaa
open Go.RowKit

theorem bel_tr4 {a b c d : World} {B : Nat} (h1 : Below a.heap.size a b) (h2 : Below b.heap.size b c) (hB : B = b.heap.size) (h3 : Below B c d) : Below a.heap.size a d := by subst hB; exact (h1.trans (h2.mono h1.size)).trans (h3.mono h1.size)
theorem okN_few {q : Value × NmL} (h : okNp q = true) : q.2.length ≤ 255 := by
  unfold okNp okN at h
  simp only [Bool.and_eq_true, decide_eq_true_eq] at h
  exact chk_few (by first | exact h.2 | simpa using h.2)
set_option maxRecDepth 100000 in
set_option maxHeartbeats 4000000 in
theorem cand_at (vs vn vp : Value) (R : Rs) (s : List UInt8) (w : World) (h : RsAt w vs vn vp R) (hs : s.length ≤ 1000000) (n : NmL) (hp : prs s = .inr (n, false)) (hn : n ≠ []) :
    Calls Try.prog 19 #[.agg (rsL vs vn vp R).toArray, .string ⟨s.toArray⟩] w (CandPost w (candC R s)) := by
  obtain ⟨b1, k1, hvs, _⟩ := h.s.any
  obtain ⟨b2, k2, hvn, _⟩ := h.n.any
  obtain ⟨b3, k3, hvp, _⟩ := h.p.any
  have H := Lib.hid h
  have Hb := Lib.hid (built_cf0 vs vn vp R)
  clear h
  subst hvs hvn hvp
  obtain ⟨C, hC⟩ : ∃ C, candC R s = C := ⟨_, rfl⟩
  rw [hC]
  have HC := Lib.hid hC
  clear hC
  obtain ⟨hchk, hnl⟩ := prs_ok hp
  have hlen := chk_len hchk
  have hn200 := chk_few hchk
  have hpos : 0 < n.length := List.length_pos_iff.2 hn
  have hn0 : ((n.length : Int) == 0) = false := by rw [beq_eq_false_iff_ne]; omega
  have hn1 : ((n.length : Nat) == 0) = false := by rw [beq_eq_false_iff_ne]; omega
  have hE : C = (candL n R, 0) := by rw [← HC.out]; exact candC_at hp hn
  have HE := Lib.hid hE
  have Hp := Lib.hid hp
  have Hlen := Lib.hid hlen
  have Hchk := Lib.hid hchk
  clear hE hp hchk hlen hn
  go_enter Try.func19, Try.ntmps19
  go_wp2_with (first
    | ((with_reducible refine wpList_boxB rfl _ _ rfl rfl ?_); intro g1 w1 hg1 hB1 hb1 hs1; have hg1' : w.heap.size ≤ g1 := Nat.le_of_eq hg1.symm; clear hg1 hs1)
    | (go_at_call 31; refine (parse_any s _ hs).mono ?_
       intro e w2 h2
       obtain ⟨v2, rfl, hs2, hb2⟩ := prs_open h2 Hp.out
       obtain ⟨a2, c2, rfl, _⟩ := hs2.any
       have hb02 := bel_tr hb1 hb2
       have hB12 := hB1.bel hb2
       have Hs2 := Lib.hid hs2
       clear h2 hs2
       refine holdE ?_))
  refine Lib.hid ?_
  go_wp2_with (first
    | (refine wpList_loadB (o := ⟨some 31, _, _, _, _, _⟩) rfl _ _ rfl rfl hB12 rs_under rfl rs_size ?_)
    | (refine wpList_buildL (o := ⟨some 32, _, _, _, _, _⟩) rfl _ [(0, .tmp 31)] rfl Hb.out rfl ?_)
    | (go_at_call 32; refine (setHeld_cf _ _ _ R _ (H.out.bel hb02)).mono ?_
       rintro e w3 ⟨xs, xn, xp, xh, xo, xv, rfl, hR3, hb3⟩
       have hB13 := hB12.bel hb3
       have HR3 := Lib.hid hR3
       obtain ⟨as3, cs3, hxs, _⟩ := hR3.rs.s.any
       obtain ⟨an3, cn3, hxn, _⟩ := hR3.rs.n.any
       obtain ⟨ap3, cp3, hxp, _⟩ := hR3.rs.p.any
       subst hxs hxn hxp
       clear hR3
       refine holdE ?_))
  refine Lib.hid ?_
  go_wp2_with (first
    | (refine wpList_fieldRow (o := ⟨some 34, _, _, _, _, _⟩) rfl _ _ 0 rfl rfl cf_under (ty := 26) (off := 0) (by kernel_rfl) rs_under rfl rs_size (ds := (rsL _ _ _ (heldR R)).toArray) rfl ?_)
    | (refine wpList_storeB rfl _ (.tmp 2) (.tmp 34) rfl rfl rfl hB13 rs_size rfl (rsL_one _ (sl_one HR3.out.rs.s) (sl_one HR3.out.rs.n) (sl_one HR3.out.rs.p)) ?_; intro w4 hB4 hS4
       refine holdE ?_))
  refine Lib.hid ?_
  have hb04 : Below w.heap.size w w4 := hb02.trans ((hb3.mono hb02.size).trans (hS4.below hg1'))
  have hR4 := HR3.out.stays hS4 hB12.lt (fun q hq => (H.out.nm q (leftL_mem hq).1).bel hb04)
  have Hn4 := Lib.hid (sl_stays_rs (Hs2.out.below hb3) hB13 hS4)
  have c3 : w4.cell? ⟨g1, 3, none⟩ = some (.int .i64 (heldR R).nd) := hB4.cell 3
  have c1 : w4.cell? ⟨g1, 1, none⟩ = some (.slice an3 (heldR R).N.length cn3) := hB4.cell 1
  have hM6 := heldR_N R
  have HM4 := Lib.hid hR4.rs.n
  have HNm := Lib.hid hR4.rs.nm
  have hMf : ∀ q ∈ (heldR R).N, q.2.length ≤ 255 := fun q hq => okN_few (leftL_mem hq).2
  have HMf := Lib.hid hMf
  clear hMf
  clear hR4 hB4 hS4 hB13 hB12 hb3 hb02
  have HcL : Hid (candL n R = if firstB n R = true then n :: catsL n (heldR R).N else catsL n (heldR R).N ++ [n]) := Lib.hid rfl
  obtain ⟨ndv, hndv⟩ : ∃ ndv, (heldR R).nd = ndv := ⟨_, rfl⟩
  have hfd : firstB n R = decide (ndv ≤ (n.length : Int) - 1) := by rw [← hndv]; rfl
  rw [hndv] at c3
  obtain ⟨M, hM⟩ : ∃ M, (heldR R).N = M := ⟨_, rfl⟩
  rw [hM] at c1 hM6 HM4 HNm HcL HMf
  cases hf : firstB n R
  case' true =>
    rw [hf] at hfd HcL
    have hnd : decide (ndv ≤ (n.length : Int) - 1) = true := hfd.symm
    have hnd2 : ndv ≤ (n.length : Int) - 1 := by simpa using hnd
    obtain ⟨pre, hpre⟩ : ∃ pre, pre = [n] := ⟨_, rfl⟩
    have Hend : Hid (candL n R = pre ++ catsL n M ∧ firstB n R = true) := Lib.hid ⟨by rw [HcL.out, if_pos rfl, hpre]; rfl, hf⟩
    have Hpre := Lib.hid hpre
    clear hf hfd hpre HcL hndv hM HR3
    go_wp2_with (first
      | (at_builtin; refine wpList_appLit (n := 0) (m := 1) rfl (.tmp 42) (.tmp 44) _ rfl elt_nms rfl (World.ownsRow_nil w4 w4.heap.size 55 1) [Value.slice a2 n.length c2] rfl rfl (by intro u hu; rw [List.mem_singleton.1 hu]; rfl) (Nat.le_refl _) (by omega) (by omega) ?_; intro v5 w5 ho5 hb5 hg5
         have hst : CndRel w4.heap.size w4 pre n M 0 v5 w5 := by
           refine ⟨[(.slice a2 n.length c2, n)], ?_, by simp, hb5⟩
           rw [Hpre.out]
           exact NmsOwn.add (NmsOwn.nil w4.heap.size w4) ho5 (fun q hq => by cases hq) ((NmB.old ⟨Hn4.out, by show n.length ≤ _; omega, Hlen.out⟩ (Nat.le_refl _)).bel hb5)
         have c15 : w5.cell? ⟨g1, 1, none⟩ = some (.slice an3 M.length cn3) := (hb5.cell (p := ⟨g1, 1, none⟩) (block_lt_of_cell c1)).trans c1
         clear ho5 hb5 hg5 c1
         refine holdE ?_))
    refine Lib.hid ?_
    go_wp2_with fail
  case' false =>
    rw [hf] at hfd HcL
    have hnd : decide (ndv ≤ (n.length : Int) - 1) = false := hfd.symm
    have hnd2 : ¬ ndv ≤ (n.length : Int) - 1 := by simpa using hnd
    obtain ⟨pre, hpre⟩ : ∃ pre : List NmL, pre = [] := ⟨_, rfl⟩
    have Hend : Hid (candL n R = (pre ++ catsL n M) ++ [n] ∧ firstB n R = false) := Lib.hid ⟨by rw [HcL.out, if_neg (by decide), hpre]; rfl, hf⟩
    have Hpre := Lib.hid hpre
    have hst : CndRel w4.heap.size w4 pre n M 0 (.slice none 0 0) w4 := ⟨[], by rw [hpre]; exact NmsOwn.nil _ _, by simp, Below.refl _ _⟩
    clear hf hfd hpre HcL hndv hM HR3
    go_wp2_with fail
  all_goals
    go_loopw [10, 49] (fun v i wr => ∃ k : Nat, k ≤ M.length ∧ i = .int .i64 k ∧ CndRel w4.heap.size w4 pre n M k v wr) (fun _ i _ => M.length - (intOf i).toNat)
  case' atStart => exact ⟨0, Nat.zero_le _, rfl, hst⟩
  case' atStart => exact ⟨0, Nat.zero_le _, rfl, hst⟩
  all_goals
    obtain ⟨k, hk, rfl, N, hN, hNk, hz⟩ := hrel
    obtain ⟨ao, co, rfl⟩ := own_any hN.own
    have HN := Lib.hid hN
    clear hN hst
    by_cases hlt : k < M.length
    · obtain ⟨b, off, c, hv, hc, hbl, hcell⟩ := HM4.out.pos (by omega)
      injection hv with hv1 _ hv2
      subst hv1 hv2
      have hnm := HNm.out _ (List.getElem_mem hlt)
      have hpf := HMf.out _ (List.getElem_mem hlt)
      have hR := range_of nmF_len hcell hlt
      have e1 : wr.cell? ⟨b, off + k, none⟩ = some M[k].1 := by
        have := (hz.cell (p := ⟨b, off + k * 1 + 0, none⟩) hbl).trans (hR 0 _ rfl)
        simpa using this
      have hnx := catsL_next (n := n) hlt
      obtain ⟨P, hP⟩ : ∃ P, M[k] = P := ⟨_, rfl⟩
      obtain ⟨pv, pn⟩ := P
      rw [hP] at e1 hnm hnx hpf
      obtain ⟨na, nc, hnv, hnc⟩ := hnm.sl.any
      dsimp only at hnv hnc e1 hnx hpf
      subst hnv
      have Hnm := Lib.hid (hnm.bel hz)
      have Hnx := Lib.hid hnx
      have hltI : (k : Int) < (M.length : Int) := by omega
      clear hR hcell hbl hnm hP hnx
      by_cases hc : chk (n ++ pn) = 0
      · have Hc := Lib.hid hc
        clear hc
        obtain ⟨D, hD⟩ : ∃ D, D = n ++ pn := ⟨_, rfl⟩
        have hDl : D.length ≤ 600 := by rw [hD, List.length_append]; omega
        have HDl : Hid (∀ l ∈ D, l.length ≤ 140737488351232) := Lib.hid (fun l hl => by rw [hD] at hl; rcases List.mem_append.1 hl with h | h; exact Hlen.out l h; exact Hnm.out.len l h)
        have HD := Lib.hid hD
        clear hD
        go_wp2_with (first
          | (go_at_call 33; refine (catO_any n pn _ _ _ (Hn4.out.below hz) Hnm.out.sl (by omega) (by omega) (fun l hl => by rcases List.mem_append.1 hl with h | h; exact Hlen.out l h; exact Hnm.out.len l h)).mono ?_
             rintro e w5 ⟨v5, rfl, ⟨C5, hC5, hoC⟩, hb5⟩
             rw [show chk (n ++ pn) = 0 from Hc.out]
             rw [if_pos Hc.out, ← HD.out] at hC5
             obtain rfl : D = C5 := hC5.symm
             obtain ⟨a5, k5, rfl⟩ := own_any hoC
             have HoC := Lib.hid hoC
             clear hoC)
          | (at_builtin; refine wpList_appLit (n := N.length) (m := 1) rfl (.tmp 61) (.tmp 63) _ rfl elt_nms rfl (own_below HN.out.own hb5) [Value.slice a5 D.length k5] rfl rfl (by intro u hu; rw [List.mem_singleton.1 hu]; rfl) (Nat.le_trans hz.size hb5.size) (by omega) (by omega) ?_; intro v6 w6 ho6 hb6 hg6; have Ho6 := Lib.hid ho6; have Hg6 := Lib.hid hg6; clear ho6 hg6))
        go_roundw
        case rel =>
          refine ⟨k + 1, by omega, by go_num, N ++ [(.slice a5 D.length k5, D)], ?_, by rw [List.length_append]; simp; omega, (hz.trans (hb5.mono hz.size)).trans hb6⟩
          rw [Hnx.out, if_pos Hc.out, ← List.append_assoc, ← HD.out]
          have hown5 := own_below HN.out.own hb5
          exact NmsOwn.add (HN.out.bel hb5) Ho6.out (fun q hq => ((HN.out.ok q hq).bel hb5).grown hown5 Hg6.out) (NmB.grown ⟨.own HoC.out, by show D.length ≤ _; omega, HDl.out⟩ hown5 Hg6.out)
        case measure => simp [intOf]; omega
      · have hc1 : ((chk (n ++ pn) : Int) == 0) = false := by simpa using hc
        have Hc := Lib.hid hc
        clear hc
        go_wp2_with (first
          | (go_at_call 33; refine (catO_any n pn _ _ _ (Hn4.out.below hz) Hnm.out.sl (by omega) (by omega) (fun l hl => by rcases List.mem_append.1 hl with h | h; exact Hlen.out l h; exact Hnm.out.len l h)).mono ?_
             rintro e w5 ⟨v5, rfl, ⟨C5, hC5, hoC⟩, hb5⟩
             obtain ⟨a5, k5, rfl⟩ := own_any hoC
             clear hoC hC5))
        go_roundw
        case rel =>
          refine ⟨k + 1, by omega, by go_num, N, ?_, by omega, hz.trans (hb5.mono hz.size)⟩
          rw [Hnx.out, if_neg Hc.out, List.append_nil]
          exact HN.out.bel hb5
        case measure => simp [intOf]; omega
    · have hltI : ¬ (k : Int) < (M.length : Int) := by omega
      obtain rfl : k = M.length := by omega
      go_wp2_with (first
        | (at_builtin; refine wpList_appLit (n := N.length) (m := 1) rfl (.tmp 68) (.tmp 70) _ rfl elt_nms rfl HN.out.own [Value.slice a2 n.length c2] rfl rfl (by intro u hu; rw [List.mem_singleton.1 hu]; rfl) hz.size (by omega) (by omega) ?_; intro v6 w6 ho6 hb6 hg6; have Ho6 := Lib.hid ho6; have Hg6 := Lib.hid hg6; clear ho6 hg6))
      go_ret2
      first
        | (refine CandPost.ok (N := N ++ [(.slice a2 n.length c2, n)]) HE.out ?_ (bel_tr4 hb04 hz rfl hb6)
           have hM9 := HN.out.is
           rw [List.take_length] at hM9
           refine ⟨by rw [List.length_append, List.flatMap_append]; simpa [nmF] using Sl.own Ho6.out, fun q hq => ?_, by rw [List.map_append, hM9, Hend.out.1]; rfl⟩
           rcases List.mem_append.1 hq with hq | hq
           · exact ((HN.out.ok q hq).grown HN.out.own Hg6.out).ok
           · rw [List.mem_singleton.1 hq]
             exact (NmB.grown (b := w4.heap.size) ((NmB.old ⟨Hn4.out, by show n.length ≤ _; omega, Hlen.out⟩ (Nat.le_refl _)).bel hz) HN.out.own Hg6.out).ok)
        | (have hM9 := HN.out.at_
           rw [List.take_length, ← Hend.out.1] at hM9
           exact CandPost.ok HE.out hM9 (hb04.trans (hz.mono hb04.size)))
end Go.Proofs.Ytebfgaapcpehmaa

/- search.Candidates, all ways; wayfinderlaw31.works. -/
namespace Go.Proofs.Ytebfgaapcpehmaa
open Go.RowKit

theorem cand_any (vs vn vp : Value) (R : Rs) (s : List UInt8) (w : World) (h : RsAt w vs vn vp R) (hs : s.length ≤ 1000000) :
    Calls Try.prog 19 #[.agg (rsL vs vn vp R).toArray, .string ⟨s.toArray⟩] w (CandPost w (candC R s)) := by
  by_cases hy : ∃ n, prs s = .inr (n, false) ∧ n ≠ []
  · obtain ⟨n, h1, h2⟩ := hy
    exact cand_at vs vn vp R s w h hs n h1 h2
  · exact cand_easy vs vn vp R s w h hs hy
theorem flat_stv (n : NmL) : (n.map stv).flatMap (fun v => v.cells.toList) = n.map stv := by
  induction n with
  | nil => rfl
  | cons a n ih => rw [List.map_cons, List.flatMap_cons, ih]; rfl
/-- a name that is written out. -/
theorem wpList_nmLit {w : World} {ops : Array Oper} {rest : List Oper} {o : Oper} {a : Act} {Q : Exit → Act → World → Prop} (hg : o.guard = none) (parts : Array (Nat × Operand)) {len : Nat} (ho : o.op = .buildSlice 55 len parts)
    (n : NmL) (hlen : n.length = len) (hpos : 0 < len) (hsm : len ≤ 1000) (hl : ∀ l ∈ n, l.length ≤ 140737488351232) (hp : parts.toList.map (fun p => (p.1, a.eval p.2)) = ((n.map stv).zipIdx 0).map fun x => (x.2, x.1))
    (h : ∀ w', NmOk w' (.slice (some ⟨w.heap.size, 0, none⟩) len len, n) → Below w.heap.size w w' → wpList Try.prog ops Q rest (a.put o.dst (.slice (some ⟨w.heap.size, 0, none⟩) len len)) w') : wpList Try.prog ops Q (o :: rest) a w := by
  refine wpList_lit hg _ parts ho elt_name (n.map stv) (by simpa using hlen) hpos (by omega) (fun v hv => ?_) hp (fun w' hB ho' hb hs => h w' ⟨?_, by show n.length ≤ _; omega, hl⟩ hb)
  · obtain ⟨l, _, rfl⟩ := List.mem_map.1 hv; rfl
  · have := Sl.own ho'
    rw [flat_stv] at this
    show Sl w' 1 _ n.length (n.map stv)
    rw [hlen]
    exact this
/-- names that are written out. -/
theorem wpList_nmsLit {w : World} {ops : Array Oper} {rest : List Oper} {o : Oper} {a : Act} {Q : Exit → Act → World → Prop} (hg : o.guard = none) (parts : Array (Nat × Operand)) {len : Nat} (ho : o.op = .buildSlice 23 len parts)
    (N : List (Value × NmL)) (hlen : N.length = len) (hpos : 0 < len) (hsm : len ≤ 1000) (hok : ∀ q ∈ N, NmOk w q) (hp : parts.toList.map (fun p => (p.1, a.eval p.2)) = ((N.map (·.1)).zipIdx 0).map fun x => (x.2, x.1))
    (h : ∀ w', Sl w' 1 (.slice (some ⟨w.heap.size, 0, none⟩) len len) len (N.flatMap nmF) → (∀ q ∈ N, NmOk w' q) → Below w.heap.size w w' → wpList Try.prog ops Q rest (a.put o.dst (.slice (some ⟨w.heap.size, 0, none⟩) len len)) w') : wpList Try.prog ops Q (o :: rest) a w := by
  have hone : ∀ q ∈ N, q.1.cells = #[q.1] := by
    intro q hq
    obtain ⟨A, c, hv, _⟩ := (hok q hq).sl.any
    rw [hv]; rfl
  have hfl : ∀ M : List (Value × NmL), (∀ q ∈ M, q.1.cells = #[q.1]) → (M.map (·.1)).flatMap (fun v => v.cells.toList) = M.flatMap nmF := by
    intro M hM
    induction M with
    | nil => rfl
    | cons q M ih => rw [List.map_cons, List.flatMap_cons, List.flatMap_cons, ih (fun x hx => hM x (List.mem_cons_of_mem _ hx)), hM q (by simp)]; rfl
  refine wpList_lit hg _ parts ho elt_nms (N.map (·.1)) (by simpa using hlen) hpos (by omega) (fun v hv => ?_) hp (fun w' hB ho' hb hs => h w' ?_ (fun q hq => (hok q hq).bel hb) hb)
  · obtain ⟨q, hq, rfl⟩ := List.mem_map.1 hv
    rw [hone q hq]; rfl
  · have := Sl.own ho'
    rwa [hfl N hone] at this

def n_ab : NmL := [[97], [98]]
def n_w : NmL := [[119, 119, 119]]
def n_wab : NmL := [[119, 119, 119], [97], [98]]
def n_wc : NmL := [[119, 119, 119], [99]]
def n_wcab : NmL := [[119, 119, 119], [99], [97], [98]]
def Rs31 (v : Value) : Rs := ⟨[], [(v, n_ab)], [], 1, 0, 0, false, false, false, false⟩
theorem cand_w1 (v : Value) : candC (Rs31 v) [119, 119, 119] = ([n_wab, n_w], 0) := by kernel_rfl
theorem cand_w2 (v : Value) : candC (Rs31 v) [119, 119, 119, 46, 99] = ([n_wc, n_wcab], 0) := by kernel_rfl
theorem built_31 (g : Nat) (v : Value) : Try.prog.built 26 [(1, .slice (some ⟨g, 0, none⟩) 1 1), (3, .int .i64 1)] = some (rsL (.slice none 0 0) (.slice (some ⟨g, 0, none⟩) 1 1) (.slice none 0 0) (Rs31 v)).toArray := by kernel_rfl
theorem rs_31 {w : World} {v x : Value} (h : Sl w 1 v 1 ([(x, n_ab)].flatMap nmF)) (hx : NmOk w (x, n_ab)) : RsAt w (.slice none 0 0) v (.slice none 0 0) (Rs31 x) :=
  ⟨Sl.nil _ _, h, Sl.nil _ _, (fun q hq => by rw [List.mem_singleton.1 hq]; exact hx), by simp [Rs31], by simp [Rs31], by simp [Rs31]⟩
theorem small_len {n : NmL} (h : n.all (fun l => decide (l.length ≤ 1000)) = true) : ∀ l ∈ n, l.length ≤ 140737488351232 := by
  intro l hl
  have := List.all_eq_true.1 h l hl
  simp only [decide_eq_true_eq] at this
  omega
set_option maxRecDepth 100000 in
set_option maxHeartbeats 2000000 in
theorem works31_any (w : World) : Calls Try.prog 18 #[] w fun e w' => e = .returned (.bool true) ∧ Below w.heap.size w w' := by
  have Hb := Lib.hid built_31
  have H1 := Lib.hid cand_w1
  have H2 := Lib.hid cand_w2
  go_enter Try.func18, Try.ntmps18
  go_wp2_with (first
    | (refine wpList_nmLit (o := ⟨some 6, _, _, _, _, _⟩) rfl _ rfl n_ab rfl (by decide) (by decide) (small_len (by decide)) rfl ?_
       intro w1 hn1 hb1
       generalize hv1 : Value.slice (some ⟨w.heap.size, 0, none⟩) 2 2 = v1 at hn1 ⊢
       clear hv1)
    | (refine wpList_nmsLit (o := ⟨some 7, _, _, _, _, _⟩) rfl _ rfl [(v1, n_ab)] rfl (by decide) (by decide) (fun q hq => by rw [List.mem_singleton.1 hq]; exact hn1) rfl ?_
       intro w2 hs2 hn2 hb2
       have hb02 := bel_tr hb1 hb2
       have hrs2 := Lib.hid (rs_31 hs2 (hn2 _ (by simp)))
       clear hn1 hb1 hb2 hs2 hn2
       generalize w1.heap.size = g1 at hrs2 ⊢
       refine holdE ?_))
  refine Lib.hid ?_
  go_wp2_with (first
    | (refine wpList_buildL (o := ⟨some 8, _, _, _, _, _⟩) rfl _ [(1, .tmp 7), (3, .const (.int .i64 1))] rfl (Hb.out _ v1) rfl ?_)
    | ((with_reducible refine wpList_allocZ (o := ⟨some 1, _, _, _, _, _⟩) rfl _ rfl rs_zero ?_); intro g3 w3 hg3 hB3 hb3 hs3; have hg3' : w2.heap.size ≤ g3 := Nat.le_of_eq hg3.symm; clear hg3 hs3)
    | (refine wpList_storeB rfl _ (.tmp 1) (.tmp 8) rfl rfl rfl hB3 rs_size rfl (rsL_one _ rfl rfl rfl) ?_; intro w4 hB4 hS4
       have hb24 := hb3.trans (hS4.below hg3')
       have hb04 := bel_tr hb02 hb24
       have hrs4 := Lib.hid (hrs2.out.bel hb24)
       clear hB3 hb3 hS4 hrs2 hb24 hb02 hg3'
       refine holdE ?_))
  refine Lib.hid ?_
  go_wp2_with (first
    | (refine wpList_loadB (o := ⟨some 10, _, _, _, _, _⟩) rfl _ _ rfl rfl hB4 rs_under rfl rs_size ?_)
    | (go_at_call 19; refine (cand_any _ _ _ (Rs31 v1) [119, 119, 119] _ hrs4.out (by simp)).mono ?_
       rw [H1.out]
       rintro e w5 ⟨v5, N5, rfl, hN5, hb5⟩
       have hb05 := bel_tr hb04 hb5
       have hB5 := hB4.bel hb5
       have hrs5 := Lib.hid (hrs4.out.bel hb5)
       obtain ⟨a5, c5, hv5, _⟩ := hN5.sl.any
       subst hv5
       have HN5 := Lib.hid hN5
       clear hb04 hb5 hB4 hrs4 hN5
       dsimp only
       refine holdE ?_))
  refine Lib.hid ?_
  go_wp2_with (first
    | (refine wpList_loadB (o := ⟨some 15, _, _, _, _, _⟩) rfl _ _ rfl rfl hB5 rs_under rfl rs_size ?_)
    | (go_at_call 19; refine (cand_any _ _ _ (Rs31 v1) [119, 119, 119, 46, 99] _ hrs5.out (by simp)).mono ?_
       rw [H2.out]
       rintro e w6 ⟨v6, N6, rfl, hN6, hb6⟩
       have hb06 := bel_tr hb05 hb6
       have HN56 := Lib.hid (HN5.out.bel hb6)
       obtain ⟨a6, c6, hv6, _⟩ := hN6.sl.any
       subst hv6
       have HN6 := Lib.hid hN6
       clear hb05 hb6 hB5 hrs5 hN6 HN5
       dsimp only
       refine holdE ?_))
  refine Lib.hid ?_
  go_wp2_with (first
    | (refine wpList_guarded (o := ⟨some 27, _, _, _, _, _⟩) rfl ?_; refine wpList_nmLit rfl _ rfl n_wab rfl (by decide) (by decide) (small_len (by decide)) rfl ?_
       intro w7 hn7 hb7
       generalize hv7 : Value.slice (some ⟨w6.heap.size, 0, none⟩) 3 3 = v7 at hn7 ⊢
       clear hv7)
    | (refine wpList_guarded (o := ⟨some 28, _, _, _, _, _⟩) rfl ?_; refine wpList_nmLit rfl _ rfl n_w rfl (by decide) (by decide) (small_len (by decide)) rfl ?_
       intro w8 hn8 hb8
       generalize hv8 : Value.slice (some ⟨w7.heap.size, 0, none⟩) 1 1 = v8 at hn8 ⊢
       clear hv8)
    | (refine wpList_guarded (o := ⟨some 29, _, _, _, _, _⟩) rfl ?_; refine wpList_nmsLit rfl _ rfl [(v7, n_wab), (v8, n_w)] rfl (by decide) (by decide) (fun q hq => by rcases List.mem_cons.1 hq with rfl | hq; exact hn7.bel hb8; rw [List.mem_singleton.1 hq]; exact hn8) rfl ?_
       intro w9 hs9 hn9 hb9
       have hb69 := bel_tr (bel_tr hb7 hb8) hb9
       have hb09 := bel_tr hb06 hb69
       have HN59 := Lib.hid (HN56.out.bel hb69)
       have HN69 := Lib.hid (HN6.out.bel hb69)
       clear hn7 hn8 hb7 hb8 hb9 hb06 HN56 HN6 hb69
       generalize w8.heap.size = g8 at hs9 ⊢
       refine holdE ?_))
  refine Lib.hid ?_
  go_wp2_with (first
    | (go_at_call 21; refine (sameNms_any N5 [(v7, n_wab), (v8, n_w)] _ _ _ HN59.out.sl hs9 HN59.out.ok hn9 (by have := congrArg List.length HN59.out.is; simp at this; omega) (by simp)).mono ?_
       rw [decide_eq_true (show N5.map (·.2) = [(v7, n_wab), (v8, n_w)].map (·.2) from HN59.out.is)]
       rintro e wa ⟨rfl, hba⟩
       have hb0a := bel_tr hb09 hba
       have HN6a := Lib.hid (HN69.out.bel hba)
       clear hs9 hn9 HN59 HN69 hba hb09
       refine holdE ?_))
  refine Lib.hid ?_
  go_wp2_with (first
    | (refine wpList_guarded (o := ⟨some 34, _, _, _, _, _⟩) rfl ?_; refine wpList_nmLit rfl _ rfl n_wc rfl (by decide) (by decide) (small_len (by decide)) rfl ?_
       intro w7 hn7 hb7
       generalize hv7 : Value.slice (some ⟨wa.heap.size, 0, none⟩) 2 2 = x7 at hn7 ⊢
       clear hv7)
    | (refine wpList_guarded (o := ⟨some 35, _, _, _, _, _⟩) rfl ?_; refine wpList_nmLit rfl _ rfl n_wcab rfl (by decide) (by decide) (small_len (by decide)) rfl ?_
       intro w8 hn8 hb8
       generalize hv8 : Value.slice (some ⟨w7.heap.size, 0, none⟩) 4 4 = x8 at hn8 ⊢
       clear hv8)
    | (refine wpList_guarded (o := ⟨some 36, _, _, _, _, _⟩) rfl ?_; refine wpList_nmsLit rfl _ rfl [(x7, n_wc), (x8, n_wcab)] rfl (by decide) (by decide) (fun q hq => by rcases List.mem_cons.1 hq with rfl | hq; exact hn7.bel hb8; rw [List.mem_singleton.1 hq]; exact hn8) rfl ?_
       intro w9 hs9 hn9 hb9
       have hb69 := bel_tr (bel_tr hb7 hb8) hb9
       have hb09 := bel_tr hb0a hb69
       have HN69 := Lib.hid (HN6a.out.bel hb69)
       clear hn7 hn8 hb7 hb8 hb9 hb0a HN6a hb69
       generalize w8.heap.size = g8 at hs9 ⊢
       refine holdE ?_))
  refine Lib.hid ?_
  go_wp2_with (first
    | (go_at_call 21; refine (sameNms_any N6 [(x7, n_wc), (x8, n_wcab)] _ _ _ HN69.out.sl hs9 HN69.out.ok hn9 (by have := congrArg List.length HN69.out.is; simp at this; omega) (by simp)).mono ?_
       rw [decide_eq_true (show N6.map (·.2) = [(x7, n_wc), (x8, n_wcab)].map (·.2) from HN69.out.is)]
       rintro e wb ⟨rfl, hbb⟩
       have hb0b := bel_tr hb09 hbb
       clear hs9 hn9 HN69 hbb hb09))
  go_ret
  exact ⟨rfl, hb0b⟩
end Go.Proofs.Ytebfgaapcpehmaa

/- The reference's names and Resolv (21). -/
namespace Go.Proofs.Ytebfgaapcpehmaa
open Go.RowKit

set_option maxRecDepth 100000 in
set_option maxHeartbeats 400000 in
theorem rname21_any (A : List (List UInt8)) (v : Value) (w : World) (h : Sl w 1 v A.length (A.map stv)) (hA : A.length ≤ 1000000000) (hl : ∀ l ∈ A, l.length ≤ 140737488351232) : Calls Try.prog 39 #[v] w fun e w' => e = .returned (.bool (okN A)) ∧ w = w' := by
  obtain ⟨a1, c1, hv1, hc1⟩ := h.any
  subst hv1
  have H := Lib.hid h
  have Hl := Lib.hid hl
  clear h hl
  by_cases h0 : 0 < A.length
  · have i0 : (0 : Int) < (A.length : Int) := by omega
    have ho : okN A = (chk A == 0) := by unfold okN; simp [h0]
    have Ho := Lib.hid ho
    clear ho
    go_enter Try.func39, Try.ntmps39
    go_wp2_with (go_at_call 23; refine (rcheck_any A _ _ H.out hA Hl.out).mono ?_; rintro e w' ⟨rfl, rfl⟩)
    go_ret
    exact ⟨retb Ho.out.symm, rfl⟩
  · have ho : okN A = false := by unfold okN; simp [h0]
    have Ho := Lib.hid ho
    clear ho
    have i0 : ¬ (0 : Int) < (A.length : Int) := by omega
    go_enter Try.func39, Try.ntmps39
    go_wp2
    go_ret
    exact ⟨retb Ho.out.symm, rfl⟩

set_option maxRecDepth 100000 in
set_option maxHeartbeats 2000000 in
theorem rnames_any (L : List (Value × List (List UInt8))) (most : Nat) (v : Value) (w : World) (h : Sl w 1 v L.length (L.flatMap nmF)) (hN : ∀ p ∈ L, NmOk w p) (hl : L.length ≤ 1000000) (hm : most ≤ 1000000) :
    Calls Try.prog 30 #[v, .int .i64 most] w (LeftPost w 55 1 ((leftL okNp most L).flatMap nmF) (leftL okNp most L).length) := by
  obtain ⟨a1, c1, hv1, hc1⟩ := h.any
  subst hv1
  have H := Lib.hid h
  have HN := Lib.hid hN
  clear h hN
  go_enter Try.func30, Try.ntmps30
  go_wp2
  go_loopw [5, 6] (fun v i wr => ∃ k : Nat, k ≤ L.length ∧ i = .int .i64 k ∧ LeftRel w 55 1 nmF okNp most L k v wr) (fun _ i _ => L.length - (intOf i).toNat)
  case atStart => exact ⟨0, Nat.zero_le _, rfl, by simp, by simpa using World.ownsRow_nil w w.heap.size 55 1, Below.refl _ _⟩
  case round =>
    obtain ⟨k, hk, rfl, hcnt, hown, hbel⟩ := hrel
    obtain ⟨ao, co, rfl⟩ := own_any hown
    have Hown := Lib.hid hown
    clear hown
    by_cases hlt : k < L.length
    · obtain ⟨b, off, c, hv, hc, hbl, hcell⟩ := H.out.pos (by omega)
      injection hv with hv1 _ hv2
      subst hv1 hv2
      have hnm := HN.out _ (List.getElem_mem hlt)
      have hR := (range_of nmF_len hcell hlt)
      have hR1 : wr.cell? ⟨b, off + k, none⟩ = some L[k].1 := by
        have := (hbel.cell (p := ⟨b, off + k * 1 + 0, none⟩) hbl).trans (hR 0 _ rfl)
        simpa using this
      obtain ⟨P, hP⟩ : ∃ P, L[k] = P := ⟨_, rfl⟩
      obtain ⟨pv, pn⟩ := P
      rw [hP] at hR1 hnm
      obtain ⟨na, nc, hnv, hnc⟩ := hnm.sl.any
      dsimp only at hnv hnc hR1
      subst hnv
      have Hnm := Lib.hid (show NmOk wr (Value.slice na pn.length nc, pn) from ⟨hnm.sl.below hbel, hnm.few, hnm.len⟩)
      have HP := Lib.hid hP
      clear hR hcell hbl hnm hP
      have hltI : (k : Int) < (L.length : Int) := by omega
      by_cases hst : most ≤ ((L.take k).filter okNp).length
      · have hfin : leftL okNp most L = (L.take k).filter okNp := by rw [leftL_stop hst, List.take_of_length_le hcnt]
        have Hfin := Lib.hid hfin
        clear hfin
        have hstI : ¬ (((L.take k).filter okNp).length : Int) < (most : Int) := by omega
        go_wp2
        go_ret
        refine ⟨_, rfl, ?_, hbel⟩
        rw [Hfin.out]
        exact Hown.out
      · have hstI : (((L.take k).filter okNp).length : Int) < (most : Int) := by omega
        have hst2 : ((L.take k).filter okNp).length < most := by omega
        have hnx := filter_next (p := okNp) hlt
        have Hnx := Lib.hid hnx
        clear hnx
        cases hok : okN pn
        all_goals
          have Hok := Lib.hid hok
          clear hok
          go_wp2_with (first
            | (at_builtin; refine wpList_appLit (n := ((L.take k).filter okNp).length) (m := 1) rfl (.tmp 24) (.tmp 29) _ rfl elt_nms rfl Hown.out [Value.slice na pn.length nc] rfl rfl (by intro u hu; rw [List.mem_singleton.1 hu]; rfl) hbel.size (by omega) (by omega) ?_; intro v7 w7 ho7 hb7 hg7; clear hg7)
            | (go_at_call 39; refine (rname21_any pn _ _ Hnm.out.sl Hnm.out.few Hnm.out.len).mono ?_; rintro e w5 ⟨rfl, rfl⟩; rw [Hok.out]))
          skip
        · go_roundw
          case rel =>
            refine ⟨k + 1, by omega, by go_num, ?_⟩
            unfold LeftRel
            rw [Hnx.out, if_neg (by rw [HP.out]; unfold okNp; rw [Hok.out]; decide), List.append_nil]
            exact ⟨hcnt, Hown.out, hbel⟩
          case measure => simp [intOf]; omega
        · go_roundw
          case rel =>
            refine ⟨k + 1, by omega, by go_num, ?_⟩
            unfold LeftRel
            rw [Hnx.out, if_pos (by rw [HP.out]; exact Hok.out), List.length_append, List.flatMap_append]
            refine ⟨by simp; omega, ?_, hbel.trans hb7⟩
            rw [HP.out]
            simpa [nmF] using ho7
          case measure => simp [intOf]; omega
    · have hkl : k = L.length := by omega
      subst hkl
      have hfin : leftL okNp most L = (L.take L.length).filter okNp := by rw [leftL, List.take_length, List.take_of_length_le (by rw [List.take_length] at hcnt; exact hcnt)]
      have Hfin := Lib.hid hfin
      clear hfin
      go_wp2
      go_ret
      refine ⟨_, rfl, ?_, hbel⟩
      rw [Hfin.out]
      exact Hown.out
theorem rnames6 (L : List (Value × List (List UInt8))) (v : Value) (w : World) (h : Sl w 1 v L.length (L.flatMap nmF)) (hN : ∀ p ∈ L, NmOk w p) (hl : L.length ≤ 1000000) :
    Calls Try.prog 30 #[v, .int .i64 6] w (LeftPost w 55 1 ((leftL okNp 6 L).flatMap nmF) (leftL okNp 6 L).length) := rnames_any L 6 v w h hN hl (by omega)
end Go.Proofs.Ytebfgaapcpehmaa

/- The walk of SearchBounds. -/
namespace Go.Proofs.Ytebfgaapcpehmaa
open Go.RowKit

theorem catsL_len (n : NmL) (N : List (Value × NmL)) : (catsL n N).length ≤ N.length := List.length_filterMap_le _ _
def TrueP (w : World) (e : Ending) (w' : World) : Prop := e = .returned (.bool true) ∧ Below w.heap.size w w'

end Go.Proofs.Ytebfgaapcpehmaa
