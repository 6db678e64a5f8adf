/- Contracts and plain lemmas of our own, merged. -/
import Derived.Test.YtgebcifkbldfoaaDoorZRj10
import Derived.Test.YtgebcifkbldfoaaDoorZRj5
import Derived.Test.YtgebcifkbldfoaaDoorZRj9
import Derived.Great.BuildSlice
/- Rows of structs: reading a member, a literal of one member; setup.left at addresses. -/
namespace Go.Proofs.YtgebcifkbldfoaaDoor
open Go.RowKit

/-- members of one size, side by side. -/
theorem flat_at {α β : Type} {f : α → List β} {s : Nat} (hs : ∀ a, (f a).length = s) : ∀ (L : List α) (k : Nat) (hk : k < L.length) (j : Nat), j < s → (L.flatMap f)[k * s + j]? = (f L[k])[j]?
  | x :: L, 0, _, j, hj => by
    rw [List.flatMap_cons, List.getElem?_append_left (by rw [hs]; omega)]
    simp
  | x :: L, k + 1, hk, j, hj => by
    have e : (k + 1) * s + j = s + (k * s + j) := by rw [Nat.add_mul]; omega
    rw [List.flatMap_cons, e, List.getElem?_append_right (by rw [hs]; omega), hs]
    have e2 : s + (k * s + j) - s = k * s + j := by omega
    rw [e2, flat_at hs L k (by simpa using hk) j hj]
    simp
theorem range_of {w : World} {α : Type} {f : α → List Value} {s : Nat} (hs : ∀ a, (f a).length = s) {L : List α} {b off : Nat} (hc : ∀ j u, (L.flatMap f)[j]? = some u → w.cell? ⟨b, off + j, none⟩ = some u) {k : Nat} (hk : k < L.length) : w.rangeAt b (off + k * s) (f L[k]) := fun j v hv => by
  have hj : j < s := by have := (List.getElem?_eq_some_iff.1 hv).1; rw [hs] at this; exact this
  have := hc (k * s + j) v ((flat_at hs L k hk j hj).trans hv)
  rwa [← Nat.add_assoc] at this
theorem flat_one {α : Type} {f : α → List Value} (h1 : ∀ a, ∀ v ∈ f a, v.oneCell' = true) (L : List α) : ∀ u ∈ L.flatMap f, u.oneCell' = true := by
  intro u hu
  obtain ⟨a, _, ha⟩ := List.mem_flatMap.1 hu
  exact h1 a u ha
/-- a slice literal of members that are aggregates of one size. -/
theorem wpList_lit {P : Program} {ops : Array Oper} {rest : List Oper} {o : Oper} {a : Act} {w : World} {Q : Exit → Act → World → Prop} (hg : o.guard = none) (t : TypeId) (parts : Array (Nat × Operand)) {len : Nat} (ho : o.op = .buildSlice t len parts)
    {e : TypeId} {size bytes : Nat} (el : Elt P t e size bytes) (vs : List Value) (hlen : vs.length = len) (hpos : 0 < len) (hsm : len * size ≤ 16777216) (hv : ∀ v ∈ vs, v.cells.size = size)
    (hp : parts.toList.map (fun p => (p.1, a.eval p.2)) = (vs.zipIdx 0).map fun x => (x.2, x.1))
    (h : ∀ w', Bk w' w.heap.size e (vs.flatMap fun v => v.cells.toList).toArray → w'.ownsRow w.heap.size e size (.slice (some ⟨w.heap.size, 0, none⟩) len len) len (vs.flatMap fun v => v.cells.toList) → Below w.heap.size w w' → w'.heap.size = w.heap.size + 1 →
      wpList P ops Q rest (a.put o.dst (.slice (some ⟨w.heap.size, 0, none⟩) len len)) w') : wpList P ops Q (o :: rest) a w := by
  obtain ⟨i, z, hi, hz, hz1, hz2, hz3⟩ := el.info
  have hps := Nat.mul_pos hpos el.pos
  have hfl : (vs.flatMap fun v => v.cells.toList).length = len * size := by
    rw [← hlen]
    clear hp h hsm hps hlen
    induction vs with
    | nil => simp
    | cons x l ih =>
      rw [List.flatMap_cons, List.length_append, ih (fun v hv' => hv v (List.mem_cons_of_mem _ hv')), List.length_cons, Nat.add_mul, Array.length_toList, hv x (by simp)]
      omega
  refine wpList_buildSlice hg t e len parts ho (vs.flatMap fun v => v.cells.toList).toArray i z el.under hi hz (by rw [hz1]; omega) (by rw [hz1]; omega) ?_ (h _ (Bk.new _ _ _) ?_ ((Below.refl _ _).alloc (Nat.le_refl _) _) (by simp))
  · rw [hz1, Array.toList_map]
    have e2 : (parts.toList.map fun x => match x with | (i, x) => (i, a.eval x)) = (vs.zipIdx 0).map fun x => (x.2, x.1) := hp
    rw [e2]
    exact Great.fill_whole el.pos vs _ hv (by simp [hlen])
  · have := World.ownsRow_lit (base := w.heap.size) (e := e) (size := size) w (vs.flatMap fun v => v.cells.toList).toArray len (Nat.le_refl _) (by have := Nat.le_mul_of_pos_right len el.pos; unfold maxLen; omega) (by rw [List.size_toArray]; exact hfl)
    simpa using this
theorem bk_list {w : World} {g : Nat} {e : TypeId} {l : List Value} {cs : Array Value} (h : Bk w g e ([Value.agg cs].flatMap fun v => v.cells.toList).toArray) (hc : cs.toList = l) : Bk w g e l.toArray := by
  subst hc
  simpa [Value.cells] using h

theorem elt_ads : Elt Tryd.prog 54 34 18 32 := Elt.mk' (z := .agg (adA ad0)) Tryd.underlying54 (by kernel_rfl) (by kernel_rfl) (by decide)
theorem elt_pfs : Elt Tryd.prog 66 72 19 40 := Elt.mk' (z := .agg (pfA ⟨ad0, 0, by decide⟩)) Tryd.underlying66 (by kernel_rfl) (by kernel_rfl) (by decide)
theorem elt_nms : Elt Tryd.prog 62 51 1 24 := Elt.mk' (z := .slice none 0 0) Tryd.underlying62 (by kernel_rfl) (by kernel_rfl) (by decide)
end Go.Proofs.YtgebcifkbldfoaaDoor

/- setup.left at addresses, prefixes and names, with the functions that it is handed. -/
namespace Go.Proofs.YtgebcifkbldfoaaDoor
open Go.RowKit

theorem pf_under : Tryd.prog.underlying 72 = some (.struct (Tryd.prog.fieldsOf 72)) := by kernel_rfl
theorem pf_size : (Tryd.prog.info? 72).map (·.size) = some 19 := by kernel_rfl
theorem pfA_one (p : Pf) : (pfA p).all (·.oneCell') = true := all_oneCell_toArray (pfL_one p)
theorem wpList_loadPf {w : World} {ops : Array Oper} {rest : List Oper} {o : Oper} {a : Act} {Q : Exit → Act → World → Prop} (hgd : o.guard = none) (x : Operand) (ho : o.op = .load 72 x) {g : Nat} (hx : a.eval x = .pointer (some ⟨g, 0, none⟩))
    {t : TypeId} {b : Pf} (hB : Bk w g t (pfA b)) (h : wpList Tryd.prog ops Q rest (a.put o.dst (.agg (pfA b))) w) : wpList Tryd.prog ops Q (o :: rest) a w :=
  wpList_loadB hgd _ x ho hx hB pf_under rfl (by rw [pfA_size]; exact pf_size) h
theorem wpList_storePf {w : World} {ops : Array Oper} {rest : List Oper} {o : Oper} {a : Act} {Q : Exit → Act → World → Prop} (hgd : o.guard = none) (x y : Operand) (ho : o.op = .store 72 x y) {g : Nat} {b c : Pf} (hx : a.eval x = .pointer (some ⟨g, 0, none⟩)) (hy : a.eval y = .agg (pfA b))
    {t : TypeId} (hB : Bk w g t (pfA c)) (h : ∀ w', Bk w' g t (pfA b) → Stays g w w' → wpList Tryd.prog ops Q rest (a.put o.dst undef) w') : wpList Tryd.prog ops Q (o :: rest) a w :=
  wpList_storeB hgd _ x y ho hx hy hB (by rw [pfA_size]; exact pf_size) (by rw [pfA_size, pfA_size]) (pfA_one b) h
def pf0 : Pf := ⟨ad0, 0, by decide⟩
theorem pf_zero : ZeroIs Tryd.prog 72 (pfA pf0) := by unfold ZeroIs; kernel_rfl

theorem own_any {w : World} {base : Nat} {e : TypeId} {size n : Nat} {v : Value} {xs : List Value} (h : w.ownsRow base e size v n xs) : ∃ A c, v = .slice A n c := by
  obtain ⟨A, c, hv, _⟩ := (Sl.own h).any
  exact ⟨A, c, hv⟩

end Go.Proofs.YtgebcifkbldfoaaDoor

/- setup.left at prefixes and at names. -/
namespace Go.Proofs.YtgebcifkbldfoaaDoor
open Go.RowKit

/-- names in a row: each with its slice. -/
structure NmOk (w : World) (p : Value × List (List UInt8)) : Prop where
  sl : Sl w 1 p.1 p.2.length (p.2.map stv)
  few : p.2.length ≤ 1000000000
  len : ∀ l ∈ p.2, l.length ≤ 140737488351232
theorem NmOk.bel {w w' : World} {p : Value × List (List UInt8)} (h : NmOk w p) (hb : Below w.heap.size w w') : NmOk w' p := ⟨h.sl.below hb, h.few, h.len⟩
def nmF (p : Value × List (List UInt8)) : List Value := [p.1]
theorem nmF_len (p : Value × List (List UInt8)) : (nmF p).length = 1 := rfl
end Go.Proofs.YtgebcifkbldfoaaDoor

/- The reference's SameNames (17). -/
namespace Go.Proofs.YtgebcifkbldfoaaDoor
open Go.RowKit

theorem map_snd_next {L : List (Value × List (List UInt8))} {k : Nat} (h : k < L.length) {p : Value} {n : List (List UInt8)} (hP : L[k] = (p, n)) : (L.take (k + 1)).map (·.2) = (L.take k).map (·.2) ++ [n] := by
  rw [List.take_succ_eq_append_getElem h, List.map_append, hP]; rfl
set_option maxRecDepth 100000 in
set_option maxHeartbeats 1000000 in
theorem sameNms_any (L M : List (Value × List (List UInt8))) (va vb : Value) (w : World) (ha : Sl w 1 va L.length (L.flatMap nmF)) (hb : Sl w 1 vb M.length (M.flatMap nmF)) (hL : ∀ q ∈ L, NmOk w q) (hM : ∀ q ∈ M, NmOk w q) (hl : L.length ≤ 1000000) (hm : M.length ≤ 1000000) :
    Calls Tryd.prog 34 #[va, vb] w fun e w' => e = .returned (.bool (decide (L.map (·.2) = M.map (·.2)))) ∧ Below w.heap.size w w' := by
  obtain ⟨a1, c1, hv1, hc1⟩ := ha.any
  subst hv1
  obtain ⟨a2, c2, hv2, hc2⟩ := hb.any
  subst hv2
  have Ha := Lib.hid ha
  have Hb := Lib.hid hb
  have HL := Lib.hid hL
  have HM := Lib.hid hM
  clear ha hb hL hM
  by_cases hn : L.length = M.length
  · have i1 : ((L.length : Int) != (M.length : Int)) = false := by simp [hn]
    have i2 : (L.length != M.length) = false := by simp [hn]
    have Hn := Lib.hid hn
    have hle : L.length ≤ M.length := by omega
    clear hn
    go_enter Tryd.func34, Tryd.ntmps34
    go_wp2
    go_loopw [5] (fun i wr => ∃ k : Nat, k ≤ L.length ∧ i = .int .i64 k ∧ ((L.take k).map (·.2) = (M.take k).map (·.2)) ∧ Below w.heap.size w wr) (fun i _ => L.length - (intOf i).toNat)
    case atStart => exact ⟨0, Nat.zero_le _, rfl, rfl, Below.refl _ _⟩
    case round =>
      obtain ⟨k, hk, rfl, heq, hbel⟩ := hrel
      have Heq := Lib.hid heq
      clear heq
      by_cases hlt : k < L.length
      · have hltM : k < M.length := by omega
        have hltI : (k : Int) < (L.length : Int) := by omega
        have hltJ : (k : Int) < (M.length : Int) := by omega
        have hk0 : (0 : Int) ≤ (k : Int) := by omega
        obtain ⟨b, off, c, hv, hc, hbl, hcell⟩ := Ha.out.pos (by omega)
        injection hv with hv1 _ hv2
        subst hv1 hv2
        obtain ⟨b2, off2, c3, hv, hc3, hbl2, hcell2⟩ := Hb.out.pos (by omega)
        injection hv with hv1 _ hv2
        subst hv1 hv2
        have hnm := (HL.out _ (List.getElem_mem hlt)).sl.below hbel
        have hnm2 := (HM.out _ (List.getElem_mem hltM)).sl.below hbel
        have hfw := (HL.out _ (List.getElem_mem hlt)).few
        have hR := (range_of nmF_len hcell hlt)
        have hR2 := (range_of nmF_len hcell2 hltM)
        have e1 : wr.cell? ⟨b, off + k, none⟩ = some L[k].1 := by
          have := (hbel.cell (p := ⟨b, off + k * 1 + 0, none⟩) hbl).trans (hR 0 _ rfl)
          simpa using this
        have e2 : wr.cell? ⟨b2, off2 + k, none⟩ = some M[k].1 := by
          have := (hbel.cell (p := ⟨b2, off2 + k * 1 + 0, none⟩) hbl2).trans (hR2 0 _ rfl)
          simpa using this
        obtain ⟨P, hP⟩ : ∃ P, L[k] = P := ⟨_, rfl⟩
        obtain ⟨pv, pn⟩ := P
        obtain ⟨P2, hP2⟩ : ∃ P, M[k] = P := ⟨_, rfl⟩
        obtain ⟨qv, qn⟩ := P2
        rw [hP] at e1 hnm hfw
        rw [hP2] at e2 hnm2
        obtain ⟨na, nc, hnv, hnc⟩ := hnm.any
        obtain ⟨na2, nc2, hnv2, hnc2⟩ := hnm2.any
        dsimp only at hnv hnc hnv2 hnc2 e1 e2 hnm hnm2 hfw
        subst hnv hnv2
        have Hnm := Lib.hid hnm
        have Hnm2 := Lib.hid hnm2
        have HP := Lib.hid hP
        have HP2 := Lib.hid hP2
        have E1 := Lib.hid e1
        have E2 := Lib.hid e2
        clear hR hcell hbl hnm hP hR2 hcell2 hbl2 hnm2 hP2 e1 e2
        cases hr : decide (pn = qn)
        all_goals
          have Hr := Lib.hid hr
          clear hr
          have HX : ∀ (x : BelT wr), Calls Tryd.prog 33 #[.slice na pn.length nc, .slice na2 qn.length nc2] x.at_ fun e w' => e = .returned (.bool (decide (pn = qn))) ∧ Below x.at_.heap.size x.at_ w' := fun x => exact_any pn qn _ _ _ (Hnm.out.below x.bel) (Hnm2.out.below x.bel) hfw
          rw [Hr.out] at HX
          go_wp2
          refine wp_region_bel (by kernel_rfl) (by kernel_rfl) ?_
          repeat (first
            | go_big_quiet_skip
            | (go_big_quiet_want; first
                | (refine quiet_loadC (o := ⟨some 20, _, _, _, _, _⟩) _ _ rfl rfl E1.out Tryd.underlying51 rfl (by simp only [Act.put, List.setIfInBounds_toArray, List.set_cons_succ, List.set_cons_zero]; exact rfl) ?_; go_big_quiet_on)
                | (refine quiet_loadC (o := ⟨some 24, _, _, _, _, _⟩) _ _ rfl rfl E2.out Tryd.underlying51 rfl (by simp only [Act.put, List.setIfInBounds_toArray, List.set_cons_succ, List.set_cons_zero]; exact rfl) ?_; go_big_quiet_on)
                | (go_big_quiet_op; first | go_big_quiet_on | go_big_quiet_call ((refine bel_call (HX _))))))
          refine wpQuiet_nil ?_
          rintro _ ⟨x, rfl⟩
          go_wp2
        · go_ret
          have he : pn ≠ qn := by simpa using Hr.out
          refine ⟨retb ?_, hbel.trans (x.bel.mono hbel.size)⟩
          rw [eq_comm, decide_eq_false_iff_not]
          intro h
          have h1 : (L.map (·.2))[k]? = (M.map (·.2))[k]? := by rw [h]
          rw [List.getElem?_map, List.getElem?_map, List.getElem?_eq_getElem hlt, List.getElem?_eq_getElem hltM, HP.out, HP2.out] at h1
          exact he (by simpa using h1)
        · go_roundw
          case rel =>
            have he : pn = qn := by simpa using Hr.out
            refine ⟨k + 1, by omega, by go_num, ?_, hbel.trans (x.bel.mono hbel.size)⟩
            rw [map_snd_next hlt HP.out, map_snd_next hltM HP2.out, Heq.out, he]
          case measure => simp [intOf]; omega
      · have hltI : ¬ (k : Int) < (L.length : Int) := by omega
        go_wp2
        go_ret
        refine ⟨retb ?_, hbel⟩
        rw [eq_comm, decide_eq_true_iff]
        have := Heq.out
        rwa [List.take_of_length_le (by omega), List.take_of_length_le (by have := Hn.out; omega)] at this
  · have i1 : ((L.length : Int) != (M.length : Int)) = true := by simp; omega
    have i2 : (L.length != M.length) = true := by simp; omega
    go_enter Tryd.func34, Tryd.ntmps34
    go_wp2
    go_ret
    refine ⟨retb ?_, Below.refl _ _⟩
    rw [eq_comm, decide_eq_false_iff_not]
    intro h
    exact hn (by simpa using congrArg List.length h)
end Go.Proofs.YtgebcifkbldfoaaDoor

/- Rows of rows: which blocks the members of a row of names lie in; domain.Cat with its row its own. -/
namespace Go.Proofs.YtgebcifkbldfoaaDoor
open Go.RowKit

/-- what reads so lies below b, or in a block of element type t. -/
structure SlB (b : Nat) (t : TypeId) (w : World) (size : Nat) (v : Value) (n : Nat) (xs : List Value) : Prop where
  sl : Sl w size v n xs
  far : ∀ g off c, v = .slice (some ⟨g, off, none⟩) n c → 0 < n → g < b ∨ ∃ cur fr, w.heap[g]? = some (.cells cur t fr)
section
variable {b b' size n : Nat} {t : TypeId} {w w' : World} {v : Value} {xs : List Value}
theorem SlB.own (h : w.ownsRow b' t size v n xs) : SlB b t w size v n xs := by
  refine ⟨Sl.own h, fun g off c hv hn => .inr ?_⟩
  rcases h.2 with ⟨rfl, _⟩ | ⟨g', cap, cur, rfl, _, hg, _⟩
  · cases hv
  · injection hv with hv _ _
    injection hv with hv
    injection hv with hv _
    subst hv
    exact ⟨cur, _, hg⟩
theorem SlB.old (h : Sl w size v n xs) (hb : w.heap.size ≤ b) : SlB b t w size v n xs := by
  refine ⟨h, fun g off c hv hn => .inl ?_⟩
  obtain ⟨b2, off2, c2, hv2, _, hl, _⟩ := h.pos hn
  rw [hv2] at hv
  injection hv with hv _ _
  injection hv with hv
  injection hv with hv _
  omega
theorem SlB.bel (h : SlB b t w size v n xs) (hb : Below w.heap.size w w') : SlB b t w' size v n xs := by
  refine ⟨h.sl.below hb, fun g off c hv hn => ?_⟩
  rcases h.far g off c hv hn with hl | ⟨cur, fr, hg⟩
  · exact .inl hl
  · refine .inr ⟨cur, fr, (hb.block g ?_).trans hg⟩
    rcases Nat.lt_or_ge g w.heap.size with hlt | hge
    · exact hlt
    · rw [Array.getElem?_eq_none hge] at hg; cases hg
/-- an append to a row of another element type leaves it as it was. -/
theorem SlB.grown (h : SlB b t w size v n xs) {e : TypeId} {vo : Value} {so no : Nat} {xo : List Value} (ho : w.ownsRow b e so vo no xo) (he : t ≠ e) (hg : w.grownBy w' vo.ownBlock) : SlB b t w' size v n xs := by
  have key : ∀ g off c, v = .slice (some ⟨g, off, none⟩) n c → 0 < n → some g ≠ vo.ownBlock := by
    intro g off c hv hn hgo
    rcases ho.2 with ⟨rfl, _⟩ | ⟨g', cap, cur, rfl, hb', hg', _⟩
    · cases hgo
    · have hgg : g = g' := by simpa [Value.ownBlock] using hgo
      subst hgg
      rcases h.far g off c hv hn with hl | ⟨cur2, fr, h2⟩
      · omega
      · rw [hg'] at h2
        injection h2 with h2
        injection h2 with _ h2 _
        exact he h2.symm
  refine ⟨?_, fun g off c hv hn => ?_⟩
  · obtain ⟨h0, A, c, rfl, hc, hA, hcell⟩ := h.sl
    refine ⟨h0, A, c, rfl, hc, hA, fun ad had hn => ?_⟩
    obtain ⟨h1, h2, h3⟩ := hcell ad had hn
    obtain ⟨g, off, sp⟩ := ad
    dsimp only at h1 h2 h3
    subst had h2
    exact ⟨Nat.lt_of_lt_of_le h1 hg.size, rfl, fun j u hu => hg.cell (h3 j u hu) (key g off c rfl hn)⟩
  · rcases h.far g off c hv hn with hl | ⟨cur, fr, hh⟩
    · exact .inl hl
    · refine .inr ⟨cur, fr, (hg.block g ?_ (key g off c hv hn)).trans hh⟩
      rcases Nat.lt_or_ge g w.heap.size with hlt | hge
      · exact hlt
      · rw [Array.getElem?_eq_none hge] at hh; cases hh
end
/-- a name that is a member of a row. -/
structure NmB (b : Nat) (w : World) (q : Value × List (List UInt8)) : Prop where
  sl : SlB b 9 w 1 q.1 q.2.length (q.2.map stv)
  few : q.2.length ≤ 1000000000
  len : ∀ l ∈ q.2, l.length ≤ 140737488351232
theorem NmB.ok {b : Nat} {w : World} {q : Value × List (List UInt8)} (h : NmB b w q) : NmOk w q := ⟨h.sl.sl, h.few, h.len⟩
theorem NmB.bel {b : Nat} {w w' : World} {q : Value × List (List UInt8)} (h : NmB b w q) (hb : Below w.heap.size w w') : NmB b w' q := ⟨h.sl.bel hb, h.few, h.len⟩
theorem NmB.old {b : Nat} {w : World} {q : Value × List (List UInt8)} (h : NmOk w q) (hb : w.heap.size ≤ b) : NmB b w q := ⟨.old h.sl hb, h.few, h.len⟩
theorem NmB.grown {b : Nat} {w w' : World} {q : Value × List (List UInt8)} (h : NmB b w q) {vo : Value} {no : Nat} {xo : List Value} (ho : w.ownsRow b 51 1 vo no xo) (hg : w.grownBy w' vo.ownBlock) : NmB b w' q := ⟨h.sl.grown ho (by decide) hg, h.few, h.len⟩

/-- both together, the row being of the call's own. -/
def CatOwn (w : World) (A B : List (List UInt8)) (e : Ending) (w' : World) : Prop :=
  ∃ v, e = .returned (.tuple #[v, .int .i64 (chk (A ++ B))]) ∧ (∃ C : List (List UInt8), C = (if chk (A ++ B) = 0 then A ++ B else []) ∧ w'.ownsRow w.heap.size 9 1 v C.length (C.map stv)) ∧ Below w.heap.size w w'
theorem CatOwn.ok {w w' : World} {A B : List (List UInt8)} {v : Value} (h : chk (A ++ B) = 0) (hs : w'.ownsRow w.heap.size 9 1 v (A ++ B).length ((A ++ B).map stv)) (hb : Below w.heap.size w w') : CatOwn w A B (.returned (.tuple #[v, .int .i64 0])) w' :=
  ⟨v, by rw [h], ⟨_, rfl, by rw [if_pos h]; exact hs⟩, hb⟩
theorem CatOwn.no {w w' : World} {A B : List (List UInt8)} (h : chk (A ++ B) ≠ 0) (hb : Below w.heap.size w w') : CatOwn w A B (.returned (.tuple #[.slice none 0 0, .int .i64 (chk (A ++ B))])) w' :=
  ⟨_, rfl, ⟨_, rfl, by rw [if_neg h]; simpa using World.ownsRow_nil w' w.heap.size 9 1⟩, hb⟩

end Go.Proofs.YtgebcifkbldfoaaDoor

/- Rows of names (what XSeQ has, for seats without resolv). -/
namespace Go.Proofs.YtgebcifkbldfoaaDoor
open Go.RowKit

abbrev NmL := List (List UInt8)
/-- a row of names of the call's own. -/
structure NmsOwn (b : Nat) (w : World) (v : Value) (C : List NmL) (N : List (Value × NmL)) : Prop where
  own : w.ownsRow b 51 1 v N.length (N.flatMap nmF)
  ok : ∀ q ∈ N, NmB b w q
  is : N.map (·.2) = C
theorem NmsOwn.nil (b : Nat) (w : World) : NmsOwn b w (.slice none 0 0) [] [] := ⟨by simpa using World.ownsRow_nil w b 51 1, fun _ h => (by cases h), rfl⟩
theorem NmsOwn.bel {b : Nat} {w w' : World} {v : Value} {C : List NmL} {N : List (Value × NmL)} (h : NmsOwn b w v C N) (hb : Below w.heap.size w w') : NmsOwn b w' v C N := ⟨own_below h.own hb, fun q hq => (h.ok q hq).bel hb, h.is⟩
theorem NmsOwn.add {b : Nat} {w w' : World} {v v' : Value} {C : List NmL} {N : List (Value × NmL)} (h : NmsOwn b w v C N) {x : Value} {n : NmL} (ho : w'.ownsRow b 51 1 v' (N.length + 1) (N.flatMap nmF ++ [x])) (hok : ∀ q ∈ N, NmB b w' q) (hx : NmB b w' (x, n)) : NmsOwn b w' v' (C ++ [n]) (N ++ [(x, n)]) := by
  refine ⟨?_, fun q hq => ?_, by rw [List.map_append, h.is]; rfl⟩
  · rw [List.length_append, List.flatMap_append]
    simpa [nmF] using ho
  · rcases List.mem_append.1 hq with hq | hq
    · exact hok q hq
    · rw [List.mem_singleton.1 hq]; exact hx
/-- a row of names that is read. -/
structure NmsAt (w : World) (v : Value) (C : List NmL) (N : List (Value × NmL)) : Prop where
  sl : Sl w 1 v N.length (N.flatMap nmF)
  ok : ∀ q ∈ N, NmOk w q
  is : N.map (·.2) = C
theorem NmsOwn.at_ {b : Nat} {w : World} {v : Value} {C : List NmL} {N : List (Value × NmL)} (h : NmsOwn b w v C N) : NmsAt w v C N := ⟨Sl.own h.own, fun q hq => (h.ok q hq).ok, h.is⟩
theorem NmsAt.bel {w w' : World} {v : Value} {C : List NmL} {N : List (Value × NmL)} (h : NmsAt w v C N) (hb : Below w.heap.size w w') : NmsAt w' v C N := ⟨h.sl.below hb, fun q hq => (h.ok q hq).bel hb, h.is⟩
theorem prsF_ne (k : Nat) : ∀ (n : List (List UInt8)) (d : Bool) (r : List UInt8), prsF k n d r ≠ .inl 0 := by
  induction k with
  | zero =>
    intro n d r h
    simp only [prsF] at h
    split at h
    · injection h with h; cases h
    · cases h
  | succ k ih =>
    intro n d r h
    simp only [prsF] at h
    split at h
    · split at h
      · injection h with h; cases h
      · cases h
    · split at h
      · exact ih _ _ _ h
      · next hc => injection h with h; exact hc h
theorem prs_ne {s : List UInt8} : prs s ≠ .inl 0 := by
  intro h
  unfold prs at h
  split at h
  · cases h
  · split at h
    · injection h with h; cases h
    · exact prsF_ne _ _ _ _ h
theorem chk_len {n : NmL} (h : chk n = 0) : ∀ l ∈ n, l.length ≤ 140737488351232 := by
  intro l hl
  unfold chk at h
  split at h
  · next ha =>
    have := List.all_eq_true.1 ha l hl
    unfold lokB at this
    simp only [decide_eq_true_eq] at this
    omega
  · cases h
theorem sz_geF : ∀ (A : List (List UInt8)) (m : Nat), A.length + m ≤ A.foldl (fun n l => n + l.length + 1) m
  | [], m => by simp
  | a :: A, m => by
    have := sz_geF A (m + a.length + 1)
    rw [List.foldl_cons, List.length_cons]
    omega
theorem sz_ge (A : List (List UInt8)) : A.length + 1 ≤ sz A := sz_geF A 1
theorem chk_few {n : NmL} (h : chk n = 0) : n.length ≤ 255 := by
  have := sz_ge n
  unfold chk at h
  split at h
  · split at h
    · cases h
    · omega
  · cases h
end Go.Proofs.YtgebcifkbldfoaaDoor

/- The reference's SameAddrs (17). -/
namespace Go.Proofs.YtgebcifkbldfoaaDoor
open Go.RowKit

set_option maxRecDepth 100000 in
set_option maxHeartbeats 1000000 in
theorem sameAds_any (L M : List Ad) (va vb : Value) (w : World) (ha : Sl w 18 va L.length (L.flatMap adL)) (hb : Sl w 18 vb M.length (M.flatMap adL)) (hl : L.length ≤ 1000000) (hm : M.length ≤ 1000000) :
    Calls Tryd.prog 32 #[va, vb] w fun e w' => e = .returned (.bool (decide (L = M))) ∧ Below w.heap.size w w' := by
  obtain ⟨a1, c1, hv1, hc1⟩ := ha.any
  subst hv1
  obtain ⟨a2, c2, hv2, hc2⟩ := hb.any
  subst hv2
  have Ha := Lib.hid ha
  have Hb := Lib.hid hb
  clear ha hb
  by_cases hn : L.length = M.length
  · have i1 : ((L.length : Int) != (M.length : Int)) = false := by simp [hn]
    have i2 : (L.length != M.length) = false := by simp [hn]
    have Hn := Lib.hid hn
    have hle : L.length ≤ M.length := by omega
    clear hn
    go_enter Tryd.func32, Tryd.ntmps32
    go_wp2
    go_loopw [5] (fun i wr => ∃ k : Nat, k ≤ L.length ∧ i = .int .i64 k ∧ (L.take k = M.take k) ∧ Below w.heap.size w wr) (fun i _ => L.length - (intOf i).toNat)
    case atStart => exact ⟨0, Nat.zero_le _, rfl, rfl, Below.refl _ _⟩
    case round =>
      obtain ⟨k, hk, rfl, heq, hbel⟩ := hrel
      have Heq := Lib.hid heq
      clear heq
      by_cases hlt : k < L.length
      · have hltM : k < M.length := by omega
        have hltI : (k : Int) < (L.length : Int) := by omega
        have hltJ : (k : Int) < (M.length : Int) := by omega
        have hk0 : (0 : Int) ≤ (k : Int) := by omega
        obtain ⟨b, off, c, hv, hc, hbl, hcell⟩ := Ha.out.pos (by omega)
        injection hv with hv1 _ hv2
        subst hv1 hv2
        obtain ⟨b2, off2, c3, hv, hc3, hbl2, hcell2⟩ := Hb.out.pos (by omega)
        injection hv with hv1 _ hv2
        subst hv1 hv2
        have hR := range_of adL_len hcell hlt
        have hR2 := range_of adL_len hcell2 hltM
        have HR : wr.rangeAt b (off + k * 18) (adL L[k]) := fun j u hu => ((hbel.cell (p := ⟨b, off + k * 18 + j, none⟩) hbl).trans (hR j u hu))
        have HR2 : wr.rangeAt b2 (off2 + k * 18) (adL M[k]) := fun j u hu => ((hbel.cell (p := ⟨b2, off2 + k * 18 + j, none⟩) hbl2).trans (hR2 j u hu))
        clear hR hR2 hcell hcell2
        cases hr : (!decide (L[k] = M[k]))
        all_goals
          have Hr := Lib.hid hr
          clear hr
          go_wp2
          refine wp_region_bel (by kernel_rfl) (by kernel_rfl) ?_
          repeat (first
            | go_big_quiet_skip
            | (go_big_quiet_want; first
                | (refine quiet_loadAd (o := ⟨some 20, _, _, _, _, _⟩) _ rfl rfl HR (by simp only [Act.put, List.setIfInBounds_toArray, List.set_cons_succ, List.set_cons_zero]; exact rfl) ?_; go_big_quiet_on)
                | (refine quiet_loadAd (o := ⟨some 24, _, _, _, _, _⟩) _ rfl rfl HR2 (by simp only [Act.put, List.setIfInBounds_toArray, List.set_cons_succ, List.set_cons_zero]; exact rfl) ?_; go_big_quiet_on)
                | (refine quiet_neqAd _ _ rfl rfl rfl Hr.out (by simp only [Act.put, List.setIfInBounds_toArray, List.set_cons_succ, List.set_cons_zero]; exact rfl) ?_; go_big_quiet_on)
                | (go_big_quiet_op; go_big_quiet_on)))
          refine wpQuiet_nil ?_
          rintro _ ⟨x, rfl⟩
          go_wp2
        · go_roundw
          case rel =>
            have he : L[k] = M[k] := by simpa using Hr.out
            refine ⟨k + 1, by omega, by go_num, ?_, hbel.trans (x.bel.mono hbel.size)⟩
            rw [List.take_succ_eq_append_getElem hlt, List.take_succ_eq_append_getElem hltM, Heq.out, he]
          case measure => simp [intOf]; omega
        · go_ret
          have he : L[k] ≠ M[k] := by simpa using Hr.out
          refine ⟨retb ?_, hbel.trans (x.bel.mono hbel.size)⟩
          rw [eq_comm, decide_eq_false_iff_not]
          intro h
          subst h
          exact he rfl
      · have hltI : ¬ (k : Int) < (L.length : Int) := by omega
        go_wp2
        go_ret
        refine ⟨retb ?_, hbel⟩
        rw [eq_comm, decide_eq_true_iff]
        have := Heq.out
        rwa [List.take_of_length_le (by omega), List.take_of_length_le (by have := Hn.out; omega)] at this
  · have i1 : ((L.length : Int) != (M.length : Int)) = true := by simp; omega
    have i2 : (L.length != M.length) = true := by simp; omega
    go_enter Tryd.func32, Tryd.ntmps32
    go_wp2
    go_ret
    refine ⟨retb ?_, Below.refl _ _⟩
    rw [eq_comm, decide_eq_false_iff_not]
    intro h
    exact hn (by rw [h])
end Go.Proofs.YtgebcifkbldfoaaDoor

/- Slices of slices: what x[:j] and x[j:] read as. -/
namespace Go.Proofs.YtgebcifkbldfoaaDoor
open Go.RowKit

theorem Sl.zeroO {w : World} {size c : Nat} {A : Option Addr} (hA : A = none → c = 0) : Sl w size (.slice A 0 c) 0 [] :=
  ⟨by simp, A, c, rfl, Nat.zero_le _, hA, fun _ _ h => by cases h⟩
theorem Sl.nilc {w : World} {size n c : Nat} {A : Option Addr} {xs : List Value} (h : Sl w size (.slice A n c) n xs) : (A = none → c = 0) ∧ n ≤ c ∧ xs.length = n * size := by
  obtain ⟨h0, A', c', hv, hc, hA, _⟩ := h
  injection hv with e1 _ e2
  subst e1 e2
  exact ⟨hA, hc, h0⟩
theorem Sl.hiO {w : World} {size n c J : Nat} {A : Option Addr} {xs : List Value} (h : Sl w size (.slice A n c) n xs) (hJ : J ≤ n) : Sl w size (sliced A 0 J c size) J (xs.take (J * size)) := by
  obtain ⟨h1, h2, h3⟩ := h.nilc
  rcases Nat.eq_zero_or_pos J with h0 | h0
  · subst h0
    rw [Nat.zero_mul, List.take_zero]
    unfold sliced
    refine Sl.zeroO fun hn => ?_
    split at hn
    · omega
    · have := h1 (by simpa using hn); omega
  · obtain ⟨b, off, c', hv, hc, hb, hcell⟩ := h.pos (by omega)
    injection hv with e1 _ e2
    subst e1 e2
    have hs : sliced (some ⟨b, off, none⟩) 0 J c size = .slice (some ⟨b, off, none⟩) J c := by
      unfold sliced
      rw [if_neg (by omega), Nat.zero_mul, Nat.sub_zero, Nat.sub_zero]
      rfl
    rw [hs]
    obtain ⟨g0, A', c', hv, hc, hA, hcell⟩ := h
    injection hv with e1 _ e2
    subst e1 e2
    refine ⟨by rw [List.length_take, g0]; have := Nat.mul_le_mul_right size hJ; omega, _, _, rfl, by omega, (fun h => by cases h), fun ad had hpos => ?_⟩
    injection had with had
    subst had
    obtain ⟨g1, _, g3⟩ := hcell _ rfl (by omega)
    refine ⟨g1, rfl, fun j u hu => g3 j u ?_⟩
    rw [List.getElem?_take] at hu
    split at hu
    · exact hu
    · cases hu
theorem flatO_take {α β : Type} {f : α → List β} {s : Nat} (hs : ∀ a, (f a).length = s) : ∀ (k : Nat) (L : List α), (L.flatMap f).take (k * s) = (L.take k).flatMap f
  | 0, L => by simp
  | k + 1, [] => by simp
  | k + 1, x :: L => by
    rw [List.flatMap_cons, List.take_succ_cons, List.flatMap_cons, Nat.add_mul, Nat.one_mul, Nat.add_comm, List.take_append, hs, List.take_of_length_le (by rw [hs]; omega)]
    congr 1
    rw [show s + k * s - s = k * s by omega, flatO_take hs k L]
section
variable {P : Program} {w : World} {ops : Array Oper} {rest : List Oper} {o : Oper} {a : Act} {Q : Exit → Act → World → Prop} {t e : TypeId} {size bytes n c J : Nat} {A : Option Addr} {xs : List Value} {k : IntKind} {j : Int}
end
end Go.Proofs.YtgebcifkbldfoaaDoor
