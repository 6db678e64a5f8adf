/- Contracts and plain lemmas of our own, merged. -/
import Derived.Test.YthlnndjkocnfcaaGreatDoorZZDS10
import Derived.Great.BuildSlice
/- Rows of structs: reading a member, a literal of one member; setup.left at addresses. -/
namespace Go.Proofs.YthlnndjkocnfcaaGreatDoor
open Go.RowKit

/-- members of one size, side by side. -/
theorem flat_at {α β : Type} {f : α → List β} {s : Nat} (hs : ∀ a, (f a).length = s) : ∀ (L : List α) (k : Nat) (hk : k < L.length) (j : Nat), j < s → (L.flatMap f)[k * s + j]? = (f L[k])[j]?
  | x :: L, 0, _, j, hj => by
    rw [List.flatMap_cons, List.getElem?_append_left (by rw [hs]; omega)]
    simp
  | x :: L, k + 1, hk, j, hj => by
    have e : (k + 1) * s + j = s + (k * s + j) := by rw [Nat.add_mul]; omega
    rw [List.flatMap_cons, e, List.getElem?_append_right (by rw [hs]; omega), hs]
    have e2 : s + (k * s + j) - s = k * s + j := by omega
    rw [e2, flat_at hs L k (by simpa using hk) j hj]
    simp
theorem flat_len {α β : Type} {f : α → List β} {s : Nat} (hs : ∀ a, (f a).length = s) (L : List α) : (L.flatMap f).length = L.length * s := by
  induction L with
  | nil => simp
  | cons x L ih => rw [List.flatMap_cons, List.length_append, hs, ih, List.length_cons, Nat.add_mul]; omega
theorem range_of {w : World} {α : Type} {f : α → List Value} {s : Nat} (hs : ∀ a, (f a).length = s) {L : List α} {b off : Nat} (hc : ∀ j u, (L.flatMap f)[j]? = some u → w.cell? ⟨b, off + j, none⟩ = some u) {k : Nat} (hk : k < L.length) : w.rangeAt b (off + k * s) (f L[k]) := fun j v hv => by
  have hj : j < s := by have := (List.getElem?_eq_some_iff.1 hv).1; rw [hs] at this; exact this
  have := hc (k * s + j) v ((flat_at hs L k hk j hj).trans hv)
  rwa [← Nat.add_assoc] at this
/-- a slice literal of members that are aggregates of one size. -/
theorem wpList_lit {P : Program} {ops : Array Oper} {rest : List Oper} {o : Oper} {a : Act} {w : World} {Q : Exit → Act → World → Prop} (hg : o.guard = none) (t : TypeId) (parts : Array (Nat × Operand)) {len : Nat} (ho : o.op = .buildSlice t len parts)
    {e : TypeId} {size bytes : Nat} (el : Elt P t e size bytes) (vs : List Value) (hlen : vs.length = len) (hpos : 0 < len) (hsm : len * size ≤ 16777216) (hv : ∀ v ∈ vs, v.cells.size = size)
    (hp : parts.toList.map (fun p => (p.1, a.eval p.2)) = (vs.zipIdx 0).map fun x => (x.2, x.1))
    (h : ∀ w', Bk w' w.heap.size e (vs.flatMap fun v => v.cells.toList).toArray → w'.ownsRow w.heap.size e size (.slice (some ⟨w.heap.size, 0, none⟩) len len) len (vs.flatMap fun v => v.cells.toList) → Below w.heap.size w w' → w'.heap.size = w.heap.size + 1 →
      wpList P ops Q rest (a.put o.dst (.slice (some ⟨w.heap.size, 0, none⟩) len len)) w') : wpList P ops Q (o :: rest) a w := by
  obtain ⟨i, z, hi, hz, hz1, hz2, hz3⟩ := el.info
  have hps := Nat.mul_pos hpos el.pos
  have hfl : (vs.flatMap fun v => v.cells.toList).length = len * size := by
    rw [← hlen]
    clear hp h hsm hps hlen
    induction vs with
    | nil => simp
    | cons x l ih =>
      rw [List.flatMap_cons, List.length_append, ih (fun v hv' => hv v (List.mem_cons_of_mem _ hv')), List.length_cons, Nat.add_mul, Array.length_toList, hv x (by simp)]
      omega
  refine wpList_buildSlice hg t e len parts ho (vs.flatMap fun v => v.cells.toList).toArray i z el.under hi hz (by rw [hz1]; omega) (by rw [hz1]; omega) ?_ (h _ (Bk.new _ _ _) ?_ ((Below.refl _ _).alloc (Nat.le_refl _) _) (by simp))
  · rw [hz1, Array.toList_map]
    have e2 : (parts.toList.map fun x => match x with | (i, x) => (i, a.eval x)) = (vs.zipIdx 0).map fun x => (x.2, x.1) := hp
    rw [e2]
    exact Great.fill_whole el.pos vs _ hv (by simp [hlen])
  · have := World.ownsRow_lit (base := w.heap.size) (e := e) (size := size) w (vs.flatMap fun v => v.cells.toList).toArray len (Nat.le_refl _) (by have := Nat.le_mul_of_pos_right len el.pos; unfold maxLen; omega) (by rw [List.size_toArray]; exact hfl)
    simpa using this
theorem bk_list {w : World} {g : Nat} {e : TypeId} {l : List Value} {cs : Array Value} (h : Bk w g e ([Value.agg cs].flatMap fun v => v.cells.toList).toArray) (hc : cs.toList = l) : Bk w g e l.toArray := by
  subst hc
  simpa [Value.cells] using h

theorem elt_ads : Elt Tryz.prog 35 29 18 32 := Elt.mk' (z := .agg (adA ad0)) Tryz.underlying35 (by kernel_rfl) (by kernel_rfl) (by decide)
end Go.Proofs.YthlnndjkocnfcaaGreatDoor

/- The reference's SameAddrs (17). -/
namespace Go.Proofs.YthlnndjkocnfcaaGreatDoor
open Go.RowKit

set_option maxRecDepth 100000 in
set_option maxHeartbeats 1000000 in
theorem sameAds_any (L M : List Ad) (va vb : Value) (w : World) (ha : Sl w 18 va L.length (L.flatMap adL)) (hb : Sl w 18 vb M.length (M.flatMap adL)) (hl : L.length ≤ 1000000) (hm : M.length ≤ 1000000) :
    Calls Tryz.prog 11 #[va, vb] w fun e w' => e = .returned (.bool (decide (L = M))) ∧ Below w.heap.size w w' := by
  obtain ⟨a1, c1, hv1, hc1⟩ := ha.any
  subst hv1
  obtain ⟨a2, c2, hv2, hc2⟩ := hb.any
  subst hv2
  have Ha := Lib.hid ha
  have Hb := Lib.hid hb
  clear ha hb
  by_cases hn : L.length = M.length
  · have i1 : ((L.length : Int) != (M.length : Int)) = false := by simp [hn]
    have i2 : (L.length != M.length) = false := by simp [hn]
    have Hn := Lib.hid hn
    have hle : L.length ≤ M.length := by omega
    clear hn
    go_enter Tryz.func11, Tryz.ntmps11
    go_wp2
    go_loopw [5] (fun i wr => ∃ k : Nat, k ≤ L.length ∧ i = .int .i64 k ∧ (L.take k = M.take k) ∧ Below w.heap.size w wr) (fun i _ => L.length - (intOf i).toNat)
    case atStart => exact ⟨0, Nat.zero_le _, rfl, rfl, Below.refl _ _⟩
    case round =>
      obtain ⟨k, hk, rfl, heq, hbel⟩ := hrel
      have Heq := Lib.hid heq
      clear heq
      by_cases hlt : k < L.length
      · have hltM : k < M.length := by omega
        have hltI : (k : Int) < (L.length : Int) := by omega
        have hltJ : (k : Int) < (M.length : Int) := by omega
        have hk0 : (0 : Int) ≤ (k : Int) := by omega
        obtain ⟨b, off, c, hv, hc, hbl, hcell⟩ := Ha.out.pos (by omega)
        injection hv with hv1 _ hv2
        subst hv1 hv2
        obtain ⟨b2, off2, c3, hv, hc3, hbl2, hcell2⟩ := Hb.out.pos (by omega)
        injection hv with hv1 _ hv2
        subst hv1 hv2
        have hR := range_of adL_len hcell hlt
        have hR2 := range_of adL_len hcell2 hltM
        have HR : wr.rangeAt b (off + k * 18) (adL L[k]) := fun j u hu => ((hbel.cell (p := ⟨b, off + k * 18 + j, none⟩) hbl).trans (hR j u hu))
        have HR2 : wr.rangeAt b2 (off2 + k * 18) (adL M[k]) := fun j u hu => ((hbel.cell (p := ⟨b2, off2 + k * 18 + j, none⟩) hbl2).trans (hR2 j u hu))
        clear hR hR2 hcell hcell2
        cases hr : (!decide (L[k] = M[k]))
        all_goals
          have Hr := Lib.hid hr
          clear hr
          go_wp2
          refine wp_region_bel (by kernel_rfl) (by kernel_rfl) ?_
          repeat (first
            | go_big_quiet_skip
            | (go_big_quiet_want; first
                | (refine quiet_loadAd (o := ⟨some 20, _, _, _, _, _⟩) _ rfl rfl HR (by simp only [Act.put, List.setIfInBounds_toArray, List.set_cons_succ, List.set_cons_zero]; exact rfl) ?_; go_big_quiet_on)
                | (refine quiet_loadAd (o := ⟨some 24, _, _, _, _, _⟩) _ rfl rfl HR2 (by simp only [Act.put, List.setIfInBounds_toArray, List.set_cons_succ, List.set_cons_zero]; exact rfl) ?_; go_big_quiet_on)
                | (refine quiet_neqAd _ _ rfl rfl rfl Hr.out (by simp only [Act.put, List.setIfInBounds_toArray, List.set_cons_succ, List.set_cons_zero]; exact rfl) ?_; go_big_quiet_on)
                | (go_big_quiet_op; go_big_quiet_on)))
          refine wpQuiet_nil ?_
          rintro _ ⟨x, rfl⟩
          go_wp2
        · go_roundw
          case rel =>
            have he : L[k] = M[k] := by simpa using Hr.out
            refine ⟨k + 1, by omega, by go_num, ?_, hbel.trans (x.bel.mono hbel.size)⟩
            rw [List.take_succ_eq_append_getElem hlt, List.take_succ_eq_append_getElem hltM, Heq.out, he]
          case measure => simp [intOf]; omega
        · go_ret
          have he : L[k] ≠ M[k] := by simpa using Hr.out
          refine ⟨retb ?_, hbel.trans (x.bel.mono hbel.size)⟩
          rw [eq_comm, decide_eq_false_iff_not]
          intro h
          subst h
          exact he rfl
      · have hltI : ¬ (k : Int) < (L.length : Int) := by omega
        go_wp2
        go_ret
        refine ⟨retb ?_, hbel⟩
        rw [eq_comm, decide_eq_true_iff]
        have := Heq.out
        rwa [List.take_of_length_le (by omega), List.take_of_length_le (by have := Hn.out; omega)] at this
  · have i1 : ((L.length : Int) != (M.length : Int)) = true := by simp; omega
    have i2 : (L.length != M.length) = true := by simp; omega
    go_enter Tryz.func11, Tryz.ntmps11
    go_wp2
    go_ret
    refine ⟨retb ?_, Below.refl _ _⟩
    rw [eq_comm, decide_eq_false_iff_not]
    intro h
    exact hn (by rw [h])
end Go.Proofs.YthlnndjkocnfcaaGreatDoor
