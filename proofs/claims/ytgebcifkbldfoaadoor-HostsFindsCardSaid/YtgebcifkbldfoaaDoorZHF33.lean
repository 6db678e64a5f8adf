/- Contracts and plain lemmas of our own, merged. -/
import Derived.Test.YtgebcifkbldfoaaDoorZHF11
import Derived.Test.YtgebcifkbldfoaaDoorZHF30
import Derived.Test.YtgebcifkbldfoaaDoorZHF32
import Derived.Test.YtgebcifkbldfoaaDoorZHF5
/- slices.Clone of a name; hosts.Find: plain words. -/
namespace Go.Proofs.YtgebcifkbldfoaaDoor
open Go.RowKit
attribute [local go_sem] ba_get ext_take ext_drop ext_any ba_app

theorem wpList_litN {P : Program} {ops : Array Oper} {rest : List Oper} {o : Oper} {a : Act} {w : World} {Q : Exit → Act → World → Prop} (hg : o.guard = none) (t : TypeId) (ho : o.op = .buildSlice t 0 #[])
    {e : TypeId} {size bytes : Nat} (el : Elt P t e size bytes)
    (h : ∀ w', w'.ownsRow w.heap.size e size (.slice (some ⟨w.heap.size, 0, none⟩) 0 0) 0 [] → Below w.heap.size w w' → w'.heap.size = w.heap.size + 1 → wpList P ops Q rest (a.put o.dst (.slice (some ⟨w.heap.size, 0, none⟩) 0 0)) w') : wpList P ops Q (o :: rest) a w := by
  obtain ⟨i, z, hi, hz, hz1, hz2, hz3⟩ := el.info
  refine wpList_plain hg fun _ hK => ?_
  have hr : (Instr.buildSlice t 0 #[]).run P w = .ok (.slice (some ⟨w.heap.size, 0, none⟩) 0 0) (w.alloc (.cells #[] e)) := by
    simp [Instr.buildSlice, run_underlying el.under, sizeOf, typeInfo, hi, Instr.fill, newRow]
    rw [show Array.range 0 = #[] by first | rfl | decide | simp, Array.map_empty]
  unfold Oper.wp
  simp only [execOp, ho, List.map_toArray, List.map_nil, hr, Sem.run_bind, Result.andThen_ok]
  exact hK _ _ (h _ (World.ownsRow_made w #[] 0 (Nat.le_refl _) (by decide) (by simp)) ((Below.refl _ _).alloc (Nat.le_refl _) _) (by simp))
theorem nm_nil (w : World) (A : Option Addr) (n c : Nat) : (binOp .eql 51 (.slice A n c) (.slice none 0 0)).run Tryd.prog w = .ok (.bool A.isNone) w := by
  have he : (Op.equal 51 (.slice A n c) (.slice none 0 0)).run Tryd.prog w = .ok A.isNone w := by
    unfold Op.equal
    show (Op.equalIn (9999 + 1) 51 (.slice A n c) (.slice none 0 0)).run Tryd.prog w = _
    unfold Op.equalIn
    rw [Sem.run_bind, run_underlying Tryd.underlying51]
    cases A <;> rfl
  show (do pure (Value.bool (← Op.equal 51 (.slice A n c) (.slice none 0 0))) : Sem Value).run Tryd.prog w = _
  rw [Sem.run_bind, he]
  rfl
attribute [local go_sem] nm_nil
def NamePost (w : World) (n : NmL) (e : Ending) (w' : World) : Prop := ∃ v, e = .returned v ∧ w'.ownsRow w.heap.size 9 1 v n.length (n.map stv) ∧ Below w.heap.size w w'
set_option maxRecDepth 100000 in
theorem nclone_any (v : Value) (l : NmL) (w : World) (h : Sl w 1 v l.length (l.map stv)) (hl : l.length ≤ 1000000) :
    Calls Tryd.prog 65 #[v] w (NamePost w l) := by
  obtain ⟨A, c, rfl, hc⟩ := h.any
  have H := Lib.hid h
  cases A with
  | none =>
    have hn : l.length = 0 := by
      obtain ⟨_, A, c', hv, hcl, hA, _⟩ := h
      injection hv with h1
      have := hA h1.symm
      omega
    have hnil : l = [] := List.eq_nil_of_length_eq_zero hn
    subst hnil
    clear h
    go_enter Tryd.func65, Tryd.ntmps65
    go_wp2
    go_ret
    exact ⟨_, rfl, World.ownsRow_nil _ _ _ _, Below.refl _ _⟩
  | some p =>
    clear h
    generalize hn : l.length = n at *
    go_enter Tryd.func65, Tryd.ntmps65
    go_wp2_with (first
      | ((with_reducible show wpList _ _ _ (⟨some 5, _, _, _, _, _⟩ :: _) _ _); refine wpList_litN (o := ⟨some 5, _, _, _, _, _⟩) rfl _ rfl elt_name ?_; intro w1 ho1 hb1 hs1)
      | (at_builtin; refine wpList_app rfl (.tmp 5) (.tmp 6) _ rfl elt_name rfl ho1 rfl (H.out.below hb1) (stv_one _) hb1.size (by omega) (by omega) ?_; intro v7 w7 ho7 hb7 hg7))
    go_ret
    refine ⟨_, rfl, ?_, hb1.trans hb7⟩
    rw [hn]
    simpa using ho7
/-- one host more. -/
def fdStep (n : NmL) (fam : Int) (acc : List Ad × NmL) (h : Ad × List NmL) : List Ad × NmL :=
  if ((fam != 0 && h.1.fam != fam) || !hasN h.2 n) = true then acc else (if h.1 ∈ acc.1 then acc.1 else acc.1 ++ [h.1], if acc.1 = [] then h.2.headD [] else acc.2)
/-- the addresses of a name, and the name that is its own. -/
def findP (S : List (Ad × List NmL)) (n : NmL) (fam : Int) : List Ad × NmL := S.foldl (fdStep n fam) ([], [])
theorem fold_next {H : List Ho} {k : Nat} (n : NmL) (fam : Int) (h : k < H.length) : ((H.take (k + 1)).map hoP).foldl (fdStep n fam) ([], []) = fdStep n fam (((H.take k).map hoP).foldl (fdStep n fam) ([], [])) (hoP H[k]) := by
  rw [map_hoP_next h, List.foldl_append]
  rfl
theorem fd_len {H : List Ho} (n : NmL) (fam : Int) : ∀ k, (((H.take k).map hoP).foldl (fdStep n fam) ([], [])).1.length ≤ k := by
  intro k
  induction k with
  | zero => simp
  | succ k ih =>
    by_cases h : k < H.length
    · rw [fold_next n fam h]
      generalize ((H.take k).map hoP).foldl (fdStep n fam) ([], []) = acc at *
      unfold fdStep
      split
      · omega
      · dsimp only
        split
        · omega
        · rw [List.length_append, List.length_singleton]; omega
    · rw [List.take_of_length_le (by omega)] at ih ⊢
      omega
theorem hasN_ne {S : List NmL} {n : NmL} (h : hasN S n = true) : S ≠ [] := by
  intro e
  subst e
  cases h
theorem nm_flat (L : List (Value × NmL)) (j : Nat) : (L.flatMap nmF)[j]? = (L[j]?).map (·.1) := by
  induction L generalizing j with
  | nil => rfl
  | cons q L ih =>
    rw [List.flatMap_cons]
    cases j with
    | zero => rfl
    | succ j => exact ih j
theorem mapAd_under : Tryd.prog.underlying 109 = some (.map 34 3) := by kernel_rfl
theorem zero_int (w : World) : (zeroValue 3).run Tryd.prog w = .ok (.int .i64 0) w := by
  have h : (Tryd.prog.info? 3).map (fun i => i.zero) = some (some (.int .i64 0)) := by kernel_rfl
  cases hi : Tryd.prog.info? 3 with
  | none => rw [hi] at h; cases h
  | some i =>
    rw [hi, Option.map_some] at h
    have h := Option.some.inj h
    simp [zeroValue, typeInfo, hi, h]
end Go.Proofs.YtgebcifkbldfoaaDoor

/- Hosts as they come as an argument: raw; the law's own few (18). -/
namespace Go.Proofs.YtgebcifkbldfoaaDoor
open Go.RowKit

structure HoRaw (w : World) (h : Ho) : Prop where
  sl : Sl w 1 h.v h.L.length (h.L.flatMap nmF)
  len : h.L.length ≤ maxLen
  nm : ∀ q ∈ h.L, NmRaw w q
/-- hosts, as an argument. -/
structure HosArg (w : World) (v : Value) (H : List Ho) : Prop where
  sl : Sl w 19 v H.length (H.flatMap hoL)
  len : H.length ≤ maxLen
  ok : ∀ h ∈ H, HoRaw w h
def fewH (h : Ho) : Bool := decide (h.L.length ≤ 10) && h.L.all (fun q => fewB q.2)
def fewHs (H : List Ho) : Bool := decide (H.length ≤ 40) && H.all fewH
theorem fewHs_at {w : World} {v : Value} {H : List Ho} (h : HosArg w v H) (hf : fewHs H = true) : HosAt w v H ∧ H.length ≤ 40 ∧ ∀ x ∈ H, ∀ q ∈ x.L, ShN q.2 := by
  unfold fewHs at hf
  simp only [Bool.and_eq_true, decide_eq_true_eq, List.all_eq_true] at hf
  obtain ⟨h1, h2⟩ := hf
  have key : ∀ x ∈ H, x.L.length ≤ 10 ∧ ∀ q ∈ x.L, q.2.length ≤ 1000000 ∧ ∀ l ∈ q.2, l.length ≤ 1000000 := fun x hx => by
    have h3 := h2 x hx
    unfold fewH at h3
    simp only [Bool.and_eq_true, decide_eq_true_eq, List.all_eq_true] at h3
    refine ⟨h3.1, fun q hq => ?_⟩
    obtain ⟨f1, _, f3⟩ := few_bds (h3.2 q hq)
    exact ⟨by omega, fun l hl => by have := f3 l hl; omega⟩
  refine ⟨⟨h.sl, fun x hx => ⟨(h.ok x hx).sl, fun q hq => ⟨((h.ok x hx).nm q hq).sl, ?_, fun l hl => ?_⟩, ?_⟩⟩, h1, fun x hx q hq => (key x hx).2 q hq⟩
  · have := ((key x hx).2 q hq).1; omega
  · have := ((key x hx).2 q hq).2 l hl; omega
  · have := (key x hx).1; omega
theorem all_take {α : Type} {f : α → Bool} {L : List α} {k : Nat} (h : k < L.length) (ha : (L.take k).all f = true) (hf : f L[k] = true) : (L.take (k + 1)).all f = true := by
  rw [List.take_succ_eq_append_getElem h, List.all_append, ha, List.all_cons, hf]; rfl
theorem all_not {α : Type} {f : α → Bool} {L : List α} {k : Nat} (h : k < L.length) (hf : f L[k] = false) : L.all f = false := by
  rw [List.all_eq_false]
  exact ⟨L[k], List.getElem_mem h, by rw [hf]; simp⟩
set_option maxRecDepth 100000 in
set_option maxHeartbeats 4000000 in
theorem few18_any (H : List Ho) (v : Value) (w : World) (h : HosArg w v H) :
    Calls Tryd.prog 28 #[v] w fun e w' => e = .returned (.bool (fewHs H)) ∧ w' = w := by
  obtain ⟨A, c, rfl, _⟩ := h.sl.any
  have hlen := h.len
  unfold maxLen at hlen
  have Ha := Lib.hid h
  clear h
  by_cases h40 : H.length ≤ 40
  · have hf : fewHs H = H.all fewH := by unfold fewHs; rw [decide_eq_true h40, Bool.true_and]
    rw [hf]
    have i1 : ¬ (40 : Int) < (H.length : Int) := by omega
    clear hf
    go_enter Tryd.func28, Tryd.ntmps28
    go_wp2
    go_loopw [3, 4] (fun i _ wr => ∃ k : Nat, k ≤ H.length ∧ i = .int .i64 k ∧ (H.take k).all fewH = true ∧ wr = w) (fun i _ _ => H.length - (intOf i).toNat)
    case atStart => exact ⟨0, Nat.zero_le _, rfl, rfl, rfl⟩
    case round =>
      obtain ⟨k, hk, rfl, hal, rfl⟩ := hrel
      have Hal := Lib.hid hal
      clear hal
      by_cases hlt : k < H.length
      · have hltI : (k : Int) < (H.length : Int) := by omega
        have Hlt := Lib.hid hlt
        have hk0 : (0 : Int) ≤ (k : Int) := by omega
        obtain ⟨b, off, c', hv, hc, hbl, hcell⟩ := Ha.out.sl.pos (by omega)
        have hR0 := range_of hoL_len hcell hlt
        injection hv with hv1 _ hv2
        subst hv1 hv2
        have Hok := Lib.hid (Ha.out.ok _ (List.getElem_mem hlt))
        have Hst := Lib.hid (all_take (f := fewH) hlt Hal.out)
        have Hno := Lib.hid (all_not (f := fewH) hlt)
        generalize H[k] = q at *
        obtain ⟨qa, qA, qc, qL⟩ := q
        have hqf : qL.length ≤ maxLen := Hok.out.len
        unfold maxLen at hqf
        have Hsl : Hid (Sl wr 1 (.slice qA qL.length qc) qL.length (qL.flatMap nmF)) := Lib.hid Hok.out.sl
        have Hnm : Hid (∀ q ∈ qL, NmRaw wr q) := Lib.hid Hok.out.nm
        have e18 := hoL_nm hR0
        dsimp only [Ho.v] at e18
        clear hcell hR0
        by_cases h10 : qL.length ≤ 10
        · have Hfh : Hid (fewH ⟨qa, qA, qc, qL⟩ = qL.all (fun q => fewB q.2)) := Lib.hid (by unfold fewH; rw [decide_eq_true h10, Bool.true_and])
          have i2 : ¬ (10 : Int) < (qL.length : Int) := by omega
          go_wp2
          go_loopw [4] (fun j wr2 => ∃ m : Nat, m ≤ qL.length ∧ j = .int .i64 m ∧ (qL.take m).all (fun q => fewB q.2) = true ∧ wr2 = wr) (fun j _ => qL.length - (intOf j).toNat)
          case atStart => exact ⟨0, Nat.zero_le _, rfl, rfl, rfl⟩
          case round =>
            obtain ⟨m, hm, rfl, hml, rfl⟩ := hrel
            have Hml := Lib.hid hml
            clear hml
            by_cases hmt : m < qL.length
            · have hmI : (m : Int) < (qL.length : Int) := by omega
              have hm0 : (0 : Int) ≤ (m : Int) := by omega
              obtain ⟨b2, off2, c2, hv, hc2, hbl2, hcell2⟩ := Hsl.out.pos (by omega)
              injection hv with hv1 _ hv2
              subst hv1 hv2
              obtain ⟨q, hq⟩ : ∃ q, qL[m]? = some q := ⟨_, List.getElem?_eq_getElem hmt⟩
              have e1 : wr.cell? ⟨b2, off2 + m, none⟩ = some q.1 := hcell2 m q.1 (by rw [nm_flat, hq]; rfl)
              have hnm := Hnm.out _ (List.mem_of_getElem? hq)
              have hqm : qL[m] = q := (List.getElem?_eq_some_iff.1 hq).2
              have Hs2 := Lib.hid (fun hf => all_take (f := fun q : Value × NmL => fewB q.2) hmt Hml.out (by rw [hqm]; exact hf))
              have Hn2 := Lib.hid (fun hf => all_not (f := fun q : Value × NmL => fewB q.2) hmt (by rw [hqm]; exact hf))
              obtain ⟨qv, qn⟩ := q
              obtain ⟨qa2, qc2, hqv, _⟩ := hnm.sl.any
              dsimp only at hqv e1
              subst hqv
              have HX := Lib.hid (few_any qn _ wr hnm.sl hnm.few hnm.len)
              dsimp only at HX Hs2 Hn2
              clear hcell2 hnm hq hqm
              cases hfb : fewB qn
              · have Hfb := Lib.hid hfb
                rw [hfb] at HX
                clear hfb
                go_wp2_with (first
                  | (go_at_call 29; refine HX.out.mono ?_; rintro e w3 ⟨rfl, rfl⟩))
                go_ret
                exact ⟨by rw [Hno.out (by rw [Hfh.out]; exact Hn2.out Hfb.out)]; rfl, rfl⟩
              · have Hfb := Lib.hid hfb
                rw [hfb] at HX
                clear hfb
                go_wp2_with (first
                  | (go_at_call 29; refine HX.out.mono ?_; rintro e w3 ⟨rfl, rfl⟩))
                go_roundw
                case rel => exact ⟨m + 1, by omega, by go_num, Hs2.out Hfb.out, trivial⟩
                case measure => (simp [intOf]) <;> omega
            · have hmI : ¬ (m : Int) < (qL.length : Int) := by omega
              have Hfin : Hid (qL.all (fun q => fewB q.2) = true) := Lib.hid (by have h := Hml.out; rwa [List.take_of_length_le (by omega)] at h)
              go_wp2
              go_roundw
              case rel => exact ⟨k + 1, by have := Hlt.out; omega, by go_num, Hst.out (by rw [Hfh.out]; exact Hfin.out), trivial⟩
              case measure => have := Hlt.out; (simp [intOf]) <;> omega
        · have i2 : (10 : Int) < (qL.length : Int) := by omega
          have Hfh : Hid (fewH ⟨qa, qA, qc, qL⟩ = false) := Lib.hid (by unfold fewH; rw [decide_eq_false h10, Bool.false_and])
          go_wp2
          go_ret
          exact ⟨by rw [Hno.out Hfh.out]; rfl, rfl⟩
      · have hltI : ¬ (k : Int) < (H.length : Int) := by omega
        have Hfin : Hid (H.all fewH = true) := Lib.hid (by have h := Hal.out; rwa [List.take_of_length_le (by omega)] at h)
        go_wp2
        go_ret
        exact ⟨by rw [Hfin.out]; rfl, rfl⟩
  · have hf : fewHs H = false := by unfold fewHs; rw [decide_eq_false h40, Bool.false_and]
    rw [hf]
    have i1 : (40 : Int) < (H.length : Int) := by omega
    go_enter Tryd.func28, Tryd.ntmps28
    go_wp2
    go_ret
    exact ⟨rfl, rfl⟩
end Go.Proofs.YtgebcifkbldfoaaDoor
