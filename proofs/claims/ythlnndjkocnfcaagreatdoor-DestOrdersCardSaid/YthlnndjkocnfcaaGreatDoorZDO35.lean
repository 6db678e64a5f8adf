/- Contracts and plain lemmas of our own, merged. -/
import Derived.Test.YthlnndjkocnfcaaGreatDoorZDO13
import Derived.Test.YthlnndjkocnfcaaGreatDoorZDO34
import Derived.Test.YthlnndjkocnfcaaGreatDoorZDO7
import Derived.Deep.Slices
/- Slices of structs among a law's arguments (the general part of Fr4, for seats with policies). -/
namespace Go.Proofs.YthlnndjkocnfcaaGreatDoor
open Go.ChangeShapes Go.WideShapes Go.ChangeAt Go.RowKit

section
variable {H : Type} {enc : TypeId × Value → H} {P : Program} {w : World} {base b0 : Nat} {spare : Nat → Bool} {held : Bool} {r : Reach}

theorem list_lt {α : Type} {p : Nat → α → Prop} : ∀ (n : Nat), (∀ i, i < n → ∃ x, p i x) → ∃ L : List α, L.length = n ∧ ∀ i (h : i < L.length), p i L[i]
  | 0, _ => ⟨[], rfl, fun i h => absurd h (by simp)⟩
  | n + 1, h => by
    obtain ⟨L, h1, h2⟩ := list_lt n (fun i hi => h i (by omega))
    obtain ⟨x, hx⟩ := h n (by omega)
    refine ⟨L ++ [x], by simp [h1], fun i hi => ?_⟩
    rcases Nat.lt_or_ge i L.length with hlt | hge
    · rw [List.getElem_append_left hlt]; exact h2 i hlt
    · have : i = n := by simp at hi; omega
      subst this
      rw [List.getElem_append_right (by omega)]
      simpa using hx
theorem sl_of_addS {a : Addr} {len cap s : Nat} {vs : List Value} (hl : len ≤ cap) (hn : vs.length = len * s) (hs : 0 < s) (hc : ∀ i u, vs[i]? = some u → w.cell? (a.add i) = some u) :
    Sl w s (.slice (some a) len cap) len vs := by
  refine ⟨hn, some a, cap, rfl, hl, fun h => (by cases h), fun ad had hpos => ?_⟩
  injection had with had
  subst had
  obtain ⟨b, off, sp⟩ := a
  have hpos' : 0 < vs.length := by rw [hn]; exact Nat.mul_pos hpos hs
  have h0 := hc 0 vs[0] (List.getElem?_eq_getElem hpos')
  have hsp : sp = none := by simpa [Addr.add] using World.cell?_spot h0
  subst hsp
  have hlt := lt_of_cell h0
  rw [block_add] at hlt
  refine ⟨hlt, rfl, fun j u hu => ?_⟩
  have := hc j u hu
  rwa [add_none] at this
theorem open_sl_of {α : Type} {f : α → List Value} {s : Nat} {R : α → Prop} {t e : TypeId} (ht : P.underlying t = some (.slice e)) (hC : P.cellsOf e = s) (hs : 0 < s) (hlen : ∀ a, (f a).length = s)
    (dec : ∀ {fuel : Nat} {cs : List Value} {d : DataW H} {p : List MemPlace}, DataW.trod enc P w base spare held fuel e cs = some (d, p) → (∀ n ∈ d.weights P e, n ≤ reachBytes) → ∃ a, cs = f a ∧ R a)
    {fuel : Nat} {v : Value} {d : DataW H} {p : List MemPlace} (h : DataW.trod enc P w base spare held fuel t [v] = some (d, p)) (hz : ∀ n ∈ d.weights P t, n ≤ reachBytes) :
    ∃ L : List α, Sl w s v L.length (L.flatMap f) ∧ L.length ≤ maxLen ∧ ∀ a ∈ L, R a := by
  rcases Go.Deep.open_slice ht h with ⟨hcs, _⟩ | ⟨a, len, cap, m, n, D, Pl, hcs, _, hl, hm, hmm, hx, hel⟩
  · have : v = .slice none 0 0 := by simpa using hcs
    subst this
    exact ⟨[], Sl.nil _ _, Nat.zero_le _, fun _ h => by cases h⟩
  · have : v = .slice (some a) len cap := by simpa using hcs
    subst this
    have hlm : len ≤ m := by rw [hmm]; split <;> omega
    rw [Prod.mk.injEq] at hx
    obtain ⟨rfl, _⟩ := hx
    obtain ⟨L, h1, h2⟩ := list_lt (p := fun i x => (w.cells? base (a.add (i * s)) s = some (f x)) ∧ R x) len (fun i hi => by
      obtain ⟨cs', c1, c2⟩ := hel i (by omega)
      rw [hC] at c1
      obtain ⟨x, rfl, hR⟩ := dec c2 (fun k hk => hz k (mem_weights_slice ht (List.mem_map.2 ⟨i, List.mem_range.2 hi, rfl⟩) hk))
      exact ⟨x, c1, hR⟩)
    refine ⟨L, ?_, by omega, fun x hx => ?_⟩
    · rw [h1]
      refine sl_of_addS hl (by rw [flat_len hlen, h1]) hs (fun j u hu => ?_)
      have hjl : j < L.length * s := by
        have := (List.getElem?_eq_some_iff.1 hu).1
        rwa [flat_len hlen] at this
      have hk : j / s < L.length := (Nat.div_lt_iff_lt_mul hs).2 hjl
      have hr := Nat.mod_lt j hs
      have hj : j / s * s + j % s = j := by rw [Nat.mul_comm]; exact Nat.div_add_mod j s
      have hf := flat_at hlen L (j / s) hk (j % s) hr
      rw [hj, hu] at hf
      obtain ⟨_, _, hcell⟩ := World.cells?_some (h2 _ hk).1
      have := hcell (j % s) hr
      rw [Go.Deep.add_add, hj, ← hf] at this
      exact this
    · obtain ⟨i, hi, rfl⟩ := List.getElem_of_mem hx
      exact (h2 i hi).2

theorem pf_cells19 : Tryz.prog.cellsOf 44 = 19 := by kernel_rfl
theorem open_pfL {fuel : Nat} {cs : List Value} {x : DataW H × List MemPlace} (h : DataW.trod enc Tryz.prog w base spare held fuel 44 cs = some x) : ∃ a : Pf, cs = pfL a := by
  obtain ⟨xs, n, rfl, _, hlen, hxl, hf⟩ := DataW.trod_struct pf_under2 h
  rw [pf_cells19] at hlen
  have hsz : (Tryz.prog.fieldsOf 44).size = 2 := by kernel_rfl
  rw [hsz] at hxl
  obtain ⟨f0, g0, t0, o0⟩ := field_of (fs := Tryz.prog.fieldsOf 44) (i := 0) (t := 29) (o := 0) (by kernel_rfl)
  obtain ⟨f1, g1, t1, o1⟩ := field_of (fs := Tryz.prog.fieldsOf 44) (i := 1) (t := 3) (o := 18) (by kernel_rfl)
  have e0 := hf 0 f0 g0
  have e1 := hf 1 f1 g1
  rw [t0, o0, ad_cells18] at e0
  rw [t1, o1, ad_cells1] at e1
  obtain ⟨y0, hy0⟩ := some_of_len (l := xs) (i := 0) (by omega)
  obtain ⟨y1, hy1⟩ := some_of_len (l := xs) (i := 1) (by omega)
  obtain ⟨a, ha⟩ := open_adL (e0.trans hy0)
  obtain ⟨bits, c1, _, w1⟩ := DataW.trod_int Tryz.underlying3 (e1.trans hy1)
  refine ⟨⟨a, bits, wf64 w1⟩, ?_⟩
  unfold pfL
  simp only
  rw [← ha, ← c1, List.drop_zero, List.take_of_length_le (l := cs.drop 18) (by rw [List.length_drop]; omega), List.take_append_drop]
/-- a field of one cell of a struct that is read. -/
theorem field_at {fs : Array Field} {xs : List (DataW H × List MemPlace)} {n : Nat} {cs : List Value}
    (hf : ∀ (i : Nat) (f : Field), fs[i]? = some f → DataW.trod enc P w base spare held n f.type ((cs.drop f.offset).take (P.cellsOf f.type)) = xs[i]?) (hxl : xs.length = fs.size)
    {i o : Nat} {t : TypeId} (h : fs[i]?.map (fun f => (f.type, f.offset)) = some (t, o)) {c : Nat} (hc : P.cellsOf t = c) : ∃ y, xs[i]? = some y ∧ DataW.trod enc P w base spare held n t ((cs.drop o).take c) = some y := by
  obtain ⟨f, g, rfl, rfl⟩ := field_of h
  have hi : i < fs.size := (Array.getElem?_eq_some_iff.1 g).1
  have e := hf i f g
  obtain ⟨y, hy⟩ := some_of_len (l := xs) (i := i) (by omega)
  exact ⟨y, hy, by rw [hy, hc] at e; exact e⟩
theorem weight_at {fs : Array Field} {xs : List (DataW H × List MemPlace)} {t0 : TypeId} (hu : P.underlying t0 = some (.struct fs)) (hz : ∀ n ∈ (DataW.agg (xs.map (·.1))).weights P t0, n ≤ reachBytes)
    {i o : Nat} {t : TypeId} (h : fs[i]?.map (fun f => (f.type, f.offset)) = some (t, o)) {y : DataW H × List MemPlace} (hy : xs[i]? = some y) : ∀ n ∈ y.1.weights P t, n ≤ reachBytes := by
  intro n hn
  obtain ⟨f, g, rfl, _⟩ := field_of h
  refine hz n ?_
  simp only [DataW.weights, hu]
  refine DataW.weights_mem_each (j := i) (t := f.type) (d := y.1) ?_ ?_ n hn
  · rw [List.getElem?_map, Array.getElem?_toList, g]; rfl
  · rw [List.getElem?_map, hy]; rfl
end
end Go.Proofs.YthlnndjkocnfcaaGreatDoor

/- What is known of the world around (api.Net), own addresses, as arguments of a law. -/
namespace Go.Proofs.YthlnndjkocnfcaaGreatDoor
open Go.ChangeShapes Go.WideShapes Go.ChangeAt Go.RowKit

def NetArg (w : World) (v : Value) (a : Value × Value × Value × Nt) : Prop := v = .agg #[a.1, a.2.1, a.2.2.1] ∧ NetRaw w a.1 a.2.1 a.2.2.1 a.2.2.2
theorem tl1 {cs : List Value} {o : Nat} {x : Value} (h : (cs.drop o).take 1 = [x]) : cs.drop o = x :: cs.drop (o + 1) := by
  have := List.take_append_drop 1 (cs.drop o)
  rw [h, List.drop_drop] at this
  exact this.symm
section
variable {H : Type} {enc : TypeId × Value → H} {P : Program} {w : World} {base b0 : Nat} {spare : Nat → Bool} {held : Bool} {r : Reach}
theorem pol_cells21 : Tryz.prog.cellsOf 56 = 21 := by kernel_rfl
theorem rt_cells21 : Tryz.prog.cellsOf 46 = 21 := by kernel_rfl
theorem ifc_cells23 : Tryz.prog.cellsOf 42 = 23 := by kernel_rfl
theorem open_polL {fuel : Nat} {cs : List Value} {x : DataW H × List MemPlace} (h : DataW.trod enc Tryz.prog w base spare held fuel 56 cs = some x) : ∃ a : Pol, cs = polL a := by
  obtain ⟨xs, n, rfl, _, hlen, hxl, hf⟩ := DataW.trod_struct pol_under h
  rw [pol_cells21] at hlen
  obtain ⟨y0, g0, k0⟩ := field_at hf hxl (i := 0) (t := 44) (o := 0) (by kernel_rfl) (c := 19) (by kernel_rfl)
  obtain ⟨y1, g1, k1⟩ := field_at hf hxl (i := 1) (t := 3) (o := 19) (by kernel_rfl) (c := 1) (by kernel_rfl)
  obtain ⟨y2, g2, k2⟩ := field_at hf hxl (i := 2) (t := 3) (o := 20) (by kernel_rfl) (c := 1) (by kernel_rfl)
  obtain ⟨a, ha⟩ := open_pfL k0
  obtain ⟨z1, e1, _, w1⟩ := DataW.trod_int Tryz.underlying3 k1
  obtain ⟨z2, e2, _, w2⟩ := DataW.trod_int Tryz.underlying3 k2
  refine ⟨⟨a, z1, z2, wf64 w1, wf64 w2⟩, ?_⟩
  have h1 := List.take_append_drop 19 cs
  rw [List.drop_zero] at ha
  rw [ha, tl1 e1, tl1 e2, List.drop_eq_nil_of_le (by omega)] at h1
  exact h1.symm
theorem open_rtL {fuel : Nat} {cs : List Value} {x : DataW H × List MemPlace} (h : DataW.trod enc Tryz.prog w base spare held fuel 46 cs = some x) : ∃ a : Rt, cs = rtL a := by
  obtain ⟨xs, n, rfl, _, hlen, hxl, hf⟩ := DataW.trod_struct rt_under h
  rw [rt_cells21] at hlen
  obtain ⟨y0, g0, k0⟩ := field_at hf hxl (i := 0) (t := 44) (o := 0) (by kernel_rfl) (c := 19) (by kernel_rfl)
  obtain ⟨y1, g1, k1⟩ := field_at hf hxl (i := 1) (t := 3) (o := 19) (by kernel_rfl) (c := 1) (by kernel_rfl)
  obtain ⟨y2, g2, k2⟩ := field_at hf hxl (i := 2) (t := 4) (o := 20) (by kernel_rfl) (c := 1) (by kernel_rfl)
  obtain ⟨a, ha⟩ := open_pfL k0
  obtain ⟨z1, e1, _, w1⟩ := DataW.trod_int Tryz.underlying3 k1
  obtain ⟨z2, e2, _⟩ := DataW.trod_bool Tryz.underlying4 k2
  refine ⟨⟨a, z1, z2, wf64 w1⟩, ?_⟩
  have h1 := List.take_append_drop 19 cs
  rw [List.drop_zero] at ha
  rw [ha, tl1 e1, tl1 e2, List.drop_eq_nil_of_le (by omega)] at h1
  exact h1.symm
theorem open_ifcL {fuel : Nat} {cs : List Value} {x : DataW H × List MemPlace} (h : DataW.trod enc Tryz.prog w base spare held fuel 42 cs = some x) : ∃ a : Ifc, cs = ifcL a := by
  obtain ⟨xs, n, rfl, _, hlen, hxl, hf⟩ := DataW.trod_struct ifc_under h
  rw [ifc_cells23] at hlen
  obtain ⟨y0, g0, k0⟩ := field_at hf hxl (i := 0) (t := 29) (o := 0) (by kernel_rfl) (c := 18) (by kernel_rfl)
  obtain ⟨y1, g1, k1⟩ := field_at hf hxl (i := 1) (t := 3) (o := 18) (by kernel_rfl) (c := 1) (by kernel_rfl)
  obtain ⟨y2, g2, k2⟩ := field_at hf hxl (i := 2) (t := 3) (o := 19) (by kernel_rfl) (c := 1) (by kernel_rfl)
  obtain ⟨y3, g3, k3⟩ := field_at hf hxl (i := 3) (t := 4) (o := 20) (by kernel_rfl) (c := 1) (by kernel_rfl)
  obtain ⟨y4, g4, k4⟩ := field_at hf hxl (i := 4) (t := 4) (o := 21) (by kernel_rfl) (c := 1) (by kernel_rfl)
  obtain ⟨y5, g5, k5⟩ := field_at hf hxl (i := 5) (t := 4) (o := 22) (by kernel_rfl) (c := 1) (by kernel_rfl)
  obtain ⟨a, ha⟩ := open_adL k0
  obtain ⟨z1, e1, _, w1⟩ := DataW.trod_int Tryz.underlying3 k1
  obtain ⟨z2, e2, _, w2⟩ := DataW.trod_int Tryz.underlying3 k2
  obtain ⟨z3, e3, _⟩ := DataW.trod_bool Tryz.underlying4 k3
  obtain ⟨z4, e4, _⟩ := DataW.trod_bool Tryz.underlying4 k4
  obtain ⟨z5, e5, _⟩ := DataW.trod_bool Tryz.underlying4 k5
  refine ⟨⟨a, z1, z2, z3, z4, z5, wf64 w1, wf64 w2⟩, ?_⟩
  have h1 := List.take_append_drop 18 cs
  rw [List.drop_zero] at ha
  rw [ha, tl1 e1, tl1 e2, tl1 e3, tl1 e4, tl1 e5, List.drop_eq_nil_of_le (by omega)] at h1
  exact h1.symm
theorem list3v {l : List Value} (h : l.length = 3) : ∃ a b c, l = [a, b, c] := by
  match l, h with
  | [a, b, c], _ => exact ⟨a, b, c, rfl⟩
set_option maxRecDepth 100000 in
theorem open_net {v : Value} {d : DataW H} {p : List MemPlace} (hv : Value.okWide Tryz.prog w r b0 26 v) (h : DataW.Trod enc Tryz.prog w base spare held 26 v d p) (hz : ∀ n ∈ d.weights Tryz.prog 26, n ≤ reachBytes) :
    ∃ a : Value × Value × Value × Nt, NetArg w v a := by
  obtain ⟨cs, hcs, _⟩ := okWide_struct (P := Tryz.prog) (t := 26) net_under hv
  obtain ⟨fuel, hfu⟩ := h
  rw [hcs] at hfu
  change DataW.trod enc Tryz.prog w base spare held fuel 26 cs.toList = some (d, p) at hfu
  obtain ⟨xs, n, rfl, hx, hlen, hxl, hf⟩ := DataW.trod_struct net_under hfu
  rw [show Tryz.prog.cellsOf 26 = 3 by kernel_rfl] at hlen
  rw [Prod.mk.injEq] at hx
  obtain ⟨rfl, _⟩ := hx
  obtain ⟨c0, c1, c2, hl⟩ := list3v hlen
  rw [hl] at hf
  have q0 : (Tryz.prog.fieldsOf 26)[0]?.map (fun f => (f.type, f.offset)) = some (22, 0) := by kernel_rfl
  have q1 : (Tryz.prog.fieldsOf 26)[1]?.map (fun f => (f.type, f.offset)) = some (23, 1) := by kernel_rfl
  have q2 : (Tryz.prog.fieldsOf 26)[2]?.map (fun f => (f.type, f.offset)) = some (24, 2) := by kernel_rfl
  obtain ⟨y0, g0, k0⟩ := field_at hf hxl q0 (c := 1) (by kernel_rfl)
  obtain ⟨y1, g1, k1⟩ := field_at hf hxl q1 (c := 1) (by kernel_rfl)
  obtain ⟨y2, g2, k2⟩ := field_at hf hxl q2 (c := 1) (by kernel_rfl)
  obtain ⟨I, i1, i2, _⟩ := open_sl_of (R := fun _ => True) (f := ifcL) Tryz.underlying22 ifc_cells23 (by omega) ifcL_len (fun h _ => by obtain ⟨a, ha⟩ := open_ifcL h; exact ⟨a, ha, trivial⟩) (show DataW.trod enc Tryz.prog w base spare held n 22 [c0] = some (y0.1, y0.2) from k0) (weight_at net_under hz q0 g0)
  obtain ⟨R, r1, r2, _⟩ := open_sl_of (R := fun _ => True) (f := rtL) Tryz.underlying23 rt_cells21 (by omega) rtL_len (fun h _ => by obtain ⟨a, ha⟩ := open_rtL h; exact ⟨a, ha, trivial⟩) (show DataW.trod enc Tryz.prog w base spare held n 23 [c1] = some (y1.1, y1.2) from k1) (weight_at net_under hz q1 g1)
  obtain ⟨L, p1, p2, _⟩ := open_sl_of (R := fun _ => True) (f := polL) Tryz.underlying24 pol_cells21 (by omega) polL_len (fun h _ => by obtain ⟨a, ha⟩ := open_polL h; exact ⟨a, ha, trivial⟩) (show DataW.trod enc Tryz.prog w base spare held n 24 [c2] = some (y2.1, y2.2) from k2) (weight_at net_under hz q2 g2)
  refine ⟨(c0, c1, c2, ⟨I, R, L⟩), ?_, i1, r1, p1, i2, r2, p2⟩
  rw [hcs]
  have ee : cs = cs.toList.toArray := by simp
  rw [ee, hl]
end
end Go.Proofs.YthlnndjkocnfcaaGreatDoor

/- SourceThrough: what is better stays so, through a third one. -/
namespace Go.Proofs.YthlnndjkocnfcaaGreatDoor
open Go.RowKit
attribute [local go_sem] ba_get ext_take ext_drop ext_any ba_app

def fewN (N : Nt) : Bool := decide (N.I.length ≤ 60) && (decide (N.R.length ≤ 60) && decide (N.P.length ≤ 60))
set_option maxRecDepth 100000 in
set_option maxHeartbeats 4000000 in
theorem few37_any (vi vr vp : Value) (N : Nt) (w : World) (hN : NetRaw w vi vr vp N) : Calls Tryz.prog 7 #[.agg #[vi, vr, vp]] w (BoPost w (fewN N)) := by
  obtain ⟨A0, k0, rfl, _⟩ := hN.i.any
  obtain ⟨A1, k1, rfl, _⟩ := hN.r.any
  obtain ⟨A2, k2, rfl, _⟩ := hN.p.any
  have hf : ∀ p q r : Bool, decide ((N.I.length : Int) ≤ 60) = p → decide ((N.R.length : Int) ≤ 60) = q → decide ((N.P.length : Int) ≤ 60) = r → fewN N = (p && (q && r)) := by
    intro p q r hp hq hr
    unfold fewN
    have e1 : decide (N.I.length ≤ 60) = decide ((N.I.length : Int) ≤ 60) := decide_eq_decide.2 (by omega)
    have e2 : decide (N.R.length ≤ 60) = decide ((N.R.length : Int) ≤ 60) := decide_eq_decide.2 (by omega)
    have e3 : decide (N.P.length ≤ 60) = decide ((N.P.length : Int) ≤ 60) := decide_eq_decide.2 (by omega)
    rw [e1, e2, e3, hp, hq, hr]
  have Hf := Lib.hid hf
  clear hf hN
  generalize fewN N = F at *
  generalize N.I.length = n0 at *
  generalize N.R.length = n1 at *
  generalize N.P.length = n2 at *
  cases i0 : decide ((n0 : Int) ≤ 60) <;> cases i1 : decide ((n1 : Int) ≤ 60) <;> cases i2 : decide ((n2 : Int) ≤ 60)
  all_goals
    have Hr := Lib.hid (Hf.out _ _ _ i0 i1 i2)
    clear Hf
    go_enter Tryz.func7, Tryz.ntmps7
    go_wp2_with (first
      | ((with_reducible refine wpList_boxB rfl _ _ rfl rfl ?_); intro g1 w1 hg hB hb hs; clear hg hs; have c0 : w1.cell? ⟨g1, 0, none⟩ = some (.slice A0 n0 k0) := hB.cell 0; have c1 : w1.cell? ⟨g1, 1, none⟩ = some (.slice A1 n1 k1) := hB.cell 1; have c2 : w1.cell? ⟨g1, 2, none⟩ = some (.slice A2 n2 k2) := hB.cell 2))
    go_ret
    exact ⟨by rw [Hr.out]; rfl, hb⟩
theorem few_60 {N : Nt} (h : fewN N = true) : N.I.length ≤ 1000000 ∧ N.R.length ≤ 1000000 ∧ N.P.length ≤ 1000000 := by
  unfold fewN at h
  simp at h
  omega
end Go.Proofs.YthlnndjkocnfcaaGreatDoor
