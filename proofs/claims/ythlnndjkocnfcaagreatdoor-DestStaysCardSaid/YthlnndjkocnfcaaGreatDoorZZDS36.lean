/- Contracts and plain lemmas of our own, merged. -/
import Derived.Test.YthlnndjkocnfcaaGreatDoorZZDS13
import Derived.Test.YthlnndjkocnfcaaGreatDoorZZDS35
import Derived.Test.YthlnndjkocnfcaaGreatDoorZZDS7
import Derived.Deep.Slices
/- Slices of structs among a law's arguments (the general part of Fr4, for seats with policies). -/
namespace Go.Proofs.YthlnndjkocnfcaaGreatDoor
open Go.ChangeShapes Go.WideShapes Go.ChangeAt Go.RowKit

section
variable {H : Type} {enc : TypeId × Value → H} {P : Program} {w : World} {base b0 : Nat} {spare : Nat → Bool} {held : Bool} {r : Reach}

theorem list_lt {α : Type} {p : Nat → α → Prop} : ∀ (n : Nat), (∀ i, i < n → ∃ x, p i x) → ∃ L : List α, L.length = n ∧ ∀ i (h : i < L.length), p i L[i]
  | 0, _ => ⟨[], rfl, fun i h => absurd h (by simp)⟩
  | n + 1, h => by
    obtain ⟨L, h1, h2⟩ := list_lt n (fun i hi => h i (by omega))
    obtain ⟨x, hx⟩ := h n (by omega)
    refine ⟨L ++ [x], by simp [h1], fun i hi => ?_⟩
    rcases Nat.lt_or_ge i L.length with hlt | hge
    · rw [List.getElem_append_left hlt]; exact h2 i hlt
    · have : i = n := by simp at hi; omega
      subst this
      rw [List.getElem_append_right (by omega)]
      simpa using hx
theorem sl_of_addS {a : Addr} {len cap s : Nat} {vs : List Value} (hl : len ≤ cap) (hn : vs.length = len * s) (hs : 0 < s) (hc : ∀ i u, vs[i]? = some u → w.cell? (a.add i) = some u) :
    Sl w s (.slice (some a) len cap) len vs := by
  refine ⟨hn, some a, cap, rfl, hl, fun h => (by cases h), fun ad had hpos => ?_⟩
  injection had with had
  subst had
  obtain ⟨b, off, sp⟩ := a
  have hpos' : 0 < vs.length := by rw [hn]; exact Nat.mul_pos hpos hs
  have h0 := hc 0 vs[0] (List.getElem?_eq_getElem hpos')
  have hsp : sp = none := by simpa [Addr.add] using World.cell?_spot h0
  subst hsp
  have hlt := lt_of_cell h0
  rw [block_add] at hlt
  refine ⟨hlt, rfl, fun j u hu => ?_⟩
  have := hc j u hu
  rwa [add_none] at this
theorem open_sl_of {α : Type} {f : α → List Value} {s : Nat} {R : α → Prop} {t e : TypeId} (ht : P.underlying t = some (.slice e)) (hC : P.cellsOf e = s) (hs : 0 < s) (hlen : ∀ a, (f a).length = s)
    (dec : ∀ {fuel : Nat} {cs : List Value} {d : DataW H} {p : List MemPlace}, DataW.trod enc P w base spare held fuel e cs = some (d, p) → (∀ n ∈ d.weights P e, n ≤ reachBytes) → ∃ a, cs = f a ∧ R a)
    {fuel : Nat} {v : Value} {d : DataW H} {p : List MemPlace} (h : DataW.trod enc P w base spare held fuel t [v] = some (d, p)) (hz : ∀ n ∈ d.weights P t, n ≤ reachBytes) :
    ∃ L : List α, Sl w s v L.length (L.flatMap f) ∧ L.length ≤ maxLen ∧ ∀ a ∈ L, R a := by
  rcases Go.Deep.open_slice ht h with ⟨hcs, _⟩ | ⟨a, len, cap, m, n, D, Pl, hcs, _, hl, hm, hmm, hx, hel⟩
  · have : v = .slice none 0 0 := by simpa using hcs
    subst this
    exact ⟨[], Sl.nil _ _, Nat.zero_le _, fun _ h => by cases h⟩
  · have : v = .slice (some a) len cap := by simpa using hcs
    subst this
    have hlm : len ≤ m := by rw [hmm]; split <;> omega
    rw [Prod.mk.injEq] at hx
    obtain ⟨rfl, _⟩ := hx
    obtain ⟨L, h1, h2⟩ := list_lt (p := fun i x => (w.cells? base (a.add (i * s)) s = some (f x)) ∧ R x) len (fun i hi => by
      obtain ⟨cs', c1, c2⟩ := hel i (by omega)
      rw [hC] at c1
      obtain ⟨x, rfl, hR⟩ := dec c2 (fun k hk => hz k (mem_weights_slice ht (List.mem_map.2 ⟨i, List.mem_range.2 hi, rfl⟩) hk))
      exact ⟨x, c1, hR⟩)
    refine ⟨L, ?_, by omega, fun x hx => ?_⟩
    · rw [h1]
      refine sl_of_addS hl (by rw [flat_len hlen, h1]) hs (fun j u hu => ?_)
      have hjl : j < L.length * s := by
        have := (List.getElem?_eq_some_iff.1 hu).1
        rwa [flat_len hlen] at this
      have hk : j / s < L.length := (Nat.div_lt_iff_lt_mul hs).2 hjl
      have hr := Nat.mod_lt j hs
      have hj : j / s * s + j % s = j := by rw [Nat.mul_comm]; exact Nat.div_add_mod j s
      have hf := flat_at hlen L (j / s) hk (j % s) hr
      rw [hj, hu] at hf
      obtain ⟨_, _, hcell⟩ := World.cells?_some (h2 _ hk).1
      have := hcell (j % s) hr
      rw [Go.Deep.add_add, hj, ← hf] at this
      exact this
    · obtain ⟨i, hi, rfl⟩ := List.getElem_of_mem hx
      exact (h2 i hi).2

theorem pf_cells19 : Tryz.prog.cellsOf 44 = 19 := by kernel_rfl
theorem open_pfL {fuel : Nat} {cs : List Value} {x : DataW H × List MemPlace} (h : DataW.trod enc Tryz.prog w base spare held fuel 44 cs = some x) : ∃ a : Pf, cs = pfL a := by
  obtain ⟨xs, n, rfl, _, hlen, hxl, hf⟩ := DataW.trod_struct pf_under2 h
  rw [pf_cells19] at hlen
  have hsz : (Tryz.prog.fieldsOf 44).size = 2 := by kernel_rfl
  rw [hsz] at hxl
  obtain ⟨f0, g0, t0, o0⟩ := field_of (fs := Tryz.prog.fieldsOf 44) (i := 0) (t := 29) (o := 0) (by kernel_rfl)
  obtain ⟨f1, g1, t1, o1⟩ := field_of (fs := Tryz.prog.fieldsOf 44) (i := 1) (t := 3) (o := 18) (by kernel_rfl)
  have e0 := hf 0 f0 g0
  have e1 := hf 1 f1 g1
  rw [t0, o0, ad_cells18] at e0
  rw [t1, o1, ad_cells1] at e1
  obtain ⟨y0, hy0⟩ := some_of_len (l := xs) (i := 0) (by omega)
  obtain ⟨y1, hy1⟩ := some_of_len (l := xs) (i := 1) (by omega)
  obtain ⟨a, ha⟩ := open_adL (e0.trans hy0)
  obtain ⟨bits, c1, _, w1⟩ := DataW.trod_int Tryz.underlying3 (e1.trans hy1)
  refine ⟨⟨a, bits, wf64 w1⟩, ?_⟩
  unfold pfL
  simp only
  rw [← ha, ← c1, List.drop_zero, List.take_of_length_le (l := cs.drop 18) (by rw [List.length_drop]; omega), List.take_append_drop]
/-- a field of one cell of a struct that is read. -/
theorem field_at {fs : Array Field} {xs : List (DataW H × List MemPlace)} {n : Nat} {cs : List Value}
    (hf : ∀ (i : Nat) (f : Field), fs[i]? = some f → DataW.trod enc P w base spare held n f.type ((cs.drop f.offset).take (P.cellsOf f.type)) = xs[i]?) (hxl : xs.length = fs.size)
    {i o : Nat} {t : TypeId} (h : fs[i]?.map (fun f => (f.type, f.offset)) = some (t, o)) {c : Nat} (hc : P.cellsOf t = c) : ∃ y, xs[i]? = some y ∧ DataW.trod enc P w base spare held n t ((cs.drop o).take c) = some y := by
  obtain ⟨f, g, rfl, rfl⟩ := field_of h
  have hi : i < fs.size := (Array.getElem?_eq_some_iff.1 g).1
  have e := hf i f g
  obtain ⟨y, hy⟩ := some_of_len (l := xs) (i := i) (by omega)
  exact ⟨y, hy, by rw [hy, hc] at e; exact e⟩
theorem weight_at {fs : Array Field} {xs : List (DataW H × List MemPlace)} {t0 : TypeId} (hu : P.underlying t0 = some (.struct fs)) (hz : ∀ n ∈ (DataW.agg (xs.map (·.1))).weights P t0, n ≤ reachBytes)
    {i o : Nat} {t : TypeId} (h : fs[i]?.map (fun f => (f.type, f.offset)) = some (t, o)) {y : DataW H × List MemPlace} (hy : xs[i]? = some y) : ∀ n ∈ y.1.weights P t, n ≤ reachBytes := by
  intro n hn
  obtain ⟨f, g, rfl, _⟩ := field_of h
  refine hz n ?_
  simp only [DataW.weights, hu]
  refine DataW.weights_mem_each (j := i) (t := f.type) (d := y.1) ?_ ?_ n hn
  · rw [List.getElem?_map, Array.getElem?_toList, g]; rfl
  · rw [List.getElem?_map, hy]; rfl
end
end Go.Proofs.YthlnndjkocnfcaaGreatDoor

/- What is known of the world around (api.Net), own addresses, as arguments of a law. -/
namespace Go.Proofs.YthlnndjkocnfcaaGreatDoor
open Go.ChangeShapes Go.WideShapes Go.ChangeAt Go.RowKit

def NetArg (w : World) (v : Value) (a : Value × Value × Value × Nt) : Prop := v = .agg #[a.1, a.2.1, a.2.2.1] ∧ NetRaw w a.1 a.2.1 a.2.2.1 a.2.2.2
theorem tl1 {cs : List Value} {o : Nat} {x : Value} (h : (cs.drop o).take 1 = [x]) : cs.drop o = x :: cs.drop (o + 1) := by
  have := List.take_append_drop 1 (cs.drop o)
  rw [h, List.drop_drop] at this
  exact this.symm
section
variable {H : Type} {enc : TypeId × Value → H} {P : Program} {w : World} {base b0 : Nat} {spare : Nat → Bool} {held : Bool} {r : Reach}
theorem pol_cells21 : Tryz.prog.cellsOf 56 = 21 := by kernel_rfl
theorem rt_cells21 : Tryz.prog.cellsOf 46 = 21 := by kernel_rfl
theorem ifc_cells23 : Tryz.prog.cellsOf 42 = 23 := by kernel_rfl
theorem open_polL {fuel : Nat} {cs : List Value} {x : DataW H × List MemPlace} (h : DataW.trod enc Tryz.prog w base spare held fuel 56 cs = some x) : ∃ a : Pol, cs = polL a := by
  obtain ⟨xs, n, rfl, _, hlen, hxl, hf⟩ := DataW.trod_struct pol_under h
  rw [pol_cells21] at hlen
  obtain ⟨y0, g0, k0⟩ := field_at hf hxl (i := 0) (t := 44) (o := 0) (by kernel_rfl) (c := 19) (by kernel_rfl)
  obtain ⟨y1, g1, k1⟩ := field_at hf hxl (i := 1) (t := 3) (o := 19) (by kernel_rfl) (c := 1) (by kernel_rfl)
  obtain ⟨y2, g2, k2⟩ := field_at hf hxl (i := 2) (t := 3) (o := 20) (by kernel_rfl) (c := 1) (by kernel_rfl)
  obtain ⟨a, ha⟩ := open_pfL k0
  obtain ⟨z1, e1, _, w1⟩ := DataW.trod_int Tryz.underlying3 k1
  obtain ⟨z2, e2, _, w2⟩ := DataW.trod_int Tryz.underlying3 k2
  refine ⟨⟨a, z1, z2, wf64 w1, wf64 w2⟩, ?_⟩
  have h1 := List.take_append_drop 19 cs
  rw [List.drop_zero] at ha
  rw [ha, tl1 e1, tl1 e2, List.drop_eq_nil_of_le (by omega)] at h1
  exact h1.symm
theorem open_rtL {fuel : Nat} {cs : List Value} {x : DataW H × List MemPlace} (h : DataW.trod enc Tryz.prog w base spare held fuel 46 cs = some x) : ∃ a : Rt, cs = rtL a := by
  obtain ⟨xs, n, rfl, _, hlen, hxl, hf⟩ := DataW.trod_struct rt_under h
  rw [rt_cells21] at hlen
  obtain ⟨y0, g0, k0⟩ := field_at hf hxl (i := 0) (t := 44) (o := 0) (by kernel_rfl) (c := 19) (by kernel_rfl)
  obtain ⟨y1, g1, k1⟩ := field_at hf hxl (i := 1) (t := 3) (o := 19) (by kernel_rfl) (c := 1) (by kernel_rfl)
  obtain ⟨y2, g2, k2⟩ := field_at hf hxl (i := 2) (t := 4) (o := 20) (by kernel_rfl) (c := 1) (by kernel_rfl)
  obtain ⟨a, ha⟩ := open_pfL k0
  obtain ⟨z1, e1, _, w1⟩ := DataW.trod_int Tryz.underlying3 k1
  obtain ⟨z2, e2, _⟩ := DataW.trod_bool Tryz.underlying4 k2
  refine ⟨⟨a, z1, z2, wf64 w1⟩, ?_⟩
  have h1 := List.take_append_drop 19 cs
  rw [List.drop_zero] at ha
  rw [ha, tl1 e1, tl1 e2, List.drop_eq_nil_of_le (by omega)] at h1
  exact h1.symm
theorem open_ifcL {fuel : Nat} {cs : List Value} {x : DataW H × List MemPlace} (h : DataW.trod enc Tryz.prog w base spare held fuel 42 cs = some x) : ∃ a : Ifc, cs = ifcL a := by
  obtain ⟨xs, n, rfl, _, hlen, hxl, hf⟩ := DataW.trod_struct ifc_under h
  rw [ifc_cells23] at hlen
  obtain ⟨y0, g0, k0⟩ := field_at hf hxl (i := 0) (t := 29) (o := 0) (by kernel_rfl) (c := 18) (by kernel_rfl)
  obtain ⟨y1, g1, k1⟩ := field_at hf hxl (i := 1) (t := 3) (o := 18) (by kernel_rfl) (c := 1) (by kernel_rfl)
  obtain ⟨y2, g2, k2⟩ := field_at hf hxl (i := 2) (t := 3) (o := 19) (by kernel_rfl) (c := 1) (by kernel_rfl)
  obtain ⟨y3, g3, k3⟩ := field_at hf hxl (i := 3) (t := 4) (o := 20) (by kernel_rfl) (c := 1) (by kernel_rfl)
  obtain ⟨y4, g4, k4⟩ := field_at hf hxl (i := 4) (t := 4) (o := 21) (by kernel_rfl) (c := 1) (by kernel_rfl)
  obtain ⟨y5, g5, k5⟩ := field_at hf hxl (i := 5) (t := 4) (o := 22) (by kernel_rfl) (c := 1) (by kernel_rfl)
  obtain ⟨a, ha⟩ := open_adL k0
  obtain ⟨z1, e1, _, w1⟩ := DataW.trod_int Tryz.underlying3 k1
  obtain ⟨z2, e2, _, w2⟩ := DataW.trod_int Tryz.underlying3 k2
  obtain ⟨z3, e3, _⟩ := DataW.trod_bool Tryz.underlying4 k3
  obtain ⟨z4, e4, _⟩ := DataW.trod_bool Tryz.underlying4 k4
  obtain ⟨z5, e5, _⟩ := DataW.trod_bool Tryz.underlying4 k5
  refine ⟨⟨a, z1, z2, z3, z4, z5, wf64 w1, wf64 w2⟩, ?_⟩
  have h1 := List.take_append_drop 18 cs
  rw [List.drop_zero] at ha
  rw [ha, tl1 e1, tl1 e2, tl1 e3, tl1 e4, tl1 e5, List.drop_eq_nil_of_le (by omega)] at h1
  exact h1.symm
theorem list3v {l : List Value} (h : l.length = 3) : ∃ a b c, l = [a, b, c] := by
  match l, h with
  | [a, b, c], _ => exact ⟨a, b, c, rfl⟩
set_option maxRecDepth 100000 in
theorem open_net {v : Value} {d : DataW H} {p : List MemPlace} (hv : Value.okWide Tryz.prog w r b0 26 v) (h : DataW.Trod enc Tryz.prog w base spare held 26 v d p) (hz : ∀ n ∈ d.weights Tryz.prog 26, n ≤ reachBytes) :
    ∃ a : Value × Value × Value × Nt, NetArg w v a := by
  obtain ⟨cs, hcs, _⟩ := okWide_struct (P := Tryz.prog) (t := 26) net_under hv
  obtain ⟨fuel, hfu⟩ := h
  rw [hcs] at hfu
  change DataW.trod enc Tryz.prog w base spare held fuel 26 cs.toList = some (d, p) at hfu
  obtain ⟨xs, n, rfl, hx, hlen, hxl, hf⟩ := DataW.trod_struct net_under hfu
  rw [show Tryz.prog.cellsOf 26 = 3 by kernel_rfl] at hlen
  rw [Prod.mk.injEq] at hx
  obtain ⟨rfl, _⟩ := hx
  obtain ⟨c0, c1, c2, hl⟩ := list3v hlen
  rw [hl] at hf
  have q0 : (Tryz.prog.fieldsOf 26)[0]?.map (fun f => (f.type, f.offset)) = some (22, 0) := by kernel_rfl
  have q1 : (Tryz.prog.fieldsOf 26)[1]?.map (fun f => (f.type, f.offset)) = some (23, 1) := by kernel_rfl
  have q2 : (Tryz.prog.fieldsOf 26)[2]?.map (fun f => (f.type, f.offset)) = some (24, 2) := by kernel_rfl
  obtain ⟨y0, g0, k0⟩ := field_at hf hxl q0 (c := 1) (by kernel_rfl)
  obtain ⟨y1, g1, k1⟩ := field_at hf hxl q1 (c := 1) (by kernel_rfl)
  obtain ⟨y2, g2, k2⟩ := field_at hf hxl q2 (c := 1) (by kernel_rfl)
  obtain ⟨I, i1, i2, _⟩ := open_sl_of (R := fun _ => True) (f := ifcL) Tryz.underlying22 ifc_cells23 (by omega) ifcL_len (fun h _ => by obtain ⟨a, ha⟩ := open_ifcL h; exact ⟨a, ha, trivial⟩) (show DataW.trod enc Tryz.prog w base spare held n 22 [c0] = some (y0.1, y0.2) from k0) (weight_at net_under hz q0 g0)
  obtain ⟨R, r1, r2, _⟩ := open_sl_of (R := fun _ => True) (f := rtL) Tryz.underlying23 rt_cells21 (by omega) rtL_len (fun h _ => by obtain ⟨a, ha⟩ := open_rtL h; exact ⟨a, ha, trivial⟩) (show DataW.trod enc Tryz.prog w base spare held n 23 [c1] = some (y1.1, y1.2) from k1) (weight_at net_under hz q1 g1)
  obtain ⟨L, p1, p2, _⟩ := open_sl_of (R := fun _ => True) (f := polL) Tryz.underlying24 pol_cells21 (by omega) polL_len (fun h _ => by obtain ⟨a, ha⟩ := open_polL h; exact ⟨a, ha, trivial⟩) (show DataW.trod enc Tryz.prog w base spare held n 24 [c2] = some (y2.1, y2.2) from k2) (weight_at net_under hz q2 g2)
  refine ⟨(c0, c1, c2, ⟨I, R, L⟩), ?_, i1, r1, p1, i2, r2, p2⟩
  rw [hcs]
  have ee : cs = cs.toList.toArray := by simp
  rw [ee, hl]
end
end Go.Proofs.YthlnndjkocnfcaaGreatDoor

/- SourceThrough: what is better stays so, through a third one. -/
namespace Go.Proofs.YthlnndjkocnfcaaGreatDoor
open Go.RowKit
attribute [local go_sem] ba_get ext_take ext_drop ext_any ba_app

def fewN (N : Nt) : Bool := decide (N.I.length ≤ 60) && (decide (N.R.length ≤ 60) && decide (N.P.length ≤ 60))
set_option maxRecDepth 100000 in
set_option maxHeartbeats 4000000 in
theorem few37_any (vi vr vp : Value) (N : Nt) (w : World) (hN : NetRaw w vi vr vp N) : Calls Tryz.prog 7 #[.agg #[vi, vr, vp]] w (BoPost w (fewN N)) := by
  obtain ⟨A0, k0, rfl, _⟩ := hN.i.any
  obtain ⟨A1, k1, rfl, _⟩ := hN.r.any
  obtain ⟨A2, k2, rfl, _⟩ := hN.p.any
  have hf : ∀ p q r : Bool, decide ((N.I.length : Int) ≤ 60) = p → decide ((N.R.length : Int) ≤ 60) = q → decide ((N.P.length : Int) ≤ 60) = r → fewN N = (p && (q && r)) := by
    intro p q r hp hq hr
    unfold fewN
    have e1 : decide (N.I.length ≤ 60) = decide ((N.I.length : Int) ≤ 60) := decide_eq_decide.2 (by omega)
    have e2 : decide (N.R.length ≤ 60) = decide ((N.R.length : Int) ≤ 60) := decide_eq_decide.2 (by omega)
    have e3 : decide (N.P.length ≤ 60) = decide ((N.P.length : Int) ≤ 60) := decide_eq_decide.2 (by omega)
    rw [e1, e2, e3, hp, hq, hr]
  have Hf := Lib.hid hf
  clear hf hN
  generalize fewN N = F at *
  generalize N.I.length = n0 at *
  generalize N.R.length = n1 at *
  generalize N.P.length = n2 at *
  cases i0 : decide ((n0 : Int) ≤ 60) <;> cases i1 : decide ((n1 : Int) ≤ 60) <;> cases i2 : decide ((n2 : Int) ≤ 60)
  all_goals
    have Hr := Lib.hid (Hf.out _ _ _ i0 i1 i2)
    clear Hf
    go_enter Tryz.func7, Tryz.ntmps7
    go_wp2_with (first
      | ((with_reducible refine wpList_boxB rfl _ _ rfl rfl ?_); intro g1 w1 hg hB hb hs; clear hg hs; have c0 : w1.cell? ⟨g1, 0, none⟩ = some (.slice A0 n0 k0) := hB.cell 0; have c1 : w1.cell? ⟨g1, 1, none⟩ = some (.slice A1 n1 k1) := hB.cell 1; have c2 : w1.cell? ⟨g1, 2, none⟩ = some (.slice A2 n2 k2) := hB.cell 2))
    go_ret
    exact ⟨by rw [Hr.out]; rfl, hb⟩
theorem few_60 {N : Nt} (h : fewN N = true) : N.I.length ≤ 1000000 ∧ N.R.length ≤ 1000000 ∧ N.P.length ≤ 1000000 := by
  unfold fewN at h
  simp at h
  omega
end Go.Proofs.YthlnndjkocnfcaaGreatDoor

/- works (39) (printed by mk_dsp.py). -/
namespace Go.Proofs.YthlnndjkocnfcaaGreatDoor
open Go.RowKit
attribute [local go_sem] ba_get ext_take ext_drop ext_any ba_app

def qa : Ad := adOf 10 0 0 9
def qb : Ad := adOf 192 0 2 1
def qx : Ifc := ⟨adOf 192 0 2 7, 1, 24, false, false, false, by decide⟩
def qp : Pf := ⟨qb, 24, by decide⟩
def qr : Rt := ⟨qp, 1, false, by decide⟩
def qn : Nt := ⟨[qx], [qr], []⟩
theorem qbet : dbet (dwN qn qa) (dwN qn qb) = (-1, 1) := by decide +kernel
theorem qord : ordF (dcm qn) [qa, qb] = [qb, qa] := by decide +kernel
theorem rof_qa (w : World) : Calls Tryz.prog 14 #[.int .i64 10, .int .i64 0, .int .i64 0, .int .i64 9] w (AdPost w qa) := rof_any 10 0 0 9 w
theorem rof_qb (w : World) : Calls Tryz.prog 14 #[.int .i64 192, .int .i64 0, .int .i64 2, .int .i64 1] w (AdPost w qb) := rof_any 192 0 2 1 w
theorem rof_qx (w : World) : Calls Tryz.prog 14 #[.int .i64 192, .int .i64 0, .int .i64 2, .int .i64 7] w (AdPost w qx.ad) := rof_any 192 0 2 7 w
theorem built_qx : Tryz.prog.built 42 [(0, .agg (adA qx.ad)), (1, .int .i64 1), (2, .int .i64 24)] = some (ifcA qx) := by kernel_rfl
theorem built_qp : Tryz.prog.built 44 [(0, .agg (adA qb)), (1, .int .i64 24)] = some (pfA qp) := by kernel_rfl
theorem built_qr : Tryz.prog.built 46 [(0, .agg (pfA qp)), (1, .int .i64 1)] = some (rtA qr) := by kernel_rfl
theorem built_qn (a b : Nat) : Tryz.prog.built 26 [(0, .slice (some ⟨a, 0, none⟩) 1 1), (1, .slice (some ⟨b, 0, none⟩) 1 1)] = some #[.slice (some ⟨a, 0, none⟩) 1 1, .slice (some ⟨b, 0, none⟩) 1 1, .slice none 0 0] := by kernel_rfl
theorem netq_zero : ZeroIs Tryz.prog 26 #[.slice none 0 0, .slice none 0 0, .slice none 0 0] := by unfold ZeroIs; kernel_rfl
def BelQ (w w' : World) : Prop := Below w.heap.size w w'
theorem region_cutV {P : Program} {c : Code} {Q : Exit → Act → World → Prop} {a : Act} {w : World} {F : Nat → Value → Nat → Act} (R : Nat → Value → Nat → World → Prop) (h : c.wp P (fun ex a' w' => ex = .normal ∧ ∃ g1 g2 g3, a' = F g1 g2 g3 ∧ R g1 g2 g3 w') a w) (k : ∀ g1 g2 g3 w', R g1 g2 g3 w' → Q .normal (F g1 g2 g3) w') : c.wp P Q a w :=
  wp_mono h fun ex a' w' ⟨h1, g1, g2, g3, h2, h3⟩ => by rw [h1, h2]; exact k g1 g2 g3 w' h3
theorem qbetter {vi vr vp : Value} {w : World} (hN : NetRaw w vi vr vp qn) (hE : EnvS w) : Calls Tryz.prog 8 #[.agg #[vi, vr, vp], .agg (adA qa), .agg (adA qb)] w fun e w' => e = .returned (.tuple #[.int .i64 (-1), .int .i64 1]) ∧ Below w.heap.size w w' :=
  (dBetter_any vi vr vp qn qa qb w hN hE (by decide) (by decide) (by decide)).mono fun e w' ⟨he, hb⟩ => ⟨by rw [he, qbet], hb⟩
theorem qorder {vi vr vp v : Value} {w : World} (hN : NetRaw w vi vr vp qn) (hE : EnvS w) (hs : Sl w 18 v 2 ([qa, qb].flatMap adL)) : Calls Tryz.prog 10 #[.agg #[vi, vr, vp], v] w (AdsPost w [qb, qa]) :=
  (dOrder_any vi vr vp v qn [qa, qb] w hN hE (by decide) (by decide) (by decide) hs (by decide)).mono fun e w' h => by rw [qord] at h; exact h
theorem qsame {va vb : Value} {w : World} (ha : Sl w 18 va 2 ([qb, qa].flatMap adL)) (hb : Sl w 18 vb 2 ([qb, qa].flatMap adL)) : Calls Tryz.prog 11 #[va, vb] w fun e w' => e = .returned (.bool true) ∧ Below w.heap.size w w' :=
  (sameAds_any [qb, qa] [qb, qa] va vb w ha hb (by decide) (by decide)).mono fun e w' ⟨he, hb⟩ => ⟨by rw [he, decide_eq_true rfl], hb⟩
theorem ifq_sl {w : World} {g : Nat} (h : Bk w g 42 (ifcL qx).toArray) : Sl w 23 (.slice (some ⟨g, 0, none⟩) 1 1) qn.I.length (qn.I.flatMap ifcL) := by
  have := h.sl (size := 23) (n := 1) (by rw [ifcL_len]) 1 (Nat.le_refl _)
  simpa [qn] using this
theorem rtq_sl {w : World} {g : Nat} (h : Bk w g 46 (rtL qr).toArray) : Sl w 21 (.slice (some ⟨g, 0, none⟩) 1 1) qn.R.length (qn.R.flatMap rtL) := by
  have := h.sl (size := 21) (n := 1) (by rw [rtL_len]) 1 (Nat.le_refl _)
  simpa [qn] using this
structure WqS (w : World) (g1 g2 g4 gi gr : Nat) (wr : World) : Prop where
  b1 : Bk wr g1 29 (adA qa)
  b2 : Bk wr g2 29 (adA qb)
  b4 : Bk wr g4 26 #[.slice (some ⟨gi, 0, none⟩) 1 1, .slice (some ⟨gr, 0, none⟩) 1 1, .slice none 0 0]
  n : NetRaw wr (.slice (some ⟨gi, 0, none⟩) 1 1) (.slice (some ⟨gr, 0, none⟩) 1 1) (.slice none 0 0) qn
  b : Below w.heap.size w wr
theorem WqS.bel {w wr w' : World} {g1 g2 g4 gi gr : Nat} (h : WqS w g1 g2 g4 gi gr wr) (k : Below wr.heap.size wr w') : WqS w g1 g2 g4 gi gr w' := ⟨h.b1.bel k, h.b2.bel k, h.b4.bel k, h.n.below k, bel_tr h.b k⟩
set_option maxRecDepth 100000 in
set_option maxHeartbeats 40000000 in
theorem works39_any (w : World) (hE : EnvS w) : Calls Tryz.prog 6 #[] w (Good w) := by
  have HE := Lib.hid hE
  clear hE
  go_enter Tryz.func6, Tryz.ntmps6
  go_wp2_with (first
    | (go_at_call 14; (with_reducible refine (rof_qa _).mono ?_); rintro e w1 ⟨rfl, hb1⟩; refine hold ?_))
  refine Lib.hid ?_
  go_wp2_with (first
    | (go_at_call 14; (with_reducible refine (rof_qb _).mono ?_); rintro e w2 ⟨rfl, hb2⟩)
    | ((with_reducible refine wpList_allocAd (o := ⟨some 1, _, _, _, _, _⟩) rfl rfl ?_); intro g1 w3 hg hB1 hb3 hs; have hg1 : w2.heap.size ≤ g1 := Nat.le_of_eq hg.symm; clear hg hs)
    | ((with_reducible refine wpList_allocAd (o := ⟨some 2, _, _, _, _, _⟩) rfl rfl ?_); intro g2 w4 hg hB2 hb4 hs; have hB14 := hB1.bel hb4; have h12 : g1 < g2 := Nat.lt_of_lt_of_le hB1.lt (Nat.le_of_eq hg.symm); clear hg hs)
    | ((with_reducible refine wpList_storeAd (o := ⟨none, _, _, _, _, _⟩) rfl (.tmp 1) _ rfl rfl rfl hB14 ?_); intro w5 hB15 hS5; have hB25 := hB2.stays hS5 (by omega))
    | ((with_reducible refine wpList_storeAd (o := ⟨none, _, _, _, _, _⟩) rfl (.tmp 2) _ rfl rfl rfl hB25 ?_); intro w6 hB26 hS6
       have hbx : Below w2.heap.size w2 w6 := ((bel_tr hb3 hb4).trans (hS5.below hg1)).trans (hS6.below (by omega))
       have X1 := Lib.hid (hB15.stays hS6 (by omega))
       have X2 := Lib.hid hB26
       have Xb := Lib.hid (bel_tr (bel_tr hb1 hb2) hbx)
       clear hB1 hB2 hB14 hB15 hB25 hB26 hS5 hS6 hb1 hb2 hb3 hb4 hbx h12 hg1
       refine hold ?_))
  refine Lib.hid ?_
  go_wp2_with (first
    | (go_at_call 14; (with_reducible refine (rof_qx _).mono ?_); rintro e v1 ⟨rfl, hk1⟩)
    | ((with_reducible show wpList _ _ _ (⟨some 10, _, _, _, _, _⟩ :: _) _ _); refine wpList_buildL (o := ⟨some 10, _, _, _, _, _⟩) rfl 42 _ rfl built_qx rfl ?_)
    | ((with_reducible refine wpList_alloc_ifc (o := ⟨some 3, _, _, _, _, _⟩) rfl rfl ?_); intro g3 v2 hg hB3 hk2 hs; have hg3 : v1.heap.size ≤ g3 := Nat.le_of_eq hg.symm; clear hg hs)
    | ((with_reducible refine wpList_store_ifc (o := ⟨none, _, _, _, _, _⟩) rfl (.tmp 3) _ rfl rfl rfl hB3 ?_); intro v3 hB33 hS3
       have hkx := bel_tr hk1 (hk2.trans (hS3.below hg3))
       have Y1 := Lib.hid (X1.out.bel hkx)
       have Y2 := Lib.hid (X2.out.bel hkx)
       have Y3 := Lib.hid hB33
       have Yb := Lib.hid (bel_tr Xb.out hkx)
       clear X1 X2 Xb hB3 hB33 hS3 hk1 hk2 hkx hg3
       refine hold ?_))
  refine Lib.hid ?_
  go_wp2_with (first
    | (with_reducible refine wpList_load_ifc (o := ⟨some 11, _, _, _, _, _⟩) rfl _ rfl rfl Y3.out ?_)
    | ((with_reducible show wpList _ _ _ (⟨some 12, _, _, _, _, _⟩ :: _) _ _); refine wpList_lit (o := ⟨some 12, _, _, _, _, _⟩) rfl _ _ rfl elt_ifc [.agg (ifcA qx)] rfl (by decide) (by decide) (fun v hv => by rw [List.mem_singleton.1 hv]; exact ifcA_size _) rfl ?_; intro y1 hI hx6 hl1 hs6
       obtain ⟨gi, hgi, hIq⟩ : ∃ g, g = _ ∧ Bk y1 g 42 (ifcL qx).toArray := ⟨_, rfl, bk_list (l := ifcL qx) hI rfl⟩
       rw [← hgi]
       clear hx6 hs6 hI hgi
       have Z2 := Y2.out.bel hl1)
    | (with_reducible refine wpList_loadAd (o := ⟨some 13, _, _, _, _, _⟩) rfl _ rfl rfl Z2 ?_)
    | ((with_reducible show wpList _ _ _ (⟨some 14, _, _, _, _, _⟩ :: _) _ _); refine wpList_buildL (o := ⟨some 14, _, _, _, _, _⟩) rfl 44 _ rfl built_qp rfl ?_)
    | ((with_reducible show wpList _ _ _ (⟨some 15, _, _, _, _, _⟩ :: _) _ _); refine wpList_buildL (o := ⟨some 15, _, _, _, _, _⟩) rfl 46 _ rfl built_qr rfl ?_)
    | ((with_reducible show wpList _ _ _ (⟨some 16, _, _, _, _, _⟩ :: _) _ _); refine wpList_lit (o := ⟨some 16, _, _, _, _, _⟩) rfl _ _ rfl elt_rt [.agg (rtA qr)] rfl (by decide) (by decide) (fun v hv => by rw [List.mem_singleton.1 hv]; exact rtA_size _) rfl ?_; intro y2 hR hx6 hl2 hs6
       obtain ⟨gr, hgr, hRq⟩ : ∃ g, g = _ ∧ Bk y2 g 46 (rtL qr).toArray := ⟨_, rfl, bk_list (l := rtL qr) hR rfl⟩
       rw [← hgr]
       have hir : gi < gr := Nat.lt_of_lt_of_le hIq.lt (Nat.le_of_eq hgr.symm)
       clear hx6 hs6 hR hgr)
    | ((with_reducible show wpList _ _ _ (⟨some 17, _, _, _, _, _⟩ :: _) _ _); refine wpList_buildL (o := ⟨some 17, _, _, _, _, _⟩) rfl 26 _ rfl (built_qn gi gr) rfl ?_)
    | ((with_reducible show wpList _ _ _ (⟨some 4, _, _, _, _, _⟩ :: _) _ _); refine wpList_allocZ (o := ⟨some 4, _, _, _, _, _⟩) rfl _ rfl netq_zero ?_; intro g4 y3 hg hB4 hl3 hs; have hg4 : y2.heap.size ≤ g4 := Nat.le_of_eq hg.symm; clear hg hs)
    | ((with_reducible show wpList _ _ _ (⟨none, .store 26 _ _, _, _, _, _⟩ :: _) _ _); refine wpList_storeB (o := ⟨none, .store 26 _ _, _, _, _, _⟩) rfl _ (.tmp 4) _ rfl rfl rfl hB4 net_size rfl (by simp [Value.oneCell']) ?_; intro y4 hB44 hS4
       have hl24 : Below y2.heap.size y2 y4 := hl3.trans (hS4.below hg4)
       have hl14 := bel_tr (bel_tr hl1 hl2) hl24
       have R : Hid (WqS w g1 g2 g4 gi gr y4) := Lib.hid ⟨Y1.out.bel hl14, Y2.out.bel hl14, hB44, ⟨ifq_sl (hIq.bel (bel_tr hl2 hl24)), rtq_sl (hRq.bel hl24), Sl.nil _ _, by decide, by decide, by decide⟩, bel_tr Yb.out hl14⟩
       clear Y1 Y2 Y3 Yb Z2 hIq hRq hir hB4 hB44 hS4 hl1 hl2 hl3 hl24 hl14 hg4
       refine hold ?_))
  refine Lib.hid ?_
  go_wp2_with (first
    | ((with_reducible show wpList _ _ _ (⟨some 19, _, _, _, _, _⟩ :: _) _ _); refine wpList_loadB (o := ⟨some 19, _, _, _, _, _⟩) rfl _ _ rfl rfl R.out.b4 net_under rfl net_size ?_)
    | (with_reducible refine wpList_loadAd (o := ⟨some 20, _, _, _, _, _⟩) rfl _ rfl rfl R.out.b1 ?_)
    | (with_reducible refine wpList_loadAd (o := ⟨some 21, _, _, _, _, _⟩) rfl _ rfl rfl R.out.b2 ?_)
    | (go_at_call 8; (with_reducible refine (qbetter R.out.n (HE.out.below R.out.b)).mono ?_); rintro e w9 ⟨rfl, hb9⟩; have R2 := Lib.hid (R.out.bel hb9); clear R hb9; have R := R2; clear R2; refine hold ?_))
  refine Lib.hid ?_
  go_wp2_with (fail)
  have L4 : Hid (∀ w', Below w9.heap.size w9 w' → w'.rangeAt g4 0 [.slice (some ⟨gi, 0, none⟩) 1 1, .slice (some ⟨gr, 0, none⟩) 1 1, .slice none 0 0]) := Lib.hid (fun w' h => (R.out.b4.bel h).rangeNet)
  have L1 : Hid (∀ w', Below w9.heap.size w9 w' → w'.rangeAt g1 0 (adL qa)) := Lib.hid (fun w' h => (R.out.b1.bel h).rangeAd)
  have L2 : Hid (∀ w', Below w9.heap.size w9 w' → w'.rangeAt g2 0 (adL qb)) := Lib.hid (fun w' h => (R.out.b2.bel h).rangeAd)
  apply region_cutV (R := fun _ _ _ w' => BelQ w9 w')
  case h =>
    refine wp_region_held (S := fun w' => BelQ w9 w') (by kernel_rfl) ?_
    refine wpAnyH_take (i := 0) (oi := ⟨some 25, Op.move (Operand.tmp 5), _, _, _, none⟩) (v := Value.int .i64 (-1)) rfl (by kernel_rfl) (by kernel_rfl) (by kernel_rfl) (fun _ _ _ h => nomatch h.1) (Or.inl ⟨by rfl, fun w' hS' => by go_simp⟩) (Below.refl _ _).drew ?_
    simp only [Act.put, List.setIfInBounds_toArray, List.set_cons_zero, List.set_cons_succ]
    refine wpAnyH_take (i := 1) (oi := ⟨some 26, Op.binOp BinOp.eql 3 (Operand.tmp 25) (Operand.const (Value.int IntKind.i64 (-1))) 3, _, _, _, none⟩) (v := Value.bool true) rfl (by kernel_rfl) (by kernel_rfl) (by kernel_rfl) (fun _ _ _ h => nomatch h.1) (Or.inl ⟨by rfl, fun w' hS' => by go_simp⟩) (Below.refl _ _).drew ?_
    simp only [Act.put, List.setIfInBounds_toArray, List.set_cons_zero, List.set_cons_succ]
    refine wpAnyH_take (i := 2) (oi := ⟨some 27, Op.move (Operand.tmp 26), _, _, _, none⟩) (v := Value.bool true) rfl (by kernel_rfl) (by kernel_rfl) (by kernel_rfl) (fun _ _ _ h => nomatch h.1) (Or.inl ⟨by rfl, fun w' hS' => by go_simp⟩) (Below.refl _ _).drew ?_
    simp only [Act.put, List.setIfInBounds_toArray, List.set_cons_zero, List.set_cons_succ]
    refine wpAnyH_take (i := 3) (oi := ⟨some 28, Op.move (Operand.tmp 6), _, _, _, some (2, true)⟩) (v := Value.int .i64 1) rfl (by kernel_rfl) (by kernel_rfl) (by kernel_rfl) (fun _ _ _ h => nomatch h.1) (Or.inl ⟨by rfl, fun w' hS' => by go_simp⟩) (Below.refl _ _).drew ?_
    simp only [Act.put, List.setIfInBounds_toArray, List.set_cons_zero, List.set_cons_succ]
    refine wpAnyH_take (i := 4) (oi := ⟨some 29, Op.binOp BinOp.eql 3 (Operand.tmp 28) (Operand.const (Value.int IntKind.i64 1)) 3, _, _, _, some (2, true)⟩) (v := Value.bool true) rfl (by kernel_rfl) (by kernel_rfl) (by kernel_rfl) (fun _ _ _ h => nomatch h.1) (Or.inl ⟨by rfl, fun w' hS' => by go_simp⟩) (Below.refl _ _).drew ?_
    simp only [Act.put, List.setIfInBounds_toArray, List.set_cons_zero, List.set_cons_succ]
    refine wpAnyH_take (i := 5) (oi := ⟨some 30, Op.pick (Operand.tmp 27) (Operand.tmp 29) (Operand.const (Value.bool false)), _, _, _, none⟩) (v := Value.bool true) rfl (by kernel_rfl) (by kernel_rfl) (by kernel_rfl) (fun _ _ _ h => nomatch h.1) (Or.inl ⟨by rfl, fun w' hS' => by go_simp⟩) (Below.refl _ _).drew ?_
    simp only [Act.put, List.setIfInBounds_toArray, List.set_cons_zero, List.set_cons_succ]
    refine wpAnyH_take (i := 6) (oi := ⟨some 31, Op.move (Operand.tmp 30), _, _, _, none⟩) (v := Value.bool true) rfl (by kernel_rfl) (by kernel_rfl) (by kernel_rfl) (fun _ _ _ h => nomatch h.1) (Or.inl ⟨by rfl, fun w' hS' => by go_simp⟩) (Below.refl _ _).drew ?_
    simp only [Act.put, List.setIfInBounds_toArray, List.set_cons_zero, List.set_cons_succ]
    refine wpAnyH_take (i := 7) (oi := ⟨some 32, Op.load 26 (Operand.tmp 4), _, _, _, some (6, true)⟩) (v := Value.agg #[.slice (some ⟨gi, 0, none⟩) 1 1, .slice (some ⟨gr, 0, none⟩) 1 1, .slice none 0 0]) rfl (by kernel_rfl) (by kernel_rfl) (by kernel_rfl) (fun _ _ _ h => nomatch h.1) (yieldsIf_load_mid (by rfl) _ _ rfl _ _ rfl [.slice (some ⟨gi, 0, none⟩) 1 1, .slice (some ⟨gr, 0, none⟩) 1 1, .slice none 0 0] _ L4.out net_under rfl net_size) (Below.refl _ _).drew ?_
    simp only [Act.put, List.setIfInBounds_toArray, List.set_cons_zero, List.set_cons_succ]
    refine wpAnyH_take (i := 8) (oi := ⟨some 33, Op.load 29 (Operand.tmp 1), _, _, _, some (6, true)⟩) (v := Value.agg (adA qa)) rfl (by kernel_rfl) (by kernel_rfl) (by kernel_rfl) (fun _ _ _ h => nomatch h.1) (yieldsIf_loadAd (by rfl) _ rfl rfl L1.out) (Below.refl _ _).drew ?_
    simp only [Act.put, List.setIfInBounds_toArray, List.set_cons_zero, List.set_cons_succ]
    refine wpAnyH_take (i := 9) (oi := ⟨some 34, Op.load 29 (Operand.tmp 2), _, _, _, some (6, true)⟩) (v := Value.agg (adA qb)) rfl (by kernel_rfl) (by kernel_rfl) (by kernel_rfl) (fun _ _ _ h => nomatch h.1) (yieldsIf_loadAd (by rfl) _ rfl rfl L2.out) (Below.refl _ _).drew ?_
    simp only [Act.put, List.setIfInBounds_toArray, List.set_cons_zero, List.set_cons_succ]
    refine wpAnyH_take (i := 12) (oi := ⟨some 37, Op.load 29 (Operand.tmp 2), _, _, _, some (6, true)⟩) (v := Value.agg (adA qb)) rfl (by kernel_rfl) (by kernel_rfl) (by kernel_rfl) (fun _ _ _ h => nomatch h.1) (yieldsIf_loadAd (by rfl) _ rfl rfl L2.out) (Below.refl _ _).drew ?_
    simp only [Act.put, List.setIfInBounds_toArray, List.set_cons_zero, List.set_cons_succ]
    refine wpAnyH_take (i := 13) (oi := ⟨some 38, Op.load 29 (Operand.tmp 1), _, _, _, some (6, true)⟩) (v := Value.agg (adA qa)) rfl (by kernel_rfl) (by kernel_rfl) (by kernel_rfl) (fun _ _ _ h => nomatch h.1) (yieldsIf_loadAd (by rfl) _ rfl rfl L1.out) (Below.refl _ _).drew ?_
    simp only [Act.put, List.setIfInBounds_toArray, List.set_cons_zero, List.set_cons_succ]
    refine wpAnyH_all (rs := [10, 14]) (by kernel_rfl) (by decide) ?_
    intro i hi
    simp only [List.mem_cons, List.not_mem_nil, or_false] at hi
    rcases hi with rfl | rfl
    · skip
      refine wpOp_of_list (o := ⟨some 35, Op.buildSlice 35 2 #[(0, Operand.tmp 33), (1, Operand.tmp 34)], _, _, _, some (6, true)⟩) rfl ?_
      refine wpList_guarded (o := ⟨some 35, Op.buildSlice 35 2 #[(0, Operand.tmp 33), (1, Operand.tmp 34)], _, _, _, some (6, true)⟩) rfl ?_
      refine wpList_lit rfl _ _ rfl elt_ads [.agg (adA qa), .agg (adA qb)] rfl (by decide) (by decide) (fun v hv => by simp at hv; rcases hv with rfl | rfl <;> exact adA_size _) rfl ?_
      intro x1 hBz hoz hy1 hs
      obtain ⟨g35, hgz, s35⟩ : ∃ g, g = _ ∧ Sl x1 18 (.slice (some ⟨g, 0, none⟩) 2 2) 2 ([qa, qb].flatMap adL) := ⟨_, rfl, by simpa [adA, Value.cells] using Sl.own hoz⟩
      rw [← hgz]
      clear hgz hs hoz hBz
      have hx1 := bel_drew hy1
      show _ ∧ _
      refine ⟨hx1, ?_⟩
      simp only [Act.put, List.setIfInBounds_toArray, List.set_cons_zero, List.set_cons_succ]
      refine wpAnyH_all (rs := [11, 14]) (by kernel_rfl) (by decide) ?_
      intro i hi
      simp only [List.mem_cons, List.not_mem_nil, or_false] at hi
      rcases hi with rfl | rfl
      · skip
        refine wpOp_callM (o := ⟨some 36, Op.call { callee := Callee.value (Operand.func 10), args := #[Operand.tmp 32, Operand.tmp 35], argTypes := #[26, 35] }, _, _, _, some (6, true)⟩) rfl (by rfl) (by go_simp) (qorder (R.out.n.below hx1) (HE.out.below (bel_tr R.out.b hx1)) s35) ?_
        rintro e x2 ⟨v36, rfl, ho36, hy2⟩
        refine ⟨_, rfl, ?_⟩
        have s36 : Sl x2 18 v36 2 ([qb, qa].flatMap adL) := Sl.own ho36
        clear ho36
        have hx2 := bel_tr hx1 hy2
        have s35 := s35.below hy2
        show _ ∧ _
        refine ⟨hx2, ?_⟩
        simp only [Act.put, List.setIfInBounds_toArray, List.set_cons_zero, List.set_cons_succ]
        refine wpAnyH_all (rs := [14]) (by kernel_rfl) (by decide) ?_
        intro i hi
        obtain rfl := List.mem_singleton.1 hi
        refine wpOp_of_list (o := ⟨some 39, Op.buildSlice 35 2 #[(0, Operand.tmp 37), (1, Operand.tmp 38)], _, _, _, some (6, true)⟩) rfl ?_
        refine wpList_guarded (o := ⟨some 39, Op.buildSlice 35 2 #[(0, Operand.tmp 37), (1, Operand.tmp 38)], _, _, _, some (6, true)⟩) rfl ?_
        refine wpList_lit rfl _ _ rfl elt_ads [.agg (adA qb), .agg (adA qa)] rfl (by decide) (by decide) (fun v hv => by simp at hv; rcases hv with rfl | rfl <;> exact adA_size _) rfl ?_
        intro x3 hBz hoz hy3 hs
        obtain ⟨g39, hgz, s39⟩ : ∃ g, g = _ ∧ Sl x3 18 (.slice (some ⟨g, 0, none⟩) 2 2) 2 ([qb, qa].flatMap adL) := ⟨_, rfl, by simpa [adA, Value.cells] using Sl.own hoz⟩
        rw [← hgz]
        clear hgz hs hoz hBz
        have hx3 := bel_tr hx2 hy3
        have s35 := s35.below hy3
        have s36 := s36.below hy3
        show _ ∧ _
        refine ⟨hx3, ?_⟩
        simp only [Act.put, List.setIfInBounds_toArray, List.set_cons_zero, List.set_cons_succ]
        refine wpAnyH_all (rs := [15]) (by kernel_rfl) (by decide) ?_
        intro i hi
        obtain rfl := List.mem_singleton.1 hi
        refine wpOp_callM (o := ⟨some 40, Op.call { callee := Callee.value (Operand.func 11), args := #[Operand.tmp 36, Operand.tmp 39], argTypes := #[35, 35] }, _, _, _, some (6, true)⟩) rfl (by rfl) (by go_simp) (qsame s36 s39) ?_
        rintro e x4 ⟨rfl, hy4⟩
        refine ⟨_, rfl, ?_⟩
        have hx4 := bel_tr hx3 hy4
        show _ ∧ _
        refine ⟨hx4, ?_⟩
        simp only [Act.put, List.setIfInBounds_toArray, List.set_cons_zero, List.set_cons_succ]
        refine wpAnyH_take (i := 16) (oi := ⟨some 41, Op.pick (Operand.tmp 31) (Operand.tmp 40) (Operand.const (Value.bool false)), _, _, _, none⟩) (v := Value.bool true) rfl (by kernel_rfl) (by kernel_rfl) (by kernel_rfl) (fun _ _ _ h => nomatch h.1) (Or.inl ⟨by rfl, fun w' hS' => by go_simp⟩) hx4 ?_
        simp only [Act.put, List.setIfInBounds_toArray, List.set_cons_zero, List.set_cons_succ]
        refine wpAnyH_take (i := 17) (oi := ⟨some 0, Op.assign (Operand.tmp 41), _, _, _, none⟩) (v := Value.bool true) rfl (by kernel_rfl) (by kernel_rfl) (by kernel_rfl) (fun _ _ _ h => nomatch h.1) (Or.inl ⟨by rfl, fun w' hS' => by go_simp⟩) hx4 ?_
        simp only [Act.put, List.setIfInBounds_toArray, List.set_cons_zero]
        refine wpAnyH_done (by kernel_rfl) ?_ _
        exact ⟨rfl, g35, v36, g39, rfl, hx4⟩
      · skip
        refine wpOp_of_list (o := ⟨some 39, Op.buildSlice 35 2 #[(0, Operand.tmp 37), (1, Operand.tmp 38)], _, _, _, some (6, true)⟩) rfl ?_
        refine wpList_guarded (o := ⟨some 39, Op.buildSlice 35 2 #[(0, Operand.tmp 37), (1, Operand.tmp 38)], _, _, _, some (6, true)⟩) rfl ?_
        refine wpList_lit rfl _ _ rfl elt_ads [.agg (adA qb), .agg (adA qa)] rfl (by decide) (by decide) (fun v hv => by simp at hv; rcases hv with rfl | rfl <;> exact adA_size _) rfl ?_
        intro x2 hBz hoz hy2 hs
        obtain ⟨g39, hgz, s39⟩ : ∃ g, g = _ ∧ Sl x2 18 (.slice (some ⟨g, 0, none⟩) 2 2) 2 ([qb, qa].flatMap adL) := ⟨_, rfl, by simpa [adA, Value.cells] using Sl.own hoz⟩
        rw [← hgz]
        clear hgz hs hoz hBz
        have hx2 := bel_tr hx1 hy2
        have s35 := s35.below hy2
        show _ ∧ _
        refine ⟨hx2, ?_⟩
        simp only [Act.put, List.setIfInBounds_toArray, List.set_cons_zero, List.set_cons_succ]
        refine wpAnyH_all (rs := [11]) (by kernel_rfl) (by decide) ?_
        intro i hi
        obtain rfl := List.mem_singleton.1 hi
        refine wpOp_callM (o := ⟨some 36, Op.call { callee := Callee.value (Operand.func 10), args := #[Operand.tmp 32, Operand.tmp 35], argTypes := #[26, 35] }, _, _, _, some (6, true)⟩) rfl (by rfl) (by go_simp) (qorder (R.out.n.below hx2) (HE.out.below (bel_tr R.out.b hx2)) s35) ?_
        rintro e x3 ⟨v36, rfl, ho36, hy3⟩
        refine ⟨_, rfl, ?_⟩
        have s36 : Sl x3 18 v36 2 ([qb, qa].flatMap adL) := Sl.own ho36
        clear ho36
        have hx3 := bel_tr hx2 hy3
        have s35 := s35.below hy3
        have s39 := s39.below hy3
        show _ ∧ _
        refine ⟨hx3, ?_⟩
        simp only [Act.put, List.setIfInBounds_toArray, List.set_cons_zero, List.set_cons_succ]
        refine wpAnyH_all (rs := [15]) (by kernel_rfl) (by decide) ?_
        intro i hi
        obtain rfl := List.mem_singleton.1 hi
        refine wpOp_callM (o := ⟨some 40, Op.call { callee := Callee.value (Operand.func 11), args := #[Operand.tmp 36, Operand.tmp 39], argTypes := #[35, 35] }, _, _, _, some (6, true)⟩) rfl (by rfl) (by go_simp) (qsame s36 s39) ?_
        rintro e x4 ⟨rfl, hy4⟩
        refine ⟨_, rfl, ?_⟩
        have hx4 := bel_tr hx3 hy4
        show _ ∧ _
        refine ⟨hx4, ?_⟩
        simp only [Act.put, List.setIfInBounds_toArray, List.set_cons_zero, List.set_cons_succ]
        refine wpAnyH_take (i := 16) (oi := ⟨some 41, Op.pick (Operand.tmp 31) (Operand.tmp 40) (Operand.const (Value.bool false)), _, _, _, none⟩) (v := Value.bool true) rfl (by kernel_rfl) (by kernel_rfl) (by kernel_rfl) (fun _ _ _ h => nomatch h.1) (Or.inl ⟨by rfl, fun w' hS' => by go_simp⟩) hx4 ?_
        simp only [Act.put, List.setIfInBounds_toArray, List.set_cons_zero, List.set_cons_succ]
        refine wpAnyH_take (i := 17) (oi := ⟨some 0, Op.assign (Operand.tmp 41), _, _, _, none⟩) (v := Value.bool true) rfl (by kernel_rfl) (by kernel_rfl) (by kernel_rfl) (fun _ _ _ h => nomatch h.1) (Or.inl ⟨by rfl, fun w' hS' => by go_simp⟩) hx4 ?_
        simp only [Act.put, List.setIfInBounds_toArray, List.set_cons_zero]
        refine wpAnyH_done (by kernel_rfl) ?_ _
        exact ⟨rfl, g35, v36, g39, rfl, hx4⟩
    · skip
      refine wpOp_of_list (o := ⟨some 39, Op.buildSlice 35 2 #[(0, Operand.tmp 37), (1, Operand.tmp 38)], _, _, _, some (6, true)⟩) rfl ?_
      refine wpList_guarded (o := ⟨some 39, Op.buildSlice 35 2 #[(0, Operand.tmp 37), (1, Operand.tmp 38)], _, _, _, some (6, true)⟩) rfl ?_
      refine wpList_lit rfl _ _ rfl elt_ads [.agg (adA qb), .agg (adA qa)] rfl (by decide) (by decide) (fun v hv => by simp at hv; rcases hv with rfl | rfl <;> exact adA_size _) rfl ?_
      intro x1 hBz hoz hy1 hs
      obtain ⟨g39, hgz, s39⟩ : ∃ g, g = _ ∧ Sl x1 18 (.slice (some ⟨g, 0, none⟩) 2 2) 2 ([qb, qa].flatMap adL) := ⟨_, rfl, by simpa [adA, Value.cells] using Sl.own hoz⟩
      rw [← hgz]
      clear hgz hs hoz hBz
      have hx1 := bel_drew hy1
      show _ ∧ _
      refine ⟨hx1, ?_⟩
      simp only [Act.put, List.setIfInBounds_toArray, List.set_cons_zero, List.set_cons_succ]
      refine wpAnyH_all (rs := [10]) (by kernel_rfl) (by decide) ?_
      intro i hi
      obtain rfl := List.mem_singleton.1 hi
      refine wpOp_of_list (o := ⟨some 35, Op.buildSlice 35 2 #[(0, Operand.tmp 33), (1, Operand.tmp 34)], _, _, _, some (6, true)⟩) rfl ?_
      refine wpList_guarded (o := ⟨some 35, Op.buildSlice 35 2 #[(0, Operand.tmp 33), (1, Operand.tmp 34)], _, _, _, some (6, true)⟩) rfl ?_
      refine wpList_lit rfl _ _ rfl elt_ads [.agg (adA qa), .agg (adA qb)] rfl (by decide) (by decide) (fun v hv => by simp at hv; rcases hv with rfl | rfl <;> exact adA_size _) rfl ?_
      intro x2 hBz hoz hy2 hs
      obtain ⟨g35, hgz, s35⟩ : ∃ g, g = _ ∧ Sl x2 18 (.slice (some ⟨g, 0, none⟩) 2 2) 2 ([qa, qb].flatMap adL) := ⟨_, rfl, by simpa [adA, Value.cells] using Sl.own hoz⟩
      rw [← hgz]
      clear hgz hs hoz hBz
      have hx2 := bel_tr hx1 hy2
      have s39 := s39.below hy2
      show _ ∧ _
      refine ⟨hx2, ?_⟩
      simp only [Act.put, List.setIfInBounds_toArray, List.set_cons_zero, List.set_cons_succ]
      refine wpAnyH_all (rs := [11]) (by kernel_rfl) (by decide) ?_
      intro i hi
      obtain rfl := List.mem_singleton.1 hi
      refine wpOp_callM (o := ⟨some 36, Op.call { callee := Callee.value (Operand.func 10), args := #[Operand.tmp 32, Operand.tmp 35], argTypes := #[26, 35] }, _, _, _, some (6, true)⟩) rfl (by rfl) (by go_simp) (qorder (R.out.n.below hx2) (HE.out.below (bel_tr R.out.b hx2)) s35) ?_
      rintro e x3 ⟨v36, rfl, ho36, hy3⟩
      refine ⟨_, rfl, ?_⟩
      have s36 : Sl x3 18 v36 2 ([qb, qa].flatMap adL) := Sl.own ho36
      clear ho36
      have hx3 := bel_tr hx2 hy3
      have s39 := s39.below hy3
      have s35 := s35.below hy3
      show _ ∧ _
      refine ⟨hx3, ?_⟩
      simp only [Act.put, List.setIfInBounds_toArray, List.set_cons_zero, List.set_cons_succ]
      refine wpAnyH_all (rs := [15]) (by kernel_rfl) (by decide) ?_
      intro i hi
      obtain rfl := List.mem_singleton.1 hi
      refine wpOp_callM (o := ⟨some 40, Op.call { callee := Callee.value (Operand.func 11), args := #[Operand.tmp 36, Operand.tmp 39], argTypes := #[35, 35] }, _, _, _, some (6, true)⟩) rfl (by rfl) (by go_simp) (qsame s36 s39) ?_
      rintro e x4 ⟨rfl, hy4⟩
      refine ⟨_, rfl, ?_⟩
      have hx4 := bel_tr hx3 hy4
      show _ ∧ _
      refine ⟨hx4, ?_⟩
      simp only [Act.put, List.setIfInBounds_toArray, List.set_cons_zero, List.set_cons_succ]
      refine wpAnyH_take (i := 16) (oi := ⟨some 41, Op.pick (Operand.tmp 31) (Operand.tmp 40) (Operand.const (Value.bool false)), _, _, _, none⟩) (v := Value.bool true) rfl (by kernel_rfl) (by kernel_rfl) (by kernel_rfl) (fun _ _ _ h => nomatch h.1) (Or.inl ⟨by rfl, fun w' hS' => by go_simp⟩) hx4 ?_
      simp only [Act.put, List.setIfInBounds_toArray, List.set_cons_zero, List.set_cons_succ]
      refine wpAnyH_take (i := 17) (oi := ⟨some 0, Op.assign (Operand.tmp 41), _, _, _, none⟩) (v := Value.bool true) rfl (by kernel_rfl) (by kernel_rfl) (by kernel_rfl) (fun _ _ _ h => nomatch h.1) (Or.inl ⟨by rfl, fun w' hS' => by go_simp⟩) hx4 ?_
      simp only [Act.put, List.setIfInBounds_toArray, List.set_cons_zero]
      refine wpAnyH_done (by kernel_rfl) ?_ _
      exact ⟨rfl, g35, v36, g39, rfl, hx4⟩
  case k =>
    rintro ga va gb wz hz
    have hb := bel_tr R.out.b hz
    go_wp2_with (fail)
    go_ret
    exact ⟨rfl, hb⟩
end Go.Proofs.YthlnndjkocnfcaaGreatDoor

/- A slice of addresses among a law's arguments. -/
namespace Go.Proofs.YthlnndjkocnfcaaGreatDoor
open Go.ChangeShapes Go.WideShapes Go.ChangeAt Go.RowKit

def AdsArg (w : World) (v : Value) (L : List Ad) : Prop := Sl w 18 v L.length (L.flatMap adL) ∧ L.length ≤ maxLen
section
variable {H : Type} {enc : TypeId × Value → H} {P : Program} {w : World} {base b0 : Nat} {spare : Nat → Bool} {held : Bool} {r : Reach}
set_option maxRecDepth 100000 in
theorem open_ads {v : Value} {d : DataW H} {p : List MemPlace} (hv : Value.okWide Tryz.prog w r b0 35 v) (h : DataW.Trod enc Tryz.prog w base spare held 35 v d p) (hz : ∀ n ∈ d.weights Tryz.prog 35, n ≤ reachBytes) : ∃ L : List Ad, AdsArg w v L := by
  obtain ⟨a0, len0, cap0, rfl⟩ := okWide_slice Tryz.underlying35 hv
  obtain ⟨fuel, hf⟩ := h
  obtain ⟨S, s1, s2, _⟩ := open_sl_of (R := fun _ => True) (f := adL) Tryz.underlying35 ad_cells18 (by omega) adL_len (fun h _ => by obtain ⟨a, ha⟩ := open_adL h; exact ⟨a, ha, trivial⟩) (show DataW.trod enc Tryz.prog w base spare held fuel 35 [.slice a0 len0 cap0] = some (d, p) from hf) hz
  exact ⟨S, s1, s2⟩
end
end Go.Proofs.YthlnndjkocnfcaaGreatDoor

/- DestStays' walk. -/
namespace Go.Proofs.YthlnndjkocnfcaaGreatDoor
open Go.RowKit
attribute [local go_sem] ba_get ext_take ext_drop ext_any ba_app

/-- whether all are of one family with z and no rule tells them from it. -/
def alk (N : Nt) (z : Ad) (l : List Ad) : Bool := l.all fun x => decide (dcm N x z = 0) && decide (x.fam = z.fam)
theorem alk_next {N : Nt} {z : Ad} {L : List Ad} {k : Nat} (h : k < L.length) : alk N z (L.take (k + 1)) = (alk N z (L.take k) && (decide (dcm N L[k] z = 0) && decide (L[k].fam = z.fam))) := by
  unfold alk
  rw [List.take_succ_eq_append_getElem h, List.all_append, List.all_cons, List.all_nil, Bool.and_true]
theorem dwN_fam (N : Nt) (a : Ad) : (dwN N a).fam = a.fam := by
  unfold dwN
  split <;> rfl
theorem alk_stays {N : Nt} {z : Ad} {L : List Ad} (h : alk N z L = true) : ordF (dcm N) L = L := by
  refine ordF_stays L ?_
  intro i x y hx hy
  have hm := List.all_eq_true.1 h
  have h1 := hm x (List.mem_of_getElem? hx)
  have h2 := hm y (List.mem_of_getElem? hy)
  rw [Bool.and_eq_true, decide_eq_true_iff, decide_eq_true_iff] at h1 h2
  have := dbet_alike (a := dwN N y) (b := dwN N x) (c := dwN N z) h2.1 h1.1 (by rw [dwN_fam, dwN_fam]; exact h2.2) (by rw [dwN_fam, dwN_fam]; exact h1.2)
  have e : dcm N y x = 0 := this
  omega
theorem ord_again (N : Nt) (l : List Ad) : ordF (dcm N) (ordF (dcm N) l) = ordF (dcm N) l := ordF_stays _ (ordF_steps (fun a b => dcm_neg N a b) l)
set_option maxRecDepth 100000 in
set_option maxHeartbeats 40000000 in
theorem destStays_walk (w : World) (ht : Tab w) (hm : MaxI w) (hT : TabA w) (q : Value × Value × Value × Nt) (v : Value) (hq : NetArg w v q) (l : List Ad) (vl : Value) (hl : AdsArg w vl l) : Calls Tryz.prog 5 #[v, vl] w (Good w) := by
  obtain ⟨vi, vr, vp, N⟩ := q
  obtain ⟨hv, hN⟩ := hq
  subst hv
  obtain ⟨hs, hmx⟩ := hl
  have HE : Hid (EnvS w) := Lib.hid ⟨ht, hm, hT⟩
  have HN := Lib.hid hN
  have Hns := Lib.hid (show (Tryz.prog.info? 26).map (·.size) = some (#[vi, vr, vp] : Array Value).size from net_size)
  show Calls Tryz.prog _ #[.agg #[vi, vr, vp], vl] w (Good w)
  dsimp only at HN
  clear hN ht hm hT
  obtain ⟨A, c, rfl, hc⟩ := hs.any
  have Hsl := Lib.hid hs
  clear hs
  unfold maxLen at hmx
  obtain ⟨n, hn⟩ : ∃ n, n = l.length := ⟨_, rfl⟩
  rw [← hn] at hc hmx Hsl ⊢
  have Hn := Lib.hid hn
  clear hn
  by_cases hf : fewN N = true ∧ n ≤ 12
  · obtain ⟨hf, h12⟩ := hf
    have Hf := Lib.hid hf
    have h60 := few_60 hf
    clear hf
    have CO : Hid (∀ w', NetRaw w' vi vr vp N → EnvS w' → Sl w' 18 (.slice A n c) n (l.flatMap adL) → Calls Tryz.prog 10 #[.agg #[vi, vr, vp], .slice A n c] w' (AdsPost w' (ordF (dcm N) l))) := Lib.hid (fun w' h k hs => dOrder_any vi vr vp _ N l w' h k h60.1 h60.2.1 h60.2.2 (by rw [← Hn.out]; exact hs) (by rw [← Hn.out]; omega))
    have CB : Hid (∀ a b w', NetRaw w' vi vr vp N → Calls Tryz.prog 9 #[.agg #[vi, vr, vp], .agg (adA a), .agg (adA b)] w' fun e w'' => e = .returned (.tuple #[.int .i64 (dcm N a b), .int .i64 (dbet (dwN N a) (dwN N b)).2]) ∧ Below w'.heap.size w' w'') := Lib.hid (fun a b w' h => rbetter39_any vi vr vp N a b w' h h60.1 h60.2.1 h60.2.2)
    have hOl : (ordF (dcm N) l).length = n := (ordF_len _ _).trans Hn.out.symm
    have hAg := ord_again N l
    have hAl : ∀ z, alk N z l = true → ordF (dcm N) l = l := fun z => alk_stays
    obtain ⟨O, hO⟩ : ∃ O, ordF (dcm N) l = O := ⟨_, rfl⟩
    rw [hO] at CO hOl hAg hAl
    have CO2 : Hid (∀ v' w', NetRaw w' vi vr vp N → EnvS w' → Sl w' 18 v' n (O.flatMap adL) → Calls Tryz.prog 10 #[.agg #[vi, vr, vp], v'] w' (AdsPost w' O)) := Lib.hid (fun v' w' h k hs => by
      have := dOrder_any vi vr vp v' N O w' h k h60.1 h60.2.1 h60.2.2 (by rw [hOl]; exact hs) (by rw [hOl]; omega)
      rwa [hAg] at this)
    have HOl := Lib.hid hOl
    have HAl := Lib.hid hAl
    clear h60 hO hOl hAg hAl
    go_enter Tryz.func5, Tryz.ntmps5
    go_wp2_with (first
      | ((with_reducible refine wpList_boxB (o := ⟨some 2, _, _, _, _, _⟩) rfl _ _ rfl rfl ?_); intro g2 w1 hg hB2 hb1 hs; have H2 := Lib.hid hB2; have Hb1 := Lib.hid hb1; clear hg hs hB2 hb1; refine hold ?_))
    refine Lib.hid ?_
    go_wp2_with (first
      | (go_at_call 6; refine (works39_any _ (HE.out.below Hb1.out)).mono ?_; rintro e w2 ⟨rfl, hb2⟩; have Hb2 := Lib.hid (bel_tr Hb1.out hb2); have K2 := Lib.hid (H2.out.bel hb2); clear hb2 H2 Hb1)
      | ((with_reducible show wpList _ _ _ (⟨some 13, _, _, _, _, _⟩ :: _) _ _); refine wpList_guarded (o := ⟨some 13, _, _, _, _, _⟩) rfl ?_; refine wpList_loadB (o := ⟨some 13, _, _, _, _, _⟩) rfl _ _ rfl rfl K2.out net_under rfl Hns.out ?_)
      | (go_at_call 7; refine (few37_any vi vr vp N _ (HN.out.below Hb2.out)).mono ?_; rintro e w3 ⟨rfl, hb3⟩; rw [Hf.out]; have Hb := Lib.hid (bel_tr Hb2.out hb3); have H2 := Lib.hid (K2.out.bel hb3); clear hb3 K2 Hb2; refine hold ?_))
    refine Lib.hid ?_
    have g12 : decide ((12 : Int) < (n : Int)) = false := decide_eq_false (by omega)
    go_wp2_with (fail)
    go_loopw [5, 6] (fun av iv wr => ∃ (k : Nat) (B : Bool), k ≤ n ∧ iv = .int .i64 k ∧ av = .bool B ∧ (∀ h : 0 < l.length, B = alk N l[0] (l.take k)) ∧ Below w3.heap.size w3 wr) (fun _ iv _ => n - (intOf iv).toNat)
    case atStart => exact ⟨0, true, by omega, rfl, rfl, fun _ => rfl, Below.refl _ _⟩
    case round =>
      obtain ⟨k, B, hk, rfl, rfl, hB, hbel⟩ := hrel
      have HbI := Lib.hid hbel
      by_cases hlt : k < n
      · have hkl : k < l.length := by have := Hn.out; omega
        have h0l : 0 < l.length := by omega
        have j0 : (k : Int) < (n : Int) := by omega
        have hk0 : (0 : Int) ≤ (k : Int) := by omega
        have n0 : (0 : Int) < (n : Int) := by omega
        have hb0 := hB h0l
        obtain ⟨b, off, c', hv, hc', hbl, hcell⟩ := (Hsl.out.below (bel_tr Hb.out hbel)).pos (by omega)
        injection hv with hv1 hv2 hv3
        subst hv1 hv3
        have hR := range_of adL_len hcell hkl
        have hR0 := range_of adL_len hcell h0l
        rw [Nat.zero_mul, Nat.add_zero] at hR0
        have hnx := alk_next (N := N) (z := l[0]) hkl
        have HBt : Hid (∀ w', NetRaw w' vi vr vp N → Calls Tryz.prog 9 #[.agg #[vi, vr, vp], .agg (adA l[k]), .agg (adA l[0])] w' fun e w'' => e = .returned (.tuple #[.int .i64 (dcm N l[k] l[0]), .int .i64 (dbet (dwN N l[k]) (dwN N l[0])).2]) ∧ Below w'.heap.size w' w'') := Lib.hid (fun w' h => CB.out _ _ w' h)
        have LX : Hid (wr.rangeAt b (off + k * 18) (adL l[k])) := Lib.hid hR
        have LZ : Hid (wr.rangeAt b off (adL l[0])) := Lib.hid hR0
        have LN := Lib.hid (H2.out.bel hbel).rangeNet
        have HNb := Lib.hid (bel_tr Hb.out hbel)
        have HNx : Hid (∀ h : 0 < l.length, (B && (decide (dcm N l[k] l[0] = 0) && decide (l[k].fam = l[0].fam))) = alk N l[0] (l.take (k + 1))) := Lib.hid (fun _ => by rw [hnx, ← hb0])
        clear hR hR0 hnx hb0 hB hcell hbl hc' hv2 CB CO
        have HNx2 := HNx.out h0l
        have LX0 : Hid (wr.cell? ⟨b, off + k * 18, none⟩ = some (.int .i64 l[k].fam)) := Lib.hid (LX.out 0 _ (adL_0 _))
        have LZ0 : Hid (wr.cell? ⟨b, off, none⟩ = some (.int .i64 l[0].fam)) := Lib.hid (LZ.out 0 _ (adL_0 _))
        obtain ⟨B2, hB2⟩ : ∃ B2, B2 = alk N l[0] (l.take (k + 1)) := ⟨_, rfl⟩
        have HNy : Hid (∀ h : 0 < l.length, B2 = alk N l[0] (l.take (k + 1))) := Lib.hid (fun _ => hB2)
        rw [← hB2] at HNx2
        clear hB2
        generalize dcm N l[k] l[0] = D at HNx2 HBt
        generalize (dbet (dwN N l[k]) (dwN N l[0])).2 = D2 at HBt
        generalize l[0] = z at HNx2 HBt LZ LZ0
        generalize l[k] = x at HNx2 HBt LX LX0
        have HNx3 := Lib.hid HNx2
        clear HNx2
        clear HNx
        go_wp2_with (fail)
        refine wp_region_bel (by kernel_rfl) (by kernel_rfl) ?_
        repeat (first
          | go_big_quiet_skip
          | (go_big_quiet_want; first
              | ((with_reducible show (⟨some 30, _, _, _, _, _⟩ : Oper).quiet _ _ _ _); refine quiet_loadK (o := ⟨some 30, _, _, _, _, _⟩) 26 _ rfl rfl (cs := #[vi, vr, vp]) rfl LN.out net_under rfl net_size (by simp only [Act.put, List.setIfInBounds_toArray, List.set_cons_succ, List.set_cons_zero]; exact rfl) ?_; go_big_quiet_on)
              | ((with_reducible show (⟨some 34, _, _, _, _, _⟩ : Oper).quiet _ _ _ _); refine quiet_loadAd (o := ⟨some 34, _, _, _, _, _⟩) _ rfl rfl LX.out (by simp only [Act.put, List.setIfInBounds_toArray, List.set_cons_succ, List.set_cons_zero]; exact rfl) ?_; go_big_quiet_on)
              | ((with_reducible show (⟨some 37, _, _, _, _, _⟩ : Oper).quiet _ _ _ _); refine quiet_loadAd (o := ⟨some 37, _, _, _, _, _⟩) _ rfl rfl LZ.out (by simp only [Act.put, List.setIfInBounds_toArray, List.set_cons_succ, List.set_cons_zero]; exact rfl) ?_; go_big_quiet_on)
              | (go_big_quiet_op; first | go_big_quiet_on | go_big_quiet_call ((go_at_call 9; with_reducible refine bel_call (HBt.out _ (HN.out.below (bel_tr HNb.out (BelT.bel _)))))))))
        refine wpQuiet_nil ?_
        rintro _ ⟨u, rfl⟩
        have HbJ := Lib.hid (bel_tr HbI.out u.bel)
        have X0 : u.at_.cell? ⟨b, off + k * 18, none⟩ = some (.int .i64 x.fam) := u.cell LX0.out
        have Z0 : u.at_.cell? ⟨b, off, none⟩ = some (.int .i64 z.fam) := u.cell LZ0.out
        clear LX LZ LN HBt HNb HbI LX0 LZ0
        obtain ⟨wq, hwq⟩ : ∃ wq, wq = u.at_ := ⟨_, rfl⟩
        rw [← hwq] at HbJ X0 Z0 ⊢
        clear hwq
        go_upto_region 8 with (fail)
        have X1 := fun y : BelT wq => y.cell X0
        have Z1 := fun y : BelT wq => y.cell Z0
        clear X0 Z0
        cases B
        · obtain rfl : false = B2 := HNx3.out
          apply wp_region_bel (by kernel_rfl) (by kernel_rfl)
          repeat (first
            | go_big_quiet_skip
            | (go_big_quiet_want; (go_big_quiet_op; go_big_quiet_on)))
          refine wpQuiet_nil ?_
          rintro _ ⟨t, rfl⟩
          have HbK := Lib.hid (bel_tr HbJ.out t.bel)
          go_wp2_with (fail)
          go_roundw
          case rel => exact ⟨k + 1, _, by omega, by go_num, rfl, HNy.out, HbK.out⟩
          case measure => (simp [intOf]) <;> omega
        · by_cases hD : D = 0
          · subst hD
            obtain ⟨e, he⟩ : ∃ e, e = decide (x.fam = z.fam) := ⟨_, rfl⟩
            obtain rfl : e = B2 := he.trans (by have := HNx3.out; simpa using this)
            have q1 : (x.fam == z.fam) = e := by rw [he]; rfl
            have HNx4 := HNx3
            clear HNx3 he HNx4
            cases e
            all_goals
              apply wp_region_bel (by kernel_rfl) (by kernel_rfl)
              repeat (first
                | go_big_quiet_skip
                | (go_big_quiet_want; (go_big_quiet_op; go_big_quiet_on)))
              refine wpQuiet_nil ?_
              rintro _ ⟨t, rfl⟩
              have HbK := Lib.hid (bel_tr HbJ.out t.bel)
              go_wp2_with (fail)
              go_roundw
              case rel => exact ⟨k + 1, _, by omega, by go_num, rfl, HNy.out, HbK.out⟩
              case measure => (simp [intOf]) <;> omega
          · obtain rfl : false = B2 := by have := HNx3.out; simpa [hD] using this
            have q1 : (D == 0) = false := beq_eq_false_iff_ne.2 hD
            clear hD
            apply wp_region_bel (by kernel_rfl) (by kernel_rfl)
            repeat (first
              | go_big_quiet_skip
              | (go_big_quiet_want; (go_big_quiet_op; go_big_quiet_on)))
            refine wpQuiet_nil ?_
            rintro _ ⟨t, rfl⟩
            have HbK := Lib.hid (bel_tr HbJ.out t.bel)
            go_wp2_with (fail)
            go_roundw
            case rel => exact ⟨k + 1, _, by omega, by go_num, rfl, HNy.out, HbK.out⟩
            case measure => (simp [intOf]) <;> omega
      · have hkn : k = n := by omega
        subst hkn
        have j0 : ¬ (k : Int) < (k : Int) := by omega
        have hkl : l.take k = l := by rw [Hn.out, List.take_length]
        have HB2 : Hid (B = true → O = l) := Lib.hid (fun hb => by
          rcases Nat.eq_zero_or_pos l.length with h0 | h0
          · have h1 : O.length = 0 := by rw [HOl.out, Hn.out]; exact h0
            rw [List.eq_nil_of_length_eq_zero h0, List.eq_nil_of_length_eq_zero h1]
          · refine HAl.out l[0] ?_
            have := hB h0
            rw [hkl] at this
            rw [← this]; exact hb)
        have K2 := Lib.hid (H2.out.bel HbI.out)
        have Hb4 := Lib.hid (bel_tr Hb.out HbI.out)
        clear hB hbel hkl H2 HbI CB HAl
        go_wp2_with (first
          | ((with_reducible show wpList _ _ _ (⟨some 58, _, _, _, _, _⟩ :: _) _ _); refine wpList_loadB (o := ⟨some 58, _, _, _, _, _⟩) rfl _ _ rfl rfl K2.out net_under rfl Hns.out ?_)
          | (go_at_call 10; refine (CO.out _ (HN.out.below Hb4.out) (HE.out.below Hb4.out) (Hsl.out.below Hb4.out)).mono ?_; rintro e w5 ⟨v9, rfl, ho5, hb5⟩; rw [HOl.out] at ho5; obtain ⟨a5, c5, rfl⟩ := own_anyF ho5; have S5 := Lib.hid (Sl.own ho5); have Hb5 := Lib.hid (bel_tr Hb4.out hb5); have K5 := Lib.hid (K2.out.bel hb5); clear hb5 K2 Hb4 ho5 CO; refine hold ?_))
        refine Lib.hid ?_
        cases B
        · go_upto_region 12 with (fail)
          go_wp2_with (first
            | ((with_reducible show wpList _ _ _ (⟨some 68, _, _, _, _, _⟩ :: _) _ _); refine wpList_loadB (o := ⟨some 68, _, _, _, _, _⟩) rfl _ _ rfl rfl K5.out net_under rfl Hns.out ?_)
            | (go_at_call 10; refine (CO2.out _ _ (HN.out.below Hb5.out) (HE.out.below Hb5.out) S5.out).mono ?_; rintro e w7 ⟨v7, rfl, ho7, hb7⟩; rw [HOl.out] at ho7; obtain ⟨a7, c7, rfl⟩ := own_anyF ho7; have S7 := Lib.hid (Sl.own ho7); have S8 := Lib.hid (S5.out.below hb7); have Hb7 := Lib.hid (bel_tr Hb5.out hb7); clear hb7 K5 Hb5 ho7 CO2; refine hold ?_))
          refine Lib.hid ?_
          go_wp2_with (first
            | (go_at_call 11; refine (sameAds_any O O _ _ _ (by rw [HOl.out]; exact S7.out) (by rw [HOl.out]; exact S8.out) (by rw [HOl.out]; omega) (by rw [HOl.out]; omega)).mono ?_; rintro e w8 ⟨rfl, hb8⟩; rw [show decide (O = O) = true from decide_eq_true rfl]))
          go_ret
          exact ⟨rfl, bel_tr Hb7.out hb8⟩
        · obtain rfl : O = l := HB2.out rfl
          go_wp2_with (first
            | (go_at_call 11; refine (sameAds_any O O _ _ _ (by rw [HOl.out]; exact S5.out) (by rw [HOl.out]; exact Hsl.out.below Hb5.out) (by rw [HOl.out]; omega) (by rw [HOl.out]; omega)).mono ?_; rintro e w6 ⟨rfl, hb6⟩; rw [show decide (O = O) = true from decide_eq_true rfl]; have S6 := Lib.hid (S5.out.below hb6); have Hb6 := Lib.hid (bel_tr Hb5.out hb6); have K6 := Lib.hid (K5.out.bel hb6); clear hb6 K5 Hb5 S5; refine hold ?_))
          refine Lib.hid ?_
          have S5 := S6
          have Hb5 := Hb6
          have K5 := K6
          clear S6 Hb6 K6
          go_wp2_with (first
            | ((with_reducible show wpList _ _ _ (⟨some 68, _, _, _, _, _⟩ :: _) _ _); refine wpList_loadB (o := ⟨some 68, _, _, _, _, _⟩) rfl _ _ rfl rfl K5.out net_under rfl Hns.out ?_)
            | (go_at_call 10; refine (CO2.out _ _ (HN.out.below Hb5.out) (HE.out.below Hb5.out) S5.out).mono ?_; rintro e w7 ⟨v7, rfl, ho7, hb7⟩; rw [HOl.out] at ho7; obtain ⟨a7, c7, rfl⟩ := own_anyF ho7; have S7 := Lib.hid (Sl.own ho7); have S8 := Lib.hid (S5.out.below hb7); have Hb7 := Lib.hid (bel_tr Hb5.out hb7); clear hb7 K5 Hb5 ho7 CO2; refine hold ?_))
          refine Lib.hid ?_
          go_wp2_with (first
            | (go_at_call 11; refine (sameAds_any O O _ _ _ (by rw [HOl.out]; exact S7.out) (by rw [HOl.out]; exact S8.out) (by rw [HOl.out]; omega) (by rw [HOl.out]; omega)).mono ?_; rintro e w8 ⟨rfl, hb8⟩; rw [show decide (O = O) = true from decide_eq_true rfl]))
          go_ret
          exact ⟨rfl, bel_tr Hb7.out hb8⟩
  · cases hf2 : fewN N with
    | false =>
      have Hf := Lib.hid hf2
      clear hf hf2
      go_enter Tryz.func5, Tryz.ntmps5
      go_wp2_with (first
        | ((with_reducible refine wpList_boxB (o := ⟨some 2, _, _, _, _, _⟩) rfl _ _ rfl rfl ?_); intro g2 w1 hg hB2 hb1 hs; have H2 := Lib.hid hB2; have Hb1 := Lib.hid hb1; clear hg hs hB2 hb1; refine hold ?_))
      refine Lib.hid ?_
      go_wp2_with (first
        | ((fail_if_success (have hb4z := Hb2)); go_at_call 6; refine (works39_any _ (HE.out.below Hb1.out)).mono ?_; rintro e w2 ⟨rfl, hb2⟩; have Hb2 := Lib.hid (bel_tr Hb1.out hb2); have K2 := Lib.hid (H2.out.bel hb2); clear hb2)
        | ((with_reducible show wpList _ _ _ (⟨some 13, _, _, _, _, _⟩ :: _) _ _); refine wpList_guarded (o := ⟨some 13, _, _, _, _, _⟩) rfl ?_; refine wpList_loadB (o := ⟨some 13, _, _, _, _, _⟩) rfl _ _ rfl rfl K2.out net_under rfl Hns.out ?_)
        | (go_at_call 7; refine (few37_any vi vr vp N _ (HN.out.below Hb2.out)).mono ?_; rintro e w3 ⟨rfl, hb3⟩; rw [Hf.out]; have Hb := Lib.hid (bel_tr Hb2.out hb3); clear hb3)
        | (go_at_call 6; refine (works39_any _ (HE.out.below Hb.out)).mono ?_; rintro e w6 ⟨rfl, hb6⟩))
      go_ret
      exact ⟨rfl, bel_tr Hb.out hb6⟩
    | true =>
      have Hf := Lib.hid hf2
      have g12 : decide ((12 : Int) < (n : Int)) = true := decide_eq_true (by have : ¬ n ≤ 12 := fun h => hf ⟨hf2, h⟩; omega)
      clear hf hf2
      go_enter Tryz.func5, Tryz.ntmps5
      go_wp2_with (first
        | ((with_reducible refine wpList_boxB (o := ⟨some 2, _, _, _, _, _⟩) rfl _ _ rfl rfl ?_); intro g2 w1 hg hB2 hb1 hs; have H2 := Lib.hid hB2; have Hb1 := Lib.hid hb1; clear hg hs hB2 hb1; refine hold ?_))
      refine Lib.hid ?_
      go_wp2_with (first
        | ((fail_if_success (have hb4z := Hb2)); go_at_call 6; refine (works39_any _ (HE.out.below Hb1.out)).mono ?_; rintro e w2 ⟨rfl, hb2⟩; have Hb2 := Lib.hid (bel_tr Hb1.out hb2); have K2 := Lib.hid (H2.out.bel hb2); clear hb2)
        | ((with_reducible show wpList _ _ _ (⟨some 13, _, _, _, _, _⟩ :: _) _ _); refine wpList_guarded (o := ⟨some 13, _, _, _, _, _⟩) rfl ?_; refine wpList_loadB (o := ⟨some 13, _, _, _, _, _⟩) rfl _ _ rfl rfl K2.out net_under rfl Hns.out ?_)
        | (go_at_call 7; refine (few37_any vi vr vp N _ (HN.out.below Hb2.out)).mono ?_; rintro e w3 ⟨rfl, hb3⟩; rw [Hf.out]; have Hb := Lib.hid (bel_tr Hb2.out hb3); clear hb3)
        | (go_at_call 6; refine (works39_any _ (HE.out.below Hb.out)).mono ?_; rintro e w6 ⟨rfl, hb6⟩))
      go_ret
      exact ⟨rfl, bel_tr Hb.out hb6⟩
end Go.Proofs.YthlnndjkocnfcaaGreatDoor
