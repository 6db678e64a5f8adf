/- Contracts and plain lemmas of our own, merged. -/
import Derived.Test.YthlnndjkocnfcaaDoorZSt27
import Derived.Test.YthlnndjkocnfcaaDoorZSt7
import Derived.Deep.Slices
/- Slices of structs among a law's arguments (the general part of Fr4, for seats with policies). -/
namespace Go.Proofs.YthlnndjkocnfcaaDoor
open Go.ChangeShapes Go.WideShapes Go.ChangeAt Go.RowKit

section
variable {H : Type} {enc : TypeId × Value → H} {P : Program} {w : World} {base b0 : Nat} {spare : Nat → Bool} {held : Bool} {r : Reach}

theorem list_lt {α : Type} {p : Nat → α → Prop} : ∀ (n : Nat), (∀ i, i < n → ∃ x, p i x) → ∃ L : List α, L.length = n ∧ ∀ i (h : i < L.length), p i L[i]
  | 0, _ => ⟨[], rfl, fun i h => absurd h (by simp)⟩
  | n + 1, h => by
    obtain ⟨L, h1, h2⟩ := list_lt n (fun i hi => h i (by omega))
    obtain ⟨x, hx⟩ := h n (by omega)
    refine ⟨L ++ [x], by simp [h1], fun i hi => ?_⟩
    rcases Nat.lt_or_ge i L.length with hlt | hge
    · rw [List.getElem_append_left hlt]; exact h2 i hlt
    · have : i = n := by simp at hi; omega
      subst this
      rw [List.getElem_append_right (by omega)]
      simpa using hx
theorem sl_of_addS {a : Addr} {len cap s : Nat} {vs : List Value} (hl : len ≤ cap) (hn : vs.length = len * s) (hs : 0 < s) (hc : ∀ i u, vs[i]? = some u → w.cell? (a.add i) = some u) :
    Sl w s (.slice (some a) len cap) len vs := by
  refine ⟨hn, some a, cap, rfl, hl, fun h => (by cases h), fun ad had hpos => ?_⟩
  injection had with had
  subst had
  obtain ⟨b, off, sp⟩ := a
  have hpos' : 0 < vs.length := by rw [hn]; exact Nat.mul_pos hpos hs
  have h0 := hc 0 vs[0] (List.getElem?_eq_getElem hpos')
  have hsp : sp = none := by simpa [Addr.add] using World.cell?_spot h0
  subst hsp
  have hlt := lt_of_cell h0
  rw [block_add] at hlt
  refine ⟨hlt, rfl, fun j u hu => ?_⟩
  have := hc j u hu
  rwa [add_none] at this
theorem open_sl_of {α : Type} {f : α → List Value} {s : Nat} {R : α → Prop} {t e : TypeId} (ht : P.underlying t = some (.slice e)) (hC : P.cellsOf e = s) (hs : 0 < s) (hlen : ∀ a, (f a).length = s)
    (dec : ∀ {fuel : Nat} {cs : List Value} {d : DataW H} {p : List MemPlace}, DataW.trod enc P w base spare held fuel e cs = some (d, p) → (∀ n ∈ d.weights P e, n ≤ reachBytes) → ∃ a, cs = f a ∧ R a)
    {fuel : Nat} {v : Value} {d : DataW H} {p : List MemPlace} (h : DataW.trod enc P w base spare held fuel t [v] = some (d, p)) (hz : ∀ n ∈ d.weights P t, n ≤ reachBytes) :
    ∃ L : List α, Sl w s v L.length (L.flatMap f) ∧ L.length ≤ maxLen ∧ ∀ a ∈ L, R a := by
  rcases Go.Deep.open_slice ht h with ⟨hcs, _⟩ | ⟨a, len, cap, m, n, D, Pl, hcs, _, hl, hm, hmm, hx, hel⟩
  · have : v = .slice none 0 0 := by simpa using hcs
    subst this
    exact ⟨[], Sl.nil _ _, Nat.zero_le _, fun _ h => by cases h⟩
  · have : v = .slice (some a) len cap := by simpa using hcs
    subst this
    have hlm : len ≤ m := by rw [hmm]; split <;> omega
    rw [Prod.mk.injEq] at hx
    obtain ⟨rfl, _⟩ := hx
    obtain ⟨L, h1, h2⟩ := list_lt (p := fun i x => (w.cells? base (a.add (i * s)) s = some (f x)) ∧ R x) len (fun i hi => by
      obtain ⟨cs', c1, c2⟩ := hel i (by omega)
      rw [hC] at c1
      obtain ⟨x, rfl, hR⟩ := dec c2 (fun k hk => hz k (mem_weights_slice ht (List.mem_map.2 ⟨i, List.mem_range.2 hi, rfl⟩) hk))
      exact ⟨x, c1, hR⟩)
    refine ⟨L, ?_, by omega, fun x hx => ?_⟩
    · rw [h1]
      refine sl_of_addS hl (by rw [flat_len hlen, h1]) hs (fun j u hu => ?_)
      have hjl : j < L.length * s := by
        have := (List.getElem?_eq_some_iff.1 hu).1
        rwa [flat_len hlen] at this
      have hk : j / s < L.length := (Nat.div_lt_iff_lt_mul hs).2 hjl
      have hr := Nat.mod_lt j hs
      have hj : j / s * s + j % s = j := by rw [Nat.mul_comm]; exact Nat.div_add_mod j s
      have hf := flat_at hlen L (j / s) hk (j % s) hr
      rw [hj, hu] at hf
      obtain ⟨_, _, hcell⟩ := World.cells?_some (h2 _ hk).1
      have := hcell (j % s) hr
      rw [Go.Deep.add_add, hj, ← hf] at this
      exact this
    · obtain ⟨i, hi, rfl⟩ := List.getElem_of_mem hx
      exact (h2 i hi).2

theorem pf_cells19 : Tryd.prog.cellsOf 40 = 19 := by kernel_rfl
theorem open_pfL {fuel : Nat} {cs : List Value} {x : DataW H × List MemPlace} (h : DataW.trod enc Tryd.prog w base spare held fuel 40 cs = some x) : ∃ a : Pf, cs = pfL a := by
  obtain ⟨xs, n, rfl, _, hlen, hxl, hf⟩ := DataW.trod_struct pf_under2 h
  rw [pf_cells19] at hlen
  have hsz : (Tryd.prog.fieldsOf 40).size = 2 := by kernel_rfl
  rw [hsz] at hxl
  obtain ⟨f0, g0, t0, o0⟩ := field_of (fs := Tryd.prog.fieldsOf 40) (i := 0) (t := 29) (o := 0) (by kernel_rfl)
  obtain ⟨f1, g1, t1, o1⟩ := field_of (fs := Tryd.prog.fieldsOf 40) (i := 1) (t := 3) (o := 18) (by kernel_rfl)
  have e0 := hf 0 f0 g0
  have e1 := hf 1 f1 g1
  rw [t0, o0, ad_cells18] at e0
  rw [t1, o1, ad_cells1] at e1
  obtain ⟨y0, hy0⟩ := some_of_len (l := xs) (i := 0) (by omega)
  obtain ⟨y1, hy1⟩ := some_of_len (l := xs) (i := 1) (by omega)
  obtain ⟨a, ha⟩ := open_adL (e0.trans hy0)
  obtain ⟨bits, c1, _, w1⟩ := DataW.trod_int Tryd.underlying3 (e1.trans hy1)
  refine ⟨⟨a, bits, wf64 w1⟩, ?_⟩
  unfold pfL
  simp only
  rw [← ha, ← c1, List.drop_zero, List.take_of_length_le (l := cs.drop 18) (by rw [List.length_drop]; omega), List.take_append_drop]
/-- a field of one cell of a struct that is read. -/
theorem field_at {fs : Array Field} {xs : List (DataW H × List MemPlace)} {n : Nat} {cs : List Value}
    (hf : ∀ (i : Nat) (f : Field), fs[i]? = some f → DataW.trod enc P w base spare held n f.type ((cs.drop f.offset).take (P.cellsOf f.type)) = xs[i]?) (hxl : xs.length = fs.size)
    {i o : Nat} {t : TypeId} (h : fs[i]?.map (fun f => (f.type, f.offset)) = some (t, o)) {c : Nat} (hc : P.cellsOf t = c) : ∃ y, xs[i]? = some y ∧ DataW.trod enc P w base spare held n t ((cs.drop o).take c) = some y := by
  obtain ⟨f, g, rfl, rfl⟩ := field_of h
  have hi : i < fs.size := (Array.getElem?_eq_some_iff.1 g).1
  have e := hf i f g
  obtain ⟨y, hy⟩ := some_of_len (l := xs) (i := i) (by omega)
  exact ⟨y, hy, by rw [hy, hc] at e; exact e⟩
theorem weight_at {fs : Array Field} {xs : List (DataW H × List MemPlace)} {t0 : TypeId} (hu : P.underlying t0 = some (.struct fs)) (hz : ∀ n ∈ (DataW.agg (xs.map (·.1))).weights P t0, n ≤ reachBytes)
    {i o : Nat} {t : TypeId} (h : fs[i]?.map (fun f => (f.type, f.offset)) = some (t, o)) {y : DataW H × List MemPlace} (hy : xs[i]? = some y) : ∀ n ∈ y.1.weights P t, n ≤ reachBytes := by
  intro n hn
  obtain ⟨f, g, rfl, _⟩ := field_of h
  refine hz n ?_
  simp only [DataW.weights, hu]
  refine DataW.weights_mem_each (j := i) (t := f.type) (d := y.1) ?_ ?_ n hn
  · rw [List.getElem?_map, Array.getElem?_toList, g]; rfl
  · rw [List.getElem?_map, hy]; rfl
end
end Go.Proofs.YthlnndjkocnfcaaDoor

/- What is known of the world around (api.Net), own addresses, as arguments of a law. -/
namespace Go.Proofs.YthlnndjkocnfcaaDoor
open Go.ChangeShapes Go.WideShapes Go.ChangeAt Go.RowKit

def NetArg (w : World) (v : Value) (a : Value × Value × Value × Nt) : Prop := v = .agg #[a.1, a.2.1, a.2.2.1] ∧ NetRaw w a.1 a.2.1 a.2.2.1 a.2.2.2
theorem tl1 {cs : List Value} {o : Nat} {x : Value} (h : (cs.drop o).take 1 = [x]) : cs.drop o = x :: cs.drop (o + 1) := by
  have := List.take_append_drop 1 (cs.drop o)
  rw [h, List.drop_drop] at this
  exact this.symm
section
variable {H : Type} {enc : TypeId × Value → H} {P : Program} {w : World} {base b0 : Nat} {spare : Nat → Bool} {held : Bool} {r : Reach}
theorem pol_cells21 : Tryd.prog.cellsOf 57 = 21 := by kernel_rfl
theorem rt_cells21 : Tryd.prog.cellsOf 42 = 21 := by kernel_rfl
theorem ifc_cells23 : Tryd.prog.cellsOf 31 = 23 := by kernel_rfl
theorem open_polL {fuel : Nat} {cs : List Value} {x : DataW H × List MemPlace} (h : DataW.trod enc Tryd.prog w base spare held fuel 57 cs = some x) : ∃ a : Pol, cs = polL a := by
  obtain ⟨xs, n, rfl, _, hlen, hxl, hf⟩ := DataW.trod_struct pol_under h
  rw [pol_cells21] at hlen
  obtain ⟨y0, g0, k0⟩ := field_at hf hxl (i := 0) (t := 40) (o := 0) (by kernel_rfl) (c := 19) (by kernel_rfl)
  obtain ⟨y1, g1, k1⟩ := field_at hf hxl (i := 1) (t := 3) (o := 19) (by kernel_rfl) (c := 1) (by kernel_rfl)
  obtain ⟨y2, g2, k2⟩ := field_at hf hxl (i := 2) (t := 3) (o := 20) (by kernel_rfl) (c := 1) (by kernel_rfl)
  obtain ⟨a, ha⟩ := open_pfL k0
  obtain ⟨z1, e1, _, w1⟩ := DataW.trod_int Tryd.underlying3 k1
  obtain ⟨z2, e2, _, w2⟩ := DataW.trod_int Tryd.underlying3 k2
  refine ⟨⟨a, z1, z2, wf64 w1, wf64 w2⟩, ?_⟩
  have h1 := List.take_append_drop 19 cs
  rw [List.drop_zero] at ha
  rw [ha, tl1 e1, tl1 e2, List.drop_eq_nil_of_le (by omega)] at h1
  exact h1.symm
theorem open_rtL {fuel : Nat} {cs : List Value} {x : DataW H × List MemPlace} (h : DataW.trod enc Tryd.prog w base spare held fuel 42 cs = some x) : ∃ a : Rt, cs = rtL a := by
  obtain ⟨xs, n, rfl, _, hlen, hxl, hf⟩ := DataW.trod_struct rt_under h
  rw [rt_cells21] at hlen
  obtain ⟨y0, g0, k0⟩ := field_at hf hxl (i := 0) (t := 40) (o := 0) (by kernel_rfl) (c := 19) (by kernel_rfl)
  obtain ⟨y1, g1, k1⟩ := field_at hf hxl (i := 1) (t := 3) (o := 19) (by kernel_rfl) (c := 1) (by kernel_rfl)
  obtain ⟨y2, g2, k2⟩ := field_at hf hxl (i := 2) (t := 4) (o := 20) (by kernel_rfl) (c := 1) (by kernel_rfl)
  obtain ⟨a, ha⟩ := open_pfL k0
  obtain ⟨z1, e1, _, w1⟩ := DataW.trod_int Tryd.underlying3 k1
  obtain ⟨z2, e2, _⟩ := DataW.trod_bool Tryd.underlying4 k2
  refine ⟨⟨a, z1, z2, wf64 w1⟩, ?_⟩
  have h1 := List.take_append_drop 19 cs
  rw [List.drop_zero] at ha
  rw [ha, tl1 e1, tl1 e2, List.drop_eq_nil_of_le (by omega)] at h1
  exact h1.symm
theorem open_ifcL {fuel : Nat} {cs : List Value} {x : DataW H × List MemPlace} (h : DataW.trod enc Tryd.prog w base spare held fuel 31 cs = some x) : ∃ a : Ifc, cs = ifcL a := by
  obtain ⟨xs, n, rfl, _, hlen, hxl, hf⟩ := DataW.trod_struct ifc_under h
  rw [ifc_cells23] at hlen
  obtain ⟨y0, g0, k0⟩ := field_at hf hxl (i := 0) (t := 29) (o := 0) (by kernel_rfl) (c := 18) (by kernel_rfl)
  obtain ⟨y1, g1, k1⟩ := field_at hf hxl (i := 1) (t := 3) (o := 18) (by kernel_rfl) (c := 1) (by kernel_rfl)
  obtain ⟨y2, g2, k2⟩ := field_at hf hxl (i := 2) (t := 3) (o := 19) (by kernel_rfl) (c := 1) (by kernel_rfl)
  obtain ⟨y3, g3, k3⟩ := field_at hf hxl (i := 3) (t := 4) (o := 20) (by kernel_rfl) (c := 1) (by kernel_rfl)
  obtain ⟨y4, g4, k4⟩ := field_at hf hxl (i := 4) (t := 4) (o := 21) (by kernel_rfl) (c := 1) (by kernel_rfl)
  obtain ⟨y5, g5, k5⟩ := field_at hf hxl (i := 5) (t := 4) (o := 22) (by kernel_rfl) (c := 1) (by kernel_rfl)
  obtain ⟨a, ha⟩ := open_adL k0
  obtain ⟨z1, e1, _, w1⟩ := DataW.trod_int Tryd.underlying3 k1
  obtain ⟨z2, e2, _, w2⟩ := DataW.trod_int Tryd.underlying3 k2
  obtain ⟨z3, e3, _⟩ := DataW.trod_bool Tryd.underlying4 k3
  obtain ⟨z4, e4, _⟩ := DataW.trod_bool Tryd.underlying4 k4
  obtain ⟨z5, e5, _⟩ := DataW.trod_bool Tryd.underlying4 k5
  refine ⟨⟨a, z1, z2, z3, z4, z5, wf64 w1, wf64 w2⟩, ?_⟩
  have h1 := List.take_append_drop 18 cs
  rw [List.drop_zero] at ha
  rw [ha, tl1 e1, tl1 e2, tl1 e3, tl1 e4, tl1 e5, List.drop_eq_nil_of_le (by omega)] at h1
  exact h1.symm
theorem list3v {l : List Value} (h : l.length = 3) : ∃ a b c, l = [a, b, c] := by
  match l, h with
  | [a, b, c], _ => exact ⟨a, b, c, rfl⟩
set_option maxRecDepth 100000 in
theorem open_net {v : Value} {d : DataW H} {p : List MemPlace} (hv : Value.okWide Tryd.prog w r b0 26 v) (h : DataW.Trod enc Tryd.prog w base spare held 26 v d p) (hz : ∀ n ∈ d.weights Tryd.prog 26, n ≤ reachBytes) :
    ∃ a : Value × Value × Value × Nt, NetArg w v a := by
  obtain ⟨cs, hcs, _⟩ := okWide_struct (P := Tryd.prog) (t := 26) net_under hv
  obtain ⟨fuel, hfu⟩ := h
  rw [hcs] at hfu
  change DataW.trod enc Tryd.prog w base spare held fuel 26 cs.toList = some (d, p) at hfu
  obtain ⟨xs, n, rfl, hx, hlen, hxl, hf⟩ := DataW.trod_struct net_under hfu
  rw [show Tryd.prog.cellsOf 26 = 3 by kernel_rfl] at hlen
  rw [Prod.mk.injEq] at hx
  obtain ⟨rfl, _⟩ := hx
  obtain ⟨c0, c1, c2, hl⟩ := list3v hlen
  rw [hl] at hf
  have q0 : (Tryd.prog.fieldsOf 26)[0]?.map (fun f => (f.type, f.offset)) = some (22, 0) := by kernel_rfl
  have q1 : (Tryd.prog.fieldsOf 26)[1]?.map (fun f => (f.type, f.offset)) = some (23, 1) := by kernel_rfl
  have q2 : (Tryd.prog.fieldsOf 26)[2]?.map (fun f => (f.type, f.offset)) = some (24, 2) := by kernel_rfl
  obtain ⟨y0, g0, k0⟩ := field_at hf hxl q0 (c := 1) (by kernel_rfl)
  obtain ⟨y1, g1, k1⟩ := field_at hf hxl q1 (c := 1) (by kernel_rfl)
  obtain ⟨y2, g2, k2⟩ := field_at hf hxl q2 (c := 1) (by kernel_rfl)
  obtain ⟨I, i1, i2, _⟩ := open_sl_of (R := fun _ => True) (f := ifcL) Tryd.underlying22 ifc_cells23 (by omega) ifcL_len (fun h _ => by obtain ⟨a, ha⟩ := open_ifcL h; exact ⟨a, ha, trivial⟩) (show DataW.trod enc Tryd.prog w base spare held n 22 [c0] = some (y0.1, y0.2) from k0) (weight_at net_under hz q0 g0)
  obtain ⟨R, r1, r2, _⟩ := open_sl_of (R := fun _ => True) (f := rtL) Tryd.underlying23 rt_cells21 (by omega) rtL_len (fun h _ => by obtain ⟨a, ha⟩ := open_rtL h; exact ⟨a, ha, trivial⟩) (show DataW.trod enc Tryd.prog w base spare held n 23 [c1] = some (y1.1, y1.2) from k1) (weight_at net_under hz q1 g1)
  obtain ⟨L, p1, p2, _⟩ := open_sl_of (R := fun _ => True) (f := polL) Tryd.underlying24 pol_cells21 (by omega) polL_len (fun h _ => by obtain ⟨a, ha⟩ := open_polL h; exact ⟨a, ha, trivial⟩) (show DataW.trod enc Tryd.prog w base spare held n 24 [c2] = some (y2.1, y2.2) from k2) (weight_at net_under hz q2 g2)
  refine ⟨(c0, c1, c2, ⟨I, R, L⟩), ?_, i1, r1, p1, i2, r2, p2⟩
  rw [hcs]
  have ee : cs = cs.toList.toArray := by simp
  rw [ee, hl]
theorem if3_under : Tryd.prog.underlying 32 = some (.array 3 31) := Tryd.underlying32
set_option maxRecDepth 100000 in
theorem open_if3 {v : Value} {d : DataW H} {p : List MemPlace} (hv : Value.okWide Tryd.prog w r b0 32 v) (h : DataW.Trod enc Tryd.prog w base spare held 32 v d p) : ∃ a : Ifc × Ifc × Ifc, v = .agg (ifcL a.1 ++ (ifcL a.2.1 ++ ifcL a.2.2)).toArray := by
  simp only [Value.okWide, if3_under] at hv
  obtain ⟨cs, hcs, _⟩ := hv
  obtain ⟨fuel, hf⟩ := h
  rw [hcs] at hf
  change DataW.trod enc Tryd.prog w base spare held fuel 32 cs.toList = some (d, p) at hf
  obtain ⟨zs, m, rfl, _, hlen, hzl, hfz⟩ := DataW.trod_array if3_under hf
  rw [show Tryd.prog.cellsOf 32 = 69 by kernel_rfl] at hlen
  have at_ : ∀ i, i < 3 → ∃ a : Ifc, (cs.toList.drop (i * 23)).take 23 = ifcL a := fun i hi => by
    have h1 := hfz i hi
    rw [ifc_cells23] at h1
    obtain ⟨y, hy⟩ := some_of_len (l := zs) (i := i) (by omega)
    exact open_ifcL (h1.trans hy)
  obtain ⟨a, ha⟩ := at_ 0 (by omega)
  obtain ⟨b, hb⟩ := at_ 1 (by omega)
  obtain ⟨c, hc⟩ := at_ 2 (by omega)
  refine ⟨(a, b, c), ?_⟩
  rw [hcs]
  have s1 := List.take_append_drop 23 cs.toList
  have s2 := List.take_append_drop 23 (cs.toList.drop 23)
  have s3 : (cs.toList.drop 46).take 23 = cs.toList.drop 46 := List.take_of_length_le (by rw [List.length_drop]; omega)
  rw [List.drop_drop] at s2
  rw [show 0 * 23 = 0 by rfl, List.drop_zero] at ha
  rw [show 1 * 23 = 23 by rfl] at hb
  rw [show 2 * 23 = 46 by rfl, s3] at hc
  rw [hb, show 23 + 23 = 46 by rfl, hc] at s2
  rw [ha, ← s2] at s1
  have ee : cs = cs.toList.toArray := by simp
  rw [ee, ← s1]
end
end Go.Proofs.YthlnndjkocnfcaaDoor

/- SourceThrough: what is better stays so, through a third one. -/
namespace Go.Proofs.YthlnndjkocnfcaaDoor
open Go.RowKit
attribute [local go_sem] ba_get ext_take ext_drop ext_any ba_app

def fewN (N : Nt) : Bool := decide (N.I.length ≤ 60) && (decide (N.R.length ≤ 60) && decide (N.P.length ≤ 60))
set_option maxRecDepth 100000 in
set_option maxHeartbeats 4000000 in
theorem few37_any (vi vr vp : Value) (N : Nt) (w : World) (hN : NetRaw w vi vr vp N) : Calls Tryd.prog 5 #[.agg #[vi, vr, vp]] w (BoPost w (fewN N)) := by
  obtain ⟨A0, k0, rfl, _⟩ := hN.i.any
  obtain ⟨A1, k1, rfl, _⟩ := hN.r.any
  obtain ⟨A2, k2, rfl, _⟩ := hN.p.any
  have hf : ∀ p q r : Bool, decide ((N.I.length : Int) ≤ 60) = p → decide ((N.R.length : Int) ≤ 60) = q → decide ((N.P.length : Int) ≤ 60) = r → fewN N = (p && (q && r)) := by
    intro p q r hp hq hr
    unfold fewN
    have e1 : decide (N.I.length ≤ 60) = decide ((N.I.length : Int) ≤ 60) := decide_eq_decide.2 (by omega)
    have e2 : decide (N.R.length ≤ 60) = decide ((N.R.length : Int) ≤ 60) := decide_eq_decide.2 (by omega)
    have e3 : decide (N.P.length ≤ 60) = decide ((N.P.length : Int) ≤ 60) := decide_eq_decide.2 (by omega)
    rw [e1, e2, e3, hp, hq, hr]
  have Hf := Lib.hid hf
  clear hf hN
  generalize fewN N = F at *
  generalize N.I.length = n0 at *
  generalize N.R.length = n1 at *
  generalize N.P.length = n2 at *
  cases i0 : decide ((n0 : Int) ≤ 60) <;> cases i1 : decide ((n1 : Int) ≤ 60) <;> cases i2 : decide ((n2 : Int) ≤ 60)
  all_goals
    have Hr := Lib.hid (Hf.out _ _ _ i0 i1 i2)
    clear Hf
    go_enter Tryd.func5, Tryd.ntmps5
    go_wp2_with (first
      | ((with_reducible refine wpList_boxB rfl _ _ rfl rfl ?_); intro g1 w1 hg hB hb hs; clear hg hs; have c0 : w1.cell? ⟨g1, 0, none⟩ = some (.slice A0 n0 k0) := hB.cell 0; have c1 : w1.cell? ⟨g1, 1, none⟩ = some (.slice A1 n1 k1) := hB.cell 1; have c2 : w1.cell? ⟨g1, 2, none⟩ = some (.slice A2 n2 k2) := hB.cell 2))
    go_ret
    exact ⟨by rw [Hr.out]; rfl, hb⟩
theorem few_60 {N : Nt} (h : fewN N = true) : N.I.length ≤ 1000000 ∧ N.R.length ≤ 1000000 ∧ N.P.length ≤ 1000000 := by
  unfold fewN at h
  simp at h
  omega
/-- signs, one by one. -/
theorem thr_signs {a b c : Int} (h : Thr a b c) : (a < 0 ∧ b < 0 ∧ True) ∨ (a < 0 ∧ b = 0 ∧ c < 0) ∨ (a < 0 ∧ 0 < b ∧ True) ∨ (a = 0 ∧ b < 0 ∧ True) ∨ (a = 0 ∧ b = 0 ∧ c = 0) ∨ (a = 0 ∧ 0 < b ∧ 0 < c) ∨ (0 < a ∧ b < 0 ∧ True) ∨ (0 < a ∧ b = 0 ∧ 0 < c) ∨ (0 < a ∧ 0 < b ∧ 0 < c) := by
  obtain ⟨p1, p2, p3, p4⟩ := h
  rcases Int.lt_trichotomy a 0 with ha | ha | ha
  · rcases Int.lt_trichotomy b 0 with hb | hb | hb
    · exact .inl ⟨ha, hb, trivial⟩
    · have := p2 hb; exact .inr (.inl ⟨ha, hb, by omega⟩)
    · exact .inr (.inr (.inl ⟨ha, hb, trivial⟩))
  · have := p1 ha
    rcases Int.lt_trichotomy b 0 with hb | hb | hb
    · exact .inr (.inr (.inr (.inl ⟨ha, hb, trivial⟩)))
    · exact .inr (.inr (.inr (.inr (.inl ⟨ha, hb, by omega⟩))))
    · exact .inr (.inr (.inr (.inr (.inr (.inl ⟨ha, hb, by omega⟩)))))
  · rcases Int.lt_trichotomy b 0 with hb | hb | hb
    · exact .inr (.inr (.inr (.inr (.inr (.inr (.inl ⟨ha, hb, trivial⟩))))))
    · have := p2 hb; exact .inr (.inr (.inr (.inr (.inr (.inr (.inr (.inl ⟨ha, hb, by omega⟩)))))))
    · exact .inr (.inr (.inr (.inr (.inr (.inr (.inr (.inr ⟨ha, hb, p3 ha hb⟩)))))))
def if3L (x : Ifc × Ifc × Ifc) : List Value := ifcL x.1 ++ (ifcL x.2.1 ++ ifcL x.2.2)
theorem if3_0 {w : World} {g : Nat} {t : TypeId} {x : Ifc × Ifc × Ifc} (h : Bk w g t (if3L x).toArray) : w.rangeAt g 0 (ifcL x.1) := h.rangeL (cs := if3L x) 0 (ifcL x.1) (ifcL x.2.1 ++ ifcL x.2.2) rfl
theorem if3_1 {w : World} {g : Nat} {t : TypeId} {x : Ifc × Ifc × Ifc} (h : Bk w g t (if3L x).toArray) : w.rangeAt g 23 (ifcL x.2.1) := h.rangeL (cs := if3L x) 23 (ifcL x.2.1) (ifcL x.2.2) (by unfold if3L; exact List.drop_left' (ifcL_len _))
theorem if3_2 {w : World} {g : Nat} {t : TypeId} {x : Ifc × Ifc × Ifc} (h : Bk w g t (if3L x).toArray) : w.rangeAt g 46 (ifcL x.2.2) := h.rangeL (cs := if3L x) 46 (ifcL x.2.2) [] (by unfold if3L; rw [← List.append_assoc, List.append_nil]; exact List.drop_left' (by rw [List.length_append, ifcL_len, ifcL_len]))
theorem betA {vi vr vp : Value} {N : Nt} {d : Ad} {a b : Ifc} {z : Int} (hz : fst1 (betL N d a b) = z) {w : World} (hN : NetRaw w vi vr vp N) (hE : EnvS w) (hf : fewN N = true) : Calls Tryd.prog 6 #[.agg #[vi, vr, vp], .agg (adA d), .agg (ifcA a), .agg (ifcA b)] w fun e w' => e = .returned (.tuple #[.int .i64 z, .int .i64 (fstI (betL N d a b) 0)]) ∧ Below w.heap.size w w' := by
  subst hz
  exact betterS_any vi vr vp N d a b w hN hE (few_60 hf).2.2 (few_60 hf).2.1
set_option maxRecDepth 100000 in
set_option maxHeartbeats 8000000 in
theorem sourceThrough_walk (w : World) (ht : Tab w) (hm : MaxI w) (hT : TabA w) (q : Value × Value × Value × Nt) (v : Value) (hq : NetArg w v q) (d : Ad) (x : Ifc × Ifc × Ifc) : Calls Tryd.prog 3 #[v, .agg (adA d), .agg (ifcL x.1 ++ (ifcL x.2.1 ++ ifcL x.2.2)).toArray] w (Good w) := by
  obtain ⟨vi, vr, vp, N⟩ := q
  obtain ⟨hv, hN⟩ := hq
  subst hv
  have HE : Hid (EnvS w) := Lib.hid ⟨ht, hm, hT⟩
  have HN := Lib.hid hN
  have Hns := Lib.hid (show (Tryd.prog.info? 26).map (·.size) = some (#[vi, vr, vp] : Array Value).size from net_size)
  show Calls Tryd.prog _ #[.agg #[vi, vr, vp], .agg (adA d), .agg (if3L x).toArray] w (Good w)
  generalize hX : (if3L x).toArray = X at *
  have HX := Lib.hid hX
  dsimp only at HN
  clear hN ht hm hT hX
  cases hf : fewN N with
  | false =>
    have Hf := Lib.hid hf
    clear hf
    go_enter Tryd.func3, Tryd.ntmps3
    go_wp2_with (first
      | ((with_reducible refine wpList_boxB (o := ⟨some 3, _, _, _, _, _⟩) rfl _ _ rfl rfl ?_); intro g3 w1 hg hB3 hb1 hs; clear hg hs)
      | ((with_reducible refine wpList_boxB (o := ⟨some 4, _, _, _, _, _⟩) rfl _ _ rfl rfl ?_); intro g4 w2 hg hB4 hb2 hs; have hB32 := hB3.bel hb2; have hb02 := bel_tr hb1 hb2; clear hg hs)
      | ((with_reducible refine wpList_boxB (o := ⟨some 5, _, _, _, _, _⟩) rfl _ _ rfl rfl ?_); intro g5 w3 hg hB5 hb3 hs; have H3 := Lib.hid (hB32.bel hb3); have Hb3 := Lib.hid (bel_tr hb02 hb3); clear hg hs hB3 hB32 hB4 hB5 hb1 hb2 hb3 hb02; refine hold ?_))
    refine Lib.hid ?_
    go_wp2_with (first
      | ((fail_if_success (have hb4z := Hb4)); go_at_call 4; refine (works38_any _ (HE.out.below Hb3.out)).mono ?_; rintro e w4 ⟨rfl, hb4⟩; have Hb4 := Lib.hid (bel_tr Hb3.out hb4); have H34 := Lib.hid (H3.out.bel hb4); clear hb4)
      | ((with_reducible show wpList _ _ _ (⟨some 16, _, _, _, _, _⟩ :: _) _ _); refine wpList_guarded (o := ⟨some 16, _, _, _, _, _⟩) rfl ?_; refine wpList_loadB (o := ⟨some 16, _, _, _, _, _⟩) rfl _ _ rfl rfl H34.out net_under rfl Hns.out ?_)
      | (go_at_call 5; refine (few37_any vi vr vp N _ (HN.out.below Hb4.out)).mono ?_; rintro e w5 ⟨rfl, hb5⟩; rw [Hf.out]; have Hb5 := Lib.hid (bel_tr Hb4.out hb5); clear hb5)
      | (go_at_call 4; refine (works38_any _ (HE.out.below Hb5.out)).mono ?_; rintro e w6 ⟨rfl, hb6⟩))
    go_ret
    exact ⟨rfl, bel_tr Hb5.out hb6⟩
  | true =>
    have Hf := Lib.hid hf
    clear hf
    have hthr : Thr (fst1 (betL N d x.1 x.2.1)) (fst1 (betL N d x.2.1 x.2.2)) (fst1 (betL N d x.1 x.2.2)) := telL_thr _ _ _ _
    obtain ⟨za, hza⟩ : ∃ z, fst1 (betL N d x.1 x.2.1) = z := ⟨_, rfl⟩
    obtain ⟨zb, hzb⟩ : ∃ z, fst1 (betL N d x.2.1 x.2.2) = z := ⟨_, rfl⟩
    obtain ⟨zc, hzc⟩ : ∃ z, fst1 (betL N d x.1 x.2.2) = z := ⟨_, rfl⟩
    rw [hza, hzb, hzc] at hthr
    have HS := Lib.hid (thr_signs hthr)
    have Ca : Hid (∀ w, NetRaw w vi vr vp N → EnvS w → Calls Tryd.prog 6 #[.agg #[vi, vr, vp], .agg (adA d), .agg (ifcA x.1), .agg (ifcA x.2.1)] w fun e w' => e = .returned (.tuple #[.int .i64 za, .int .i64 (fstI (betL N d x.1 x.2.1) 0)]) ∧ Below w.heap.size w w') := Lib.hid (fun w h k => betA hza h k Hf.out)
    have Cb : Hid (∀ w, NetRaw w vi vr vp N → EnvS w → Calls Tryd.prog 6 #[.agg #[vi, vr, vp], .agg (adA d), .agg (ifcA x.2.1), .agg (ifcA x.2.2)] w fun e w' => e = .returned (.tuple #[.int .i64 zb, .int .i64 (fstI (betL N d x.2.1 x.2.2) 0)]) ∧ Below w.heap.size w w') := Lib.hid (fun w h k => betA hzb h k Hf.out)
    have Cc : Hid (∀ w, NetRaw w vi vr vp N → EnvS w → Calls Tryd.prog 6 #[.agg #[vi, vr, vp], .agg (adA d), .agg (ifcA x.1), .agg (ifcA x.2.2)] w fun e w' => e = .returned (.tuple #[.int .i64 zc, .int .i64 (fstI (betL N d x.1 x.2.2) 0)]) ∧ Below w.heap.size w w') := Lib.hid (fun w h k => betA hzc h k Hf.out)
    clear hthr hza hzb hzc
    generalize fstI (betL N d x.1 x.2.1) 0 = na at *
    generalize fstI (betL N d x.2.1 x.2.2) 0 = nb at *
    generalize fstI (betL N d x.1 x.2.2) 0 = nc at *
    go_enter Tryd.func3, Tryd.ntmps3
    go_wp2_with (first
      | ((with_reducible refine wpList_boxB (o := ⟨some 3, _, _, _, _, _⟩) rfl _ _ rfl rfl ?_); intro g3 w1 hg hB3 hb1 hs; clear hg hs)
      | ((with_reducible refine wpList_boxB (o := ⟨some 4, _, _, _, _, _⟩) rfl _ _ rfl rfl ?_); intro g4 w2 hg hB4 hb2 hs; have hB32 := hB3.bel hb2; have hb02 := bel_tr hb1 hb2; clear hg hs)
      | ((with_reducible refine wpList_boxB (o := ⟨some 5, _, _, _, _, _⟩) rfl _ _ rfl rfl ?_); intro g5 w3 hg hB5 hb3 hs; rw [← HX.out] at hB5; have H3 := Lib.hid (hB32.bel hb3); have H4 := Lib.hid (hB4.bel hb3); have H5 := Lib.hid hB5; have Hb3 := Lib.hid (bel_tr hb02 hb3); clear hg hs hB3 hB32 hB4 hB5 hb1 hb2 hb3 hb02; refine hold ?_))
    refine Lib.hid ?_
    go_wp2_with (first
      | (go_at_call 4; refine (works38_any _ (HE.out.below Hb3.out)).mono ?_; rintro e w4 ⟨rfl, hb4⟩; have Hb4 := Lib.hid (bel_tr Hb3.out hb4); have H34 := Lib.hid (H3.out.bel hb4); have H44 := Lib.hid (H4.out.bel hb4); have H54 := Lib.hid (H5.out.bel hb4); clear hb4 H3 H4 H5 Hb3)
      | ((with_reducible show wpList _ _ _ (⟨some 16, _, _, _, _, _⟩ :: _) _ _); refine wpList_guarded (o := ⟨some 16, _, _, _, _, _⟩) rfl ?_; refine wpList_loadB (o := ⟨some 16, _, _, _, _, _⟩) rfl _ _ rfl rfl H34.out net_under rfl Hns.out ?_)
      | (go_at_call 5; refine (few37_any vi vr vp N _ (HN.out.below Hb4.out)).mono ?_; rintro e w5 ⟨rfl, hb5⟩; rw [Hf.out]; have Hb := Lib.hid (bel_tr Hb4.out hb5); have H3 := Lib.hid (H34.out.bel hb5); have H4 := Lib.hid (H44.out.bel hb5); have H5 := Lib.hid (H54.out.bel hb5); clear hb5 H34 H44 H54 Hb4; refine hold ?_))
    refine Lib.hid ?_
    have r0 := if3_0 H5.out
    have r1 := if3_1 H5.out
    go_wp2_with (first
      | ((with_reducible show wpList _ _ _ (⟨some 22, _, _, _, _, _⟩ :: _) _ _); refine wpList_loadB (o := ⟨some 22, _, _, _, _, _⟩) rfl _ _ rfl rfl H3.out net_under rfl Hns.out ?_)
      | (with_reducible refine wpList_loadAd (o := ⟨some 23, _, _, _, _, _⟩) rfl _ rfl rfl H4.out ?_)
      | (with_reducible refine wpList_loadM_ifc (o := ⟨some 25, _, _, _, _, _⟩) rfl _ rfl rfl r0 ?_)
      | (with_reducible refine wpList_loadM_ifc (o := ⟨some 27, _, _, _, _, _⟩) rfl _ rfl rfl r1 ?_)
      | (go_at_call 6; refine (Ca.out _ (HN.out.below Hb.out) (HE.out.below Hb.out)).mono ?_; rintro e w6 ⟨rfl, hb6⟩; have Hb6 := Lib.hid (bel_tr Hb.out hb6); have H36 := Lib.hid (H3.out.bel hb6); have H46 := Lib.hid (H4.out.bel hb6); have H56 := Lib.hid (H5.out.bel hb6); clear hb6 H3 H4 H5 Hb r0 r1; refine hold ?_))
    refine Lib.hid ?_
    have r1 := if3_1 H56.out
    have r2 := if3_2 H56.out
    go_wp2_with (first
      | ((with_reducible show wpList _ _ _ (⟨some 32, _, _, _, _, _⟩ :: _) _ _); refine wpList_loadB (o := ⟨some 32, _, _, _, _, _⟩) rfl _ _ rfl rfl H36.out net_under rfl Hns.out ?_)
      | (with_reducible refine wpList_loadAd (o := ⟨some 33, _, _, _, _, _⟩) rfl _ rfl rfl H46.out ?_)
      | (with_reducible refine wpList_loadM_ifc (o := ⟨some 35, _, _, _, _, _⟩) rfl _ rfl rfl r1 ?_)
      | (with_reducible refine wpList_loadM_ifc (o := ⟨some 37, _, _, _, _, _⟩) rfl _ rfl rfl r2 ?_)
      | (go_at_call 6; refine (Cb.out _ (HN.out.below Hb6.out) (HE.out.below Hb6.out)).mono ?_; rintro e w7 ⟨rfl, hb7⟩; have Hb := Lib.hid (bel_tr Hb6.out hb7); have H3 := Lib.hid (H36.out.bel hb7); have H4 := Lib.hid (H46.out.bel hb7); have H5 := Lib.hid (H56.out.bel hb7); clear hb7 H36 H46 H56 Hb6 r1 r2; refine hold ?_))
    refine Lib.hid ?_
    have r0 := if3_0 H5.out
    have r2 := if3_2 H5.out
    go_wp2_with (first
      | ((with_reducible show wpList _ _ _ (⟨some 42, _, _, _, _, _⟩ :: _) _ _); refine wpList_loadB (o := ⟨some 42, _, _, _, _, _⟩) rfl _ _ rfl rfl H3.out net_under rfl Hns.out ?_)
      | (with_reducible refine wpList_loadAd (o := ⟨some 43, _, _, _, _, _⟩) rfl _ rfl rfl H4.out ?_)
      | (with_reducible refine wpList_loadM_ifc (o := ⟨some 45, _, _, _, _, _⟩) rfl _ rfl rfl r0 ?_)
      | (with_reducible refine wpList_loadM_ifc (o := ⟨some 47, _, _, _, _, _⟩) rfl _ rfl rfl r2 ?_)
      | (go_at_call 6; refine (Cc.out _ (HN.out.below Hb.out) (HE.out.below Hb.out)).mono ?_; rintro e w8 ⟨rfl, hb8⟩; have Hb8 := Lib.hid (bel_tr Hb.out hb8); clear hb8 H3 H4 H5 Hb r0 r2; refine hold ?_))
    refine Lib.hid ?_
    have hs := HS.out
    clear HS Ca Cb Cc HX
    have Bl : ∀ z : Int, z < 0 → (decide (z < 0) = true ∧ decide (0 ≤ z) = false ∧ (z != 0) = true ∧ (z == 0) = false ∧ decide (z ≤ 0) = true ∧ decide (0 < z) = false) := fun z h => ⟨decide_eq_true h, decide_eq_false (by omega), by simp; omega, by simp; omega, decide_eq_true (by omega), decide_eq_false (by omega)⟩
    have Bz : ∀ z : Int, z = 0 → (decide (z < 0) = false ∧ decide (0 ≤ z) = true ∧ (z != 0) = false ∧ (z == 0) = true ∧ decide (z ≤ 0) = true ∧ decide (0 < z) = false) := fun z h => ⟨decide_eq_false (by omega), decide_eq_true (by omega), by simp [h], by simp [h], decide_eq_true (by omega), decide_eq_false (by omega)⟩
    have Bg : ∀ z : Int, 0 < z → (decide (z < 0) = false ∧ decide (0 ≤ z) = true ∧ (z != 0) = true ∧ (z == 0) = false ∧ decide (z ≤ 0) = false ∧ decide (0 < z) = true) := fun z h => ⟨decide_eq_false (by omega), decide_eq_true (by omega), by simp; omega, by simp; omega, decide_eq_false (by omega), decide_eq_true h⟩
    have HBl := Lib.hid Bl
    have HBz := Lib.hid Bz
    have HBg := Lib.hid Bg
    clear Bl Bz Bg
    rcases hs with ⟨ha, hb, hc⟩ | ⟨ha, hb, hc⟩ | ⟨ha, hb, hc⟩ | ⟨ha, hb, hc⟩ | ⟨ha, hb, hc⟩ | ⟨ha, hb, hc⟩ | ⟨ha, hb, hc⟩ | ⟨ha, hb, hc⟩ | ⟨ha, hb, hc⟩
    · obtain ⟨a1, a2, a3, a4, a5, a6⟩ := HBl.out za ha
      obtain ⟨b1, b2, b3, b4, b5, b6⟩ := HBl.out zb hb
      clear ha hb hc HBl HBz HBg
      go_wp2_with (fail)
      go_ret
      exact ⟨rfl, Hb8.out⟩
    · obtain ⟨a1, a2, a3, a4, a5, a6⟩ := HBl.out za ha
      obtain ⟨b1, b2, b3, b4, b5, b6⟩ := HBz.out zb hb
      obtain ⟨c1, c2, c3, c4, c5, c6⟩ := HBl.out zc hc
      clear ha hb hc HBl HBz HBg
      go_wp2_with (fail)
      go_ret
      exact ⟨rfl, Hb8.out⟩
    · obtain ⟨a1, a2, a3, a4, a5, a6⟩ := HBl.out za ha
      obtain ⟨b1, b2, b3, b4, b5, b6⟩ := HBg.out zb hb
      clear ha hb hc HBl HBz HBg
      go_wp2_with (fail)
      go_ret
      exact ⟨rfl, Hb8.out⟩
    · obtain ⟨a1, a2, a3, a4, a5, a6⟩ := HBz.out za ha
      obtain ⟨b1, b2, b3, b4, b5, b6⟩ := HBl.out zb hb
      clear ha hb hc HBl HBz HBg
      go_wp2_with (fail)
      go_ret
      exact ⟨rfl, Hb8.out⟩
    · obtain ⟨a1, a2, a3, a4, a5, a6⟩ := HBz.out za ha
      obtain ⟨b1, b2, b3, b4, b5, b6⟩ := HBz.out zb hb
      obtain ⟨c1, c2, c3, c4, c5, c6⟩ := HBz.out zc hc
      clear ha hb hc HBl HBz HBg
      go_wp2_with (fail)
      go_ret
      exact ⟨rfl, Hb8.out⟩
    · obtain ⟨a1, a2, a3, a4, a5, a6⟩ := HBz.out za ha
      obtain ⟨b1, b2, b3, b4, b5, b6⟩ := HBg.out zb hb
      obtain ⟨c1, c2, c3, c4, c5, c6⟩ := HBg.out zc hc
      clear ha hb hc HBl HBz HBg
      go_wp2_with (fail)
      go_ret
      exact ⟨rfl, Hb8.out⟩
    · obtain ⟨a1, a2, a3, a4, a5, a6⟩ := HBg.out za ha
      obtain ⟨b1, b2, b3, b4, b5, b6⟩ := HBl.out zb hb
      clear ha hb hc HBl HBz HBg
      go_wp2_with (fail)
      go_ret
      exact ⟨rfl, Hb8.out⟩
    · obtain ⟨a1, a2, a3, a4, a5, a6⟩ := HBg.out za ha
      obtain ⟨b1, b2, b3, b4, b5, b6⟩ := HBz.out zb hb
      obtain ⟨c1, c2, c3, c4, c5, c6⟩ := HBg.out zc hc
      clear ha hb hc HBl HBz HBg
      go_wp2_with (fail)
      go_ret
      exact ⟨rfl, Hb8.out⟩
    · obtain ⟨a1, a2, a3, a4, a5, a6⟩ := HBg.out za ha
      obtain ⟨b1, b2, b3, b4, b5, b6⟩ := HBg.out zb hb
      obtain ⟨c1, c2, c3, c4, c5, c6⟩ := HBg.out zc hc
      clear ha hb hc HBl HBz HBg
      go_wp2_with (fail)
      go_ret
      exact ⟨rfl, Hb8.out⟩
end Go.Proofs.YthlnndjkocnfcaaDoor
