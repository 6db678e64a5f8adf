/- Contracts and plain lemmas of our own, merged. -/
import Derived.Test.YtebfgaapcpehmaaZPT11
import Derived.Test.YtebfgaapcpehmaaZPT7
import Derived.Deep.Slices
/- Slices of structs and of names among a law's arguments; what resolv.conf says as an argument. -/
namespace Go.Proofs.Ytebfgaapcpehmaa
open Go.ChangeShapes Go.WideShapes Go.ChangeAt Go.RowKit

section
variable {H : Type} {enc : TypeId × Value → H} {P : Program} {w : World} {base b0 : Nat} {spare : Nat → Bool} {held : Bool} {r : Reach}

theorem list_lt {α : Type} {p : Nat → α → Prop} : ∀ (n : Nat), (∀ i, i < n → ∃ x, p i x) → ∃ L : List α, L.length = n ∧ ∀ i (h : i < L.length), p i L[i]
  | 0, _ => ⟨[], rfl, fun i h => absurd h (by simp)⟩
  | n + 1, h => by
    obtain ⟨L, h1, h2⟩ := list_lt n (fun i hi => h i (by omega))
    obtain ⟨x, hx⟩ := h n (by omega)
    refine ⟨L ++ [x], by simp [h1], fun i hi => ?_⟩
    rcases Nat.lt_or_ge i L.length with hlt | hge
    · rw [List.getElem_append_left hlt]; exact h2 i hlt
    · have : i = n := by simp at hi; omega
      subst this
      rw [List.getElem_append_right (by omega)]
      simpa using hx
theorem sl_of_addS {a : Addr} {len cap s : Nat} {vs : List Value} (hl : len ≤ cap) (hn : vs.length = len * s) (hs : 0 < s) (hc : ∀ i u, vs[i]? = some u → w.cell? (a.add i) = some u) :
    Sl w s (.slice (some a) len cap) len vs := by
  refine ⟨hn, some a, cap, rfl, hl, fun h => (by cases h), fun ad had hpos => ?_⟩
  injection had with had
  subst had
  obtain ⟨b, off, sp⟩ := a
  have hpos' : 0 < vs.length := by rw [hn]; exact Nat.mul_pos hpos hs
  have h0 := hc 0 vs[0] (List.getElem?_eq_getElem hpos')
  have hsp : sp = none := by simpa [Addr.add] using World.cell?_spot h0
  subst hsp
  have hlt := lt_of_cell h0
  rw [block_add] at hlt
  refine ⟨hlt, rfl, fun j u hu => ?_⟩
  have := hc j u hu
  rwa [add_none] at this
theorem open_sl_of {α : Type} {f : α → List Value} {s : Nat} {R : α → Prop} {t e : TypeId} (ht : P.underlying t = some (.slice e)) (hC : P.cellsOf e = s) (hs : 0 < s) (hlen : ∀ a, (f a).length = s)
    (dec : ∀ {fuel : Nat} {cs : List Value} {d : DataW H} {p : List MemPlace}, DataW.trod enc P w base spare held fuel e cs = some (d, p) → (∀ n ∈ d.weights P e, n ≤ reachBytes) → ∃ a, cs = f a ∧ R a)
    {fuel : Nat} {v : Value} {d : DataW H} {p : List MemPlace} (h : DataW.trod enc P w base spare held fuel t [v] = some (d, p)) (hz : ∀ n ∈ d.weights P t, n ≤ reachBytes) :
    ∃ L : List α, Sl w s v L.length (L.flatMap f) ∧ L.length ≤ maxLen ∧ ∀ a ∈ L, R a := by
  rcases Go.Deep.open_slice ht h with ⟨hcs, _⟩ | ⟨a, len, cap, m, n, D, Pl, hcs, _, hl, hm, hmm, hx, hel⟩
  · have : v = .slice none 0 0 := by simpa using hcs
    subst this
    exact ⟨[], Sl.nil _ _, Nat.zero_le _, fun _ h => by cases h⟩
  · have : v = .slice (some a) len cap := by simpa using hcs
    subst this
    have hlm : len ≤ m := by rw [hmm]; split <;> omega
    rw [Prod.mk.injEq] at hx
    obtain ⟨rfl, _⟩ := hx
    obtain ⟨L, h1, h2⟩ := list_lt (p := fun i x => (w.cells? base (a.add (i * s)) s = some (f x)) ∧ R x) len (fun i hi => by
      obtain ⟨cs', c1, c2⟩ := hel i (by omega)
      rw [hC] at c1
      obtain ⟨x, rfl, hR⟩ := dec c2 (fun k hk => hz k (mem_weights_slice ht (List.mem_map.2 ⟨i, List.mem_range.2 hi, rfl⟩) hk))
      exact ⟨x, c1, hR⟩)
    refine ⟨L, ?_, by omega, fun x hx => ?_⟩
    · rw [h1]
      refine sl_of_addS hl (by rw [flat_len hlen, h1]) hs (fun j u hu => ?_)
      have hjl : j < L.length * s := by
        have := (List.getElem?_eq_some_iff.1 hu).1
        rwa [flat_len hlen] at this
      have hk : j / s < L.length := (Nat.div_lt_iff_lt_mul hs).2 hjl
      have hr := Nat.mod_lt j hs
      have hj : j / s * s + j % s = j := by rw [Nat.mul_comm]; exact Nat.div_add_mod j s
      have hf := flat_at hlen L (j / s) hk (j % s) hr
      rw [hj, hu] at hf
      obtain ⟨_, _, hcell⟩ := World.cells?_some (h2 _ hk).1
      have := hcell (j % s) hr
      rw [Go.Deep.add_add, hj, ← hf] at this
      exact this
    · obtain ⟨i, hi, rfl⟩ := List.getElem_of_mem hx
      exact (h2 i hi).2

theorem map_one (L : List (List UInt8)) : L.flatMap (fun l => [stv l]) = L.map stv := by induction L with | nil => rfl | cons a L ih => rw [List.flatMap_cons, ih]; rfl
/-- a name: a slice of texts. -/
theorem open_nm {fuel : Nat} {cs : List Value} {d : DataW H} {p : List MemPlace} (h : DataW.trod enc Try.prog w base spare held fuel 55 cs = some (d, p)) (hz : ∀ n ∈ d.weights Try.prog 55, n ≤ reachBytes) :
    ∃ q : Value × List (List UInt8), cs = nmF q ∧ NmRaw w q := by
  obtain ⟨v, rfl⟩ : ∃ v, cs = [v] := by
    rcases DataW.trod_slice Try.underlying55 h with ⟨rfl, _⟩ | ⟨a, len, cap, elems, rest, n, _, rfl, _⟩ <;> exact ⟨_, rfl⟩
  obtain ⟨L, h1, h2, h3⟩ := open_sl_of (f := fun l => [stv l]) (s := 1) (R := fun l => l.length ≤ 140737488351232) Try.underlying55 (by kernel_rfl) (by omega) (fun _ => rfl) (fun {fuel cs d p} h hz => by
    obtain ⟨s, rfl, hx, _⟩ := DataW.trod_string Try.underlying9 h
    rw [Prod.mk.injEq] at hx
    obtain ⟨rfl, _⟩ := hx
    refine ⟨s.data.toList, by simp [stv], ?_⟩
    have := hz s.data.toList.length (by simp [DataW.weights])
    unfold reachBytes at this
    omega) h hz
  rw [map_one] at h1
  exact ⟨(v, L), rfl, h1, h2, h3⟩
theorem pf_cells19 : Try.prog.cellsOf 67 = 19 := by kernel_rfl
theorem open_pfL {fuel : Nat} {cs : List Value} {x : DataW H × List MemPlace} (h : DataW.trod enc Try.prog w base spare held fuel 67 cs = some x) : ∃ a : Pf, cs = pfL a := by
  obtain ⟨xs, n, rfl, _, hlen, hxl, hf⟩ := DataW.trod_struct pf_under h
  rw [pf_cells19] at hlen
  have hsz : (Try.prog.fieldsOf 67).size = 2 := by kernel_rfl
  rw [hsz] at hxl
  obtain ⟨f0, g0, t0, o0⟩ := field_of (fs := Try.prog.fieldsOf 67) (i := 0) (t := 40) (o := 0) (by kernel_rfl)
  obtain ⟨f1, g1, t1, o1⟩ := field_of (fs := Try.prog.fieldsOf 67) (i := 1) (t := 3) (o := 18) (by kernel_rfl)
  have e0 := hf 0 f0 g0
  have e1 := hf 1 f1 g1
  rw [t0, o0, ad_cells18] at e0
  rw [t1, o1, ad_cells1] at e1
  obtain ⟨y0, hy0⟩ := some_of_len (l := xs) (i := 0) (by omega)
  obtain ⟨y1, hy1⟩ := some_of_len (l := xs) (i := 1) (by omega)
  obtain ⟨a, ha⟩ := open_adL (e0.trans hy0)
  obtain ⟨bits, c1, _, w1⟩ := DataW.trod_int Try.underlying3 (e1.trans hy1)
  refine ⟨⟨a, bits, wf64 w1⟩, ?_⟩
  unfold pfL
  simp only
  rw [← ha, ← c1, List.drop_zero, List.take_of_length_le (l := cs.drop 18) (by rw [List.length_drop]; omega), List.take_append_drop]
theorem list10 {l : List Value} (h : l.length = 10) : ∃ a b c d e f g i j k, l = [a, b, c, d, e, f, g, i, j, k] := by
  match l, h with
  | [a, b, c, d, e, f, g, i, j, k], _ => exact ⟨_, _, _, _, _, _, _, _, _, _, rfl⟩
/-- a field of one cell of a struct that is read. -/
theorem field_at {fs : Array Field} {xs : List (DataW H × List MemPlace)} {n : Nat} {cs : List Value}
    (hf : ∀ (i : Nat) (f : Field), fs[i]? = some f → DataW.trod enc P w base spare held n f.type ((cs.drop f.offset).take (P.cellsOf f.type)) = xs[i]?) (hxl : xs.length = fs.size)
    {i o : Nat} {t : TypeId} (h : fs[i]?.map (fun f => (f.type, f.offset)) = some (t, o)) {c : Nat} (hc : P.cellsOf t = c) : ∃ y, xs[i]? = some y ∧ DataW.trod enc P w base spare held n t ((cs.drop o).take c) = some y := by
  obtain ⟨f, g, rfl, rfl⟩ := field_of h
  have hi : i < fs.size := (Array.getElem?_eq_some_iff.1 g).1
  have e := hf i f g
  obtain ⟨y, hy⟩ := some_of_len (l := xs) (i := i) (by omega)
  exact ⟨y, hy, by rw [hy, hc] at e; exact e⟩
theorem weight_at {fs : Array Field} {xs : List (DataW H × List MemPlace)} {t0 : TypeId} (hu : P.underlying t0 = some (.struct fs)) (hz : ∀ n ∈ (DataW.agg (xs.map (·.1))).weights P t0, n ≤ reachBytes)
    {i o : Nat} {t : TypeId} (h : fs[i]?.map (fun f => (f.type, f.offset)) = some (t, o)) {y : DataW H × List MemPlace} (hy : xs[i]? = some y) : ∀ n ∈ y.1.weights P t, n ≤ reachBytes := by
  intro n hn
  obtain ⟨f, g, rfl, _⟩ := field_of h
  refine hz n ?_
  simp only [DataW.weights, hu]
  refine DataW.weights_mem_each (j := i) (t := f.type) (d := y.1) ?_ ?_ n hn
  · rw [List.getElem?_map, Array.getElem?_toList, g]; rfl
  · rw [List.getElem?_map, hy]; rfl
set_option maxRecDepth 100000 in
theorem open_rs {v : Value} {d : DataW H} {p : List MemPlace} (hv : Value.okWide Try.prog w r b0 26 v) (h : DataW.Trod enc Try.prog w base spare held 26 v d p) (hz : ∀ n ∈ d.weights Try.prog 26, n ≤ reachBytes) :
    ∃ (vs vn vp : Value) (R : Rs), v = .agg (rsL vs vn vp R).toArray ∧ RsRaw w vs vn vp R := by
  obtain ⟨cs, hcs, _⟩ := okWide_struct (P := Try.prog) (t := 26) rs_under hv
  obtain ⟨fuel, hfu⟩ := h
  rw [hcs] at hfu
  change DataW.trod enc Try.prog w base spare held fuel 26 cs.toList = some (d, p) at hfu
  obtain ⟨xs, n, rfl, hx, hlen, hxl, hf⟩ := DataW.trod_struct rs_under hfu
  rw [show Try.prog.cellsOf 26 = 10 by kernel_rfl] at hlen
  rw [Prod.mk.injEq] at hx
  obtain ⟨rfl, _⟩ := hx
  obtain ⟨c0, c1, c2, c3, c4, c5, c6, c7, c8, c9, hl⟩ := list10 hlen
  rw [hl] at hf
  have q0 : (Try.prog.fieldsOf 26)[0]?.map (fun f => (f.type, f.offset)) = some (22, 0) := by kernel_rfl
  have q1 : (Try.prog.fieldsOf 26)[1]?.map (fun f => (f.type, f.offset)) = some (23, 1) := by kernel_rfl
  have q2 : (Try.prog.fieldsOf 26)[2]?.map (fun f => (f.type, f.offset)) = some (24, 2) := by kernel_rfl
  obtain ⟨y0, g0, k0⟩ := field_at hf hxl q0 (c := 1) (by kernel_rfl)
  obtain ⟨y1, g1, k1⟩ := field_at hf hxl q1 (c := 1) (by kernel_rfl)
  obtain ⟨y2, g2, k2⟩ := field_at hf hxl q2 (c := 1) (by kernel_rfl)
  obtain ⟨y3, g3, k3⟩ := field_at hf hxl (i := 3) (t := 3) (o := 3) (by kernel_rfl) (c := 1) (by kernel_rfl)
  obtain ⟨y4, g4, k4⟩ := field_at hf hxl (i := 4) (t := 3) (o := 4) (by kernel_rfl) (c := 1) (by kernel_rfl)
  obtain ⟨y5, g5, k5⟩ := field_at hf hxl (i := 5) (t := 3) (o := 5) (by kernel_rfl) (c := 1) (by kernel_rfl)
  obtain ⟨y6, g6, k6⟩ := field_at hf hxl (i := 6) (t := 4) (o := 6) (by kernel_rfl) (c := 1) (by kernel_rfl)
  obtain ⟨y7, g7, k7⟩ := field_at hf hxl (i := 7) (t := 4) (o := 7) (by kernel_rfl) (c := 1) (by kernel_rfl)
  obtain ⟨y8, g8, k8⟩ := field_at hf hxl (i := 8) (t := 4) (o := 8) (by kernel_rfl) (c := 1) (by kernel_rfl)
  obtain ⟨y9, g9, k9⟩ := field_at hf hxl (i := 9) (t := 4) (o := 9) (by kernel_rfl) (c := 1) (by kernel_rfl)
  obtain ⟨z3, e3, _⟩ := DataW.trod_int Try.underlying3 k3
  obtain ⟨z4, e4, _⟩ := DataW.trod_int Try.underlying3 k4
  obtain ⟨z5, e5, _⟩ := DataW.trod_int Try.underlying3 k5
  obtain ⟨z6, e6, _⟩ := DataW.trod_bool Try.underlying4 k6
  obtain ⟨z7, e7, _⟩ := DataW.trod_bool Try.underlying4 k7
  obtain ⟨z8, e8, _⟩ := DataW.trod_bool Try.underlying4 k8
  obtain ⟨z9, e9, _⟩ := DataW.trod_bool Try.underlying4 k9
  obtain ⟨S, s1, s2, _⟩ := open_sl_of (R := fun _ => True) (f := adL) Try.underlying22 ad_cells18 (by omega) adL_len (fun h _ => by obtain ⟨a, ha⟩ := open_adL h; exact ⟨a, ha, trivial⟩) (show DataW.trod enc Try.prog w base spare held n 22 [c0] = some (y0.1, y0.2) from k0) (weight_at rs_under hz q0 g0)
  obtain ⟨N, n1, n2, n3⟩ := open_sl_of (R := NmRaw w) (f := nmF) Try.underlying23 (show Try.prog.cellsOf 55 = 1 by kernel_rfl) (by omega) nmF_len (fun h hz => open_nm h hz) (show DataW.trod enc Try.prog w base spare held n 23 [c1] = some (y1.1, y1.2) from k1) (weight_at rs_under hz q1 g1)
  obtain ⟨F, f1, f2, _⟩ := open_sl_of (R := fun _ => True) (f := pfL) Try.underlying24 pf_cells19 (by omega) pfL_len (fun h _ => by obtain ⟨a, ha⟩ := open_pfL h; exact ⟨a, ha, trivial⟩) (show DataW.trod enc Try.prog w base spare held n 24 [c2] = some (y2.1, y2.2) from k2) (weight_at rs_under hz q2 g2)
  refine ⟨c0, c1, c2, ⟨S, N, F, z3, z4, z5, z6, z7, z8, z9⟩, ?_, ⟨s1, n1, f1, n3, s2, n2, f2⟩⟩
  rw [hcs]
  have ee : cs = cs.toList.toArray := by simp
  rw [ee, hl]
  have x3 : c3 = .int .i64 z3 := by simpa using e3
  have x4 : c4 = .int .i64 z4 := by simpa using e4
  have x5 : c5 = .int .i64 z5 := by simpa using e5
  have x6 : c6 = .bool z6 := by simpa using e6
  have x7 : c7 = .bool z7 := by simpa using e7
  have x8 : c8 = .bool z8 := by simpa using e8
  have x9 : c9 = .bool z9 := by simpa using e9
  subst x3 x4 x5 x6 x7 x8 x9
  rfl
set_option maxRecDepth 100000 in
theorem open_rsv {v : Value} {d : DataW H} {p : List MemPlace} (hv : Value.okWide Try.prog w r b0 26 v) (h : DataW.Trod enc Try.prog w base spare held 26 v d p) (hz : ∀ n ∈ d.weights Try.prog 26, n ≤ reachBytes) :
    ∃ a : Value × Value × Value × Rs, RsArg w v a := by
  obtain ⟨vs, vn, vp, R, h1, h2⟩ := open_rs hv h hz
  exact ⟨(vs, vn, vp, R), h1, h2⟩
end
end Go.Proofs.Ytebfgaapcpehmaa
