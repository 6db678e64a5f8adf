/- Contracts and plain lemmas of our own, merged. -/
import Derived.Test.YtgebcifkbldfoaaGreatDoorZSB38
import Derived.Test.YtgebcifkbldfoaaGreatDoorZSB7
import Derived.Deep.Slices
/- Events as an argument of a law. -/
namespace Go.Proofs.YtgebcifkbldfoaaGreatDoor
open Go.ChangeShapes Go.WideShapes Go.ChangeAt Go.RowKit

section
variable {H : Type} {enc : TypeId × Value → H} {P : Program} {w : World} {base b0 : Nat} {spare : Nat → Bool} {held : Bool} {r : Reach}
theorem list_lt {α : Type} {p : Nat → α → Prop} : ∀ (n : Nat), (∀ i, i < n → ∃ x, p i x) → ∃ L : List α, L.length = n ∧ ∀ i (h : i < L.length), p i L[i]
  | 0, _ => ⟨[], rfl, fun i h => absurd h (by simp)⟩
  | n + 1, h => by
    obtain ⟨L, h1, h2⟩ := list_lt n (fun i hi => h i (by omega))
    obtain ⟨x, hx⟩ := h n (by omega)
    refine ⟨L ++ [x], by simp [h1], fun i hi => ?_⟩
    rcases Nat.lt_or_ge i L.length with hlt | hge
    · rw [List.getElem_append_left hlt]; exact h2 i hlt
    · have : i = n := by simp at hi; omega
      subst this
      rw [List.getElem_append_right (by omega)]
      simpa using hx
theorem sl_of_addS {a : Addr} {len cap s : Nat} {vs : List Value} (hl : len ≤ cap) (hn : vs.length = len * s) (hs : 0 < s) (hc : ∀ i u, vs[i]? = some u → w.cell? (a.add i) = some u) :
    Sl w s (.slice (some a) len cap) len vs := by
  refine ⟨hn, some a, cap, rfl, hl, fun h => (by cases h), fun ad had hpos => ?_⟩
  injection had with had
  subst had
  obtain ⟨b, off, sp⟩ := a
  have hpos' : 0 < vs.length := by rw [hn]; exact Nat.mul_pos hpos hs
  have h0 := hc 0 vs[0] (List.getElem?_eq_getElem hpos')
  have hsp : sp = none := by simpa [Addr.add] using World.cell?_spot h0
  subst hsp
  have hlt := lt_of_cell h0
  rw [block_add] at hlt
  refine ⟨hlt, rfl, fun j u hu => ?_⟩
  have := hc j u hu
  rwa [add_none] at this
theorem open_sl_of {α : Type} {f : α → List Value} {s : Nat} {R : α → Prop} {t e : TypeId} (ht : P.underlying t = some (.slice e)) (hC : P.cellsOf e = s) (hs : 0 < s) (hlen : ∀ a, (f a).length = s)
    (dec : ∀ {fuel : Nat} {cs : List Value} {d : DataW H} {p : List MemPlace}, DataW.trod enc P w base spare held fuel e cs = some (d, p) → (∀ n ∈ d.weights P e, n ≤ reachBytes) → ∃ a, cs = f a ∧ R a)
    {fuel : Nat} {v : Value} {d : DataW H} {p : List MemPlace} (h : DataW.trod enc P w base spare held fuel t [v] = some (d, p)) (hz : ∀ n ∈ d.weights P t, n ≤ reachBytes) :
    ∃ L : List α, Sl w s v L.length (L.flatMap f) ∧ L.length ≤ maxLen ∧ ∀ a ∈ L, R a := by
  rcases Go.Deep.open_slice ht h with ⟨hcs, _⟩ | ⟨a, len, cap, m, n, D, Pl, hcs, _, hl, hm, hmm, hx, hel⟩
  · have : v = .slice none 0 0 := by simpa using hcs
    subst this
    exact ⟨[], Sl.nil _ _, Nat.zero_le _, fun _ h => by cases h⟩
  · have : v = .slice (some a) len cap := by simpa using hcs
    subst this
    have hlm : len ≤ m := by rw [hmm]; split <;> omega
    rw [Prod.mk.injEq] at hx
    obtain ⟨rfl, _⟩ := hx
    obtain ⟨L, h1, h2⟩ := list_lt (p := fun i x => (w.cells? base (a.add (i * s)) s = some (f x)) ∧ R x) len (fun i hi => by
      obtain ⟨cs', c1, c2⟩ := hel i (by omega)
      rw [hC] at c1
      obtain ⟨x, rfl, hR⟩ := dec c2 (fun k hk => hz k (mem_weights_slice ht (List.mem_map.2 ⟨i, List.mem_range.2 hi, rfl⟩) hk))
      exact ⟨x, c1, hR⟩)
    refine ⟨L, ?_, by omega, fun x hx => ?_⟩
    · rw [h1]
      refine sl_of_addS hl (by rw [flat_len hlen, h1]) hs (fun j u hu => ?_)
      have hjl : j < L.length * s := by
        have := (List.getElem?_eq_some_iff.1 hu).1
        rwa [flat_len hlen] at this
      have hk : j / s < L.length := (Nat.div_lt_iff_lt_mul hs).2 hjl
      have hr := Nat.mod_lt j hs
      have hj : j / s * s + j % s = j := by rw [Nat.mul_comm]; exact Nat.div_add_mod j s
      have hf := flat_at hlen L (j / s) hk (j % s) hr
      rw [hj, hu] at hf
      obtain ⟨_, _, hcell⟩ := World.cells?_some (h2 _ hk).1
      have := hcell (j % s) hr
      rw [Go.Deep.add_add, hj, ← hf] at this
      exact this
    · obtain ⟨i, hi, rfl⟩ := List.getElem_of_mem hx
      exact (h2 i hi).2

/-- a field of one cell of a struct that is read. -/
theorem field_at {fs : Array Field} {xs : List (DataW H × List MemPlace)} {n : Nat} {cs : List Value}
    (hf : ∀ (i : Nat) (f : Field), fs[i]? = some f → DataW.trod enc P w base spare held n f.type ((cs.drop f.offset).take (P.cellsOf f.type)) = xs[i]?) (hxl : xs.length = fs.size)
    {i o : Nat} {t : TypeId} (h : fs[i]?.map (fun f => (f.type, f.offset)) = some (t, o)) {c : Nat} (hc : P.cellsOf t = c) : ∃ y, xs[i]? = some y ∧ DataW.trod enc P w base spare held n t ((cs.drop o).take c) = some y := by
  obtain ⟨f, g, rfl, rfl⟩ := field_of h
  have hi : i < fs.size := (Array.getElem?_eq_some_iff.1 g).1
  have e := hf i f g
  obtain ⟨y, hy⟩ := some_of_len (l := xs) (i := i) (by omega)
  exact ⟨y, hy, by rw [hy, hc] at e; exact e⟩
theorem weight_at {fs : Array Field} {xs : List (DataW H × List MemPlace)} {t0 : TypeId} (hu : P.underlying t0 = some (.struct fs)) (hz : ∀ n ∈ (DataW.agg (xs.map (·.1))).weights P t0, n ≤ reachBytes)
    {i o : Nat} {t : TypeId} (h : fs[i]?.map (fun f => (f.type, f.offset)) = some (t, o)) {y : DataW H × List MemPlace} (hy : xs[i]? = some y) : ∀ n ∈ y.1.weights P t, n ≤ reachBytes := by
  intro n hn
  obtain ⟨f, g, rfl, _⟩ := field_of h
  refine hz n ?_
  simp only [DataW.weights, hu]
  refine DataW.weights_mem_each (j := i) (t := f.type) (d := y.1) ?_ ?_ n hn
  · rw [List.getElem?_map, Array.getElem?_toList, g]; rfl
  · rw [List.getElem?_map, hy]; rfl
theorem ev_cells22 : Tryz.prog.cellsOf 33 = 22 := by kernel_rfl
theorem drop_cut (l : List Value) (n m : Nat) : l.drop n = (l.drop n).take m ++ l.drop (n + m) := by rw [← List.drop_drop, List.take_append_drop]
theorem open_evL {fuel : Nat} {cs : List Value} {d : DataW H} {p : List MemPlace} (h : DataW.trod enc Tryz.prog w base spare held fuel 33 cs = some (d, p)) (hz : ∀ n ∈ d.weights Tryz.prog 33, n ≤ reachBytes) : ∃ a : Ev, cs = evL a ∧ a.d.length ≤ 140737488351232 := by
  obtain ⟨xs, n, rfl, hx, hlen, hxl, hf⟩ := DataW.trod_struct ev_under h
  rw [Prod.mk.injEq] at hx
  obtain ⟨rfl, _⟩ := hx
  rw [ev_cells22] at hlen
  have q4 : (Tryz.prog.fieldsOf 33)[4]?.map (fun f => (f.type, f.offset)) = some (9, 21) := by kernel_rfl
  obtain ⟨y0, g0, k0⟩ := field_at hf hxl (i := 0) (t := 3) (o := 0) (by kernel_rfl) (c := 1) (by kernel_rfl)
  obtain ⟨y1, g1, k1⟩ := field_at hf hxl (i := 1) (t := 31) (o := 1) (by kernel_rfl) (c := 18) (by kernel_rfl)
  obtain ⟨y2, g2, k2⟩ := field_at hf hxl (i := 2) (t := 3) (o := 19) (by kernel_rfl) (c := 1) (by kernel_rfl)
  obtain ⟨y3, g3, k3⟩ := field_at hf hxl (i := 3) (t := 3) (o := 20) (by kernel_rfl) (c := 1) (by kernel_rfl)
  obtain ⟨y4, g4, k4⟩ := field_at hf hxl q4 (c := 1) (by kernel_rfl)
  obtain ⟨kk, c0, _, _⟩ := DataW.trod_int Tryz.underlying3 k0
  obtain ⟨a, c1⟩ := open_adL k1
  obtain ⟨fp, c2, _, _⟩ := DataW.trod_int Tryz.underlying3 k2
  obtain ⟨pp, c3, _, _⟩ := DataW.trod_int Tryz.underlying3 k3
  obtain ⟨s, c4, hx4, _⟩ := DataW.trod_string Tryz.underlying9 k4
  refine ⟨⟨kk, a, fp, pp, s.data.toList⟩, ?_, ?_⟩
  · have e : cs = cs.drop 0 := rfl
    rw [e, drop_cut cs 0 1, drop_cut cs (0 + 1) 18, drop_cut cs (0 + 1 + 18) 1, drop_cut cs (0 + 1 + 18 + 1) 1, drop_cut cs (0 + 1 + 18 + 1 + 1) 1, List.drop_eq_nil_of_le (i := 0 + 1 + 18 + 1 + 1 + 1) (by omega)]
    rw [show (cs.drop 0).take 1 = _ from c0, show (cs.drop (0 + 1)).take 18 = _ from c1, show (cs.drop (0 + 1 + 18)).take 1 = _ from c2, show (cs.drop (0 + 1 + 18 + 1)).take 1 = _ from c3, show (cs.drop (0 + 1 + 18 + 1 + 1)).take 1 = _ from c4]
    simp [evL, stv]
  · have := weight_at ev_under hz q4 g4 s.data.toList.length (by rw [hx4]; simp [DataW.weights])
    unfold reachBytes at this
    omega
set_option maxRecDepth 100000 in
theorem open_evs {v : Value} {d : DataW H} {p : List MemPlace} (hv : Value.okWide Tryz.prog w r b0 22 v) (h : DataW.Trod enc Tryz.prog w base spare held 22 v d p) (hz : ∀ n ∈ d.weights Tryz.prog 22, n ≤ reachBytes) : ∃ L : List Ev, EvArg w v L := by
  obtain ⟨a0, len0, cap0, rfl⟩ := okWide_slice Tryz.underlying22 hv
  obtain ⟨fuel, hf⟩ := h
  obtain ⟨S, s1, s2, s3⟩ := open_sl_of (R := fun e : Ev => e.d.length ≤ 140737488351232) (f := evL) Tryz.underlying22 ev_cells22 (by omega) evL_len (fun h hz => open_evL h hz) (show DataW.trod enc Tryz.prog w base spare held fuel 22 [.slice a0 len0 cap0] = some (d, p) from hf) hz
  exact ⟨S, s1, s2, s3⟩
end
end Go.Proofs.YtgebcifkbldfoaaGreatDoor
