/- Contracts and plain lemmas of our own, merged. -/
import Derived.Test.YtgebcifkbldfoaaDoorZNb33
import Derived.Test.YtgebcifkbldfoaaDoorZNb7
import Derived.Deep.Slices
/- Sources as an argument of a law. -/
namespace Go.Proofs.YtgebcifkbldfoaaDoor
open Go.ChangeShapes Go.WideShapes Go.ChangeAt Go.RowKit

section
variable {H : Type} {enc : TypeId × Value → H} {P : Program} {w : World} {base b0 : Nat} {spare : Nat → Bool} {held : Bool} {r : Reach}
theorem list_lt {α : Type} {p : Nat → α → Prop} : ∀ (n : Nat), (∀ i, i < n → ∃ x, p i x) → ∃ L : List α, L.length = n ∧ ∀ i (h : i < L.length), p i L[i]
  | 0, _ => ⟨[], rfl, fun i h => absurd h (by simp)⟩
  | n + 1, h => by
    obtain ⟨L, h1, h2⟩ := list_lt n (fun i hi => h i (by omega))
    obtain ⟨x, hx⟩ := h n (by omega)
    refine ⟨L ++ [x], by simp [h1], fun i hi => ?_⟩
    rcases Nat.lt_or_ge i L.length with hlt | hge
    · rw [List.getElem_append_left hlt]; exact h2 i hlt
    · have : i = n := by simp at hi; omega
      subst this
      rw [List.getElem_append_right (by omega)]
      simpa using hx
theorem sl_of_addS {a : Addr} {len cap s : Nat} {vs : List Value} (hl : len ≤ cap) (hn : vs.length = len * s) (hs : 0 < s) (hc : ∀ i u, vs[i]? = some u → w.cell? (a.add i) = some u) :
    Sl w s (.slice (some a) len cap) len vs := by
  refine ⟨hn, some a, cap, rfl, hl, fun h => (by cases h), fun ad had hpos => ?_⟩
  injection had with had
  subst had
  obtain ⟨b, off, sp⟩ := a
  have hpos' : 0 < vs.length := by rw [hn]; exact Nat.mul_pos hpos hs
  have h0 := hc 0 vs[0] (List.getElem?_eq_getElem hpos')
  have hsp : sp = none := by simpa [Addr.add] using World.cell?_spot h0
  subst hsp
  have hlt := lt_of_cell h0
  rw [block_add] at hlt
  refine ⟨hlt, rfl, fun j u hu => ?_⟩
  have := hc j u hu
  rwa [add_none] at this
theorem open_sl_of {α : Type} {f : α → List Value} {s : Nat} {R : α → Prop} {t e : TypeId} (ht : P.underlying t = some (.slice e)) (hC : P.cellsOf e = s) (hs : 0 < s) (hlen : ∀ a, (f a).length = s)
    (dec : ∀ {fuel : Nat} {cs : List Value} {d : DataW H} {p : List MemPlace}, DataW.trod enc P w base spare held fuel e cs = some (d, p) → (∀ n ∈ d.weights P e, n ≤ reachBytes) → ∃ a, cs = f a ∧ R a)
    {fuel : Nat} {v : Value} {d : DataW H} {p : List MemPlace} (h : DataW.trod enc P w base spare held fuel t [v] = some (d, p)) (hz : ∀ n ∈ d.weights P t, n ≤ reachBytes) :
    ∃ L : List α, Sl w s v L.length (L.flatMap f) ∧ L.length ≤ maxLen ∧ ∀ a ∈ L, R a := by
  rcases Go.Deep.open_slice ht h with ⟨hcs, _⟩ | ⟨a, len, cap, m, n, D, Pl, hcs, _, hl, hm, hmm, hx, hel⟩
  · have : v = .slice none 0 0 := by simpa using hcs
    subst this
    exact ⟨[], Sl.nil _ _, Nat.zero_le _, fun _ h => by cases h⟩
  · have : v = .slice (some a) len cap := by simpa using hcs
    subst this
    have hlm : len ≤ m := by rw [hmm]; split <;> omega
    rw [Prod.mk.injEq] at hx
    obtain ⟨rfl, _⟩ := hx
    obtain ⟨L, h1, h2⟩ := list_lt (p := fun i x => (w.cells? base (a.add (i * s)) s = some (f x)) ∧ R x) len (fun i hi => by
      obtain ⟨cs', c1, c2⟩ := hel i (by omega)
      rw [hC] at c1
      obtain ⟨x, rfl, hR⟩ := dec c2 (fun k hk => hz k (mem_weights_slice ht (List.mem_map.2 ⟨i, List.mem_range.2 hi, rfl⟩) hk))
      exact ⟨x, c1, hR⟩)
    refine ⟨L, ?_, by omega, fun x hx => ?_⟩
    · rw [h1]
      refine sl_of_addS hl (by rw [flat_len hlen, h1]) hs (fun j u hu => ?_)
      have hjl : j < L.length * s := by
        have := (List.getElem?_eq_some_iff.1 hu).1
        rwa [flat_len hlen] at this
      have hk : j / s < L.length := (Nat.div_lt_iff_lt_mul hs).2 hjl
      have hr := Nat.mod_lt j hs
      have hj : j / s * s + j % s = j := by rw [Nat.mul_comm]; exact Nat.div_add_mod j s
      have hf := flat_at hlen L (j / s) hk (j % s) hr
      rw [hj, hu] at hf
      obtain ⟨_, _, hcell⟩ := World.cells?_some (h2 _ hk).1
      have := hcell (j % s) hr
      rw [Go.Deep.add_add, hj, ← hf] at this
      exact this
    · obtain ⟨i, hi, rfl⟩ := List.getElem_of_mem hx
      exact (h2 i hi).2

/-- a field of one cell of a struct that is read. -/
theorem field_at {fs : Array Field} {xs : List (DataW H × List MemPlace)} {n : Nat} {cs : List Value}
    (hf : ∀ (i : Nat) (f : Field), fs[i]? = some f → DataW.trod enc P w base spare held n f.type ((cs.drop f.offset).take (P.cellsOf f.type)) = xs[i]?) (hxl : xs.length = fs.size)
    {i o : Nat} {t : TypeId} (h : fs[i]?.map (fun f => (f.type, f.offset)) = some (t, o)) {c : Nat} (hc : P.cellsOf t = c) : ∃ y, xs[i]? = some y ∧ DataW.trod enc P w base spare held n t ((cs.drop o).take c) = some y := by
  obtain ⟨f, g, rfl, rfl⟩ := field_of h
  have hi : i < fs.size := (Array.getElem?_eq_some_iff.1 g).1
  have e := hf i f g
  obtain ⟨y, hy⟩ := some_of_len (l := xs) (i := i) (by omega)
  exact ⟨y, hy, by rw [hy, hc] at e; exact e⟩
theorem bool_cells : ∀ (l : List Value), (∀ i, i < l.length → ∃ b, l[i]? = some (.bool b)) → ∃ b : List Bool, l = b.map .bool
  | [], _ => ⟨[], rfl⟩
  | v :: l, h => by
    obtain ⟨b, hb⟩ := bool_cells l (fun i hi => by
      obtain ⟨n, h1⟩ := h (i + 1) (by simp; omega)
      exact ⟨n, by simpa using h1⟩)
    obtain ⟨n, h1⟩ := h 0 (by simp)
    refine ⟨n :: b, ?_⟩
    rw [List.map_cons, ← hb]
    congr 1
    simpa using h1
theorem so_cells5 : Tryd.prog.cellsOf 27 = 5 := by kernel_rfl
theorem st_cells4 : Tryd.prog.cellsOf 25 = 4 := by kernel_rfl
theorem bo_cells1 : Tryd.prog.cellsOf 4 = 1 := by kernel_rfl
theorem open_soL {fuel : Nat} {cs : List Value} {x : DataW H × List MemPlace} (h : DataW.trod enc Tryd.prog w base spare held fuel 27 cs = some x) : ∃ a : So, cs = soL a := by
  obtain ⟨xs, n, rfl, _, hlen, hxl, hf⟩ := DataW.trod_struct so_under h
  rw [so_cells5] at hlen
  obtain ⟨y0, g0, k0⟩ := field_at hf hxl (i := 0) (t := 3) (o := 0) (by kernel_rfl) (c := 1) (by kernel_rfl)
  obtain ⟨y1, g1, k1⟩ := field_at hf hxl (i := 1) (t := 25) (o := 1) (by kernel_rfl) (c := 4) (by kernel_rfl)
  obtain ⟨k, c0, _, w0⟩ := DataW.trod_int Tryd.underlying3 k0
  obtain ⟨zs, m, rfl, _, hlen1, hzl, hfz⟩ := DataW.trod_array Tryd.underlying25 k1
  rw [st_cells4] at hlen1
  obtain ⟨st, hst⟩ := bool_cells ((cs.drop 1).take 4) (fun i hi => by
    rw [hlen1] at hi
    have h1 := hfz i hi
    rw [bo_cells1, Nat.mul_one] at h1
    obtain ⟨y, hy⟩ := some_of_len (l := zs) (i := i) (by omega)
    obtain ⟨z, hc, _⟩ := DataW.trod_bool Tryd.underlying4 (h1.trans hy)
    refine ⟨z, ?_⟩
    have := congrArg (fun l => l[0]?) hc
    simpa [List.getElem?_take, List.getElem?_drop] using this)
  have h4 : st.length = 4 := by
    have := congrArg List.length hst
    rw [hlen1, List.length_map] at this
    exact this.symm
  refine ⟨⟨k, st, h4⟩, ?_⟩
  have h1 := List.take_append_drop 1 cs
  have h2 := List.take_append_drop 4 (cs.drop 1)
  rw [List.drop_drop, show cs.drop (1 + 4) = [] from List.drop_eq_nil_of_le (by omega), List.append_nil] at h2
  rw [← h2, hst] at h1
  have h3 : cs.take 1 = [.int .i64 k] := by simpa using c0
  rw [h3] at h1
  exact h1.symm
set_option maxRecDepth 100000 in
theorem open_sos {v : Value} {d : DataW H} {p : List MemPlace} (hv : Value.okWide Tryd.prog w r b0 22 v) (h : DataW.Trod enc Tryd.prog w base spare held 22 v d p) (hz : ∀ n ∈ d.weights Tryd.prog 22, n ≤ reachBytes) : ∃ L : List So, SosArg w v L := by
  obtain ⟨a0, len0, cap0, rfl⟩ := okWide_slice Tryd.underlying22 hv
  obtain ⟨fuel, hf⟩ := h
  obtain ⟨S, s1, s2, s3⟩ := open_sl_of (R := fun _ => True) (f := soL) Tryd.underlying22 so_cells5 (by omega) soL_len (fun h hz => by obtain ⟨a, ha⟩ := open_soL h; exact ⟨a, ha, trivial⟩) (show DataW.trod enc Tryd.prog w base spare held fuel 22 [.slice a0 len0 cap0] = some (d, p) from hf) hz
  exact ⟨S, s1⟩
end
end Go.Proofs.YtgebcifkbldfoaaDoor
