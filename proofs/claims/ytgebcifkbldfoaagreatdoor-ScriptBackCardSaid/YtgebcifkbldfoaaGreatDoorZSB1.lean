/- Contracts and plain lemmas of our own, merged. -/
import Derived.WalkKit
import Derived.WalkSpells
import Derived.WalkLawsBesides
import Derived.Deep.QuietTactic
import Derived.BigQuiet
import Derived.Lib.Hide
import Derived.Maps.AppendAt
import Derived.Laws.AppendOwnNone
import Derived.Deep.Draws
import Derived.Laws.OwnMore
import Derived.Deep.RegionWith
import Derived.Lib.Strings
import Derived.StillTailTactics
import Derived.Deep.RegionHeld3
import Derived.Deep.RegionLaw
import Derived.Laws.CopyOwn
import Derived.Deep.DeepFit
import Derived.Deep.DeepCutAuto
import Derived.Lib.SlBytesConst
/- Words of our own for slices that are read, and for appends onto rows of the call's own: plain lemmas over any program. -/
namespace Go.Proofs.YtgebcifkbldfoaaGreatDoor
open Go.RowKit

theorem ba_get (l : List UInt8) (i : Nat) (h : i < (ByteArray.mk l.toArray).size) : (ByteArray.mk l.toArray)[i]'h = l[i]'(show i < l.length from h) := rfl
theorem ext_any (r : List UInt8) (i j : Nat) : (ByteArray.mk r.toArray).extract i j = ⟨((r.take j).drop i).toArray⟩ := by
  apply ByteArray.ext
  apply Array.ext'
  rw [Lib.extract_data, List.drop_take]
theorem ext_drop (r : List UInt8) (i : Nat) : (ByteArray.mk r.toArray).extract i r.length = ⟨(r.drop i).toArray⟩ := by
  rw [ext_any]; simp
theorem ext_take (r : List UInt8) (j : Nat) : (ByteArray.mk r.toArray).extract 0 j = ⟨(r.take j).toArray⟩ := by
  rw [ext_any]; simp
theorem vint {k : IntKind} {a b : Int} (h : a = b) : Value.int k a = .int k b := by rw [h]
theorem vstr {a b : List UInt8} (h : a = b) : Value.string ⟨a.toArray⟩ = .string ⟨b.toArray⟩ := by rw [h]
theorem retb {a b : Bool} (h : a = b) : Ending.returned (.bool a) = .returned (.bool b) := by rw [h]
theorem reti {k : IntKind} {a b : Int} (h : a = b) : Ending.returned (.int k a) = .returned (.int k b) := by rw [h]
/-- how long the text in a slot is: for a loop's measure. -/
def strLen : Value → Nat
  | .string s => s.size
  | _ => 0
theorem strLen_mk (l : List UInt8) : strLen (.string ⟨l.toArray⟩) = l.length := rfl

/-- the slice v, of n members of 'size' cells each, reads as the cells xs. -/
def Sl (w : World) (size : Nat) (v : Value) (n : Nat) (xs : List Value) : Prop :=
  xs.length = n * size ∧ ∃ A c, v = .slice A n c ∧ n ≤ c ∧ (A = none → c = 0) ∧
    ∀ ad, A = some ad → 0 < n → ad.block < w.heap.size ∧ ad.spot = none ∧ ∀ j u, xs[j]? = some u → w.cell? ⟨ad.block, ad.off + j, none⟩ = some u

section
variable {w w' : World} {size n : Nat} {v : Value} {xs : List Value}

theorem Sl.pos (h : Sl w size v n xs) (hn : 0 < n) : ∃ b off c, v = .slice (some ⟨b, off, none⟩) n c ∧ n ≤ c ∧ b < w.heap.size ∧ ∀ j u, xs[j]? = some u → w.cell? ⟨b, off + j, none⟩ = some u := by
  obtain ⟨_, A, c, rfl, hc, hA, hcell⟩ := h
  match A, hA, hcell with
  | none, hA, _ => have := hA rfl; omega
  | some ⟨b, off, sp⟩, _, hcell =>
    obtain ⟨h1, h2, h3⟩ := hcell _ rfl hn
    dsimp only at h1 h2 h3
    subst h2
    exact ⟨b, off, c, rfl, hc, h1, h3⟩
theorem Sl.zero (h : Sl w size v 0 xs) : ∃ A c, v = .slice A 0 c ∧ xs = [] := by
  obtain ⟨h0, A, c, rfl, _⟩ := h
  exact ⟨A, c, rfl, List.eq_nil_of_length_eq_zero (by simpa using h0)⟩
theorem Sl.any (h : Sl w size v n xs) : ∃ A c, v = .slice A n c ∧ n ≤ c := by
  obtain ⟨_, A, c, rfl, hc, _⟩ := h
  exact ⟨A, c, rfl, hc⟩
theorem Sl.below (h : Sl w size v n xs) (hb : Below w.heap.size w w') : Sl w' size v n xs := by
  obtain ⟨h0, A, c, hv, hc, hA, hcell⟩ := h
  refine ⟨h0, A, c, hv, hc, hA, fun ad had hn => ?_⟩
  obtain ⟨h1, h2, h3⟩ := hcell ad had hn
  exact ⟨Nat.lt_of_lt_of_le h1 hb.size, h2, fun j u hu => (hb.cell (p := ⟨ad.block, ad.off + j, none⟩) h1).trans (h3 j u hu)⟩
theorem Sl.alloc (h : Sl w size v n xs) (o : Obj) : Sl (w.alloc o) size v n xs := h.below ((Below.refl _ _).alloc (Nat.le_refl _) o)
theorem Sl.drew (h : Sl w size v n xs) : Sl w.drew size v n xs := h.below (Below.refl _ _).drew
theorem Sl.nil (w : World) (size : Nat) : Sl w size (.slice none 0 0) 0 [] := ⟨by simp, none, 0, rfl, Nat.le_refl _, fun _ => rfl, fun _ h => by cases h⟩
theorem add_none (b off j : Nat) : (⟨b, off, none⟩ : Addr).add j = ⟨b, off + j, none⟩ := by
  unfold Addr.add
  split
  · next h => subst h; rfl
  · rfl
theorem Sl.own {base : Nat} {e : TypeId} (h : w.ownsRow base e size v n xs) : Sl w size v n xs := by
  have hcells := fun g hg => h.cells (g := g) hg
  have hlt := h.lt
  obtain ⟨h0, h1⟩ := h
  refine ⟨h0, ?_⟩
  rcases h1 with ⟨rfl, rfl⟩ | ⟨g, cap, cur, rfl, _, hh, hnc, _, _, _⟩
  · exact ⟨none, 0, rfl, Nat.le_refl _, fun _ => rfl, fun _ h => by cases h⟩
  · refine ⟨_, cap, rfl, hnc, fun h => (by cases h), fun ad had _ => ?_⟩
    injection had with had
    subst had
    refine ⟨(hlt g rfl).2, rfl, fun j u hu => ?_⟩
    have := hcells g rfl j u hu
    rw [add_none] at this
    exact this
theorem Sl.new (w : World) (us : List Value) (e : TypeId) : Sl (w.alloc (.cells us.toArray e)) 1 (.slice (some ⟨w.heap.size, 0, none⟩) us.length us.length) us.length us := by
  refine ⟨by simp, _, us.length, rfl, Nat.le_refl _, fun h => (by cases h), fun ad had _ => ?_⟩
  injection had with had
  subst had
  refine ⟨by simp, rfl, fun j u hu => ?_⟩
  have := cell_of_row (w.alloc (.cells us.toArray e)) w.heap.size (0 + j) us.toArray e (0, 0) (heap_alloc_new w _)
  rw [this]
  simpa using hu
end

/-- the facts on an element type that an append asks. -/
structure Elt (P : Program) (t e : TypeId) (size bytes : Nat) : Prop where
  under : P.underlying t = some (.slice e)
  info : ∃ i z, P.info? e = some i ∧ i.zero = some z ∧ i.size = size ∧ i.bytes = bytes ∧ z.cells.size = size
  pos : 0 < size

theorem Elt.mk' {P : Program} {t e : TypeId} {size bytes : Nat} {z : Value} (hu : P.underlying t = some (.slice e)) (h : (P.info? e).map (fun i => (i.zero, i.size, i.bytes)) = some (some z, size, bytes)) (hz : z.cells.size = size) (hp : 0 < size) : Elt P t e size bytes := by
  obtain ⟨i, h1, h2, h3, h4⟩ := info_parts h
  exact ⟨hu, ⟨i, z, h1, h2, h3, h4, hz⟩, hp⟩

/-- 'append(s, x..)' onto a row of the call's own, x whatever reads as 'news' (nil, empty or not). -/
theorem wpList_app {P : Program} {w : World} {ops : Array Oper} {rest : List Oper} {o : Oper} {a : Act} {Q : Exit → Act → World → Prop} (hgd : o.guard = none) (s x : Operand) (t : TypeId)
    (ho : o.op = .call { callee := .builtin .append, args := #[s, x], argTypes := #[t, t] })
    {base : Nat} {e : TypeId} {size bytes : Nat} (el : Elt P t e size bytes) {v : Value} {n : Nat} {xs : List Value} (hs : a.eval s = v) (hown : w.ownsRow base e size v n xs)
    {vx : Value} {m : Nat} {news : List Value} (hx : a.eval x = vx) (hsl : Sl w size vx m news) (h1 : ∀ u ∈ news, u.oneCell' = true) (hb : base ≤ w.heap.size)
    (hby : (n + m) * bytes ≤ 140737488355328) (hm : n + m ≤ 140737488355328)
    (h : ∀ v' w', w'.ownsRow base e size v' (n + m) (xs ++ news) → Below base w w' → w.grownBy w' v.ownBlock → wpList P ops Q rest (a.put o.dst v') w') : wpList P ops Q (o :: rest) a w := by
  obtain ⟨i, z, hi, hz, hz1, hz2, hz3⟩ := el.info
  obtain ⟨h0, A, c, rfl, hc, hA, hcell⟩ := hsl
  match A, hA, hcell, hx with
  | none, hA, _, hx =>
    have hc0 := hA rfl
    subst hc0
    have hm0 : m = 0 := by omega
    subst hm0
    have hn0 : news = [] := List.eq_nil_of_length_eq_zero (by simpa using h0)
    subst hn0
    refine wpList_append_own_none hgd s x t ho base e i size el.under hi v n xs hs hown hx (h _ _ ?_ (Below.refl _ _) (World.grownBy.refl w _))
    simpa using hown
  | some ad, _, hcell, hx =>
    refine wpList_append_own w hgd s x t ho base e i z size bytes el.under hi hz hz1 hz2 hz3 el.pos v n xs hs hown ad m c news hx h0 ?_ h1 (by simp only [maxLen]; omega) hby hb ?_
    · intro j u hu
      rcases Nat.eq_zero_or_pos m with hm0 | hm0
      · subst hm0
        have hn0 : news = [] := List.eq_nil_of_length_eq_zero (by simpa using h0)
        subst hn0
        simp at hu
      · obtain ⟨_, hsp, hh⟩ := hcell ad rfl hm0
        obtain ⟨b, off, sp⟩ := ad
        dsimp only at hsp hh
        subst hsp
        rw [add_none]
        exact hh j u hu
    · intro v' w' hown' hg _
      exact h v' w' hown' ((Below.refl _ _).grown hg hb (fun k hk => (hown.lt k hk).1)) hg

/-- 'append(s, x, y ..)' of members that are written out: they are laid in a new block first. -/
theorem wpList_appLit {P : Program} {w : World} {ops : Array Oper} {rest : List Oper} {o : Oper} {a : Act} {Q : Exit → Act → World → Prop} (hgd : o.guard = none) (s x : Operand) (t : TypeId)
    (ho : o.op = .call { callee := .builtin .append, args := #[s, x], argTypes := #[t, t] })
    {base : Nat} {e : TypeId} {bytes : Nat} (el : Elt P t e 1 bytes) {v : Value} {n : Nat} {xs : List Value} (hs : a.eval s = v) (hown : w.ownsRow base e 1 v n xs)
    (us : List Value) {m : Nat} (hm0 : us.length = m) (hx : a.eval x = .slice (some ⟨w.heap.size, 0, none⟩) m m) (h1 : ∀ u ∈ us, u.oneCell' = true) (hb : base ≤ w.heap.size)
    (hby : (n + m) * bytes ≤ 140737488355328) (hm : n + m ≤ 140737488355328)
    (h : ∀ v' w', w'.ownsRow base e 1 v' (n + m) (xs ++ us) → Below base w w' → w.grownBy w' v.ownBlock → wpList P ops Q rest (a.put o.dst v') w') : wpList P ops Q (o :: rest) a (w.alloc (.cells us.toArray e)) := by
  subst hm0
  refine wpList_app hgd s x t ho el hs (hown.alloc _) hx (Sl.new w us e) h1 (by simp; omega) hby hm ?_
  intro v' w' ho' hb' hg'
  refine h v' w' ho' (((Below.refl _ _).alloc hb _).trans hb') ?_
  exact (World.grownBy_alloc w _ _).trans hg'

theorem own_below {w w' : World} {base : Nat} {e : TypeId} {size n : Nat} {v : Value} {xs : List Value} (h : w.ownsRow base e size v n xs) (hb : Below w.heap.size w w') : w'.ownsRow base e size v n xs :=
  h.kept (row := none) ⟨hb.os, hb.tape, hb.output, hb.size, fun k hk _ => hb.block k hk⟩ (by cases hh : v.ownBlock <;> simp)
theorem bel_drew {w w1 : World} (h : Below w.drew.heap.size w.drew w1) : Below w.heap.size w w1 := ((Below.refl _ _).drew).trans h
theorem bel_cells {W w1 : World} (hb : Below W.heap.size W w1) {b : Nat} (h : b < W.heap.size) (o : Nat) : w1.cell? ⟨b, o, none⟩ = W.cell? ⟨b, o, none⟩ := hb.cell (p := ⟨b, o, none⟩) h
end Go.Proofs.YtgebcifkbldfoaaGreatDoor

/- More words of our own: make, and facts on bits. -/
namespace Go.Proofs.YtgebcifkbldfoaaGreatDoor
open Go.RowKit

/-- 'make([]T, 0, n)': a row of the call's own without members. -/
theorem wpList_mk0 {P : Program} {w : World} {ops : Array Oper} {rest : List Oper} {o : Oper} {a : Act} {Q : Exit → Act → World → Prop} (hg : o.guard = none) (l c : Operand) (t : TypeId) (hop : o.op = Op.makeSlice t l c)
    {base : Nat} {e : TypeId} {size bytes : Nat} (el : Elt P t e size bytes) {kl kc : IntKind} {C : Int} (n : Nat) (hl : a.eval l = .int kl 0) (hc : a.eval c = .int kc C) (hC : C = (n : Int))
    (b2 : bytes * n ≤ 281474976710656) (b3 : n ≤ 140737488355328) (b4 : base ≤ w.heap.size)
    (hK : ∀ w', w'.ownsRow base e size (.slice (some ⟨w.heap.size, 0, none⟩) 0 n) 0 [] → Below base w w' → wpList P ops Q rest (a.put o.dst (.slice (some ⟨w.heap.size, 0, none⟩) 0 n)) w') : wpList P ops Q (o :: rest) a w := by
  obtain ⟨i, z, hi, hz, hz1, hz2, hz3⟩ := el.info
  refine wpList_make_own w hg l c t hop base e i z size el.under hi hz hz1 kl kc C n hl hc hC (by rw [hz2]; exact b2) (by simp only [maxLen]; omega) b4 ?_
  intro w' h1 h2
  exact hK w' h1 ((Below.refl _ _).grown h2 b4 (fun k hk => by cases hk))

end Go.Proofs.YtgebcifkbldfoaaGreatDoor
