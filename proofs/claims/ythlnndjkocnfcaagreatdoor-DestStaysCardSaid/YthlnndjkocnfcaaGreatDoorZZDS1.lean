/- Contracts and plain lemmas of our own, merged. -/
import Derived.WalkKit
import Derived.WalkSpells
import Derived.WalkLawsBesides
import Derived.Deep.QuietTactic
import Derived.BigQuiet
import Derived.Lib.Hide
import Derived.Maps.AppendAt
import Derived.Laws.AppendOwnNone
import Derived.Deep.Draws
import Derived.Laws.OwnMore
import Derived.Deep.RegionWith
import Derived.Lib.Strings
import Derived.StillTailTactics
import Derived.Deep.RegionHeld3
import Derived.Deep.RegionLaw
import Derived.Laws.CopyOwn
import Derived.Deep.DeepFit
import Derived.Deep.DeepCutAuto
import Derived.Lib.SlBytesConst
/- Words of our own for slices that are read, and for appends onto rows of the call's own: plain lemmas over any program. -/
namespace Go.Proofs.YthlnndjkocnfcaaGreatDoor
open Go.RowKit

theorem ba_get (l : List UInt8) (i : Nat) (h : i < (ByteArray.mk l.toArray).size) : (ByteArray.mk l.toArray)[i]'h = l[i]'(show i < l.length from h) := rfl
theorem ext_any (r : List UInt8) (i j : Nat) : (ByteArray.mk r.toArray).extract i j = ⟨((r.take j).drop i).toArray⟩ := by
  apply ByteArray.ext
  apply Array.ext'
  rw [Lib.extract_data, List.drop_take]
theorem ext_drop (r : List UInt8) (i : Nat) : (ByteArray.mk r.toArray).extract i r.length = ⟨(r.drop i).toArray⟩ := by
  rw [ext_any]; simp
theorem ext_take (r : List UInt8) (j : Nat) : (ByteArray.mk r.toArray).extract 0 j = ⟨(r.take j).toArray⟩ := by
  rw [ext_any]; simp
theorem vint {k : IntKind} {a b : Int} (h : a = b) : Value.int k a = .int k b := by rw [h]
theorem vstr {a b : List UInt8} (h : a = b) : Value.string ⟨a.toArray⟩ = .string ⟨b.toArray⟩ := by rw [h]
theorem retb {a b : Bool} (h : a = b) : Ending.returned (.bool a) = .returned (.bool b) := by rw [h]
theorem reti {k : IntKind} {a b : Int} (h : a = b) : Ending.returned (.int k a) = .returned (.int k b) := by rw [h]
/-- how long the text in a slot is: for a loop's measure. -/
def strLen : Value → Nat
  | .string s => s.size
  | _ => 0
theorem strLen_mk (l : List UInt8) : strLen (.string ⟨l.toArray⟩) = l.length := rfl

/-- the slice v, of n members of 'size' cells each, reads as the cells xs. -/
def Sl (w : World) (size : Nat) (v : Value) (n : Nat) (xs : List Value) : Prop :=
  xs.length = n * size ∧ ∃ A c, v = .slice A n c ∧ n ≤ c ∧ (A = none → c = 0) ∧
    ∀ ad, A = some ad → 0 < n → ad.block < w.heap.size ∧ ad.spot = none ∧ ∀ j u, xs[j]? = some u → w.cell? ⟨ad.block, ad.off + j, none⟩ = some u

section
variable {w w' : World} {size n : Nat} {v : Value} {xs : List Value}

theorem Sl.pos (h : Sl w size v n xs) (hn : 0 < n) : ∃ b off c, v = .slice (some ⟨b, off, none⟩) n c ∧ n ≤ c ∧ b < w.heap.size ∧ ∀ j u, xs[j]? = some u → w.cell? ⟨b, off + j, none⟩ = some u := by
  obtain ⟨_, A, c, rfl, hc, hA, hcell⟩ := h
  match A, hA, hcell with
  | none, hA, _ => have := hA rfl; omega
  | some ⟨b, off, sp⟩, _, hcell =>
    obtain ⟨h1, h2, h3⟩ := hcell _ rfl hn
    dsimp only at h1 h2 h3
    subst h2
    exact ⟨b, off, c, rfl, hc, h1, h3⟩
theorem Sl.zero (h : Sl w size v 0 xs) : ∃ A c, v = .slice A 0 c ∧ xs = [] := by
  obtain ⟨h0, A, c, rfl, _⟩ := h
  exact ⟨A, c, rfl, List.eq_nil_of_length_eq_zero (by simpa using h0)⟩
theorem Sl.any (h : Sl w size v n xs) : ∃ A c, v = .slice A n c ∧ n ≤ c := by
  obtain ⟨_, A, c, rfl, hc, _⟩ := h
  exact ⟨A, c, rfl, hc⟩
theorem Sl.below (h : Sl w size v n xs) (hb : Below w.heap.size w w') : Sl w' size v n xs := by
  obtain ⟨h0, A, c, hv, hc, hA, hcell⟩ := h
  refine ⟨h0, A, c, hv, hc, hA, fun ad had hn => ?_⟩
  obtain ⟨h1, h2, h3⟩ := hcell ad had hn
  exact ⟨Nat.lt_of_lt_of_le h1 hb.size, h2, fun j u hu => (hb.cell (p := ⟨ad.block, ad.off + j, none⟩) h1).trans (h3 j u hu)⟩
theorem Sl.alloc (h : Sl w size v n xs) (o : Obj) : Sl (w.alloc o) size v n xs := h.below ((Below.refl _ _).alloc (Nat.le_refl _) o)
theorem Sl.drew (h : Sl w size v n xs) : Sl w.drew size v n xs := h.below (Below.refl _ _).drew
theorem Sl.nil (w : World) (size : Nat) : Sl w size (.slice none 0 0) 0 [] := ⟨by simp, none, 0, rfl, Nat.le_refl _, fun _ => rfl, fun _ h => by cases h⟩
theorem add_none (b off j : Nat) : (⟨b, off, none⟩ : Addr).add j = ⟨b, off + j, none⟩ := by
  unfold Addr.add
  split
  · next h => subst h; rfl
  · rfl
theorem Sl.own {base : Nat} {e : TypeId} (h : w.ownsRow base e size v n xs) : Sl w size v n xs := by
  have hcells := fun g hg => h.cells (g := g) hg
  have hlt := h.lt
  obtain ⟨h0, h1⟩ := h
  refine ⟨h0, ?_⟩
  rcases h1 with ⟨rfl, rfl⟩ | ⟨g, cap, cur, rfl, _, hh, hnc, _, _, _⟩
  · exact ⟨none, 0, rfl, Nat.le_refl _, fun _ => rfl, fun _ h => by cases h⟩
  · refine ⟨_, cap, rfl, hnc, fun h => (by cases h), fun ad had _ => ?_⟩
    injection had with had
    subst had
    refine ⟨(hlt g rfl).2, rfl, fun j u hu => ?_⟩
    have := hcells g rfl j u hu
    rw [add_none] at this
    exact this
theorem Sl.new (w : World) (us : List Value) (e : TypeId) : Sl (w.alloc (.cells us.toArray e)) 1 (.slice (some ⟨w.heap.size, 0, none⟩) us.length us.length) us.length us := by
  refine ⟨by simp, _, us.length, rfl, Nat.le_refl _, fun h => (by cases h), fun ad had _ => ?_⟩
  injection had with had
  subst had
  refine ⟨by simp, rfl, fun j u hu => ?_⟩
  have := cell_of_row (w.alloc (.cells us.toArray e)) w.heap.size (0 + j) us.toArray e (0, 0) (heap_alloc_new w _)
  rw [this]
  simpa using hu
end

/-- the facts on an element type that an append asks. -/
structure Elt (P : Program) (t e : TypeId) (size bytes : Nat) : Prop where
  under : P.underlying t = some (.slice e)
  info : ∃ i z, P.info? e = some i ∧ i.zero = some z ∧ i.size = size ∧ i.bytes = bytes ∧ z.cells.size = size
  pos : 0 < size

theorem Elt.mk' {P : Program} {t e : TypeId} {size bytes : Nat} {z : Value} (hu : P.underlying t = some (.slice e)) (h : (P.info? e).map (fun i => (i.zero, i.size, i.bytes)) = some (some z, size, bytes)) (hz : z.cells.size = size) (hp : 0 < size) : Elt P t e size bytes := by
  obtain ⟨i, h1, h2, h3, h4⟩ := info_parts h
  exact ⟨hu, ⟨i, z, h1, h2, h3, h4, hz⟩, hp⟩

/-- 'append(s, x..)' onto a row of the call's own, x whatever reads as 'news' (nil, empty or not). -/
theorem wpList_app {P : Program} {w : World} {ops : Array Oper} {rest : List Oper} {o : Oper} {a : Act} {Q : Exit → Act → World → Prop} (hgd : o.guard = none) (s x : Operand) (t : TypeId)
    (ho : o.op = .call { callee := .builtin .append, args := #[s, x], argTypes := #[t, t] })
    {base : Nat} {e : TypeId} {size bytes : Nat} (el : Elt P t e size bytes) {v : Value} {n : Nat} {xs : List Value} (hs : a.eval s = v) (hown : w.ownsRow base e size v n xs)
    {vx : Value} {m : Nat} {news : List Value} (hx : a.eval x = vx) (hsl : Sl w size vx m news) (h1 : ∀ u ∈ news, u.oneCell' = true) (hb : base ≤ w.heap.size)
    (hby : (n + m) * bytes ≤ 140737488355328) (hm : n + m ≤ 140737488355328)
    (h : ∀ v' w', w'.ownsRow base e size v' (n + m) (xs ++ news) → Below base w w' → w.grownBy w' v.ownBlock → wpList P ops Q rest (a.put o.dst v') w') : wpList P ops Q (o :: rest) a w := by
  obtain ⟨i, z, hi, hz, hz1, hz2, hz3⟩ := el.info
  obtain ⟨h0, A, c, rfl, hc, hA, hcell⟩ := hsl
  match A, hA, hcell, hx with
  | none, hA, _, hx =>
    have hc0 := hA rfl
    subst hc0
    have hm0 : m = 0 := by omega
    subst hm0
    have hn0 : news = [] := List.eq_nil_of_length_eq_zero (by simpa using h0)
    subst hn0
    refine wpList_append_own_none hgd s x t ho base e i size el.under hi v n xs hs hown hx (h _ _ ?_ (Below.refl _ _) (World.grownBy.refl w _))
    simpa using hown
  | some ad, _, hcell, hx =>
    refine wpList_append_own w hgd s x t ho base e i z size bytes el.under hi hz hz1 hz2 hz3 el.pos v n xs hs hown ad m c news hx h0 ?_ h1 (by simp only [maxLen]; omega) hby hb ?_
    · intro j u hu
      rcases Nat.eq_zero_or_pos m with hm0 | hm0
      · subst hm0
        have hn0 : news = [] := List.eq_nil_of_length_eq_zero (by simpa using h0)
        subst hn0
        simp at hu
      · obtain ⟨_, hsp, hh⟩ := hcell ad rfl hm0
        obtain ⟨b, off, sp⟩ := ad
        dsimp only at hsp hh
        subst hsp
        rw [add_none]
        exact hh j u hu
    · intro v' w' hown' hg _
      exact h v' w' hown' ((Below.refl _ _).grown hg hb (fun k hk => (hown.lt k hk).1)) hg

/-- 'append(s, x, y ..)' of members that are written out: they are laid in a new block first. -/
theorem wpList_appLit {P : Program} {w : World} {ops : Array Oper} {rest : List Oper} {o : Oper} {a : Act} {Q : Exit → Act → World → Prop} (hgd : o.guard = none) (s x : Operand) (t : TypeId)
    (ho : o.op = .call { callee := .builtin .append, args := #[s, x], argTypes := #[t, t] })
    {base : Nat} {e : TypeId} {bytes : Nat} (el : Elt P t e 1 bytes) {v : Value} {n : Nat} {xs : List Value} (hs : a.eval s = v) (hown : w.ownsRow base e 1 v n xs)
    (us : List Value) {m : Nat} (hm0 : us.length = m) (hx : a.eval x = .slice (some ⟨w.heap.size, 0, none⟩) m m) (h1 : ∀ u ∈ us, u.oneCell' = true) (hb : base ≤ w.heap.size)
    (hby : (n + m) * bytes ≤ 140737488355328) (hm : n + m ≤ 140737488355328)
    (h : ∀ v' w', w'.ownsRow base e 1 v' (n + m) (xs ++ us) → Below base w w' → w.grownBy w' v.ownBlock → wpList P ops Q rest (a.put o.dst v') w') : wpList P ops Q (o :: rest) a (w.alloc (.cells us.toArray e)) := by
  subst hm0
  refine wpList_app hgd s x t ho el hs (hown.alloc _) hx (Sl.new w us e) h1 (by simp; omega) hby hm ?_
  intro v' w' ho' hb' hg'
  refine h v' w' ho' (((Below.refl _ _).alloc hb _).trans hb') ?_
  exact (World.grownBy_alloc w _ _).trans hg'

theorem own_below {w w' : World} {base : Nat} {e : TypeId} {size n : Nat} {v : Value} {xs : List Value} (h : w.ownsRow base e size v n xs) (hb : Below w.heap.size w w') : w'.ownsRow base e size v n xs :=
  h.kept (row := none) ⟨hb.os, hb.tape, hb.output, hb.size, fun k hk _ => hb.block k hk⟩ (by cases hh : v.ownBlock <;> simp)
theorem bel_drew {w w1 : World} (h : Below w.drew.heap.size w.drew w1) : Below w.heap.size w w1 := ((Below.refl _ _).drew).trans h
theorem bel_cells {W w1 : World} (hb : Below W.heap.size W w1) {b : Nat} (h : b < W.heap.size) (o : Nat) : w1.cell? ⟨b, o, none⟩ = W.cell? ⟨b, o, none⟩ := hb.cell (p := ⟨b, o, none⟩) h
end Go.Proofs.YthlnndjkocnfcaaGreatDoor

/- The best of a list, as it is kept and as it is found, in plain words. No walk here. -/
namespace Go.Proofs.YthlnndjkocnfcaaGreatDoor

section
variable {α : Type}
/-- the best so far. -/
def bstp (f : α → Bool) (g : α → Int) : Option α → α → Option α
  | none, y => if f y = true then some y else none
  | some x, y => if f y = true ∧ g x < g y then some y else some x
def bst (f : α → Bool) (g : α → Int) (R : List α) : Option α := R.foldl (bstp f g) none
theorem bst_snoc (f : α → Bool) (g : α → Int) (A : List α) (y : α) : bst f g (A ++ [y]) = bstp f g (bst f g A) y := by
  unfold bst
  rw [List.foldl_append]
  rfl
/-- the best of a list: none ahead of it is as good, none behind it is better. -/
def IsB (f : α → Bool) (g : α → Int) (R : List α) (x : α) : Prop :=
  f x = true ∧ ∃ A B, R = A ++ x :: B ∧ (∀ y ∈ A, f y = true → g y < g x) ∧ (∀ y ∈ B, f y = true → g y ≤ g x)
def BSt (f : α → Bool) (g : α → Int) (R : List α) : Option α → Prop
  | none => ∀ y ∈ R, f y = false
  | some x => IsB f g R x
theorem IsB.all {f : α → Bool} {g : α → Int} {R : List α} {x : α} (h : IsB f g R x) : ∀ y ∈ R, f y = true → g y ≤ g x := by
  obtain ⟨hx, A, B, rfl, h1, h2⟩ := h
  intro y hy hf
  rw [List.mem_append, List.mem_cons] at hy
  rcases hy with hy | rfl | hy
  · exact Int.le_of_lt (h1 y hy hf)
  · exact Int.le_refl _
  · exact h2 y hy hf
theorem BSt.step {f : α → Bool} {g : α → Int} {R : List α} {o : Option α} (h : BSt f g R o) (y : α) : BSt f g (R ++ [y]) (bstp f g o y) := by
  cases o with
  | none =>
    rw [bstp]
    split
    · next hy =>
      refine ⟨hy, R, [], by simp, fun z hz hf => ?_, by simp⟩
      rw [h z hz] at hf
      cases hf
    · next hy =>
      intro z hz
      rw [List.mem_append, List.mem_singleton] at hz
      rcases hz with hz | rfl
      · exact h z hz
      · exact Bool.eq_false_iff.2 hy
  | some x =>
    rw [bstp]
    split
    · next hy =>
      refine ⟨hy.1, R, [], by simp, fun z hz hf => ?_, by simp⟩
      have := IsB.all h z hz hf
      have := hy.2
      omega
    · next hy =>
      obtain ⟨hx, A, B, rfl, h1, h2⟩ := h
      refine ⟨hx, A, B ++ [y], by simp, h1, fun z hz hf => ?_⟩
      rw [List.mem_append, List.mem_singleton] at hz
      rcases hz with hz | rfl
      · exact h2 z hz hf
      · have : ¬ g x < g z := fun k => hy ⟨hf, k⟩
        omega
theorem bst_St (f : α → Bool) (g : α → Int) (R : List α) : BSt f g R (bst f g R) := by
  have : ∀ (L A : List α), BSt f g A (bst f g A) → BSt f g (A ++ L) (bst f g (A ++ L)) := by
    intro L
    induction L with
    | nil => intro A h; simpa using h
    | cons y L ih =>
      intro A h
      have h2 : BSt f g (A ++ [y]) (bst f g (A ++ [y])) := by rw [bst_snoc]; exact h.step y
      have := ih (A ++ [y]) h2
      simpa using this
  have := this R [] (by intro y hy; cases hy)
  simpa using this
theorem app_cons {A B A' B' : List α} {x x' : α} (h : A ++ x :: B = A' ++ x' :: B') : (A = A' ∧ x = x' ∧ B = B') ∨ (x ∈ A' ∧ x' ∈ B) ∨ (x' ∈ A ∧ x ∈ B') := by
  rw [List.append_eq_append_iff] at h
  rcases h with ⟨C, h1, h2⟩ | ⟨C, h1, h2⟩
  · cases C with
    | nil =>
      simp at h1 h2
      exact .inl ⟨h1.symm, h2.1, h2.2⟩
    | cons c C =>
      simp at h2
      obtain ⟨rfl, rfl⟩ := h2
      right; left
      constructor
      · rw [h1]; simp
      · simp
  · cases C with
    | nil =>
      simp at h1 h2
      exact .inl ⟨h1, h2.1.symm, h2.2.symm⟩
    | cons c C =>
      simp at h2
      obtain ⟨rfl, rfl⟩ := h2
      right; right
      constructor
      · rw [h1]; simp
      · simp
theorem IsB.uniq {f : α → Bool} {g : α → Int} {R : List α} {x y : α} (h : IsB f g R x) (k : IsB f g R y) : x = y := by
  obtain ⟨hx, A, B, rfl, h1, h2⟩ := h
  obtain ⟨hy, A', B', he, k1, k2⟩ := k
  rcases app_cons he with ⟨_, h, _⟩ | ⟨h, h'⟩ | ⟨h, h'⟩
  · exact h
  · have := k1 x h hx
    have := h2 y h' hy
    omega
  · have := h1 y h hy
    have := k2 x h' hx
    omega
theorem BSt.uniq {f : α → Bool} {g : α → Int} {R : List α} {o o' : Option α} (h : BSt f g R o) (k : BSt f g R o') : o = o' := by
  have mem : ∀ x, IsB f g R x → x ∈ R ∧ f x = true := by
    rintro x ⟨hx, A, B, rfl, _, _⟩
    exact ⟨by simp, hx⟩
  match o, o', h, k with
  | none, none, _, _ => rfl
  | some x, some y, h, k => rw [IsB.uniq h k]
  | none, some y, h, k => have := mem y k; have h2 := h y this.1; rw [this.2] at h2; cases h2
  | some x, none, h, k => have := mem x h; have h2 := k x this.1; rw [this.2] at h2; cases h2
/-- the first one of a worth. -/
def fnd (f : α → Bool) (g : α → Int) (n : Int) (R : List α) : Option α := R.find? (fun x => decide (g x = n) && f x)
/-- from a worth downwards. -/
def dsc (f : α → Bool) (g : α → Int) (R : List α) : Nat → Option α
  | 0 => none
  | n + 1 => match fnd f g (n : Int) R with
    | some x => some x
    | none => dsc f g R n
theorem dsc_St (f : α → Bool) (g : α → Int) (R : List α) : ∀ n : Nat, (∀ y ∈ R, f y = true → 0 ≤ g y ∧ g y < n) → BSt f g R (dsc f g R n) := by
  intro n
  induction n with
  | zero =>
    intro h y hy
    rw [Bool.eq_false_iff]
    intro hf
    have := h y hy hf
    omega
  | succ n ih =>
    intro h
    rw [dsc]
    cases hf : fnd f g (n : Int) R with
    | some x =>
      unfold fnd at hf
      rw [List.find?_eq_some_iff_append] at hf
      obtain ⟨hx, A, B, rfl, hA⟩ := hf
      rw [Bool.and_eq_true, decide_eq_true_iff] at hx
      refine ⟨hx.2, A, B, rfl, fun y hy hyf => ?_, fun y hy hyf => ?_⟩
      · have h1 := h y (by simp [hy]) hyf
        have h2 := hA y hy
        rw [Bool.not_eq_true', Bool.and_eq_false_iff] at h2
        rcases h2 with h2 | h2
        · have : ¬ g y = (n : Int) := by simpa using h2
          omega
        · rw [h2] at hyf; cases hyf
      · have h1 := h y (by simp [hy]) hyf
        omega
    | none =>
      unfold fnd at hf
      rw [List.find?_eq_none] at hf
      refine ih (fun y hy hyf => ?_)
      have h1 := h y hy hyf
      have h2 := hf y hy
      rw [Bool.and_eq_true, decide_eq_true_iff] at h2
      have : ¬ g y = (n : Int) := fun k => h2 ⟨k, hyf⟩
      omega
theorem dsc_bst {f : α → Bool} {g : α → Int} {R : List α} {n : Nat} (h : ∀ y ∈ R, f y = true → 0 ≤ g y ∧ g y < n) : dsc f g R n = bst f g R := (dsc_St f g R n h).uniq (bst_St f g R)
end
end Go.Proofs.YthlnndjkocnfcaaGreatDoor

/- SourceThrough: what tells first. No walk here. -/
namespace Go.Proofs.YthlnndjkocnfcaaGreatDoor

/-- which of two is before, by what tells first. -/
def fst1 : List Int → Int
  | [] => 0
  | x :: l => if x = 0 then fst1 l else x
def fstI : List Int → Nat → Int
  | [], _ => 0
  | x :: l, k => if x = 0 then fstI l (k + 1) else (k : Int) + 1
/-- three signs that go together. -/
def Thr (a b c : Int) : Prop := (a = 0 → (c = b)) ∧ (b = 0 → (c = a)) ∧ (0 < a → 0 < b → 0 < c) ∧ (a < 0 → b < 0 → c < 0)
def ordB (a b : Bool) : Int := if a = true ∧ b = false then 1 else if b = true ∧ a = false then -1 else 0
def cmpI (a b : Int) : Int := if a < b then -1 else if b < a then 1 else 0
def scoI (a b t : Int) : Int := if a < t ∨ b < t then cmpI a b else cmpI b a
theorem thr_b (a b c : Bool) : Thr (ordB a b) (ordB b c) (ordB a c) := by
  cases a <;> cases b <;> cases c <;> simp [Thr, ordB]
theorem thr_i (a b c : Int) : Thr (cmpI a b) (cmpI b c) (cmpI a c) := by
  unfold Thr cmpI
  refine ⟨?_, ?_, ?_, ?_⟩ <;> (repeat' split) <;> omega
theorem thr_s (a b c t : Int) : Thr (scoI a b t) (scoI b c t) (scoI a c t) := by
  by_cases h1 : a < t <;> by_cases h2 : b < t <;> by_cases h3 : c < t
  all_goals
    unfold scoI
    simp only [h1, h2, h3, or_true, or_self, or_false, if_true, if_false]
  · exact thr_i a b c
  all_goals
    unfold Thr cmpI
    refine ⟨fun h => ?_, fun h => ?_, fun h k => ?_, fun h k => ?_⟩ <;> split at h <;> (try split at h) <;> (try split at k) <;> (try split at k) <;> split <;> (try split) <;> omega
theorem thr_fst : ∀ (x y z : List Int), x.length = y.length → y.length = z.length → (∀ i, Thr (x.getD i 0) (y.getD i 0) (z.getD i 0)) → Thr (fst1 x) (fst1 y) (fst1 z)
  | [], [], [], _, _, _ => by simp [Thr, fst1]
  | a :: x, b :: y, c :: z, h1, h2, h => by
    have h0 := h 0
    simp only [List.getD_cons_zero] at h0
    have ih := thr_fst x y z (by simpa using h1) (by simpa using h2) (fun i => by have := h (i + 1); simpa using this)
    unfold Thr at h0 ih ⊢
    simp only [fst1]
    obtain ⟨p1, p2, p3, p4⟩ := h0
    obtain ⟨q1, q2, q3, q4⟩ := ih
    by_cases ha : a = 0
    · have := p1 ha
      by_cases hb : b = 0
      · have : c = 0 := by omega
        rw [if_pos ha, if_pos hb, if_pos this]
        exact ⟨q1, q2, q3, q4⟩
      · rw [if_pos ha, if_neg hb, if_neg (by omega)]
        omega
    · by_cases hb : b = 0
      · have := p2 hb
        rw [if_neg ha, if_pos hb, if_neg (by omega)]
        omega
      · rw [if_neg ha, if_neg hb]
        by_cases hc : c = 0
        · rw [if_pos hc]
          refine ⟨by omega, by omega, ?_, ?_⟩ <;> intros <;> omega
        · rw [if_neg hc]
          exact ⟨by omega, by omega, p3, p4⟩
end Go.Proofs.YthlnndjkocnfcaaGreatDoor

/- Dest: what tells, turned round; the first one than which none is better. No walk here. -/
namespace Go.Proofs.YthlnndjkocnfcaaGreatDoor

theorem ordB_neg (a b : Bool) : ordB b a = - ordB a b := by cases a <;> cases b <;> rfl
theorem cmpI_neg (a b : Int) : cmpI b a = - cmpI a b := by
  unfold cmpI
  split <;> split <;> omega
theorem fst1_neg : ∀ (x y : List Int) (k : Nat), x.length = y.length → (∀ i, y.getD i 0 = - x.getD i 0) → fst1 y = - fst1 x ∧ fstI y k = fstI x k
  | [], [], _, _, _ => ⟨rfl, rfl⟩
  | a :: x, b :: y, k, h1, h => by
    have h0 := h 0
    simp only [List.getD_cons_zero] at h0
    have ih := fst1_neg x y (k + 1) (by simpa using h1) (fun i => by have := h (i + 1); simpa using this)
    simp only [fst1, fstI]
    by_cases ha : a = 0
    · rw [if_pos ha, if_pos ha, if_pos (by omega), if_pos (by omega)]
      exact ih
    · rw [if_neg ha, if_neg ha, if_neg (by omega), if_neg (by omega)]
      exact ⟨h0, rfl⟩
theorem thr_anti {a b c : Int} (h : Thr a b c) (hc : 0 < a) (hb : 0 ≤ b) : 0 < c := by
  obtain ⟨p1, p2, p3, p4⟩ := h
  by_cases h0 : b = 0
  · have := p2 h0; omega
  · exact p3 hc (by omega)
/-- the first one than which none is better, out of a comparison that goes together. -/
theorem best_fold {α : Type} (m : α → α → Int) (hn : ∀ a b, m b a = - m a b) (ht : ∀ a b c, Thr (m a b) (m b c) (m a c)) (x : α) (l : List α) :
    ∃ A B, x :: l = A ++ l.foldl (fun best f => if 0 < m f best then f else best) x :: B ∧ (∀ y ∈ A, 0 < m (l.foldl (fun best f => if 0 < m f best then f else best) x) y) ∧ (∀ y ∈ B, m y (l.foldl (fun best f => if 0 < m f best then f else best) x) ≤ 0) := by
  suffices H : ∀ (l : List α) (pre A B : List α) (b : α), pre = A ++ b :: B → (∀ y ∈ A, 0 < m b y) → (∀ y ∈ B, m y b ≤ 0) →
      ∃ A' B', pre ++ l = A' ++ l.foldl (fun best f => if 0 < m f best then f else best) b :: B' ∧ (∀ y ∈ A', 0 < m (l.foldl (fun best f => if 0 < m f best then f else best) b) y) ∧ (∀ y ∈ B', m y (l.foldl (fun best f => if 0 < m f best then f else best) b) ≤ 0) by
    have := H l [x] [] [] x rfl (by simp) (by simp)
    simpa using this
  intro l
  induction l with
  | nil => intro pre A B b h1 h2 h3; exact ⟨A, B, by simpa using h1, h2, h3⟩
  | cons f l ih =>
    intro pre A B b h1 h2 h3
    rw [List.foldl_cons, show pre ++ f :: l = (pre ++ [f]) ++ l by simp]
    by_cases hf : 0 < m f b
    · rw [if_pos hf]
      refine ih (pre ++ [f]) (A ++ b :: B) [] f (by rw [h1]) (fun y hy => ?_) (by simp)
      rw [List.mem_append, List.mem_cons] at hy
      rcases hy with hy | rfl | hy
      · exact thr_anti (ht f b y) hf (Int.le_of_lt (h2 y hy))
      · exact hf
      · exact thr_anti (ht f b y) hf (by have h1 := hn y b; have h2 := h3 y hy; omega)
    · rw [if_neg hf]
      refine ih (pre ++ [f]) A (B ++ [f]) b (by rw [h1]; simp) h2 (fun y hy => ?_)
      rw [List.mem_append, List.mem_singleton] at hy
      rcases hy with hy | rfl
      · exact h3 y hy
      · omega
end Go.Proofs.YthlnndjkocnfcaaGreatDoor
