/- Contracts and plain lemmas of our own, merged. -/
import Derived.Test.YtgebcifkbldfoaaDoorZNb24
import Derived.Test.YtgebcifkbldfoaaDoorZNb29
import Derived.Test.YtgebcifkbldfoaaDoorZNb30
/- hosts.Parse: what a file of hosts says. -/
namespace Go.Proofs.YtgebcifkbldfoaaDoor
open Go.RowKit
attribute [local go_sem] ba_get ext_take ext_drop ext_any ba_app

theorem heap_lt {W : World} {o : Obj} {g : Nat} (h : W.heap[g]? = some o) : g < W.heap.size := by
  rcases Nat.lt_or_ge g W.heap.size with hlt | hge
  · exact hlt
  · rw [Array.getElem?_eq_none hge] at h; cases h
/-- a block (if any) at or above b, none of these types' cells. -/
structure Harm (T : List TypeId) (b : Nat) (W : World) (row : Option Nat) : Prop where
  ge : ∀ r, row = some r → b ≤ r
  ne : ∀ g cur t fr, W.heap[g]? = some (.cells cur t fr) → t ∈ T → some g ≠ row
theorem Harm.loop {T : List TypeId} {B b : Nat} {W : World} {row : Option Nat} (hb : b ≤ B) (hr : ∀ r, row = some r → B ≤ r ∧ ∃ o : Obj, W.heap[r]? = some o ∧ o.isCells = false) : Harm T b W row := by
  refine ⟨fun r e => Nat.le_trans hb (hr r e).1, fun g cur t fr hg _ e => ?_⟩
  obtain ⟨_, o, h1, h2⟩ := hr g e.symm
  rw [hg] at h1
  cases h1
  cases h2
theorem Harm.type {T : List TypeId} {b g : Nat} {W : World} {cs : Array Value} {t' : TypeId} {fr' : Nat × Nat} (hb : b ≤ g) (hB : W.heap[g]? = some (.cells cs t' fr')) (hT : t' ∉ T) : Harm T b W (some g) := by
  refine ⟨fun r e => by cases e; exact hb, fun k cur t fr hk ht e => ?_⟩
  cases e
  rw [hk] at hB
  cases hB
  exact hT ht
theorem Harm.own {T : List TypeId} {b b' size n : Nat} {e : TypeId} {W : World} {v : Value} {xs : List Value} (hb : b ≤ b') (h : W.ownsRow b' e size v n xs) (hT : e ∉ T) : Harm T b W v.ownBlock := by
  rcases h.2 with ⟨rfl, _⟩ | ⟨g', cap, cur, rfl, hb', hg', _⟩
  · exact ⟨(fun r e => by cases e), (fun g cur t fr hg _ e => by cases e)⟩
  · exact Harm.type (Nat.le_trans hb hb') hg' hT
theorem Harm.mono {T T' : List TypeId} {b b' : Nat} {W : World} {row : Option Nat} (h : Harm T b W row) (hT : ∀ t ∈ T', t ∈ T) (hb : b' ≤ b) : Harm T' b' W row := ⟨fun r e => Nat.le_trans hb (h.ge r e), fun g cur t fr hg ht => h.ne g cur t fr hg (hT t ht)⟩
theorem Stays.grown {g : Nat} {w w' : World} (h : Stays g w w') : w.grownBy w' (some g) := ⟨h.os, h.tape, h.output, Nat.le_of_eq h.size.symm, fun k _ hne => h.block k (fun e => hne (by rw [e]))⟩
section
variable {b size n : Nat} {t e : TypeId} {W W' : World} {v : Value} {xs : List Value} {row : Option Nat}
theorem SlB.kept (hs : SlB b t W size v n xs) (hg : W.grownBy W' row) (hh : Harm [t] b W row) : SlB b t W' size v n xs := by
  have key : ∀ g off c, v = .slice (some ⟨g, off, none⟩) n c → 0 < n → some g ≠ row := by
    intro g off c hv hn hgo
    rcases hs.far g off c hv hn with hl | ⟨cur2, fr, h2⟩
    · have := hh.ge g hgo.symm; omega
    · exact hh.ne g cur2 t fr h2 (by simp) hgo
  refine ⟨?_, fun g off c hv hn => ?_⟩
  · obtain ⟨h0, A, c, rfl, hc, hA, hcell⟩ := hs.sl
    refine ⟨h0, A, c, rfl, hc, hA, fun ad had hn => ?_⟩
    obtain ⟨h1, h2, h3⟩ := hcell ad had hn
    obtain ⟨g, off, sp⟩ := ad
    dsimp only at h1 h2 h3
    subst had h2
    exact ⟨Nat.lt_of_lt_of_le h1 hg.size, rfl, fun j u hu => hg.cell (h3 j u hu) (key g off c rfl hn)⟩
  · rcases hs.far g off c hv hn with hl | ⟨cur, fr, hh2⟩
    · exact .inl hl
    · exact .inr ⟨cur, fr, (hg.block g (heap_lt hh2) (key g off c hv hn)).trans hh2⟩
theorem NmB.kept {q : Value × NmL} (hs : NmB b W q) (hg : W.grownBy W' row) (hh : Harm [9] b W row) : NmB b W' q := ⟨hs.sl.kept hg hh, hs.few, hs.len⟩
theorem HoB.kept {h : Ho} (hs : HoB b W h) (hg : W.grownBy W' row) (hh : Harm [51, 9] b W row) : HoB b W' h :=
  ⟨hs.sl.kept hg (hh.mono (by simp) (Nat.le_refl _)), fun q hq => (hs.nm q hq).kept hg (hh.mono (by simp) (Nat.le_refl _)), hs.few⟩
theorem row_kept (hs : W.ownsRow b e size v n xs) (hg : W.grownBy W' row) (hh : Harm [e] b W row) : W'.ownsRow b e size v n xs := by
  refine hs.kept hg ?_
  rcases hs.2 with ⟨rfl, _⟩ | ⟨g', cap, cur, rfl, hb', hg', _⟩
  · exact .inl rfl
  · refine .inr ?_
    have := hh.ne _ _ _ _ hg' (by simp)
    simpa [Value.ownBlock] using this
theorem HosOwn.kept {H : List Ho} (hs : HosOwn b W v H) (hg : W.grownBy W' row) (hh : Harm [106, 51, 9] b W row) : HosOwn b W' v H :=
  ⟨row_kept hs.own hg (hh.mono (by simp) (Nat.le_refl _)), fun q hq => (hs.ok q hq).kept hg (hh.mono (by simp) (Nat.le_refl _))⟩
theorem Below.kept {w : World} (hs : Below b w W) (hw : b ≤ W.heap.size) (hg : W.grownBy W' row) {T : List TypeId} (hh : Harm T b W row) : Below b w W' := hs.grown hg hw (fun k hk => hh.ge k hk)
theorem keeps_cells {B r : Nat} {cur : Array Value} {fr : Nat × Nat} (hg : W.grownBy W' (some r)) (hr : W.heap[r]? = some (.cells cur t fr)) : KeepsFrom B W W' := by
  refine ⟨hg.size, fun k o _ ho hc => (hg.block k (heap_lt ho) ?_).trans ho⟩
  intro h
  injection h with h
  subst h
  rw [hr] at ho
  cases ho
  cases hc
end
attribute [local go_sem] Oper.semAt_some
/-- behind i of the lines. -/
def HosI (w : World) (g3 : Nat) (S : List (Nat × List (List UInt8))) (i : Nat) (V : World) : Prop :=
  ∃ v H, Boxed V g3 45 v ∧ HosOwn w.heap.size V v H ∧ H.map hoP = (S.take i).filterMap (fun c => hostP c.2) ∧ Below w.heap.size w V ∧ ∀ h ∈ H, HoB 0 V h
theorem HosI.kept {w : World} {g3 i : Nat} {S : List (Nat × List (List UInt8))} {W W' : World} {row : Option Nat} (h : HosI w g3 S i W) (hg : W.grownBy W' row) (hh : Harm [106, 51, 9] w.heap.size W row) (hne : some g3 ≠ row) : HosI w g3 S i W' := by
  obtain ⟨v, H, h1, h2, h3, h4, h5⟩ := h
  exact ⟨v, H, (hg.block g3 h1.lt hne).trans h1, h2.kept hg hh, h3, Below.kept h4 h4.size hg hh, fun q hq => (h5 q hq).kept hg (hh.mono (by simp) (Nat.zero_le _))⟩
end Go.Proofs.YtgebcifkbldfoaaDoor
