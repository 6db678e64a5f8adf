/- Contracts and plain lemmas of our own, merged. -/
import Derived.Test.YtgebcifkbldfoaaDoorZSL11
import Derived.Test.YtgebcifkbldfoaaDoorZSL19
import Derived.Test.YtgebcifkbldfoaaDoorZSL22
import Derived.Test.YtgebcifkbldfoaaDoorZSL5
/- Hosts: an address with names; their rows. -/
namespace Go.Proofs.YtgebcifkbldfoaaDoor
open Go.RowKit
attribute [local go_sem] ba_get ext_take ext_drop ext_any ba_app

/-- a host: its address, its row of names, and these. -/
structure Ho where
  ad : Ad
  A : Option Addr
  c : Nat
  L : List (Value × NmL)
def Ho.v (h : Ho) : Value := .slice h.A h.L.length h.c
def hoL (h : Ho) : List Value := adL h.ad ++ [h.v]
/-- what a host says. -/
def hoP (h : Ho) : Ad × List NmL := (h.ad, h.L.map (·.2))
/-- a host whose names lie below b, or in blocks of their types. -/
structure HoB (b : Nat) (w : World) (h : Ho) : Prop where
  sl : SlB b 51 w 1 h.v h.L.length (h.L.flatMap nmF)
  nm : ∀ q ∈ h.L, NmB b w q
  few : h.L.length ≤ 1000000
theorem HoB.bel {b : Nat} {w w' : World} {h : Ho} (x : HoB b w h) (hb : Below w.heap.size w w') : HoB b w' h := ⟨x.sl.bel hb, fun q hq => (x.nm q hq).bel hb, x.few⟩
theorem HoB.grown {b : Nat} {w w' : World} {h : Ho} (x : HoB b w h) {vo : Value} {no : Nat} {xo : List Value} (ho : w.ownsRow b 106 19 vo no xo) (hg : w.grownBy w' vo.ownBlock) : HoB b w' h :=
  ⟨x.sl.grown ho (by decide) hg, fun q hq => ⟨(x.nm q hq).sl.grown ho (by decide) hg, (x.nm q hq).few, (x.nm q hq).len⟩, x.few⟩
/-- a store into a block at or above b of another element type leaves it as it was. -/
theorem SlB.stays {b size n g : Nat} {t t' : TypeId} {w w' : World} {v : Value} {xs : List Value} {cs : Array Value} (h : SlB b t w size v n xs) (hs : Stays g w w') (hg : b ≤ g) (hB : Bk w g t' cs) (ht : t ≠ t') : SlB b t w' size v n xs := by
  have key : ∀ k off c, v = .slice (some ⟨k, off, none⟩) n c → 0 < n → k ≠ g := by
    intro k off c hv hn hk
    subst hk
    rcases h.far k off c hv hn with hl | ⟨cur, fr, h2⟩
    · omega
    · rw [show w.heap[k]? = _ from hB] at h2
      injection h2 with h2
      injection h2 with _ h2 _
      exact ht h2.symm
  refine ⟨?_, fun k off c hv hn => ?_⟩
  · obtain ⟨h0, A, c, rfl, hc, hA, hcell⟩ := h.sl
    refine ⟨h0, A, c, rfl, hc, hA, fun ad had hn => ?_⟩
    obtain ⟨h1, h2, h3⟩ := hcell ad had hn
    obtain ⟨k, off, sp⟩ := ad
    dsimp only at h1 h2 h3
    subst had h2
    exact ⟨by rw [hs.size]; exact h1, rfl, fun j u hu => (World.cell?_of_block (a := ⟨k, off + j, none⟩) (hs.block k (key k off c rfl hn))).trans (h3 j u hu)⟩
  · rcases h.far k off c hv hn with hl | ⟨cur, fr, hh⟩
    · exact .inl hl
    · exact .inr ⟨cur, fr, (hs.block k (key k off c hv hn)).trans hh⟩
theorem HoB.stays {b g : Nat} {t' : TypeId} {w w' : World} {h : Ho} {cs : Array Value} (x : HoB b w h) (hs : Stays g w w') (hg : b ≤ g) (hB : Bk w g t' cs) (h1 : 51 ≠ t') (h2 : 9 ≠ t') : HoB b w' h :=
  ⟨x.sl.stays hs hg hB h1, fun q hq => ⟨(x.nm q hq).sl.stays hs hg hB h2, (x.nm q hq).few, (x.nm q hq).len⟩, x.few⟩
/-- hosts in a row of the call's own. -/
structure HosOwn (b : Nat) (w : World) (v : Value) (H : List Ho) : Prop where
  own : w.ownsRow b 106 19 v H.length (H.flatMap hoL)
  ok : ∀ h ∈ H, HoB b w h
theorem HosOwn.nil (b : Nat) (w : World) : HosOwn b w (.slice none 0 0) [] := ⟨by simpa using World.ownsRow_nil w b 106 19, fun _ h => (by cases h)⟩
theorem HosOwn.bel {b : Nat} {w w' : World} {v : Value} {H : List Ho} (h : HosOwn b w v H) (hb : Below w.heap.size w w') : HosOwn b w' v H := ⟨own_below h.own hb, fun q hq => (h.ok q hq).bel hb⟩
theorem HosOwn.add {b : Nat} {w w' : World} {v v' : Value} {H : List Ho} {x : Ho} (h : HosOwn b w v H) (hx : HoB b w x) (ho : w'.ownsRow b 106 19 v' (H.length + 1) (H.flatMap hoL ++ hoL x)) (hg : w.grownBy w' v.ownBlock) : HosOwn b w' v' (H ++ [x]) := by
  refine ⟨?_, fun q hq => ?_⟩
  · rw [List.length_append, List.flatMap_append]
    simpa using ho
  · rcases List.mem_append.1 hq with hq | hq
    · exact (h.ok q hq).grown h.own hg
    · rw [List.mem_singleton.1 hq]; exact hx.grown h.own hg
/-- a host that is read. -/
structure HoOk (w : World) (h : Ho) : Prop where
  sl : Sl w 1 h.v h.L.length (h.L.flatMap nmF)
  nm : ∀ q ∈ h.L, NmOk w q
  few : h.L.length ≤ 1000000
theorem HoB.ok {b : Nat} {w : World} {h : Ho} (x : HoB b w h) : HoOk w h := ⟨x.sl.sl, fun q hq => (x.nm q hq).ok, x.few⟩
theorem HoOk.bel {w w' : World} {h : Ho} (x : HoOk w h) (hb : Below w.heap.size w w') : HoOk w' h := ⟨x.sl.below hb, fun q hq => (x.nm q hq).bel hb, x.few⟩
structure HosAt (w : World) (v : Value) (H : List Ho) : Prop where
  sl : Sl w 19 v H.length (H.flatMap hoL)
  ok : ∀ h ∈ H, HoOk w h
theorem HosOwn.at_ {b : Nat} {w : World} {v : Value} {H : List Ho} (h : HosOwn b w v H) : HosAt w v H := ⟨Sl.own h.own, fun q hq => (h.ok q hq).ok⟩
theorem HosAt.bel {w w' : World} {v : Value} {H : List Ho} (h : HosAt w v H) (hb : Below w.heap.size w w') : HosAt w' v H := ⟨h.sl.below hb, fun q hq => (h.ok q hq).bel hb⟩
/-- the name that a text is. -/
def oneN (x : List UInt8) : Option NmL := match prs x with
  | .inr (n, _) => if n = [] then none else some n
  | .inl _ => none
def namesP (F : List (List UInt8)) : Option (List NmL) := if F.all (fun x => (oneN x).isSome) = true then some (F.filterMap oneN) else none
/-- the host that fields are. -/
def hostP (F : List (List UInt8)) : Option (Ad × List NmL) := match F with
  | f :: g :: r => match adrP f with
    | .inr a => (namesP (g :: r)).map fun N => (a, N)
    | .inl _ => none
  | _ => none
end Go.Proofs.YtgebcifkbldfoaaDoor
