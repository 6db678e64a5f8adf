/- Contracts and plain lemmas of our own, merged. -/
import Derived.Test.YtgebcifkbldfoaaGreatDoorZSB11
import Derived.Test.YtgebcifkbldfoaaGreatDoorZSB19
import Derived.Test.YtgebcifkbldfoaaGreatDoorZSB22
import Derived.Test.YtgebcifkbldfoaaGreatDoorZSB5
/- Hosts: an address with names; their rows. -/
namespace Go.Proofs.YtgebcifkbldfoaaGreatDoor
open Go.RowKit
attribute [local go_sem] ba_get ext_take ext_drop ext_any ba_app

/-- a host: its address, its row of names, and these. -/
structure Ho where
  ad : Ad
  A : Option Addr
  c : Nat
  L : List (Value × NmL)
def Ho.v (h : Ho) : Value := .slice h.A h.L.length h.c
def hoL (h : Ho) : List Value := adL h.ad ++ [h.v]
def ho0 : Ho := ⟨ad0, none, 0, []⟩
/-- a store into a block at or above b of another element type leaves it as it was. -/
theorem SlB.stays {b size n g : Nat} {t t' : TypeId} {w w' : World} {v : Value} {xs : List Value} {cs : Array Value} (h : SlB b t w size v n xs) (hs : Stays g w w') (hg : b ≤ g) (hB : Bk w g t' cs) (ht : t ≠ t') : SlB b t w' size v n xs := by
  have key : ∀ k off c, v = .slice (some ⟨k, off, none⟩) n c → 0 < n → k ≠ g := by
    intro k off c hv hn hk
    subst hk
    rcases h.far k off c hv hn with hl | ⟨cur, fr, h2⟩
    · omega
    · rw [show w.heap[k]? = _ from hB] at h2
      injection h2 with h2
      injection h2 with _ h2 _
      exact ht h2.symm
  refine ⟨?_, fun k off c hv hn => ?_⟩
  · obtain ⟨h0, A, c, rfl, hc, hA, hcell⟩ := h.sl
    refine ⟨h0, A, c, rfl, hc, hA, fun ad had hn => ?_⟩
    obtain ⟨h1, h2, h3⟩ := hcell ad had hn
    obtain ⟨k, off, sp⟩ := ad
    dsimp only at h1 h2 h3
    subst had h2
    exact ⟨by rw [hs.size]; exact h1, rfl, fun j u hu => (World.cell?_of_block (a := ⟨k, off + j, none⟩) (hs.block k (key k off c rfl hn))).trans (h3 j u hu)⟩
  · rcases h.far k off c hv hn with hl | ⟨cur, fr, hh⟩
    · exact .inl hl
    · exact .inr ⟨cur, fr, (hs.block k (key k off c hv hn)).trans hh⟩
/-- a host that is read. -/
structure HoOk (w : World) (h : Ho) : Prop where
  sl : Sl w 1 h.v h.L.length (h.L.flatMap nmF)
  nm : ∀ q ∈ h.L, NmOk w q
  few : h.L.length ≤ 1000000
theorem HoOk.bel {w w' : World} {h : Ho} (x : HoOk w h) (hb : Below w.heap.size w w') : HoOk w' h := ⟨x.sl.below hb, fun q hq => (x.nm q hq).bel hb, x.few⟩
structure HosAt (w : World) (v : Value) (H : List Ho) : Prop where
  sl : Sl w 19 v H.length (H.flatMap hoL)
  ok : ∀ h ∈ H, HoOk w h
theorem HosAt.bel {w w' : World} {v : Value} {H : List Ho} (h : HosAt w v H) (hb : Below w.heap.size w w') : HosAt w' v H := ⟨h.sl.below hb, fun q hq => (h.ok q hq).bel hb⟩
end Go.Proofs.YtgebcifkbldfoaaGreatDoor
