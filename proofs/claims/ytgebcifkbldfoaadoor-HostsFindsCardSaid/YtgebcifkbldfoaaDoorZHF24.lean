/- Contracts and plain lemmas of our own, merged. -/
import Derived.Test.YtgebcifkbldfoaaDoorZHF11
import Derived.Test.YtgebcifkbldfoaaDoorZHF20
import Derived.Test.YtgebcifkbldfoaaDoorZHF23
import Derived.Test.YtgebcifkbldfoaaDoorZHF5
/- Hosts: an address with names; their rows. -/
namespace Go.Proofs.YtgebcifkbldfoaaDoor
open Go.RowKit
attribute [local go_sem] ba_get ext_take ext_drop ext_any ba_app

/-- a host: its address, its row of names, and these. -/
structure Ho where
  ad : Ad
  A : Option Addr
  c : Nat
  L : List (Value × NmL)
def Ho.v (h : Ho) : Value := .slice h.A h.L.length h.c
def hoL (h : Ho) : List Value := adL h.ad ++ [h.v]
def hoA (h : Ho) : Array Value := (hoL h).toArray
theorem hoL_len (h : Ho) : (hoL h).length = 19 := by unfold hoL; rw [List.length_append, adL_len]; rfl
theorem hoA_size (h : Ho) : (hoA h).size = 19 := by unfold hoA; rw [List.size_toArray, hoL_len]
theorem hoL_hd (h : Ho) {i : Nat} (hi : i < 18) : (hoL h)[i]? = (adL h.ad)[i]? := by unfold hoL; rw [List.getElem?_append_left (by rw [adL_len]; exact hi)]
theorem hoL_18 (h : Ho) : (hoL h)[18]? = some h.v := by unfold hoL; rw [List.getElem?_append_right (by rw [adL_len]; omega), adL_len]; rfl
theorem hoL_one (h : Ho) : ∀ v ∈ hoL h, v.oneCell' = true := by
  intro v hv
  unfold hoL at hv
  rcases List.mem_append.1 hv with hv | hv
  · exact adL_one h.ad v hv
  · rw [List.mem_singleton.1 hv]; rfl
theorem hoA_one (h : Ho) : (hoA h).all (·.oneCell') = true := all_oneCell_toArray (hoL_one h)
theorem ho_under : Tryd.prog.underlying 106 = some (.struct (Tryd.prog.fieldsOf 106)) := by kernel_rfl
theorem ho_size : (Tryd.prog.info? 106).map (·.size) = some 19 := by kernel_rfl
theorem ho_size' (x : Ho) : (Tryd.prog.info? 106).map (·.size) = some (hoA x).size := by rw [hoA_size]; exact ho_size
def ho0 : Ho := ⟨ad0, none, 0, []⟩
theorem ho_zero : ZeroIs Tryd.prog 106 (hoA ho0) := by unfold ZeroIs; kernel_rfl
theorem elt_hos : Elt Tryd.prog 45 106 19 56 := Elt.mk' (z := .agg (hoA ho0)) Tryd.underlying45 (by kernel_rfl) (by kernel_rfl) (by decide)
theorem built_ho0 : Tryd.prog.built 106 [] = some (hoA ho0) := by kernel_rfl
theorem built_ho (y : Ad) (A : Option Addr) (c : Nat) (L : List (Value × NmL)) : Tryd.prog.built 106 [(0, .agg (adA y)), (1, .slice A L.length c)] = some (hoA ⟨y, A, c, L⟩) := by
  obtain ⟨fam, ip, zone, ok⟩ := y
  obtain ⟨c0, c1, c2, c3, c4, c5, c6, c7, c8, c9, c10, c11, c12, c13, c14, c15, rfl⟩ := len16 ok.1
  kernel_rfl
theorem Bk.range_ho {w : World} {g : Nat} {t : TypeId} {x : Ho} (h : Bk w g t (hoA x)) : w.rangeAt g 0 (hoL x) := h.rangeL (cs := hoL x) 0 (hoL x) [] (by simp)
theorem wpList_alloc_ho {w : World} {ops : Array Oper} {rest : List Oper} {o : Oper} {a : Act} {Q : Exit → Act → World → Prop} (hgd : o.guard = none) (ho : o.op = .alloc 106)
    (h : ∀ g w', g = w.heap.size → Bk w' g 106 (hoA ho0) → Below w.heap.size w w' → w'.heap.size = g + 1 → wpList Tryd.prog ops Q rest (a.put o.dst (.pointer (some ⟨g, 0, none⟩))) w') : wpList Tryd.prog ops Q (o :: rest) a w :=
  wpList_allocZ hgd _ ho ho_zero h
theorem wpList_load_ho {w : World} {ops : Array Oper} {rest : List Oper} {o : Oper} {a : Act} {Q : Exit → Act → World → Prop} (hgd : o.guard = none) (x : Operand) (ho : o.op = .load 106 x) {g : Nat} (hx : a.eval x = .pointer (some ⟨g, 0, none⟩))
    {t : TypeId} {b : Ho} (hB : Bk w g t (hoA b)) (h : wpList Tryd.prog ops Q rest (a.put o.dst (.agg (hoA b))) w) : wpList Tryd.prog ops Q (o :: rest) a w :=
  wpList_loadB hgd _ x ho hx hB ho_under rfl (ho_size' b) h
theorem wpList_store_ho {w : World} {ops : Array Oper} {rest : List Oper} {o : Oper} {a : Act} {Q : Exit → Act → World → Prop} (hgd : o.guard = none) (x y : Operand) (ho : o.op = .store 106 x y) {g : Nat} {b c : Ho} (hx : a.eval x = .pointer (some ⟨g, 0, none⟩)) (hy : a.eval y = .agg (hoA b))
    {t : TypeId} (hB : Bk w g t (hoA c)) (h : ∀ w', Bk w' g t (hoA b) → Stays g w w' → wpList Tryd.prog ops Q rest (a.put o.dst undef) w') : wpList Tryd.prog ops Q (o :: rest) a w :=
  wpList_storeB hgd _ x y ho hx hy hB (ho_size' b) (by rw [hoA_size, hoA_size]) (hoA_one b) h
theorem wpList_loadM_ho {w : World} {ops : Array Oper} {rest : List Oper} {o : Oper} {a : Act} {Q : Exit → Act → World → Prop} (hgd : o.guard = none) (x : Operand) (ho : o.op = .load 106 x) {g off : Nat} (hx : a.eval x = .pointer (some ⟨g, off, none⟩))
    {b : Ho} (hB : w.rangeAt g off (hoL b)) (h : wpList Tryd.prog ops Q rest (a.put o.dst (.agg (hoA b))) w) : wpList Tryd.prog ops Q (o :: rest) a w :=
  wpList_load_mid hgd _ x ho g off hx (hoL b) _ hB ho_under rfl (by rw [hoL_len]; exact ho_size) h
/-- a host and a Bool are handed back. -/
theorem ret_hoB {fn : Func} {p q : Tmp} (h : fn.results = #[.cell p 106, .tmp q]) {R : Ending → World → Prop} {a : Act} {w : World} {g : Nat} {t : TypeId} {b : Ho} {v : Value}
    (hp : a.tmps.getD p undef = .pointer (some ⟨g, 0, none⟩)) (hq : a.tmps.getD q undef = v) (hB : Bk w g t (hoA b)) (hd : a.defers = []) (hR : R (.returned (.tuple #[.agg (hoA b), v])) w) : bodyPost Tryd.prog fn R .ret a w := by
  refine bodyPost_ret_by (v := .tuple #[.agg (hoA b), v]) ?_ hd hR
  have hp' : a.tmps[p]?.getD undef = .pointer (some ⟨g, 0, none⟩) := by simpa using hp
  have hq' : a.tmps[q]?.getD undef = v := by simpa using hq
  simp [results, h, hp', hq', asAddr, run_loadVar_row (P := Tryd.prog) w g t 106 (hoA b) (0, 0) _ hB ho_under rfl (ho_size' b)]
/-- what a host says. -/
def hoP (h : Ho) : Ad × List NmL := (h.ad, h.L.map (·.2))
/-- a host whose names lie below b, or in blocks of their types. -/
structure HoB (b : Nat) (w : World) (h : Ho) : Prop where
  sl : SlB b 51 w 1 h.v h.L.length (h.L.flatMap nmF)
  nm : ∀ q ∈ h.L, NmB b w q
  few : h.L.length ≤ 1000000
theorem HoB.bel {b : Nat} {w w' : World} {h : Ho} (x : HoB b w h) (hb : Below w.heap.size w w') : HoB b w' h := ⟨x.sl.bel hb, fun q hq => (x.nm q hq).bel hb, x.few⟩
theorem HoB.grown {b : Nat} {w w' : World} {h : Ho} (x : HoB b w h) {vo : Value} {no : Nat} {xo : List Value} (ho : w.ownsRow b 106 19 vo no xo) (hg : w.grownBy w' vo.ownBlock) : HoB b w' h :=
  ⟨x.sl.grown ho (by decide) hg, fun q hq => ⟨(x.nm q hq).sl.grown ho (by decide) hg, (x.nm q hq).few, (x.nm q hq).len⟩, x.few⟩
/-- a store into a block at or above b of another element type leaves it as it was. -/
theorem SlB.stays {b size n g : Nat} {t t' : TypeId} {w w' : World} {v : Value} {xs : List Value} {cs : Array Value} (h : SlB b t w size v n xs) (hs : Stays g w w') (hg : b ≤ g) (hB : Bk w g t' cs) (ht : t ≠ t') : SlB b t w' size v n xs := by
  have key : ∀ k off c, v = .slice (some ⟨k, off, none⟩) n c → 0 < n → k ≠ g := by
    intro k off c hv hn hk
    subst hk
    rcases h.far k off c hv hn with hl | ⟨cur, fr, h2⟩
    · omega
    · rw [show w.heap[k]? = _ from hB] at h2
      injection h2 with h2
      injection h2 with _ h2 _
      exact ht h2.symm
  refine ⟨?_, fun k off c hv hn => ?_⟩
  · obtain ⟨h0, A, c, rfl, hc, hA, hcell⟩ := h.sl
    refine ⟨h0, A, c, rfl, hc, hA, fun ad had hn => ?_⟩
    obtain ⟨h1, h2, h3⟩ := hcell ad had hn
    obtain ⟨k, off, sp⟩ := ad
    dsimp only at h1 h2 h3
    subst had h2
    exact ⟨by rw [hs.size]; exact h1, rfl, fun j u hu => (World.cell?_of_block (a := ⟨k, off + j, none⟩) (hs.block k (key k off c rfl hn))).trans (h3 j u hu)⟩
  · rcases h.far k off c hv hn with hl | ⟨cur, fr, hh⟩
    · exact .inl hl
    · exact .inr ⟨cur, fr, (hs.block k (key k off c hv hn)).trans hh⟩
theorem HoB.stays {b g : Nat} {t' : TypeId} {w w' : World} {h : Ho} {cs : Array Value} (x : HoB b w h) (hs : Stays g w w') (hg : b ≤ g) (hB : Bk w g t' cs) (h1 : 51 ≠ t') (h2 : 9 ≠ t') : HoB b w' h :=
  ⟨x.sl.stays hs hg hB h1, fun q hq => ⟨(x.nm q hq).sl.stays hs hg hB h2, (x.nm q hq).few, (x.nm q hq).len⟩, x.few⟩
/-- hosts in a row of the call's own. -/
structure HosOwn (b : Nat) (w : World) (v : Value) (H : List Ho) : Prop where
  own : w.ownsRow b 106 19 v H.length (H.flatMap hoL)
  ok : ∀ h ∈ H, HoB b w h
theorem HosOwn.nil (b : Nat) (w : World) : HosOwn b w (.slice none 0 0) [] := ⟨by simpa using World.ownsRow_nil w b 106 19, fun _ h => (by cases h)⟩
theorem HosOwn.bel {b : Nat} {w w' : World} {v : Value} {H : List Ho} (h : HosOwn b w v H) (hb : Below w.heap.size w w') : HosOwn b w' v H := ⟨own_below h.own hb, fun q hq => (h.ok q hq).bel hb⟩
theorem HosOwn.add {b : Nat} {w w' : World} {v v' : Value} {H : List Ho} {x : Ho} (h : HosOwn b w v H) (hx : HoB b w x) (ho : w'.ownsRow b 106 19 v' (H.length + 1) (H.flatMap hoL ++ hoL x)) (hg : w.grownBy w' v.ownBlock) : HosOwn b w' v' (H ++ [x]) := by
  refine ⟨?_, fun q hq => ?_⟩
  · rw [List.length_append, List.flatMap_append]
    simpa using ho
  · rcases List.mem_append.1 hq with hq | hq
    · exact (h.ok q hq).grown h.own hg
    · rw [List.mem_singleton.1 hq]; exact hx.grown h.own hg
/-- a host that is read. -/
structure HoOk (w : World) (h : Ho) : Prop where
  sl : Sl w 1 h.v h.L.length (h.L.flatMap nmF)
  nm : ∀ q ∈ h.L, NmOk w q
  few : h.L.length ≤ 1000000
theorem HoB.ok {b : Nat} {w : World} {h : Ho} (x : HoB b w h) : HoOk w h := ⟨x.sl.sl, fun q hq => (x.nm q hq).ok, x.few⟩
theorem HoOk.bel {w w' : World} {h : Ho} (x : HoOk w h) (hb : Below w.heap.size w w') : HoOk w' h := ⟨x.sl.below hb, fun q hq => (x.nm q hq).bel hb, x.few⟩
structure HosAt (w : World) (v : Value) (H : List Ho) : Prop where
  sl : Sl w 19 v H.length (H.flatMap hoL)
  ok : ∀ h ∈ H, HoOk w h
theorem HosOwn.at_ {b : Nat} {w : World} {v : Value} {H : List Ho} (h : HosOwn b w v H) : HosAt w v H := ⟨Sl.own h.own, fun q hq => (h.ok q hq).ok⟩
theorem HosAt.bel {w w' : World} {v : Value} {H : List Ho} (h : HosAt w v H) (hb : Below w.heap.size w w') : HosAt w' v H := ⟨h.sl.below hb, fun q hq => (h.ok q hq).bel hb⟩
/-- the name that a text is. -/
def oneN (x : List UInt8) : Option NmL := match prs x with
  | .inr (n, _) => if n = [] then none else some n
  | .inl _ => none
def namesP (F : List (List UInt8)) : Option (List NmL) := if F.all (fun x => (oneN x).isSome) = true then some (F.filterMap oneN) else none
/-- the host that fields are. -/
def hostP (F : List (List UInt8)) : Option (Ad × List NmL) := match F with
  | f :: g :: r => match adrP f with
    | .inr a => (namesP (g :: r)).map fun N => (a, N)
    | .inl _ => none
  | _ => none
def HostPost (w : World) (o : Option (Ad × List NmL)) (e : Ending) (w' : World) : Prop := Below w.heap.size w w' ∧ match o with
  | none => e = .returned (.tuple #[.agg (hoA ho0), .bool false])
  | some p => ∃ h : Ho, e = .returned (.tuple #[.agg (hoA h), .bool true]) ∧ (∀ b, HoB b w' h) ∧ hoP h = p
end Go.Proofs.YtgebcifkbldfoaaDoor

/- The reference's Same of hosts (18). -/
namespace Go.Proofs.YtgebcifkbldfoaaDoor
open Go.RowKit

theorem hoL_ad {w : World} {b off : Nat} {h : Ho} (hR : w.rangeAt b off (hoL h)) : w.rangeAt b off (adL h.ad) := fun j v hv => by
  have hj : j < 18 := by have := (List.getElem?_eq_some_iff.1 hv).1; rwa [adL_len] at this
  exact hR j v (by rw [hoL_hd h hj]; exact hv)
theorem hoL_nm {w : World} {b off : Nat} {h : Ho} (hR : w.rangeAt b off (hoL h)) : w.cell? ⟨b, off + 18, none⟩ = some h.v := hR 18 _ (hoL_18 h)
theorem range_bel {w w' : World} {b off : Nat} {l : List Value} (hb : Below w.heap.size w w') (hbl : b < w.heap.size) (hR : w.rangeAt b off l) : w'.rangeAt b off l := fun j v hv => (hb.cell (p := ⟨b, off + j, none⟩) hbl).trans (hR j v hv)
theorem map_hoP_next {L : List Ho} {k : Nat} (h : k < L.length) : (L.take (k + 1)).map hoP = (L.take k).map hoP ++ [hoP L[k]] := by
  rw [List.take_succ_eq_append_getElem h, List.map_append]; rfl
end Go.Proofs.YtgebcifkbldfoaaDoor
