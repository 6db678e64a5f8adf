/- Contracts and plain lemmas of our own, merged. -/
import Derived.Test.YtgebcifkbldfoaaDoorZHP11
import Derived.Test.YtgebcifkbldfoaaDoorZHP19
import Derived.Test.YtgebcifkbldfoaaDoorZHP22
import Derived.Test.YtgebcifkbldfoaaDoorZHP5
/- Hosts: an address with names; their rows. -/
namespace Go.Proofs.YtgebcifkbldfoaaDoor
open Go.RowKit
attribute [local go_sem] ba_get ext_take ext_drop ext_any ba_app

/-- a host: its address, its row of names, and these. -/
structure Ho where
  ad : Ad
  A : Option Addr
  c : Nat
  L : List (Value × NmL)
def Ho.v (h : Ho) : Value := .slice h.A h.L.length h.c
def hoL (h : Ho) : List Value := adL h.ad ++ [h.v]
def hoA (h : Ho) : Array Value := (hoL h).toArray
theorem hoL_len (h : Ho) : (hoL h).length = 19 := by unfold hoL; rw [List.length_append, adL_len]; rfl
theorem hoA_size (h : Ho) : (hoA h).size = 19 := by unfold hoA; rw [List.size_toArray, hoL_len]
theorem hoL_hd (h : Ho) {i : Nat} (hi : i < 18) : (hoL h)[i]? = (adL h.ad)[i]? := by unfold hoL; rw [List.getElem?_append_left (by rw [adL_len]; exact hi)]
theorem hoL_18 (h : Ho) : (hoL h)[18]? = some h.v := by unfold hoL; rw [List.getElem?_append_right (by rw [adL_len]; omega), adL_len]; rfl
theorem hoL_one (h : Ho) : ∀ v ∈ hoL h, v.oneCell' = true := by
  intro v hv
  unfold hoL at hv
  rcases List.mem_append.1 hv with hv | hv
  · exact adL_one h.ad v hv
  · rw [List.mem_singleton.1 hv]; rfl
theorem hoA_one (h : Ho) : (hoA h).all (·.oneCell') = true := all_oneCell_toArray (hoL_one h)
theorem ho_under : Tryd.prog.underlying 106 = some (.struct (Tryd.prog.fieldsOf 106)) := by kernel_rfl
theorem ho_size : (Tryd.prog.info? 106).map (·.size) = some 19 := by kernel_rfl
theorem ho_size' (x : Ho) : (Tryd.prog.info? 106).map (·.size) = some (hoA x).size := by rw [hoA_size]; exact ho_size
def ho0 : Ho := ⟨ad0, none, 0, []⟩
theorem ho_zero : ZeroIs Tryd.prog 106 (hoA ho0) := by unfold ZeroIs; kernel_rfl
theorem elt_hos : Elt Tryd.prog 45 106 19 56 := Elt.mk' (z := .agg (hoA ho0)) Tryd.underlying45 (by kernel_rfl) (by kernel_rfl) (by decide)
theorem built_ho0 : Tryd.prog.built 106 [] = some (hoA ho0) := by kernel_rfl
theorem built_ho (y : Ad) (A : Option Addr) (c : Nat) (L : List (Value × NmL)) : Tryd.prog.built 106 [(0, .agg (adA y)), (1, .slice A L.length c)] = some (hoA ⟨y, A, c, L⟩) := by
  obtain ⟨fam, ip, zone, ok⟩ := y
  obtain ⟨c0, c1, c2, c3, c4, c5, c6, c7, c8, c9, c10, c11, c12, c13, c14, c15, rfl⟩ := len16 ok.1
  kernel_rfl
theorem Bk.range_ho {w : World} {g : Nat} {t : TypeId} {x : Ho} (h : Bk w g t (hoA x)) : w.rangeAt g 0 (hoL x) := h.rangeL (cs := hoL x) 0 (hoL x) [] (by simp)
theorem wpList_alloc_ho {w : World} {ops : Array Oper} {rest : List Oper} {o : Oper} {a : Act} {Q : Exit → Act → World → Prop} (hgd : o.guard = none) (ho : o.op = .alloc 106)
    (h : ∀ g w', g = w.heap.size → Bk w' g 106 (hoA ho0) → Below w.heap.size w w' → w'.heap.size = g + 1 → wpList Tryd.prog ops Q rest (a.put o.dst (.pointer (some ⟨g, 0, none⟩))) w') : wpList Tryd.prog ops Q (o :: rest) a w :=
  wpList_allocZ hgd _ ho ho_zero h
theorem wpList_load_ho {w : World} {ops : Array Oper} {rest : List Oper} {o : Oper} {a : Act} {Q : Exit → Act → World → Prop} (hgd : o.guard = none) (x : Operand) (ho : o.op = .load 106 x) {g : Nat} (hx : a.eval x = .pointer (some ⟨g, 0, none⟩))
    {t : TypeId} {b : Ho} (hB : Bk w g t (hoA b)) (h : wpList Tryd.prog ops Q rest (a.put o.dst (.agg (hoA b))) w) : wpList Tryd.prog ops Q (o :: rest) a w :=
  wpList_loadB hgd _ x ho hx hB ho_under rfl (ho_size' b) h
theorem wpList_store_ho {w : World} {ops : Array Oper} {rest : List Oper} {o : Oper} {a : Act} {Q : Exit → Act → World → Prop} (hgd : o.guard = none) (x y : Operand) (ho : o.op = .store 106 x y) {g : Nat} {b c : Ho} (hx : a.eval x = .pointer (some ⟨g, 0, none⟩)) (hy : a.eval y = .agg (hoA b))
    {t : TypeId} (hB : Bk w g t (hoA c)) (h : ∀ w', Bk w' g t (hoA b) → Stays g w w' → wpList Tryd.prog ops Q rest (a.put o.dst undef) w') : wpList Tryd.prog ops Q (o :: rest) a w :=
  wpList_storeB hgd _ x y ho hx hy hB (ho_size' b) (by rw [hoA_size, hoA_size]) (hoA_one b) h
theorem wpList_loadM_ho {w : World} {ops : Array Oper} {rest : List Oper} {o : Oper} {a : Act} {Q : Exit → Act → World → Prop} (hgd : o.guard = none) (x : Operand) (ho : o.op = .load 106 x) {g off : Nat} (hx : a.eval x = .pointer (some ⟨g, off, none⟩))
    {b : Ho} (hB : w.rangeAt g off (hoL b)) (h : wpList Tryd.prog ops Q rest (a.put o.dst (.agg (hoA b))) w) : wpList Tryd.prog ops Q (o :: rest) a w :=
  wpList_load_mid hgd _ x ho g off hx (hoL b) _ hB ho_under rfl (by rw [hoL_len]; exact ho_size) h
/-- a host and a Bool are handed back. -/
theorem ret_hoB {fn : Func} {p q : Tmp} (h : fn.results = #[.cell p 106, .tmp q]) {R : Ending → World → Prop} {a : Act} {w : World} {g : Nat} {t : TypeId} {b : Ho} {v : Value}
    (hp : a.tmps.getD p undef = .pointer (some ⟨g, 0, none⟩)) (hq : a.tmps.getD q undef = v) (hB : Bk w g t (hoA b)) (hd : a.defers = []) (hR : R (.returned (.tuple #[.agg (hoA b), v])) w) : bodyPost Tryd.prog fn R .ret a w := by
  refine bodyPost_ret_by (v := .tuple #[.agg (hoA b), v]) ?_ hd hR
  have hp' : a.tmps[p]?.getD undef = .pointer (some ⟨g, 0, none⟩) := by simpa using hp
  have hq' : a.tmps[q]?.getD undef = v := by simpa using hq
  simp [results, h, hp', hq', asAddr, run_loadVar_row (P := Tryd.prog) w g t 106 (hoA b) (0, 0) _ hB ho_under rfl (ho_size' b)]
/-- what a host says. -/
def hoP (h : Ho) : Ad × List NmL := (h.ad, h.L.map (·.2))
/-- a host whose names lie below b, or in blocks of their types. -/
structure HoB (b : Nat) (w : World) (h : Ho) : Prop where
  sl : SlB b 51 w 1 h.v h.L.length (h.L.flatMap nmF)
  nm : ∀ q ∈ h.L, NmB b w q
  few : h.L.length ≤ 1000000
theorem HoB.bel {b : Nat} {w w' : World} {h : Ho} (x : HoB b w h) (hb : Below w.heap.size w w') : HoB b w' h := ⟨x.sl.bel hb, fun q hq => (x.nm q hq).bel hb, x.few⟩
theorem HoB.grown {b : Nat} {w w' : World} {h : Ho} (x : HoB b w h) {vo : Value} {no : Nat} {xo : List Value} (ho : w.ownsRow b 106 19 vo no xo) (hg : w.grownBy w' vo.ownBlock) : HoB b w' h :=
  ⟨x.sl.grown ho (by decide) hg, fun q hq => ⟨(x.nm q hq).sl.grown ho (by decide) hg, (x.nm q hq).few, (x.nm q hq).len⟩, x.few⟩
/-- a store into a block at or above b of another element type leaves it as it was. -/
theorem SlB.stays {b size n g : Nat} {t t' : TypeId} {w w' : World} {v : Value} {xs : List Value} {cs : Array Value} (h : SlB b t w size v n xs) (hs : Stays g w w') (hg : b ≤ g) (hB : Bk w g t' cs) (ht : t ≠ t') : SlB b t w' size v n xs := by
  have key : ∀ k off c, v = .slice (some ⟨k, off, none⟩) n c → 0 < n → k ≠ g := by
    intro k off c hv hn hk
    subst hk
    rcases h.far k off c hv hn with hl | ⟨cur, fr, h2⟩
    · omega
    · rw [show w.heap[k]? = _ from hB] at h2
      injection h2 with h2
      injection h2 with _ h2 _
      exact ht h2.symm
  refine ⟨?_, fun k off c hv hn => ?_⟩
  · obtain ⟨h0, A, c, rfl, hc, hA, hcell⟩ := h.sl
    refine ⟨h0, A, c, rfl, hc, hA, fun ad had hn => ?_⟩
    obtain ⟨h1, h2, h3⟩ := hcell ad had hn
    obtain ⟨k, off, sp⟩ := ad
    dsimp only at h1 h2 h3
    subst had h2
    exact ⟨by rw [hs.size]; exact h1, rfl, fun j u hu => (World.cell?_of_block (a := ⟨k, off + j, none⟩) (hs.block k (key k off c rfl hn))).trans (h3 j u hu)⟩
  · rcases h.far k off c hv hn with hl | ⟨cur, fr, hh⟩
    · exact .inl hl
    · exact .inr ⟨cur, fr, (hs.block k (key k off c hv hn)).trans hh⟩
theorem HoB.stays {b g : Nat} {t' : TypeId} {w w' : World} {h : Ho} {cs : Array Value} (x : HoB b w h) (hs : Stays g w w') (hg : b ≤ g) (hB : Bk w g t' cs) (h1 : 51 ≠ t') (h2 : 9 ≠ t') : HoB b w' h :=
  ⟨x.sl.stays hs hg hB h1, fun q hq => ⟨(x.nm q hq).sl.stays hs hg hB h2, (x.nm q hq).few, (x.nm q hq).len⟩, x.few⟩
/-- hosts in a row of the call's own. -/
structure HosOwn (b : Nat) (w : World) (v : Value) (H : List Ho) : Prop where
  own : w.ownsRow b 106 19 v H.length (H.flatMap hoL)
  ok : ∀ h ∈ H, HoB b w h
theorem HosOwn.nil (b : Nat) (w : World) : HosOwn b w (.slice none 0 0) [] := ⟨by simpa using World.ownsRow_nil w b 106 19, fun _ h => (by cases h)⟩
theorem HosOwn.bel {b : Nat} {w w' : World} {v : Value} {H : List Ho} (h : HosOwn b w v H) (hb : Below w.heap.size w w') : HosOwn b w' v H := ⟨own_below h.own hb, fun q hq => (h.ok q hq).bel hb⟩
theorem HosOwn.add {b : Nat} {w w' : World} {v v' : Value} {H : List Ho} {x : Ho} (h : HosOwn b w v H) (hx : HoB b w x) (ho : w'.ownsRow b 106 19 v' (H.length + 1) (H.flatMap hoL ++ hoL x)) (hg : w.grownBy w' v.ownBlock) : HosOwn b w' v' (H ++ [x]) := by
  refine ⟨?_, fun q hq => ?_⟩
  · rw [List.length_append, List.flatMap_append]
    simpa using ho
  · rcases List.mem_append.1 hq with hq | hq
    · exact (h.ok q hq).grown h.own hg
    · rw [List.mem_singleton.1 hq]; exact hx.grown h.own hg
/-- a host that is read. -/
structure HoOk (w : World) (h : Ho) : Prop where
  sl : Sl w 1 h.v h.L.length (h.L.flatMap nmF)
  nm : ∀ q ∈ h.L, NmOk w q
  few : h.L.length ≤ 1000000
theorem HoB.ok {b : Nat} {w : World} {h : Ho} (x : HoB b w h) : HoOk w h := ⟨x.sl.sl, fun q hq => (x.nm q hq).ok, x.few⟩
theorem HoOk.bel {w w' : World} {h : Ho} (x : HoOk w h) (hb : Below w.heap.size w w') : HoOk w' h := ⟨x.sl.below hb, fun q hq => (x.nm q hq).bel hb, x.few⟩
structure HosAt (w : World) (v : Value) (H : List Ho) : Prop where
  sl : Sl w 19 v H.length (H.flatMap hoL)
  ok : ∀ h ∈ H, HoOk w h
theorem HosOwn.at_ {b : Nat} {w : World} {v : Value} {H : List Ho} (h : HosOwn b w v H) : HosAt w v H := ⟨Sl.own h.own, fun q hq => (h.ok q hq).ok⟩
theorem HosAt.bel {w w' : World} {v : Value} {H : List Ho} (h : HosAt w v H) (hb : Below w.heap.size w w') : HosAt w' v H := ⟨h.sl.below hb, fun q hq => (h.ok q hq).bel hb⟩
/-- the name that a text is. -/
def oneN (x : List UInt8) : Option NmL := match prs x with
  | .inr (n, _) => if n = [] then none else some n
  | .inl _ => none
def namesP (F : List (List UInt8)) : Option (List NmL) := if F.all (fun x => (oneN x).isSome) = true then some (F.filterMap oneN) else none
/-- the host that fields are. -/
def hostP (F : List (List UInt8)) : Option (Ad × List NmL) := match F with
  | f :: g :: r => match adrP f with
    | .inr a => (namesP (g :: r)).map fun N => (a, N)
    | .inl _ => none
  | _ => none
def HostPost (w : World) (o : Option (Ad × List NmL)) (e : Ending) (w' : World) : Prop := Below w.heap.size w w' ∧ match o with
  | none => e = .returned (.tuple #[.agg (hoA ho0), .bool false])
  | some p => ∃ h : Ho, e = .returned (.tuple #[.agg (hoA h), .bool true]) ∧ (∀ b, HoB b w' h) ∧ hoP h = p
end Go.Proofs.YtgebcifkbldfoaaDoor

/- The reference's Same of hosts (18). -/
namespace Go.Proofs.YtgebcifkbldfoaaDoor
open Go.RowKit

theorem hoL_ad {w : World} {b off : Nat} {h : Ho} (hR : w.rangeAt b off (hoL h)) : w.rangeAt b off (adL h.ad) := fun j v hv => by
  have hj : j < 18 := by have := (List.getElem?_eq_some_iff.1 hv).1; rwa [adL_len] at this
  exact hR j v (by rw [hoL_hd h hj]; exact hv)
theorem hoL_nm {w : World} {b off : Nat} {h : Ho} (hR : w.rangeAt b off (hoL h)) : w.cell? ⟨b, off + 18, none⟩ = some h.v := hR 18 _ (hoL_18 h)
theorem range_bel {w w' : World} {b off : Nat} {l : List Value} (hb : Below w.heap.size w w') (hbl : b < w.heap.size) (hR : w.rangeAt b off l) : w'.rangeAt b off l := fun j v hv => (hb.cell (p := ⟨b, off + j, none⟩) hbl).trans (hR j v hv)
theorem map_hoP_next {L : List Ho} {k : Nat} (h : k < L.length) : (L.take (k + 1)).map hoP = (L.take k).map hoP ++ [hoP L[k]] := by
  rw [List.take_succ_eq_append_getElem h, List.map_append]; rfl
set_option maxRecDepth 100000 in
set_option maxHeartbeats 2000000 in
theorem hsame_any (L M : List Ho) (va vb : Value) (w : World) (ha : HosAt w va L) (hb : HosAt w vb M) (hl : L.length ≤ 1000000) (hm : M.length ≤ 1000000) :
    Calls Tryd.prog 25 #[va, vb] w fun e w' => e = .returned (.bool (decide (L.map hoP = M.map hoP))) ∧ Below w.heap.size w w' := by
  obtain ⟨a1, c1, hv1, hc1⟩ := ha.sl.any
  subst hv1
  obtain ⟨a2, c2, hv2, hc2⟩ := hb.sl.any
  subst hv2
  have Ha := Lib.hid ha
  have Hb := Lib.hid hb
  clear ha hb
  by_cases hn : L.length = M.length
  · have i1 : ((L.length : Int) != (M.length : Int)) = false := by simp [hn]
    have i2 : (L.length != M.length) = false := by simp [hn]
    have Hn := Lib.hid hn
    have hle : L.length ≤ M.length := by omega
    clear hn
    go_enter Tryd.func25, Tryd.ntmps25
    go_wp2
    go_loopw [5] (fun i wr => ∃ k : Nat, k ≤ L.length ∧ i = .int .i64 k ∧ ((L.take k).map hoP = (M.take k).map hoP) ∧ Below w.heap.size w wr) (fun i _ => L.length - (intOf i).toNat)
    case atStart => exact ⟨0, Nat.zero_le _, rfl, rfl, Below.refl _ _⟩
    case round =>
      obtain ⟨k, hk, rfl, heq, hbel⟩ := hrel
      have Heq := Lib.hid heq
      clear heq
      by_cases hlt : k < L.length
      · have hltM : k < M.length := by omega
        have hltI : (k : Int) < (L.length : Int) := by omega
        have hltJ : (k : Int) < (M.length : Int) := by omega
        have hk0 : (0 : Int) ≤ (k : Int) := by omega
        obtain ⟨b, off, c, hv, hc, hbl, hcell⟩ := Ha.out.sl.pos (by omega)
        injection hv with hv1 _ hv2
        subst hv1 hv2
        obtain ⟨b2, off2, c3, hv, hc3, hbl2, hcell2⟩ := Hb.out.sl.pos (by omega)
        injection hv with hv1 _ hv2
        subst hv1 hv2
        have hP1 := (Ha.out.ok _ (List.getElem_mem hlt)).bel hbel
        have hP2 := (Hb.out.ok _ (List.getElem_mem hltM)).bel hbel
        have hR := range_bel hbel hbl (range_of hoL_len hcell hlt)
        have hR2 := range_bel hbel hbl2 (range_of hoL_len hcell2 hltM)
        have HN1 := Lib.hid (map_hoP_next hlt)
        have HN2 := Lib.hid (map_hoP_next hltM)
        have Hd : Hid (L.map hoP = M.map hoP → hoP L[k] = hoP M[k]) := Lib.hid (fun h => by
          have h1 : (L.map hoP)[k]? = (M.map hoP)[k]? := by rw [h]
          rw [List.getElem?_map, List.getElem?_map, List.getElem?_eq_getElem hlt, List.getElem?_eq_getElem hltM] at h1
          exact Option.some.inj h1)
        generalize L[k] = p at *
        generalize M[k] = q at *
        have R1 := hoL_ad hR
        have R2 := hoL_ad hR2
        have e1 := hoL_nm hR
        have e2 := hoL_nm hR2
        have E1 := Lib.hid e1
        have E2 := Lib.hid e2
        have HP1 := Lib.hid hP1
        have HP2 := Lib.hid hP2
        obtain ⟨pa, pA, pc, pL⟩ := p
        obtain ⟨qa, qA, qc, qL⟩ := q
        dsimp only [Ho.v] at E1 E2 R1 R2
        clear hR hcell hbl hR2 hcell2 hbl2 hP1 hP2 e1 e2
        have HX : ∀ (x : BelT wr), Calls Tryd.prog 34 #[.slice pA pL.length pc, .slice qA qL.length qc] x.at_ fun e w' => e = .returned (.bool (decide (pL.map (·.2) = qL.map (·.2)))) ∧ Below x.at_.heap.size x.at_ w' := fun x => sameNms_any pL qL _ _ _ (HP1.out.sl.below x.bel) (HP2.out.sl.below x.bel) (fun q hq => (HP1.out.nm q hq).bel x.bel) (fun q hq => (HP2.out.nm q hq).bel x.bel) HP1.out.few HP2.out.few
        cases hr : (!decide (pa = qa))
        · have Hr := Lib.hid hr
          clear hr
          cases hs : decide (pL.map (·.2) = qL.map (·.2))
          all_goals
            have Hs := Lib.hid hs
            clear hs
            rw [Hs.out] at HX
            go_wp2
            refine wp_region_bel (by kernel_rfl) (by kernel_rfl) ?_
            repeat (first
              | go_big_quiet_skip
              | (go_big_quiet_want; first
                  | ((with_reducible show (⟨some 21, _, _, _, _, _⟩ : Oper).quiet _ _ _ _); refine quiet_loadAd (o := ⟨some 21, _, _, _, _, _⟩) _ rfl rfl R1 (by simp only [Act.put, List.setIfInBounds_toArray, List.set_cons_succ, List.set_cons_zero]; exact rfl) ?_; go_big_quiet_on)
                  | ((with_reducible show (⟨some 26, _, _, _, _, _⟩ : Oper).quiet _ _ _ _); refine quiet_loadAd (o := ⟨some 26, _, _, _, _, _⟩) _ rfl rfl R2 (by simp only [Act.put, List.setIfInBounds_toArray, List.set_cons_succ, List.set_cons_zero]; exact rfl) ?_; go_big_quiet_on)
                  | ((with_reducible show (⟨some 27, _, _, _, _, _⟩ : Oper).quiet _ _ _ _); refine quiet_neqAd (o := ⟨some 27, _, _, _, _, _⟩) _ _ rfl rfl rfl Hr.out (by simp only [Act.put, List.setIfInBounds_toArray, List.set_cons_succ, List.set_cons_zero]; exact rfl) ?_; go_big_quiet_on)
                  | ((with_reducible show (⟨some 33, _, _, _, _, _⟩ : Oper).quiet _ _ _ _); refine quiet_loadC (o := ⟨some 33, _, _, _, _, _⟩) _ _ rfl rfl E1.out Tryd.underlying62 rfl (by simp only [Act.put, List.setIfInBounds_toArray, List.set_cons_succ, List.set_cons_zero]; exact rfl) ?_; go_big_quiet_on)
                  | ((with_reducible show (⟨some 38, _, _, _, _, _⟩ : Oper).quiet _ _ _ _); refine quiet_loadC (o := ⟨some 38, _, _, _, _, _⟩) _ _ rfl rfl E2.out Tryd.underlying62 rfl (by simp only [Act.put, List.setIfInBounds_toArray, List.set_cons_succ, List.set_cons_zero]; exact rfl) ?_; go_big_quiet_on)
                  | (go_big_quiet_op; first | go_big_quiet_on | go_big_quiet_call ((refine bel_call (HX _))))))
            refine wpQuiet_nil ?_
            rintro _ ⟨x, rfl⟩
            go_wp2
          · go_ret
            have he : pL.map (·.2) ≠ qL.map (·.2) := by simpa using Hs.out
            refine ⟨retb ?_, hbel.trans (x.bel.mono hbel.size)⟩
            rw [eq_comm, decide_eq_false_iff_not]
            intro h
            have h1 := Hd.out h
            unfold hoP at h1
            injection h1 with _ h1
            exact he h1
          · go_roundw
            case rel =>
              have he : pL.map (·.2) = qL.map (·.2) := by simpa using Hs.out
              have ha : pa = qa := by simpa using Hr.out
              refine ⟨k + 1, by omega, by go_num, ?_, hbel.trans (x.bel.mono hbel.size)⟩
              rw [HN1.out, HN2.out, Heq.out]
              unfold hoP
              simp only [he, ha]
            case measure => simp [intOf]; omega
        · have Hr := Lib.hid hr
          clear hr HX
          go_wp2
          refine wp_region_bel (by kernel_rfl) (by kernel_rfl) ?_
          repeat (first
            | go_big_quiet_skip
            | (go_big_quiet_want; first
                | ((with_reducible show (⟨some 21, _, _, _, _, _⟩ : Oper).quiet _ _ _ _); refine quiet_loadAd (o := ⟨some 21, _, _, _, _, _⟩) _ rfl rfl R1 (by simp only [Act.put, List.setIfInBounds_toArray, List.set_cons_succ, List.set_cons_zero]; exact rfl) ?_; go_big_quiet_on)
                | ((with_reducible show (⟨some 26, _, _, _, _, _⟩ : Oper).quiet _ _ _ _); refine quiet_loadAd (o := ⟨some 26, _, _, _, _, _⟩) _ rfl rfl R2 (by simp only [Act.put, List.setIfInBounds_toArray, List.set_cons_succ, List.set_cons_zero]; exact rfl) ?_; go_big_quiet_on)
                | ((with_reducible show (⟨some 27, _, _, _, _, _⟩ : Oper).quiet _ _ _ _); refine quiet_neqAd (o := ⟨some 27, _, _, _, _, _⟩) _ _ rfl rfl rfl Hr.out (by simp only [Act.put, List.setIfInBounds_toArray, List.set_cons_succ, List.set_cons_zero]; exact rfl) ?_; go_big_quiet_on)
                | (go_big_quiet_op; go_big_quiet_on)))
          refine wpQuiet_nil ?_
          rintro _ ⟨x, rfl⟩
          go_wp2
          go_ret
          have he : pa ≠ qa := by simpa using Hr.out
          refine ⟨retb ?_, hbel.trans (x.bel.mono hbel.size)⟩
          rw [eq_comm, decide_eq_false_iff_not]
          intro h
          have h1 := Hd.out h
          unfold hoP at h1
          injection h1 with h1 _
          exact he h1
      · have hltI : ¬ (k : Int) < (L.length : Int) := by omega
        go_wp2
        go_ret
        refine ⟨retb ?_, hbel⟩
        rw [eq_comm, decide_eq_true_iff]
        have := Heq.out
        rwa [List.take_of_length_le (by omega), List.take_of_length_le (by have := Hn.out; omega)] at this
  · have i1 : ((L.length : Int) != (M.length : Int)) = true := by simp; omega
    have i2 : (L.length != M.length) = true := by simp; omega
    go_enter Tryd.func25, Tryd.ntmps25
    go_wp2
    go_ret
    refine ⟨retb ?_, Below.refl _ _⟩
    rw [eq_comm, decide_eq_false_iff_not]
    intro h
    exact hn (by simpa using congrArg List.length h)
end Go.Proofs.YtgebcifkbldfoaaDoor
