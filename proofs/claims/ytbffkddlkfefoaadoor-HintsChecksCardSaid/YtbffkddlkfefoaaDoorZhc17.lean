/- Contracts and plain lemmas of our own, merged. -/
import Derived.Test.YtbffkddlkfefoaaDoorZhc16
import Derived.Test.YtbffkddlkfefoaaDoorZhc7
/- The walk of HintsChecks. -/
namespace Go.Proofs.YtbffkddlkfefoaaDoor
open Go.RowKit
attribute [local go_sem] ba_get ext_take ext_drop ext_any ba_app

set_option maxRecDepth 100000 in
set_option maxHeartbeats 4000000 in
theorem works42_any (w : World) (ht : Tab w) : Calls Tryd.prog 32 #[] w (Good w) := by
  have Ht := Lib.hid ht
  clear ht
  have H1 := Lib.hid built_hn42
  go_enter Tryd.func32, Tryd.ntmps32
  go_wp2_with (first
    | (with_reducible refine wpList_buildL rfl 44 _ rfl H1.out rfl ?_)
    | (go_at_call 80; refine (literal42 _ Ht.out).mono ?_; rintro e w1 ⟨g, rfl, hB1, hb1⟩)
    | (refine wpList_loadAdG rfl _ rfl rfl hB1 ?_)
    | (go_at_call 31; refine (rctext_any ad42 _).mono ?_; rintro e w2 ⟨rfl, hb2⟩; rw [ct42]))
  go_ret
  exact ⟨rfl, bel_tr hb1 hb2⟩

set_option maxRecDepth 100000 in
set_option maxHeartbeats 4000000 in
theorem hintsChecks_walk (w : World) (ht : Tab w) (h : Hn) (n : List UInt8) (_hn : n.length ≤ 140737488351232) (s : List UInt8) (_hs : s.length ≤ 140737488351232) : Calls Tryd.prog 7 #[.agg (hnA h), .string ⟨n.toArray⟩, .string ⟨s.toArray⟩] w (Good w) := by
  have Ht := Lib.hid ht
  clear ht
  go_enter Tryd.func7, Tryd.ntmps7
  go_wp2_with (first
    | ((with_reducible refine wpList_boxB rfl _ _ rfl rfl ?_); intro g1 w1 hg hB1 hb1 hs; clear hg hs))
  have R1 := hB1.rangeHn
  have hch := hcheck_any h n s
  have hrc := rhcheck_any h n s
  generalize chkH h.fl h.fam h.so n s = R at *
  refine wp_region_bel (by kernel_rfl) (by kernel_rfl) ?_
  repeat (first
    | go_big_quiet_skip
    | (go_big_quiet_want; first
        | ((with_reducible refine quiet_loadHn _ rfl rfl R1 (by simp only [Act.put, List.setIfInBounds_toArray, List.set_cons_succ, List.set_cons_zero]; exact rfl) ?_); go_big_quiet_on)
        | (go_big_quiet_op; first | go_big_quiet_on | go_big_quiet_call ((go_at_call 32; refine bel_call (works42_any _ (Ht.out.below (bel_tr hb1 (BelT.bel _)))))) | go_big_quiet_call ((go_at_call 33; refine bel_call (hch _))) | go_big_quiet_call ((go_at_call 34; refine bel_call (hrc _))))))
  refine wpQuiet_nil ?_
  rintro _ ⟨x, rfl⟩
  go_wp2
  go_ret
  exact ⟨rfl, bel_tr hb1 x.bel⟩

section
open Go.ChangeShapes Go.WideShapes Go.ChangeAt
variable {H : Type} {enc : TypeId × Value → H} {w : World} {base b0 : Nat} {spare : Nat → Bool} {held : Bool} {r : Reach}
theorem hn_cells3 : Tryd.prog.cellsOf 44 = 3 := by kernel_rfl
set_option maxRecDepth 100000 in
theorem open_hn {v : Value} {d : DataW H} {p : List MemPlace} (hv : Value.okWide Tryd.prog w r b0 44 v) (h : DataW.Trod enc Tryd.prog w base spare held 44 v d p) : ∃ a : Hn, v = .agg (hnA a) := by
  obtain ⟨cs, hcs, _⟩ := okWide_struct (P := Tryd.prog) (t := 44) hn_under hv
  obtain ⟨fuel, hf⟩ := h
  rw [hcs] at hf
  have hf' : DataW.trod enc Tryd.prog w base spare held fuel 44 cs.toList = some (d, p) := hf
  obtain ⟨xs, n, _, _, hlen, hxl, hfd⟩ := DataW.trod_struct hn_under hf'
  rw [hn_cells3] at hlen
  have hsz : (Tryd.prog.fieldsOf 44).size = 3 := by kernel_rfl
  rw [hsz] at hxl
  obtain ⟨f0, g0, t0, o0⟩ := field_of (fs := Tryd.prog.fieldsOf 44) (i := 0) (t := 3) (o := 0) (by kernel_rfl)
  obtain ⟨f1, g1, t1, o1⟩ := field_of (fs := Tryd.prog.fieldsOf 44) (i := 1) (t := 3) (o := 1) (by kernel_rfl)
  obtain ⟨f2, g2, t2, o2⟩ := field_of (fs := Tryd.prog.fieldsOf 44) (i := 2) (t := 3) (o := 2) (by kernel_rfl)
  have e0 := hfd 0 f0 g0
  have e1 := hfd 1 f1 g1
  have e2 := hfd 2 f2 g2
  rw [t0, o0, ad_cells1] at e0
  rw [t1, o1, ad_cells1] at e1
  rw [t2, o2, ad_cells1] at e2
  obtain ⟨y0, hy0⟩ := some_of_len (l := xs) (i := 0) (by omega)
  obtain ⟨y1, hy1⟩ := some_of_len (l := xs) (i := 1) (by omega)
  obtain ⟨y2, hy2⟩ := some_of_len (l := xs) (i := 2) (by omega)
  obtain ⟨z0, c0, _, w0⟩ := DataW.trod_int Tryd.underlying3 (e0.trans hy0)
  obtain ⟨z1, c1, _, w1⟩ := DataW.trod_int Tryd.underlying3 (e1.trans hy1)
  obtain ⟨z2, c2, _, w2⟩ := DataW.trod_int Tryd.underlying3 (e2.trans hy2)
  refine ⟨⟨z0, z1, z2, wf64 w0, wf64 w1, wf64 w2⟩, ?_⟩
  rw [hcs]
  congr 1
  rcases cs with ⟨l⟩
  simp only at hlen c0 c1 c2
  match l, hlen with
  | [a, b, c], _ =>
    simp at c0 c1 c2
    subst c0 c1 c2
    rfl
end
end Go.Proofs.YtbffkddlkfefoaaDoor
