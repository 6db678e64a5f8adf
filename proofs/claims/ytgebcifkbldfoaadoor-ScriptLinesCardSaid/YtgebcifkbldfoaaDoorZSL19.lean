/- Contracts and plain lemmas of our own, merged. -/
import Derived.Test.YtgebcifkbldfoaaDoorZSL17
import Derived.Test.YtgebcifkbldfoaaDoorZSL18
import Derived.Lib.LaidTab
/- The contract of strconv.FormatInt at the base 16, for numbers below 65536. -/
namespace Go.Proofs.YtgebcifkbldfoaaDoor
open Go.RowKit
attribute [local go_sem] ba_get ext_take ext_drop ext_any ba_app

def brTab : List Int := [0, 1, 56, 2, 57, 49, 28, 3, 61, 58, 42, 50, 38, 29, 17, 4, 62, 47, 59, 36, 45, 43, 51, 22, 53, 39, 33, 30, 24, 18, 12, 5, 63, 55, 48, 27, 60, 41, 37, 16, 46, 35, 44, 21, 52, 32, 23, 11, 54, 26, 40, 15, 34, 20, 31, 10, 25, 14, 19, 9, 13, 8, 7, 6]
def TabN (w : World) : Prop := Lib.TabIs Tryd.prog w "math/bits.deBruijn64tab" .u8 brTab
theorem TabN.below {w w' : World} (h : TabN w) (hb : Below w.heap.size w w') : TabN w' := Lib.tabBelow_of_tabIs h w' hb
set_option maxRecDepth 100000 in
theorem slice65_l (w : World) (g : Nat) (l : Int) (h0 : 0 ≤ l) (h1 : l < 65) : (Instr.sliceAt 220 (.pointer (some ⟨g, 0, none⟩)) (some (.int .i64 l)) none none).run Tryd.prog w = .ok (.slice (some ⟨g, l.toNat, none⟩) (65 - l.toNat) (65 - l.toNat)) w := by
  have hu : Tryd.prog.underlying 220 = some (.array 65 5) := by kernel_rfl
  have ha : Tryd.prog.arrayLen 220 = 65 := by kernel_rfl
  have he : Tryd.prog.elem 220 = 5 := by kernel_rfl
  have hi : (Tryd.prog.info? 5).map (·.size) = some 1 := by kernel_rfl
  have hs : (sizeOf 5).run Tryd.prog w = .ok 1 w := by
    cases hi2 : Tryd.prog.info? 5 with
    | none => rw [hi2] at hi; cases hi
    | some i => rw [hi2] at hi; injection hi with hi; simp [sizeOf, typeInfo, hi2, hi]
  rw [run_sliceAt_array_l w _ _ (by rw [ha, he]; exact hu) .i64 l h0 (by rw [ha]; omega), he, hs, ha]
  simp only [Result.andThen_ok, slicedAt]
  rw [if_neg (by omega), Nat.mul_one, add_none, Nat.zero_add]
attribute [local go_sem] slice65_l

end Go.Proofs.YtgebcifkbldfoaaDoor

/- The walks of ColonParses and ColonBack. -/
namespace Go.Proofs.YtgebcifkbldfoaaDoor
open Go.RowKit
attribute [local go_sem] ba_get ext_take ext_drop ext_any ba_app

theorem adS_cases (o : Int ⊕ Ad) : ∃ x k, adS o = .tuple #[.agg (adA x), .int .i64 k] := by
  cases o with
  | inl e => exact ⟨_, _, rfl⟩
  | inr x => exact ⟨_, _, rfl⟩
end Go.Proofs.YtgebcifkbldfoaaDoor

/- The contracts of addr.Parse, addr.Text and of the reference's Parse (9). -/
namespace Go.Proofs.YtgebcifkbldfoaaDoor
open Go.RowKit
attribute [local go_sem] ba_get ext_take ext_drop ext_any ba_app

theorem hasB_ib {l : List UInt8} {d : UInt8} (h : hasB d l = true) : ∃ k : Nat, Lib.indexByte l d = (k : Int) := by
  unfold hasB at h
  rw [lib_idx]
  cases e : idx d l with
  | none => rw [e] at h; cases h
  | some k => exact ⟨k, rfl⟩
theorem hasB_ibn {l : List UInt8} {d : UInt8} (h : hasB d l = false) : Lib.indexByte l d = -1 := by
  unfold hasB at h
  rw [lib_idx]
  cases e : idx d l with
  | none => rfl
  | some k => rw [e] at h; cases h
/-- an address that is written. -/
def adrP (s : List UInt8) : Int ⊕ Ad := if hasB 58 s = true then colP s else match qpA s with | some a => .inr a | none => .inl 5
def ApPost (w : World) (s : List UInt8) (e : Ending) (w' : World) : Prop := e = .returned (adS (adrP s)) ∧ Below w.heap.size w w'
set_option maxRecDepth 100000 in
set_option maxHeartbeats 2000000 in
theorem aparse_any (s : List UInt8) (w : World) (ht : Tab w) (hm : MaxI w) (hl : s.length ≤ 1000000000) : Calls Tryd.prog 96 #[.string ⟨s.toArray⟩] w (ApPost w s) := by
  cases hc : hasB 58 s with
  | false =>
    refine (aparseQ_any s w ht hl (hasB_ibn hc)).mono fun e w' ⟨he, hb⟩ => ⟨?_, hb⟩
    rw [he]
    unfold adrP
    rw [if_neg (by rw [hc]; decide)]
    cases qpA s <;> rfl
  | true =>
    have hp : adrP s = colP s := by unfold adrP; rw [if_pos hc]
    obtain ⟨k, hk⟩ := hasB_ib hc
    obtain ⟨x, n, hx⟩ := adS_cases (colP s)
    have Hp := Lib.hid hp
    have Hk := Lib.hid hk
    have Hx := Lib.hid hx
    have Ht := Lib.hid ht
    have Hm := Lib.hid hm
    clear hp hk hx ht hm hc
    go_enter Tryd.func96, Tryd.ntmps96
    go_wp2_with (first
      | ((with_reducible refine wpList_allocAd rfl rfl ?_); intro g w1 hg hB hb hs; have hg1 : w.heap.size ≤ g := Nat.le_of_eq hg.symm; clear hg hs)
      | (go_at_call 83; refine (Tryd.strings_IndexByte _ _ _).mono ?_; rintro e w2 ⟨rfl, hw⟩; have hw2 := hw.symm; subst hw2; clear hw; rw [show Lib.indexByte (⟨s.toArray⟩ : ByteArray).data.toList ((58 : Int).toNat.toUInt8) = (k : Int) from Hk.out])
      | (go_at_call 127; refine (cparse_any s _ (Ht.out.below hb) (Hm.out.below hb) hl).mono ?_; rintro e w3 ⟨rfl, hb3⟩; rw [Hx.out]; have hB3 := hB.bel hb3)
      | ((with_reducible refine wpList_storeAd rfl _ _ rfl rfl rfl hB3 ?_); intro w4 hB4 hS4))
    exact ret_adE Tryd.results96 rfl rfl hB4 rfl ⟨by rw [Hp.out, Hx.out]; rfl, (bel_tr hb hb3).trans (hS4.below hg1)⟩
set_option maxRecDepth 100000 in
set_option maxHeartbeats 2000000 in
theorem raparse_any (s : List UInt8) (w : World) (hl : s.length ≤ 1000000000) : Calls Tryd.prog 56 #[.string ⟨s.toArray⟩] w (ApPost w s) := by
  cases hi : idx 58 s with
  | none =>
    have hc : hasB 58 s = false := by unfold hasB; rw [hi]
    have hp : adS (adrP s) = adE (qpA s) 5 := by
      unfold adrP
      rw [if_neg (by rw [hc]; decide)]
      cases qpA s <;> rfl
    obtain ⟨x, n, hx⟩ := adE_cases (qpA s) 5
    have Hp := Lib.hid hp
    have Hx := Lib.hid hx
    have Hi := Lib.hid (idx_none hi)
    clear hp hx hi hc
    go_enter Tryd.func56, Tryd.ntmps56
    go_wp2_with (first
      | ((with_reducible refine wpList_allocAd rfl rfl ?_); intro g w1 hg hB hb hs; have hg1 : w.heap.size ≤ g := Nat.le_of_eq hg.symm; clear hg hs))
    go_loop [4] (fun i => ∃ k : Nat, k ≤ s.length ∧ i = .int .i64 k) (fun i => s.length - (intOf i).toNat)
    case atStart => exact ⟨0, by omega, rfl⟩
    case round =>
      obtain ⟨k, hk, rfl⟩ := hrel
      by_cases hlt : k < s.length
      · have j1 : (k : Int) < (s.length : Int) := by omega
        have hne : ((s[k].toNat : Int) == 58) = false := by
          have := Hi.out k hlt
          simp
          intro h
          exact this (UInt8.toNat_inj.1 (by rw [show (58 : UInt8).toNat = 58 from rfl]; omega))
        go_wp2
        go_round
        case rel => exact ⟨k + 1, by omega, by go_num⟩
        case measure => simp [intOf]; omega
      · have j1 : ¬ (k : Int) < (s.length : Int) := by omega
        go_wp2_with (first
          | (go_at_call 91; refine (rqparse_any s _ hl).mono ?_; rintro e w3 ⟨rfl, hb3⟩; rw [Hx.out]; have hB3 := hB.bel hb3)
          | ((with_reducible refine wpList_storeAd rfl _ _ rfl rfl rfl hB3 ?_); intro w4 hB4 hS4))
        exact ret_adE Tryd.results56 rfl rfl hB4 rfl ⟨by rw [Hp.out, Hx.out]; rfl, (bel_tr hb hb3).trans (hS4.below hg1)⟩
  | some m =>
    obtain ⟨hm, he, hbef⟩ := idx_some hi
    have hc : hasB 58 s = true := by unfold hasB; rw [hi]
    have hp : adrP s = colP s := by unfold adrP; rw [if_pos hc]
    obtain ⟨x, n, hx⟩ := adS_cases (colP s)
    have Hp := Lib.hid hp
    have Hx := Lib.hid hx
    have He := Lib.hid he
    have Hbef := Lib.hid hbef
    clear hp hx hi hc he hbef
    go_enter Tryd.func56, Tryd.ntmps56
    go_wp2_with (first
      | ((with_reducible refine wpList_allocAd rfl rfl ?_); intro g w1 hg hB hb hs; have hg1 : w.heap.size ≤ g := Nat.le_of_eq hg.symm; clear hg hs))
    go_loop [4] (fun i => ∃ k : Nat, k ≤ m ∧ i = .int .i64 k) (fun i => s.length - (intOf i).toNat)
    case atStart => exact ⟨0, by omega, rfl⟩
    case round =>
      obtain ⟨k, hk, rfl⟩ := hrel
      have hlt : k < s.length := by omega
      have j1 : (k : Int) < (s.length : Int) := by omega
      by_cases hkm : k < m
      · have hne : ((s[k].toNat : Int) == 58) = false := by
          have := Hbef.out k hlt hkm
          simp
          intro h
          exact this (UInt8.toNat_inj.1 (by rw [show (58 : UInt8).toNat = 58 from rfl]; omega))
        go_wp2
        go_round
        case rel => exact ⟨k + 1, by omega, by go_num⟩
        case measure => simp [intOf]; omega
      · have e : k = m := by omega
        subst e
        have hne : ((s[k].toNat : Int) == 58) = true := by rw [He.out]; rfl
        go_wp2_with (first
          | (go_at_call 90; refine (rcparse_any s _ hl).mono ?_; rintro e w3 ⟨rfl, hb3⟩; rw [Hx.out]; have hB3 := hB.bel hb3)
          | ((with_reducible refine wpList_storeAd rfl _ _ rfl rfl rfl hB3 ?_); intro w4 hB4 hS4))
        exact ret_adE Tryd.results56 rfl rfl hB4 rfl ⟨by rw [Hp.out, Hx.out]; rfl, (bel_tr hb hb3).trans (hS4.below hg1)⟩
end Go.Proofs.YtgebcifkbldfoaaDoor

/- The contracts of addr.mapped, addr.Unmap, addr.Map, addr.Scope. -/
namespace Go.Proofs.YtgebcifkbldfoaaDoor
open Go.RowKit
attribute [local go_sem] ba_get ext_take ext_drop ext_any ba_app

def aheadTab : List Int := [0, 0, 0, 0, 0, 0, 0, 0, 0, 0, 255, 255]
def TabA (w : World) : Prop := Lib.TabIs Tryd.prog w "wayfinder/addr.ahead" .u8 aheadTab
theorem TabA.below {w w' : World} (h : TabA w) (hb : Below w.heap.size w w') : TabA w' := Lib.tabBelow_of_tabIs h w' hb
end Go.Proofs.YtgebcifkbldfoaaDoor
