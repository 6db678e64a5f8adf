/- Contracts and plain lemmas of our own, merged. -/
import Derived.Test.YtgebcifkbldfoaaDoorZNb11
import Derived.Test.YtgebcifkbldfoaaDoorZNb18
import Derived.Test.YtgebcifkbldfoaaDoorZNb9
/- nss.source, kind, word, status, Plain; the reference's Plain and Same (19). -/
namespace Go.Proofs.YtgebcifkbldfoaaDoor
open Go.RowKit
attribute [local go_sem] ba_get ext_take ext_drop ext_any ba_app

def SoPost (w : World) (s : So) (e : Ending) (w' : World) : Prop := e = .returned (.agg (soA s)) ∧ Below w.heap.size w w'
theorem so_cell1 {w : World} {g : Nat} {t : TypeId} {s : So} (h : Bk w g t (soA s)) {i : Nat} (hi : i < 4) : w.cell? ⟨g, i + 1, none⟩ = some (.bool (s.st[i]'(by rw [s.len]; exact hi))) := by
  rw [h.cell (i + 1)]; unfold soA; rw [List.getElem?_toArray]; exact soL_st s hi
/-- with a flag set. -/
def So.set (s : So) (i : Nat) (b : Bool) : So := ⟨s.k, s.st.set i b, by rw [List.length_set]; exact s.ok⟩
theorem soA_set (s : So) (i : Nat) (b : Bool) : (soA s).setIfInBounds (i + 1) (.bool b) = soA (s.set i b) := by
  unfold soA soL So.set
  rw [List.setIfInBounds_toArray, List.set_cons_succ, List.map_set]
set_option maxRecDepth 100000 in
set_option maxHeartbeats 1000000 in
theorem source_any (k : Int) (w : World) : Calls Tryd.prog 43 #[.int .i64 k] w (SoPost w (soK k)) := by
  go_enter Tryd.func43, Tryd.ntmps43
  go_upto_region 3 with (first
    | ((with_reducible show wpList _ _ _ (⟨some 2, _, _, _, _, _⟩ :: _) _ _); refine wpList_allocSo (o := ⟨some 2, _, _, _, _, _⟩) rfl rfl ?_; intro g2 w1 hg2 hB2 hb1 hs; have Hg2 := Lib.hid hg2; have hw1 : w1.heap.size = w.heap.size + 1 := (by omega); clear hs hg2)
    | ((with_reducible show wpList _ _ _ (⟨some 5, _, _, _, _, _⟩ :: _) _ _); refine wpList_buildL (o := ⟨some 5, _, _, _, _, _⟩) rfl _ [(0, .tmp 4)] rfl (built_so k) rfl ?_)
    | ((with_reducible show wpList _ _ _ (⟨some 3, _, _, _, _, _⟩ :: _) _ _); refine wpList_allocSo (o := ⟨some 3, _, _, _, _, _⟩) rfl rfl ?_; intro g3 w2 hg3 hB3 hb2 hs; have Hg3 := Lib.hid hg3; clear hs hg3)
    | ((with_reducible refine wpList_storeSo (o := ⟨none, _, _, _, _, _⟩) rfl (.tmp 3) _ rfl rfl rfl hB3 ?_); intro w3 hB33 hS3; have B23 := (hB2.bel hb2).stays hS3 (by have := hB2.lt; have := Hg3.out; omega); have hb3 := (hb1.trans (hb2.mono hb1.size)).trans (hS3.below (by have := hb1.size; have := Hg3.out; omega)); have c1 := so_cell1 hB33 (i := 0) (by omega); have f1 := hB33.free 1; have HB := Lib.hid hB33; have HB2 := Lib.hid B23; have Hw1 := Lib.hid hw1; have Hb3 := Lib.hid hb3; clear hB33 B23 hb3 hB3 hB2 hb1 hb2 hS3))
  obtain ⟨w4, hw4⟩ : ∃ w4, w4 = w3.setCell ⟨g3, 1, none⟩ (.bool true) := ⟨_, rfl⟩
  rw [← hw4]
  have hS := Stays.cell w3 g3 1 (.bool true)
  have B4 : Bk w4 g3 27 (soA (soK k)) := by
    have h := HB.out.set_ 1 (.bool true)
    rw [hw4]
    rw [show (1 : Nat) = 0 + 1 from rfl, soA_set] at h
    exact h
  have B42 : Bk w4 g2 27 (soA so0) := by rw [hw4]; exact HB2.out.stays hS (by have := Hg2.out; have := Hg3.out; have := Hw1.out; omega)
  have hb4 : Below w.heap.size w w4 := by rw [hw4]; exact Hb3.out.trans (hS.below (by have := Hg3.out; have := Hw1.out; omega))
  have hg2 : w.heap.size ≤ g2 := by have := Hg2.out; omega
  clear hw4 hS HB HB2 Hb3 Hg2 Hg3 c1 f1
  try simp only [Act.put, List.setIfInBounds_toArray, List.set_cons_zero, List.set_cons_succ]
  go_wp2_with (first
    | ((with_reducible show wpList _ _ _ (⟨some 8, _, _, _, _, _⟩ :: _) _ _); refine wpList_loadSo (o := ⟨some 8, _, _, _, _, _⟩) rfl _ rfl rfl B4 ?_)
    | ((with_reducible refine wpList_storeSo (o := ⟨none, _, _, _, _, _⟩) rfl (.tmp 2) _ rfl rfl rfl B42 ?_); intro w5 hB5 hS5))
  exact ret_so Tryd.results43 rfl hB5 rfl ⟨rfl, hb4.trans (hS5.below hg2)⟩
def kindP (x : List UInt8) : Int := if x = [102, 105, 108, 101, 115] then 1 else if x = [100, 110, 115] then 2 else 3
def wordP (k : Int) : List UInt8 := if k = 1 then [102, 105, 108, 101, 115] else if k = 2 then [100, 110, 115] else [111, 116, 104, 101, 114]
def statP (n : Int) : List UInt8 := if n = 0 then [115, 117, 99, 99, 101, 115, 115] else if n = 1 then [110, 111, 116, 102, 111, 117, 110, 100] else if n = 2 then [117, 110, 97, 118, 97, 105, 108] else [116, 114, 121, 97, 103, 97, 105, 110]
set_option maxRecDepth 100000 in
theorem kind_any (x : List UInt8) (w : World) : Calls Tryd.prog 84 #[.string ⟨x.toArray⟩] w fun e w' => e = .returned (.int .i64 (kindP x)) ∧ w = w' := by
  by_cases h1 : x = [102, 105, 108, 101, 115]
  · subst h1
    go_enter Tryd.func84, Tryd.ntmps84
    go_wp2
    go_ret
    exact ⟨rfl, rfl⟩
  · have e1 : (x == [102, 105, 108, 101, 115]) = false := by simpa using h1
    by_cases h2 : x = [100, 110, 115]
    · subst h2
      go_enter Tryd.func84, Tryd.ntmps84
      go_wp2
      go_ret
      exact ⟨rfl, rfl⟩
    · have e2 : (x == [100, 110, 115]) = false := by simpa using h2
      have hk : Hid (kindP x = 3) := Lib.hid (by unfold kindP; rw [if_neg h1, if_neg h2])
      clear h1 h2
      go_enter Tryd.func84, Tryd.ntmps84
      go_wp2
      go_ret
      exact ⟨by rw [hk.out]; rfl, rfl⟩
set_option maxRecDepth 100000 in
theorem word_any (k : Int) (w : World) : Calls Tryd.prog 42 #[.int .i64 k] w fun e w' => e = .returned (.string ⟨(wordP k).toArray⟩) ∧ w = w' := by
  by_cases h1 : k = 1
  · subst h1
    go_enter Tryd.func42, Tryd.ntmps42
    go_wp2
    go_ret
    exact ⟨rfl, rfl⟩
  · have e1 : (k == 1) = false := by simpa using h1
    by_cases h2 : k = 2
    · subst h2
      go_enter Tryd.func42, Tryd.ntmps42
      go_wp2
      go_ret
      exact ⟨rfl, rfl⟩
    · have e2 : (k == 2) = false := by simpa using h2
      have hk : Hid (wordP k = [111, 116, 104, 101, 114]) := Lib.hid (by unfold wordP; rw [if_neg h1, if_neg h2])
      clear h1 h2
      go_enter Tryd.func42, Tryd.ntmps42
      go_wp2
      go_ret
      exact ⟨by rw [hk.out]; rfl, rfl⟩
set_option maxRecDepth 100000 in
theorem status_any (k : Nat) (hk : k < 4) (w : World) : Calls Tryd.prog 44 #[.int .i64 (k : Int)] w fun e w' => e = .returned (.string ⟨(statP k).toArray⟩) ∧ w = w' := by
  obtain rfl | rfl | rfl | rfl : k = 0 ∨ k = 1 ∨ k = 2 ∨ k = 3 := by omega
  all_goals
    go_enter Tryd.func44, Tryd.ntmps44
    go_wp2
    go_ret
    exact ⟨rfl, rfl⟩
/-- sources in a row of the call's own. -/
def SosPost (w : World) (L : List So) (e : Ending) (w' : World) : Prop := ∃ v, e = .returned v ∧ w'.ownsRow w.heap.size 27 5 v L.length (L.flatMap soL) ∧ Below w.heap.size w w'
theorem built_st (a b c d : Bool) : Tryd.prog.built 25 [(0, .bool a), (1, .bool b), (2, .bool c), (3, .bool d)] = some (stA [a, b, c, d]) := by kernel_rfl
theorem built_soS (k : Int) (a b c d : Bool) : Tryd.prog.built 27 [(0, .int .i64 k), (1, .agg (stA [a, b, c, d]))] = some (soA ⟨k, [a, b, c, d], rfl⟩) := by kernel_rfl
def plainNs : List So := [soK 1, soK 2]
set_option maxRecDepth 100000 in
theorem nsplain_any (w : World) : Calls Tryd.prog 16 #[] w (SosPost w plainNs) := by
  go_enter Tryd.func16, Tryd.ntmps16
  go_wp2_with (first
    | (go_at_call 43; (with_reducible refine (source_any _ w).mono ?_); rintro e w1 ⟨rfl, hb1⟩; have Hb1 := Lib.hid hb1; clear hb1)
    | (go_at_call 43; (with_reducible refine (source_any _ _).mono ?_); rintro e w2 ⟨rfl, hb2⟩; have Hb2 := Lib.hid (bel_tr Hb1.out hb2); clear hb2)
    | ((with_reducible show wpList _ _ _ (⟨some 3, _, _, _, _, _⟩ :: _) _ _); refine wpList_lit (o := ⟨some 3, _, _, _, _, _⟩) rfl _ _ rfl elt_so [.agg (soA (soK 1)), .agg (soA (soK 2))] rfl (by decide) (by decide) (fun v hv => by simp at hv; rcases hv with rfl | rfl <;> exact soA_size _) rfl ?_; intro w3 hB3 hx3 hb3 hs3))
  go_ret
  exact ⟨_, rfl, own_base hx3 Hb2.out.size, bel_tr Hb2.out hb3⟩
set_option maxRecDepth 100000 in
theorem rnsplain_any (w : World) : Calls Tryd.prog 41 #[] w (SosPost w plainNs) := by
  go_enter Tryd.func41, Tryd.ntmps41
  go_wp2_with (first
    | ((with_reducible show wpList _ _ _ (⟨some 1, _, _, _, _, _⟩ :: _) _ _); refine wpList_buildL (o := ⟨some 1, _, _, _, _, _⟩) rfl _ [(0, .const (.bool true)), (1, .const (.bool false)), (2, .const (.bool false)), (3, .const (.bool false))] rfl (built_st true false false false) rfl ?_)
    | ((with_reducible show wpList _ _ _ (⟨some 2, _, _, _, _, _⟩ :: _) _ _); refine wpList_buildL (o := ⟨some 2, _, _, _, _, _⟩) rfl _ [(0, .const (.int .i64 1)), (1, .tmp 1)] rfl (built_soS 1 true false false false) rfl ?_)
    | ((with_reducible show wpList _ _ _ (⟨some 3, _, _, _, _, _⟩ :: _) _ _); refine wpList_buildL (o := ⟨some 3, _, _, _, _, _⟩) rfl _ [(0, .const (.bool true)), (1, .const (.bool false)), (2, .const (.bool false)), (3, .const (.bool false))] rfl (built_st true false false false) rfl ?_)
    | ((with_reducible show wpList _ _ _ (⟨some 4, _, _, _, _, _⟩ :: _) _ _); refine wpList_buildL (o := ⟨some 4, _, _, _, _, _⟩) rfl _ [(0, .const (.int .i64 2)), (1, .tmp 3)] rfl (built_soS 2 true false false false) rfl ?_)
    | ((with_reducible show wpList _ _ _ (⟨some 5, _, _, _, _, _⟩ :: _) _ _); refine wpList_lit (o := ⟨some 5, _, _, _, _, _⟩) rfl _ _ rfl elt_so [.agg (soA (soK 1)), .agg (soA (soK 2))] rfl (by decide) (by decide) (fun v hv => by simp at hv; rcases hv with rfl | rfl <;> exact soA_size _) rfl ?_; intro w3 hB3 hx3 hb3 hs3))
  go_ret
  exact ⟨_, rfl, hx3, hb3⟩
end Go.Proofs.YtgebcifkbldfoaaDoor
