/- Contracts and plain lemmas of our own, merged. -/
import Derived.Test.YtbffkddlkfefoaaDoorZid15
import Derived.Test.YtbffkddlkfefoaaDoorZid16
/- The contract of idna.Unicode; the walk of IdnaFixed. -/
namespace Go.Proofs.YtbffkddlkfefoaaDoor
open Go.RowKit
attribute [local go_sem] ba_get ext_take ext_drop ext_any ba_app

/-- a variable of Go's library that holds some number. -/
def MaxI (w : World) : Prop := ∃ m, w.cell? ⟨1, 0, none⟩ = some (.int .i64 m)
theorem MaxI.below {w w' : World} (h : MaxI w) (hb : Below w.heap.size w w') : MaxI w' := by
  obtain ⟨m, hm⟩ := h
  exact ⟨m, (hb.cell (p := ⟨1, 0, none⟩) (block_lt_of_cell hm)).trans hm⟩
theorem index_idx (l : List UInt8) (d : UInt8) : Lib.index l [d] = match idx d l with | none => -1 | some k => (k : Int) := by
  rw [Lib.index_one, lib_idx]
  cases idx d l <;> rfl
/-- strings.Split at a separator of one byte. -/
theorem split_spB (d : UInt8) : ∀ (n : Nat) (l : List UInt8), l.length ≤ n → (Lib.splitB ⟨#[d]⟩ 0 (Lib.countB ⟨l.toArray⟩ ⟨#[d]⟩) ⟨l.toArray⟩) = (spB d [] l).map (fun x => (⟨x.toArray⟩ : ByteArray)) := by
  intro n
  induction n with
  | zero =>
    intro l hl
    have : l = [] := List.eq_nil_of_length_eq_zero (by omega)
    subst this
    rfl
  | succ n ih =>
    intro l hl
    cases hi : idx d l with
    | none =>
      have hx : Lib.indexB ⟨l.toArray⟩ ⟨#[d]⟩ = -1 := by
        show Lib.index l [d] = -1
        rw [index_idx, hi]
      rw [Lib.splitB_miss _ _ _ _ hx, spB_not (by unfold hasB; rw [hi])]
      rfl
    | some k =>
      have hx : Lib.indexB ⟨l.toArray⟩ ⟨#[d]⟩ = (k : Int) := by
        show Lib.index l [d] = k
        rw [index_idx, hi]
      obtain ⟨hk, _⟩ := idx_some hi
      have hc := Lib.countB_hit ⟨l.toArray⟩ ⟨#[d]⟩ k (show 1 ≤ 1 from Nat.le_refl 1) hx
      rw [hc, Nat.add_comm, Lib.splitB_hit _ _ _ _ k hx, spB_has (by unfold hasB; rw [hi])]
      have e1 : (ByteArray.mk l.toArray).extract (k + (ByteArray.mk #[d]).size) (ByteArray.mk l.toArray).size = ⟨(tlB d l).toArray⟩ := by
        unfold tlB
        rw [hi]
        exact ext_drop l (k + 1)
      have e2 : (ByteArray.mk l.toArray).extract 0 (k + 0) = ⟨(hdB d l).toArray⟩ := by
        unfold hdB
        rw [hi]
        exact ext_take l k
      have hlen : (tlB d l).length ≤ n := by
        unfold tlB
        rw [hi]
        simp only [List.length_drop]
        omega
      rw [e1, e2, ih _ hlen]
      rfl
theorem count_spB (d : UInt8) (l : List UInt8) : Lib.countB ⟨l.toArray⟩ ⟨#[d]⟩ + 1 = (spB d [] l).length := by
  have h1 := Lib.splitB_all ⟨#[d]⟩ (show 1 ≤ 1 from Nat.le_refl 1) 0 _ ⟨l.toArray⟩ rfl
  rw [split_spB d l.length l (Nat.le_refl _), List.length_map] at h1
  exact h1.symm
theorem spB_parts (d : UInt8) (l : List UInt8) : ∀ cur, ∀ x ∈ spB d cur l, x.length ≤ cur.length + l.length := by
  induction l with
  | nil => intro cur x hx; simp [spB] at hx; subst hx; simp
  | cons c l ih =>
    intro cur x hx
    rw [spB] at hx
    split at hx
    · rcases List.mem_cons.1 hx with rfl | hx
      · simp
      · have := ih [] x hx; simp at this ⊢; omega
    · have := ih _ x hx; simp at this ⊢; omega
set_option maxHeartbeats 400000 in
theorem split46_any (d : UInt8) (l : List UInt8) (w : World) (hl : l.length ≤ 1000000000) (hm : MaxI w) : Calls Tryd.prog 112 #[.string ⟨l.toArray⟩, .string ⟨#[d]⟩] w fun e w' => ∃ n, n = (spB d [] l).length ∧ e = .returned (.slice (some ⟨w.heap.size, 0, none⟩) n n) ∧ Bk w' w.heap.size 9 ((spB d [] l).map stv).toArray ∧ Below w.heap.size w w' := by
  obtain ⟨m, hm⟩ := hm
  refine (Tryd.strings_Split ⟨l.toArray⟩ ⟨#[d]⟩ m w (by show l.length < _; omega) hm (show 1 ≤ 1 from Nat.le_refl 1)).mono ?_
  rintro e w' ⟨rfl, rfl⟩
  refine ⟨_, count_spB d l, rfl, ?_, (Below.refl _ _).alloc (Nat.le_refl _) _⟩
  rw [split_spB d l.length l (Nat.le_refl _), List.map_map]
  exact Bk.new _ _ _

def uMix (A : List (List UInt8)) (k : Nat) : List (List UInt8) := (A.take k).map toU ++ A.drop k
theorem uMix_at {A : List (List UInt8)} {k : Nat} (h : k < A.length) : (((uMix A k).map stv).toArray)[k]? = some (.string ⟨A[k].toArray⟩) := by
  unfold uMix
  rw [List.getElem?_toArray, List.getElem?_map, List.getElem?_append_right (by simp; omega)]
  simp only [List.length_map, List.length_take, List.getElem?_drop]
  rw [show k + (k - min k A.length) = k by omega, List.getElem?_eq_getElem h]
  rfl
theorem uMix_next {A : List (List UInt8)} {k : Nat} (h : k < A.length) : (((uMix A k).map stv).toArray).setIfInBounds k (.string ⟨(toU A[k]).toArray⟩) = ((uMix A (k + 1)).map stv).toArray := by
  have e : (uMix A k).set k (toU A[k]) = uMix A (k + 1) := by
    unfold uMix
    rw [List.set_append_right _ _ (by simp; omega), List.drop_eq_getElem_cons h]
    simp only [List.length_map, List.length_take]
    rw [show k - min k A.length = 0 by omega, List.set_cons_zero, List.take_succ_eq_append_getElem h, List.map_append]
    simp only [List.map_cons, List.map_nil, List.append_assoc, List.cons_append, List.nil_append]
  rw [← e, List.setIfInBounds_toArray]
  show ((List.map stv (uMix A k)).set k (stv (toU A[k]))).toArray = _
  rw [← List.map_set]
theorem uni_len (A : List (List UInt8)) (hA : ∀ x ∈ A, x.length ≤ 16384) : (joi [46] (A.map toU)).length ≤ 16385 * A.length := by
  rw [joi_jB]
  induction A with
  | nil => simp [jB]
  | cons x r ih =>
    have h1 := toU_len x (hA x (by simp))
    have h2 := ih (fun y hy => hA y (by simp [hy]))
    rcases r with _ | ⟨y, r⟩
    · simp [jB]; omega
    · simp only [List.map_cons, jB, List.length_append, List.length_cons] at h2 ⊢
      omega

set_option maxRecDepth 100000 in
set_option maxHeartbeats 1000000 in
theorem uni_any (l : List UInt8) (w : World) (hl : l.length ≤ 5000) (hm : MaxI w) : Calls Tryd.prog 56 #[.string ⟨l.toArray⟩] w (StrPost w (uniR l)) := by
  have hpar := spB_parts 46 l []
  have hln := spB_len 46 l []
  have hne := spB_ne 46 l []
  have Hd : Hid (uniR l = joi [46] ((spB 46 [] l).map toU)) := Lib.hid rfl
  go_enter Tryd.func56, Tryd.ntmps56
  go_wp2_with fail
  refine (split46_any 46 l _ (by omega) hm).mono ?_
  rintro e w1 ⟨n, hn, rfl, hbk, hb1⟩
  generalize spB 46 [] l = A at *
  have Hn := Lib.hid hn
  have Hpar := Lib.hid hpar
  have hn1 : n ≤ 5001 := by rw [hn]; omega
  clear hn hpar hln hne hm
  go_wp2_with fail
  go_loopw [10] (fun i wr => ∃ k : Nat, k ≤ n ∧ i = .int .i64 k ∧ Bk wr w.heap.size 9 ((uMix A k).map stv).toArray ∧ Below w.heap.size w wr) (fun i _ => n - (intOf i).toNat)
  case atStart => exact ⟨0, Nat.zero_le _, rfl, by unfold uMix; simpa using hbk, hb1⟩
  case round =>
    obtain ⟨k, hk, rfl, hB, hb⟩ := hrel
    clear hbk hb1
    by_cases hlt : k < n
    · have hkA : k < A.length := by rw [← Hn.out]; exact hlt
      have q1 := hB.cell k
      rw [uMix_at hkA] at q1
      have hlk := Hpar.out A[k] (List.getElem_mem _)
      have HB := Lib.hid hB
      have Hnx := Lib.hid (uMix_next hkA)
      clear hB
      generalize A[k] = t at *
      have hlk2 : t.length ≤ 5000 := by simp at hlk; omega
      clear hlk
      have i1 : (k : Int) < (n : Int) := by omega
      go_wp2_with fail
      refine (tounicode_any _ _ (by omega)).mono ?_
      rintro e w2 ⟨rfl, hb2⟩
      have HB2 := Lib.hid (HB.out.bel hb2)
      have q2 : w2.cell? ⟨w.heap.size, k, none⟩ = some (.string ⟨t.toArray⟩) := (bel_cells hb2 HB.out.lt k).trans q1
      have q3 := HB2.out.free k
      generalize toU t = u at *
      go_wp2
      go_roundw
      case rel => exact ⟨k + 1, by omega, by go_num, by have := HB2.out.set_ k (.string ⟨u.toArray⟩); rw [Hnx.out] at this; exact this, (bel_tr hb hb2).setCell (Nat.le_refl _) _⟩
      case measure => simp [intOf]; omega
    · have hkn : k = A.length := by rw [← Hn.out]; omega
      have hsl : Sl wr 1 (.slice (some ⟨w.heap.size, 0, none⟩) n n) n (((A.map toU)).map stv) := by
        refine Bk.sl (cs := (A.map toU).map stv) (t := 9) ?_ (by simp [Hn.out]) n (Nat.le_refl _)
        have e : uMix A k = A.map toU := by unfold uMix; rw [hkn, List.take_length, List.drop_length, List.append_nil]
        rw [e] at hB
        exact hB
      have hj := uni_len A (fun x hx => by have := Hpar.out x hx; simp at this; omega)
      have hAl : A.length = n := Hn.out.symm
      have Hs := Lib.hid (show Sl wr 1 (.slice (some ⟨w.heap.size, 0, none⟩) n n) (A.map toU).length ((A.map toU).map stv) by rw [List.length_map, hAl]; exact hsl)
      have hj2 : (joi [46] (A.map toU)).length ≤ 1000000000 := by rw [hAl] at hj; omega
      have hml : (A.map toU).length ≤ 1000000000 := by rw [List.length_map, hAl]; omega
      clear hkn hsl hj hAl hB
      have i1 : ¬ (k : Int) < (n : Int) := by omega
      go_wp2_with fail
      refine (join_any [46] (A.map toU) _ _ Hs.out hml hj2).mono ?_
      rintro e w2 ⟨rfl, hb2⟩
      have R : StrPost w (uniR l) (.returned (.string ⟨(joi [46] (A.map toU)).toArray⟩)) w2 := ⟨by rw [Hd.out], bel_tr hb hb2⟩
      generalize joi [46] (A.map toU) = J at *
      go_wp2
      go_ret
      exact R

def w6s : List UInt8 := [66, 195, 188, 99, 104, 101, 114, 227, 128, 130, 68, 101]
def w6t : List UInt8 := [120, 110, 45, 45, 98, 99, 104, 101, 114, 45, 107, 118, 97, 46, 100, 101]
theorem w6a : hostR w6s = .inr w6t := by decide +kernel
theorem w6u : uniR w6t = [98, 195, 188, 99, 104, 101, 114, 46, 100, 101] := by decide +kernel
set_option maxRecDepth 100000 in
set_option maxHeartbeats 1000000 in
theorem works06_any (w : World) (hm : MaxI w) : Calls Tryd.prog 54 #[] w (Good w) := by
  have Hm := Lib.hid hm
  clear hm
  go_enter Tryd.func54, Tryd.ntmps54
  go_wp2_with fail
  refine (host_any w6s _ (by simp [w6s])).mono ?_
  rintro e w1 ⟨rfl, hb1⟩
  rw [w6a]
  unfold encT w6t
  go_wp2_with fail
  refine (uni_any w6t _ (by simp [w6t]) (Hm.out.below hb1)).mono ?_
  rintro e w2 ⟨rfl, hb2⟩
  rw [w6u]
  go_wp2
  go_ret
  exact ⟨rfl, bel_tr hb1 hb2⟩

theorem hosts_yes {A : List (List UInt8)} (h1 : A ≠ []) (h2 : sz A ≤ 255) (h3 : ∀ a ∈ A, hostB a = true) : hostsB A = true := by
  unfold hostsB
  exact decide_eq_true ⟨List.length_pos_iff.2 h1, h2, fun j hj => h3 _ (List.getElem_mem hj)⟩
theorem hGo_inl : ∀ {l : List (List UInt8)} {c : Int}, hGo l = .inl c → (c != 0) = true := by
  intro l
  induction l with
  | nil => intro c h; cases h
  | cons t r ih =>
    intro c h
    rw [hGo] at h
    split at h
    · injection h with h; subst h; rfl
    · cases ht : toA t with
      | inl e => rw [ht] at h; injection h with h; subst h; exact toA_inl ht
      | inr a =>
        rw [ht] at h
        simp only at h
        cases hg : hGo r with
        | inl e => rw [hg] at h; injection h with h; subst h; exact ih hg
        | inr B => rw [hg] at h; cases h
theorem hostR_inl {s : List UInt8} {c : Int} (h : hostR s = .inl c) : (c != 0) = true := by
  unfold hostR at h
  split at h
  · injection h with h; subst h; rfl
  · split at h
    · next e he => injection h with h; subst h; exact hGo_inl he
    · split at h
      · injection h with h; subst h; rfl
      · cases h
theorem fold_ge1 (A : List (List UInt8)) : ∀ n : Nat, n + A.length ≤ A.foldl (fun n l => n + l.length + 1) n := by
  induction A with
  | nil => intro n; simp
  | cons x r ih => intro n; have := ih (n + x.length + 1); rw [List.foldl_cons, List.length_cons]; omega
theorem sz_ge (A : List (List UInt8)) : A.length + 1 ≤ sz A := by have := fold_ge1 A 1; unfold sz; omega
theorem endB_len (b : Bool) : (endB b).length ≤ 1 := by cases b <;> simp [endB]
theorem hostR_len {s t : List UInt8} (h : hostR s = .inr t) : t.length ≤ 256 := by
  obtain ⟨A, b, rfl, _, hs, _⟩ := hostR_inr h
  have h1 := jB_sz A 1
  have h2 := endB_len b
  rw [List.length_append, joi_jB]
  unfold sz at hs
  omega
theorem uniR_len {s t : List UInt8} (h : hostR s = .inr t) : (uniR t).length ≤ 10000000 := by
  obtain ⟨A, b, rfl, hne, hs, hA⟩ := hostR_inr h
  have h1 := uni_len A (fun x hx => by obtain ⟨u, hu⟩ := hA x hx; have := (toA_fixed hu).2.1; omega)
  have h2 := endB_len b
  have h3 := sz_ge A
  rw [uniR_of hne hA, List.length_append]
  have : 16385 * A.length ≤ 16385 * 255 := Nat.mul_le_mul_left _ (by omega)
  omega
set_option maxRecDepth 100000 in
set_option maxHeartbeats 1000000 in
theorem idnaFixed_walk (w : World) (hm : MaxI w) (s : List UInt8) (hl : s.length ≤ maxLen) : Calls Tryd.prog 13 #[.string ⟨s.toArray⟩] w (Good w) := by
  unfold maxLen at hl
  have Hm := Lib.hid hm
  clear hm
  by_cases h6 : 600 < s.length
  · have i0 : (600 : Int) < (s.length : Int) := by omega
    go_enter Tryd.func13, Tryd.ntmps13
    go_wp2_with fail
    refine (works06_any _ Hm.out).mono ?_
    rintro e w1 ⟨rfl, hb1⟩
    go_wp2_with fail
    refine (works06_any _ (Hm.out.below hb1)).mono ?_
    rintro e w2 ⟨rfl, hb2⟩
    go_wp2
    go_ret
    exact ⟨rfl, bel_tr hb1 hb2⟩
  · have i0 : ¬ (600 : Int) < (s.length : Int) := by omega
    cases hR : hostR s with
    | inl c =>
      have hc : (c != 0) = true := hostR_inl hR
      have HR := Lib.hid hR
      clear hR
      go_enter Tryd.func13, Tryd.ntmps13
      go_wp2_with fail
      refine (works06_any _ Hm.out).mono ?_
      rintro e w1 ⟨rfl, hb1⟩
      go_wp2_with fail
      refine (host_any s _ (by omega)).mono ?_
      rintro e w2 ⟨rfl, hb2⟩
      rw [HR.out]
      unfold encT
      go_wp2
      go_ret
      exact ⟨rfl, bel_tr hb1 hb2⟩
    | inr t =>
      have ht : t.length ≤ 256 := hostR_len hR
      have h1 := hostR_fixed hR
      have h2 := hostR_uni hR
      have h3 := uniR_len hR
      obtain ⟨A, d, hp, hA1, hA2, hA3⟩ := prs_host hR
      have hh := hosts_yes hA1 hA2 hA3
      have hAl : ∀ a ∈ A, a.length ≤ 140737488351232 := fun a ha => by have := (host_mem (hA3 a ha)).2.1; omega
      have hAn : A.length ≤ 1000 := by have := sz_ge A; omega
      have H1 := Lib.hid h1
      have H2 := Lib.hid h2
      have HR := Lib.hid hR
      have Hp := Lib.hid hp
      have Hh := Lib.hid hh
      have HAl := Lib.hid hAl
      clear hR h1 h2 hp hh hA1 hA3 hAl
      go_enter Tryd.func13, Tryd.ntmps13
      go_wp2_with fail
      refine (works06_any _ Hm.out).mono ?_
      rintro e w1 ⟨rfl, hb1⟩
      go_wp2_with fail
      refine (host_any s _ (by omega)).mono ?_
      rintro e w2 ⟨rfl, hb2⟩
      have hb02 := bel_tr hb1 hb2
      rw [HR.out]
      unfold encT
      go_wp2_with fail
      refine (host_any t _ (by omega)).mono ?_
      rintro e w3 ⟨rfl, hb3⟩
      have hb03 := bel_tr hb02 hb3
      rw [H1.out]
      unfold encT
      go_wp2_with fail
      refine (uni_any t _ (by omega) (Hm.out.below hb03)).mono ?_
      rintro e w4 ⟨rfl, hb4⟩
      have hb04 := bel_tr hb03 hb4
      go_wp2_with fail
      refine (host_any (uniR t) _ (by omega)).mono ?_
      rintro e w5 ⟨rfl, hb5⟩
      have hb05 := bel_tr hb04 hb5
      rw [H2.out]
      unfold encT
      go_wp2_with fail
      refine (parse_any t _ (by omega)).mono ?_
      intro e w6 hp6
      rw [Hp.out] at hp6
      obtain ⟨v, rfl, hs, hb6⟩ := hp6
      have hb06 := bel_tr hb05 hb6
      have hs' : Sl w6 1 v A.length (A.map stv) := hs
      obtain ⟨A9, c9, hv9, _⟩ := hs'.any
      subst hv9
      have Hs := Lib.hid hs'
      clear hs hs'
      unfold pD pE
      go_wp2_with fail
      refine (rdhost_any A _ _ Hs.out (by omega) (by omega) HAl.out).mono ?_
      rintro e w' ⟨rfl, rfl⟩
      rw [Hh.out]
      go_wp2
      go_ret
      exact ⟨by simp, hb06⟩
end Go.Proofs.YtbffkddlkfefoaaDoor
