/- The contracts of domain.add, domain.Text, domain.Plain and works. -/
import Derived.Test.YtfkmjncchicmpaaDomD
namespace Go.Proofs.Ytfkmjncchicmpaa
open Go.RowKit
attribute [local go_sem] ba_get ext_take ext_drop

/-- a byte of a label, written. -/
def escb (c : UInt8) : List UInt8 :=
  if c.toNat = 46 ∨ c.toNat = 92 then [92, c] else if c.toNat < 33 ∨ 126 < c.toNat then [92, UInt8.ofNat (48 + c.toNat / 100), UInt8.ofNat (48 + c.toNat / 10 % 10), UInt8.ofNat (48 + c.toNat % 10)] else [c]
def escl (l : List UInt8) : List UInt8 := l.flatMap escb
def escp (l : List UInt8) (k : Nat) : List UInt8 := (l.take k).flatMap escb
theorem escp_succ {l : List UInt8} {k : Nat} (h : k < l.length) : escp l (k + 1) = escp l k ++ escb l[k] := by
  unfold escp
  rw [List.take_succ_eq_append_getElem h, List.flatMap_append, List.flatMap_singleton]
theorem escp_all (l : List UInt8) : escp l l.length = escl l := by unfold escp escl; rw [List.take_length]
theorem escb_1 {c : UInt8} (h : c.toNat = 46 ∨ c.toNat = 92) : (escb c).map byv = [.int .u8 92, .int .u8 (c.toNat : Int)] := by
  unfold escb; rw [if_pos h]; rfl
theorem escb_2 {c : UInt8} (h0 : ¬ (c.toNat = 46 ∨ c.toNat = 92)) (h : c.toNat < 33 ∨ 126 < c.toNat) : (escb c).map byv = [.int .u8 92, .int .u8 (48 + (c.toNat : Int) / 100), .int .u8 (48 + (c.toNat : Int) / 10 % 10), .int .u8 (48 + (c.toNat : Int) % 10)] := by
  have := c.toNat_lt
  unfold escb; rw [if_neg h0, if_pos h]
  simp only [List.map_cons, List.map_nil]
  rw [byv_mk (n := 48 + c.toNat / 100) (by omega) (z := 48 + (c.toNat : Int) / 100) (by omega), byv_mk (n := 48 + c.toNat / 10 % 10) (by omega) (z := 48 + (c.toNat : Int) / 10 % 10) (by omega), byv_mk (n := 48 + c.toNat % 10) (by omega) (z := 48 + (c.toNat : Int) % 10) (by omega)]
  rfl
theorem escb_3 {c : UInt8} (h0 : ¬ (c.toNat = 46 ∨ c.toNat = 92)) (h : ¬ (c.toNat < 33 ∨ 126 < c.toNat)) : (escb c).map byv = [.int .u8 (c.toNat : Int)] := by
  unfold escb; rw [if_neg h0, if_neg h]; rfl
theorem escb_len (c : UInt8) : (escb c).length ≤ 4 ∧ 1 ≤ (escb c).length := by
  unfold escb; (repeat' split) <;> simp
theorem escp_len {l : List UInt8} {k : Nat} : (escp l k).length ≤ 4 * k := by
  unfold escp
  have : ∀ m : List UInt8, (m.flatMap escb).length ≤ 4 * m.length := by
    intro m
    induction m with
    | nil => simp
    | cons c m ih => have := (escb_len c).1; rw [List.flatMap_cons, List.length_append, List.length_cons]; omega
  have h1 := this (l.take k)
  rw [List.length_take] at h1
  omega

def DaddRel (base : Nat) (w : World) (n : Nat) (xs : List Value) (l : List UInt8) (k : Nat) (v : Value) (wr : World) : Prop :=
  wr.ownsRow base 5 1 v (n + (escp l k).length) (xs ++ (escp l k).map byv) ∧ Below base w wr
theorem DaddRel.next {base : Nat} {w w0 w1 : World} {n : Nat} {xs : List Value} {l : List UInt8} {k m : Nat} {v1 : Value} {us : List Value} (hk : k < l.length) (hu : (escb l[k]).map byv = us) (hm : us.length = m) (h : w1.ownsRow base 5 1 v1 (n + (escp l k).length + m) (xs ++ (escp l k).map byv ++ us)) (h0 : Below base w w0) (h1 : Below base w0 w1) : DaddRel base w n xs l (k + 1) v1 w1 := by
  refine ⟨?_, h0.trans h1⟩
  have hl : (escb l[k]).length = m := by rw [← hm, ← hu]; simp
  rw [escp_succ hk, List.length_append, hl, List.map_append, hu, ← Nat.add_assoc, ← List.append_assoc]
  exact h

set_option maxRecDepth 100000 in
set_option maxHeartbeats 1000000 in
theorem dadd_any (l : List UInt8) (base : Nat) (v : Value) (n : Nat) (xs : List Value) (w : World) (hl : l.length ≤ 100000000) (hb : base ≤ w.heap.size) (hn : n ≤ 1000000000) (hown : w.ownsRow base 5 1 v n xs) :
    Calls Try.prog 70 #[v, .string ⟨l.toArray⟩] w (AddPost base 5 w n xs ((escl l).map byv)) := by
  go_enter Try.func70, Try.ntmps70
  go_wp2
  go_loopw [0, 9] (fun v i wr => ∃ k : Nat, k ≤ l.length ∧ i = .int .i64 k ∧ DaddRel base w n xs l k v wr) (fun _ i _ => l.length - (intOf i).toNat)
  case atStart => exact ⟨0, Nat.zero_le _, rfl, by simpa [escp] using hown, Below.refl _ _⟩
  case round =>
    obtain ⟨k, hk, rfl, h3, h4⟩ := hrel
    have hsz := h4.size
    have hsz2 : base ≤ wr.heap.size := by omega
    by_cases hlt : k < l.length
    · have i1 : (k : Int) < (l.length : Int) := by omega
      have hel := @escp_len l k
      have hc0 : ((l[k].toNat : Nat) : Int) ≤ 255 := by have := l[k].toNat_lt; omega
      by_cases h1 : l[k].toNat = 46 ∨ l[k].toNat = 92
      · have hu := escb_1 h1
        have Hu := Lib.hid hu
        clear hu
        by_cases h46 : l[k].toNat = 46
        · have i3 : (((l[k].toNat : Nat) : Int) == 46) = true := by simp; omega
          clear h1 h46
          go_wp2_with (at_builtin; refine wpList_appLit rfl _ _ _ rfl elt_bytes (n := n + (escp l k).length) rfl h3 [.int .u8 92, .int .u8 (l[k].toNat : Int)] (m := 2) rfl rfl (by simp [Value.oneCell']) hsz2 (by omega) (by omega) ?_; intro v1 w1 ho1 hb1 hg1)
          have R := DaddRel.next hlt Hu.out rfl ho1 h4 hb1
          clear ho1 hb1 hg1
          go_roundw
          case rel => exact ⟨k + 1, by omega, by go_num, R⟩
          case measure => simp [intOf]; omega
        · have i3 : (((l[k].toNat : Nat) : Int) == 46) = false := by simp; omega
          have i4 : (((l[k].toNat : Nat) : Int) == 92) = true := by simp; omega
          clear h1 h46
          go_wp2_with (at_builtin; refine wpList_appLit rfl _ _ _ rfl elt_bytes (n := n + (escp l k).length) rfl h3 [.int .u8 92, .int .u8 (l[k].toNat : Int)] (m := 2) rfl rfl (by simp [Value.oneCell']) hsz2 (by omega) (by omega) ?_; intro v1 w1 ho1 hb1 hg1)
          have R := DaddRel.next hlt Hu.out rfl ho1 h4 hb1
          clear ho1 hb1 hg1
          go_roundw
          case rel => exact ⟨k + 1, by omega, by go_num, R⟩
          case measure => simp [intOf]; omega
      · have i3 : (((l[k].toNat : Nat) : Int) == 46) = false := by simp; omega
        have i4 : (((l[k].toNat : Nat) : Int) == 92) = false := by simp; omega
        by_cases h2 : l[k].toNat < 33 ∨ 126 < l[k].toNat
        · have hu := escb_2 h1 h2
          have Hu := Lib.hid hu
          clear hu h1
          by_cases h33 : l[k].toNat < 33
          · have i5 : ((l[k].toNat : Nat) : Int) < 33 := by omega
            clear h2 h33
            go_wp2_with (at_builtin; refine wpList_appLit rfl _ _ _ rfl elt_bytes (n := n + (escp l k).length) rfl h3 [.int .u8 92, .int .u8 (48 + ((l[k].toNat : Nat) : Int) / 100), .int .u8 (48 + ((l[k].toNat : Nat) : Int) / 10 % 10), .int .u8 (48 + ((l[k].toNat : Nat) : Int) % 10)] (m := 4) rfl rfl (by simp [Value.oneCell']) hsz2 (by omega) (by omega) ?_; intro v1 w1 ho1 hb1 hg1)
            have R := DaddRel.next hlt Hu.out rfl ho1 h4 hb1
            clear ho1 hb1 hg1
            go_roundw
            case rel => exact ⟨k + 1, by omega, by go_num, R⟩
            case measure => simp [intOf]; omega
          · have i5 : ¬ ((l[k].toNat : Nat) : Int) < 33 := by omega
            have i6 : (126 : Int) < ((l[k].toNat : Nat) : Int) := by omega
            clear h2 h33
            go_wp2_with (at_builtin; refine wpList_appLit rfl _ _ _ rfl elt_bytes (n := n + (escp l k).length) rfl h3 [.int .u8 92, .int .u8 (48 + ((l[k].toNat : Nat) : Int) / 100), .int .u8 (48 + ((l[k].toNat : Nat) : Int) / 10 % 10), .int .u8 (48 + ((l[k].toNat : Nat) : Int) % 10)] (m := 4) rfl rfl (by simp [Value.oneCell']) hsz2 (by omega) (by omega) ?_; intro v1 w1 ho1 hb1 hg1)
            have R := DaddRel.next hlt Hu.out rfl ho1 h4 hb1
            clear ho1 hb1 hg1
            go_roundw
            case rel => exact ⟨k + 1, by omega, by go_num, R⟩
            case measure => simp [intOf]; omega
        · have hu := escb_3 h1 h2
          have Hu := Lib.hid hu
          have i5 : ¬ ((l[k].toNat : Nat) : Int) < 33 := by omega
          have i6 : ¬ (126 : Int) < ((l[k].toNat : Nat) : Int) := by omega
          clear hu h1 h2
          go_wp2_with (at_builtin; refine wpList_appLit rfl _ _ _ rfl elt_bytes (n := n + (escp l k).length) rfl h3 [.int .u8 (l[k].toNat : Int)] (m := 1) rfl rfl (by simp [Value.oneCell']) hsz2 (by omega) (by omega) ?_; intro v1 w1 ho1 hb1 hg1)
          have R := DaddRel.next hlt Hu.out rfl ho1 h4 hb1
          clear ho1 hb1 hg1
          go_roundw
          case rel => exact ⟨k + 1, by omega, by go_num, R⟩
          case measure => simp [intOf]; omega
    · have i1 : ¬ (k : Int) < (l.length : Int) := by omega
      obtain rfl : k = l.length := by omega
      go_wp2
      go_ret
      refine ⟨_, rfl, ?_, h4⟩
      rw [escp_all] at h3
      rwa [List.length_map]

/-- a name, written. -/
def dtxt (A : List (List UInt8)) : List UInt8 := if A = [] then [46] else A.flatMap (fun l => escl l ++ [46])
def dtxs (A : List (List UInt8)) (k : Nat) : List UInt8 := (A.take k).flatMap (fun l => escl l ++ [46])
theorem dtxs_succ {A : List (List UInt8)} {k : Nat} (h : k < A.length) : dtxs A (k + 1) = dtxs A k ++ (escl A[k] ++ [46]) := by
  unfold dtxs
  rw [List.take_succ_eq_append_getElem h, List.flatMap_append, List.flatMap_singleton]
theorem dtxs_all {A : List (List UInt8)} (h : A ≠ []) : dtxs A A.length = dtxt A := by unfold dtxs dtxt; rw [if_neg h, List.take_length]
theorem escl_len (l : List UInt8) : (escl l).length ≤ 4 * l.length := by rw [← escp_all]; exact escp_len
theorem dtxs_len {A : List (List UInt8)} (k : Nat) (hk : k ≤ A.length) : (dtxs A k).length + 4 ≤ 4 * sz (A.take k) := by
  induction k with
  | zero => simp [dtxs, sz]
  | succ k ih =>
    have h1 := ih (by omega)
    have h2 := escl_len A[k]
    rw [dtxs_succ (by omega), sz_next (by omega)]
    simp only [List.length_append, List.length_cons, List.length_nil]
    omega
def DtRel (w : World) (A : List (List UInt8)) (k : Nat) (v : Value) (wr : World) : Prop :=
  wr.ownsRow w.heap.size 5 1 v (dtxs A k).length ((dtxs A k).map byv) ∧ Below w.heap.size w wr
theorem DtRel.next {w w0 w1 : World} {A : List (List UInt8)} {k : Nat} {v1 : Value} (hk : k < A.length) (h : w1.ownsRow w.heap.size 5 1 v1 ((dtxs A k).length + (escl A[k]).length + 1) ((dtxs A k).map byv ++ ((escl A[k]).map byv ++ [.int .u8 46]))) (h0 : Below w.heap.size w w0) (h1 : Below w.heap.size w0 w1) : DtRel w A (k + 1) v1 w1 := by
  refine ⟨?_, h0.trans h1⟩
  rw [dtxs_succ hk]
  simp only [List.length_append, List.map_append, List.length_cons, List.length_nil, Nat.add_assoc] at h ⊢
  exact h
def StrPost (w : World) (l : List UInt8) (e : Ending) (w' : World) : Prop := e = .returned (.string ⟨l.toArray⟩) ∧ Below w.heap.size w w'

set_option maxRecDepth 100000 in
set_option maxHeartbeats 1000000 in
theorem dtext_any (A : List (List UInt8)) (v : Value) (w : World) (ha : Sl w 1 v A.length (A.map stv)) (hn : A.length ≤ 100000000) (hs : sz A ≤ 100000000) (hll : ∀ l ∈ A, l.length ≤ 100000000) :
    Calls Try.prog 31 #[v] w (StrPost w (dtxt A)) := by
  rcases Nat.eq_zero_or_pos A.length with h0 | hpos
  · have hA : A = [] := List.eq_nil_of_length_eq_zero h0
    subst hA
    obtain ⟨a1, c1, rfl, _⟩ := ha.zero
    clear ha hll
    go_enter Try.func31, Try.ntmps31
    go_wp2
    go_ret
    exact ⟨rfl, Below.refl _ _⟩
  · obtain ⟨b1, o1, c1, rfl, hc1, hb1, hcA⟩ := ha.pos hpos
    have HcA := Lib.hid hcA
    have Hll := Lib.hid hll
    clear hcA ha hll
    have hA0 : A ≠ [] := by intro h; rw [h] at hpos; simp at hpos
    have hne : ((A.length : Int) == 0) = false := by rw [beq_eq_false_iff_ne]; omega
    go_enter Try.func31, Try.ntmps31
    go_wp2
    go_loopw [3, 11] (fun v i wr => ∃ k : Nat, k ≤ A.length ∧ i = .int .i64 k ∧ DtRel w A k v wr) (fun _ i _ => A.length - (intOf i).toNat)
    case atStart => exact ⟨0, Nat.zero_le _, rfl, World.ownsRow_nil _ _ _ _, Below.refl _ _⟩
    case round =>
      obtain ⟨k, hk, rfl, h3, h4⟩ := hrel
      have hsz := h4.size
      by_cases hlt : k < A.length
      · have i1 : (k : Int) < (A.length : Int) := by omega
        have q1 : wr.cell? ⟨b1, o1 + k, none⟩ = some (.string ⟨A[k].toArray⟩) := (bel_cells h4 hb1 (o1 + k)).trans (sl_at HcA.out hlt)
        have hlk := Hll.out A[k] (List.getElem_mem _)
        have hdl := dtxs_len k hk
        have hszk := sz_take A k
        have hel := escl_len A[k]
        go_wp2_with fail
        refine (dadd_any _ _ _ _ _ _ hlk hsz (by omega) h3).mono ?_
        rintro e w0 ⟨v0, rfl, ho0, hb0⟩
        have hsz0 : w.heap.size ≤ w0.heap.size := (h4.trans hb0).size
        have Hm : Hid (((escl A[k]).map byv).length = (escl A[k]).length) := Lib.hid (by simp)
        go_wp2_with (at_builtin; refine wpList_appLit rfl _ _ _ rfl elt_bytes (n := (dtxs A k).length + ((escl A[k]).map byv).length) rfl ho0 [.int .u8 46] (m := 1) rfl rfl (by simp [Value.oneCell']) hsz0 ?c1 ?c2 ?_)
        case c1 => have := Hm.out; omega
        case c2 => have := Hm.out; omega
        intro v1 w1 ho1 hbw1 hg1
        have R := DtRel.next hlt ho1 (h4.trans hb0) hbw1
        clear ho1 hbw1 hg1 ho0
        go_wp2
        go_roundw
        case rel => exact ⟨k + 1, by omega, by go_num, R⟩
        case measure => simp [intOf]; omega
      · have i1 : ¬ (k : Int) < (A.length : Int) := by omega
        obtain rfl : k = A.length := by omega
        rw [dtxs_all hA0] at h3
        have hcv := str_run (Sl.own h3)
        go_wp2
        go_ret
        exact ⟨rfl, h4⟩

def dpln (A : List (List UInt8)) : List UInt8 := if A = [] then [46] else (dtxt A).dropLast
theorem dtxt_pos {A : List (List UInt8)} : 1 ≤ (dtxt A).length := by
  unfold dtxt
  by_cases h : A = []
  · rw [if_pos h]; simp
  · rw [if_neg h]
    rcases A with _ | ⟨a, A⟩
    · exact absurd rfl h
    · rw [List.flatMap_cons]; simp; omega
theorem dtxt_len {A : List (List UInt8)} : (dtxt A).length ≤ 4 * sz A := by
  by_cases h : A = []
  · subst h; simp [dtxt, sz]
  · rw [← dtxs_all h]
    have := @dtxs_len A A.length (Nat.le_refl _)
    rw [sz_all] at this
    omega

set_option maxRecDepth 100000 in
set_option maxHeartbeats 1000000 in
theorem dplain_any (A : List (List UInt8)) (v : Value) (w : World) (ha : Sl w 1 v A.length (A.map stv)) (hn : A.length ≤ 100000000) (hs : sz A ≤ 100000000) (hll : ∀ l ∈ A, l.length ≤ 100000000) :
    Calls Try.prog 32 #[v] w (StrPost w (dpln A)) := by
  have hp := @dtxt_pos A
  have hl := @dtxt_len A
  have hdl : (dtxt A).dropLast = (dtxt A).take ((dtxt A).length - 1) := List.dropLast_eq_take
  have Ha := Lib.hid ha
  obtain ⟨a1, c1, hv, _⟩ := ha.any
  subst hv
  by_cases h0 : A = []
  · have hfin : dtxt A = dpln A := by unfold dpln dtxt; rw [if_pos h0, if_pos h0]
    have Hfin := Lib.hid hfin
    have hz : ((A.length : Int) == 0) = true := by simp [h0]
    clear ha hfin hdl h0
    go_enter Try.func32, Try.ntmps32
    go_wp2_with fail
    refine (dtext_any _ _ _ Ha.out hn hs hll).mono ?_
    rintro e w1 ⟨rfl, hb1⟩
    go_wp2
    go_ret
    exact ⟨congrArg Ending.returned (vstr Hfin.out), hb1⟩
  · have hfin : (dtxt A).take ((dtxt A).length - 1) = dpln A := by unfold dpln; rw [if_neg h0, hdl]
    have Hfin := Lib.hid hfin
    have hz : ((A.length : Int) == 0) = false := by rw [beq_eq_false_iff_ne]; have := List.length_pos_iff.2 h0; omega
    clear ha hfin hdl h0
    go_enter Try.func32, Try.ntmps32
    go_wp2_with fail
    refine (dtext_any _ _ _ Ha.out hn hs hll).mono ?_
    rintro e w1 ⟨rfl, hb1⟩
    generalize dtxt A = T at *
    have e1 : ((T.length : Int) - 1).toNat = T.length - 1 := by omega
    go_wp2
    go_ret
    exact ⟨congrArg Ending.returned (vstr Hfin.out), hb1⟩

theorem prs_open {o : Int ⊕ (List (List UInt8) × Bool)} {n : List (List UInt8)} {d : Bool} {w w' : World} {e : Ending} (h : PrsPost w o e w') (ho : o = .inr (n, d)) : ∃ v, e = .returned (.tuple #[v, .bool d, .int .i64 0]) ∧ Sl w' 1 v n.length (n.map stv) ∧ Below w.heap.size w w' := by
  subst ho; exact h
theorem prs_open_err {o : Int ⊕ (List (List UInt8) × Bool)} {c : Int} {w w' : World} {e : Ending} (h : PrsPost w o e w') (ho : o = .inl c) : ∃ v, e = .returned (.tuple #[v, .bool false, .int .i64 c]) ∧ Sl w' 1 v 0 [] ∧ Below w.heap.size w w' := by
  subst ho; exact h

set_option maxRecDepth 100000 in
set_option maxHeartbeats 1000000 in
theorem works05_any (w : World) : Calls Try.prog 25 #[] w (Good w) := by
  go_enter Try.func25, Try.ntmps25
  go_wp2_with fail
  refine (parse_any [97, 92, 46, 98, 46, 99] _ (by simp)).mono ?_
  intro e w1 h1
  obtain ⟨v1, rfl, hs1, hb1⟩ := prs_open h1 (show prs [97, 92, 46, 98, 46, 99] = .inr ([[97, 46, 98], [99]], false) by decide +kernel)
  clear h1
  obtain ⟨A1, c1, hv1, _⟩ := hs1.any
  subst hv1
  have Hs1 := Lib.hid hs1
  clear hs1
  go_wp2_with fail
  refine (exact_any [[97, 46, 98], [99]] [[97, 46, 98], [99]] _ _ _ (Hs1.out.alloc _) (Sl.new w1 [stv [97, 46, 98], stv [99]] 9) (by simp)).mono ?_
  rintro e w2 ⟨rfl, hb2⟩
  have hb2' : Below w1.heap.size w1 w2 := ((Below.refl _ _).alloc (Nat.le_refl _) _).trans (hb2.mono (by simp))
  clear hb2
  go_wp2_with fail
  refine (dtext_any [[97, 46, 98], [99]] _ _ (Hs1.out.below hb2') (by simp) (by simp [sz]) (by simp)).mono ?_
  rintro e w3 ⟨rfl, hb3⟩
  rw [show dtxt [[97, 46, 98], [99]] = [97, 92, 46, 98, 46, 99, 46] by decide +kernel]
  go_wp2_with fail
  refine (size_any [[97, 46, 98], [99]] _ _ ((Hs1.out.below hb2').below hb3) (by simp) (by simp [sz])).mono ?_
  rintro e w' ⟨rfl, rfl⟩
  rw [show sz [[97, 46, 98], [99]] = 7 by decide +kernel]
  go_wp2
  go_ret
  exact ⟨rfl, bel_tr (bel_tr hb1 hb2') hb3⟩
end Go.Proofs.Ytfkmjncchicmpaa
