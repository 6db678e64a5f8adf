/- The contract of domain.Parse. -/
import Derived.Test.YtnelaegjcpkmdaaDomB
import Derived.Test.YtnelaegjcpkmdaaDomC
namespace Go.Proofs.Ytnelaegjcpkmdaa
open Go.RowKit
attribute [local go_sem] ba_get ext_take ext_drop

/-- what a reading of names comes to: an error; or the labels, and whether a dot stood last. -/
def prsF : Nat → List (List UInt8) → Bool → List UInt8 → Int ⊕ (List (List UInt8) × Bool)
  | 0, n, dot, _ => if 255 < sz n then .inl 3 else .inr (n, dot)
  | k + 1, n, dot, r => if r = [] then (if 255 < sz n then .inl 3 else .inr (n, dot)) else
    if (oneE r).1 = 0 then prsF k (n ++ [(oneE r).2.1]) (decide ((oneE r).2.2 < r.length)) (r.drop ((oneE r).2.2 + if (oneE r).2.2 < r.length then 1 else 0)) else .inl (oneE r).1
def prs (l : List UInt8) : Int ⊕ (List (List UInt8) × Bool) := if l = [46] then .inr ([], true) else if l = [] then .inl 8 else prsF l.length [] false l
theorem oneE_bd (r : List UInt8) : (oneE r).2.2 ≤ r.length ∧ ((oneE r).1 = 0 → 1 ≤ (oneE r).2.2 ∧ lokB (oneE r).2.1 = true) ∧ ((oneE r).1 = 0 ∨ (oneE r).1 = 5 ∨ (oneE r).1 = 7 ∨ (oneE r).1 = 8) := by
  unfold oneE
  rcases h : one r with _ | ⟨b, m⟩
  · exact ⟨Nat.zero_le _, (fun h => by cases h), .inr (.inl rfl)⟩
  · have hb := one_bd h
    dsimp only
    by_cases h0 : b = []
    · rw [if_pos h0]; exact ⟨Nat.zero_le _, (fun h => by cases h), .inr (.inr (.inr rfl))⟩
    · rw [if_neg h0]
      by_cases h1 : 63 < b.length
      · rw [if_pos h1]; exact ⟨Nat.zero_le _, (fun h => by cases h), .inr (.inr (.inl rfl))⟩
      · rw [if_neg h1]
        have : 0 < b.length := List.length_pos_iff.2 h0
        refine ⟨hb.1, fun _ => ⟨one_pos h h0, ?_⟩, .inl rfl⟩
        simp [lokB]; omega
theorem prsF_enough (k : Nat) : ∀ (j : Nat) (n : List (List UInt8)) (dot : Bool) (r : List UInt8), r.length ≤ k → r.length ≤ j → prsF k n dot r = prsF j n dot r := by
  induction k with
  | zero =>
    intro j n dot r h _
    have : r = [] := List.eq_nil_of_length_eq_zero (by omega)
    subst this
    rcases j with _ | j
    · rfl
    · simp [prsF]
  | succ k ih =>
    intro j n dot r h hj
    rcases j with _ | j
    · have : r = [] := List.eq_nil_of_length_eq_zero (by omega)
      subst this
      simp [prsF]
    · simp only [prsF]
      by_cases hr : r = []
      · rw [if_pos hr, if_pos hr]
      · rw [if_neg hr, if_neg hr]
        by_cases he : (oneE r).1 = 0
        · rw [if_pos he, if_pos he]
          have hb := (oneE_bd r).2.1 he
          refine ih j _ _ _ ?_ ?_ <;> rw [List.length_drop] <;> omega
        · rw [if_neg he, if_neg he]
/-- from a rest on, with labels that were read. -/
def prsR (n : List (List UInt8)) (dot : Bool) (r : List UInt8) : Int ⊕ (List (List UInt8) × Bool) := prsF r.length n dot r
theorem prsR_nil (n : List (List UInt8)) (dot : Bool) : prsR n dot [] = if 255 < sz n then .inl 3 else .inr (n, dot) := rfl
theorem prsR_err {n : List (List UInt8)} {dot : Bool} {r : List UInt8} (hr : r ≠ []) (he : (oneE r).1 ≠ 0) : prsR n dot r = .inl (oneE r).1 := by
  unfold prsR
  rcases r with _ | ⟨a, r⟩
  · exact absurd rfl hr
  · simp only [List.length_cons, prsF]; rw [if_neg hr, if_neg he]
theorem prsR_ok {n : List (List UInt8)} {dot : Bool} {r : List UInt8} (hr : r ≠ []) (he : (oneE r).1 = 0) :
    prsR n dot r = prsR (n ++ [(oneE r).2.1]) (decide ((oneE r).2.2 < r.length)) (r.drop ((oneE r).2.2 + if (oneE r).2.2 < r.length then 1 else 0)) := by
  unfold prsR
  have hb := (oneE_bd r).2.1 he
  rcases r with _ | ⟨a, r⟩
  · exact absurd rfl hr
  · simp only [List.length_cons, prsF]; rw [if_neg hr, if_pos he]
    refine prsF_enough _ _ _ _ _ ?_ (Nat.le_refl _)
    rw [List.length_drop]
    have e : (a :: r).length = r.length + 1 := rfl
    generalize (if (oneE (a :: r)).2.2 < (a :: r).length then 1 else 0) = x
    omega

/-- the labels that a reading came to (none, of an error), whether a dot stood last, and the error. -/
def pA (o : Int ⊕ (List (List UInt8) × Bool)) : List (List UInt8) := match o with | .inl _ => [] | .inr p => p.1
def pD (o : Int ⊕ (List (List UInt8) × Bool)) : Bool := match o with | .inl _ => false | .inr p => p.2
def pE (o : Int ⊕ (List (List UInt8) × Bool)) : Int := match o with | .inl e => e | .inr _ => 0
def PrsPost (w : World) (o : Int ⊕ (List (List UInt8) × Bool)) (e : Ending) (w' : World) : Prop :=
  ∃ v, e = .returned (.tuple #[v, .bool (pD o), .int .i64 (pE o)]) ∧ Sl w' 1 v (pA o).length ((pA o).map stv) ∧ Below w.heap.size w w'

theorem PrsPost.err {w w' : World} {o : Int ⊕ (List (List UInt8) × Bool)} {e : Int} (h : o = .inl e) (hb : Below w.heap.size w w') : PrsPost w o (.returned (.tuple #[.slice none 0 0, .bool false, .int .i64 e])) w' := by
  rw [h]; exact ⟨_, rfl, Sl.nil _ _, hb⟩
theorem PrsPost.ok {w w' : World} {o : Int ⊕ (List (List UInt8) × Bool)} {n : List (List UInt8)} {d : Bool} {v : Value} (h : o = .inr (n, d)) (hs : Sl w' 1 v n.length (n.map stv)) (hb : Below w.heap.size w w') : PrsPost w o (.returned (.tuple #[v, .bool d, .int .i64 0])) w' := by
  rw [h]; exact ⟨_, rfl, hs, hb⟩

def PrsRel (w : World) (l r : List UInt8) (v : Value) (dot : Bool) (wr : World) : Prop :=
  ∃ n : List (List UInt8), prsF l.length [] false l = prsR n dot r ∧ n.length + r.length ≤ l.length ∧ n.all lokB = true ∧ wr.ownsRow w.heap.size 9 1 v n.length (n.map stv) ∧ Below w.heap.size w wr
theorem PrsRel.step {w w0 w1 : World} {l r : List UInt8} {dot : Bool} {v1 : Value} {n : List (List UInt8)} (hr : r ≠ []) (he : (oneE r).1 = 0) (h1 : prsF l.length [] false l = prsR n dot r) (h2 : n.length + r.length ≤ l.length) (ha : n.all lokB = true)
    (h3 : w1.ownsRow w.heap.size 9 1 v1 (n.length + 1) (n.map stv ++ [stv (oneE r).2.1])) (h4 : Below w.heap.size w w0) (h5 : Below w.heap.size w0 w1) {d : Bool} {m : Nat} (hd : d = decide ((oneE r).2.2 < r.length)) (hm : m = (oneE r).2.2 + if (oneE r).2.2 < r.length then 1 else 0) : PrsRel w l (r.drop m) v1 d w1 := by
  have hb := (oneE_bd r).2.1 he
  subst hd hm
  refine ⟨n ++ [(oneE r).2.1], by rw [h1, prsR_ok hr he], ?_, by rw [List.all_append, ha]; simp [hb.2], by simpa using h3, h4.trans h5⟩
  rw [List.length_append, List.length_drop]
  simp
  have : 0 < r.length := List.length_pos_iff.2 hr
  omega

set_option maxRecDepth 100000 in
set_option maxHeartbeats 1000000 in
theorem parse_any (l : List UInt8) (w : World) (hl : l.length ≤ 1000000) : Calls Try.prog 64 #[.string ⟨l.toArray⟩] w (PrsPost w (prs l)) := by
  by_cases hd : l = [46]
  · subst hd
    go_enter Try.func64, Try.ntmps64
    go_wp2
    go_ret3
    exact ⟨_, rfl, Sl.nil _ _, Below.refl _ _⟩
  · have hd1 : (l == [46]) = false := by simpa using hd
    by_cases h0 : l = []
    · subst h0
      clear hd hd1
      go_enter Try.func64, Try.ntmps64
      go_wp2
      go_ret3
      exact ⟨_, rfl, Sl.nil _ _, Below.refl _ _⟩
    · have h01 : l.isEmpty = false := by simpa using h0
      have hP : prs l = prsF l.length [] false l := by unfold prs; rw [if_neg hd, if_neg h0]
      have HP := Lib.hid hP
      clear hP hd
      go_enter Try.func64, Try.ntmps64
      go_wp2
      go_loopw [0, 5, 6] (fun s v d wr => ∃ (r : List UInt8) (dot : Bool), s = .string ⟨r.toArray⟩ ∧ d = .bool dot ∧ PrsRel w l r v dot wr) (fun s _ _ _ => strLen s)
      case atStart => exact ⟨l, false, rfl, rfl, [], rfl, by simp, rfl, World.ownsRow_nil _ _ _ _, Below.refl _ _⟩
      case round =>
        obtain ⟨r, dot, rfl, rfl, n, h1, h2, ha, h3, h4⟩ := hrel
        have H1 := Lib.hid h1
        have HA := Lib.hid ha
        clear h1 ha
        have hsz := h4.size
        by_cases hr : r = []
        · subst hr
          have hso := sz_ok HA.out
          have hown := Sl.own h3
          obtain ⟨A5, c5, hv5, _⟩ := hown.any
          subst hv5
          have Ho := Lib.hid hown
          clear hown
          by_cases h255 : 255 < sz n
          · have hfin : prs l = .inl 3 := by rw [HP.out, H1.out, prsR_nil, if_pos h255]
            have Hfin := Lib.hid hfin
            clear hfin
            go_wp2_with fail
            refine (size_any n _ _ Ho.out (by simp at h2; omega) (by simp at h2; omega)).mono ?_
            rintro e w' ⟨rfl, rfl⟩
            go_wp2
            go_ret3
            exact PrsPost.err Hfin.out h4
          · have hfin : prs l = .inr (n, dot) := by rw [HP.out, H1.out, prsR_nil, if_neg h255]
            have Hfin := Lib.hid hfin
            clear hfin
            go_wp2_with fail
            refine (size_any n _ _ Ho.out (by simp at h2; omega) (by simp at h2; omega)).mono ?_
            rintro e w' ⟨rfl, rfl⟩
            go_wp2
            go_ret3
            exact PrsPost.ok Hfin.out Ho.out h4
        · have hr1 : r.isEmpty = false := by simpa using hr
          obtain ⟨hb1, hb2, hb3⟩ := oneE_bd r
          by_cases he : (oneE r).1 = 0
          · obtain ⟨hb4, hb5⟩ := hb2 he
            have He := Lib.hid he
            clear he hb2 hb3 hb5
            by_cases hdot : (oneE r).2.2 < r.length
            · have Hif : Hid ((oneE r).2.2 + 1 = (oneE r).2.2 + if (oneE r).2.2 < r.length then 1 else 0) := Lib.hid (by rw [if_pos hdot])
              have Hd : Hid (true = decide ((oneE r).2.2 < r.length)) := Lib.hid (by simp [hdot])
              go_wp2_with fail
              refine (one_any _ _ (by omega)).mono ?_
              rintro e w0 ⟨rfl, hb0⟩
              unfold oneV
              rw [He.out]
              have h3' := own_below h3 hb0
              have h4' := h4.trans (hb0.mono hsz)
              have hsz' := h4'.size
              clear h3
              go_wp2_with (at_builtin; refine wpList_appLit rfl _ _ _ rfl elt_name (n := n.length) rfl h3' [stv (oneE r).2.1] (m := 1) rfl rfl (by simp [Value.oneCell', stv]) hsz' (by omega) (by omega) ?_; intro v1 w1 ho1 hbw1 hg1)
              have R := PrsRel.step hr He.out H1.out h2 HA.out ho1 h4' hbw1 (d := true) (m := (oneE r).2.2 + 1) Hd.out Hif.out
              clear ho1 hbw1
              go_roundw
              case rel => exact ⟨_, _, rfl, rfl, R⟩
              case measure => simp only [strLen_mk, List.length_drop]; omega
            · have Hif : Hid ((oneE r).2.2 = (oneE r).2.2 + if (oneE r).2.2 < r.length then 1 else 0) := Lib.hid (by rw [if_neg hdot, Nat.add_zero])
              have Hd : Hid (false = decide ((oneE r).2.2 < r.length)) := Lib.hid (by simp [hdot])
              go_wp2_with fail
              refine (one_any _ _ (by omega)).mono ?_
              rintro e w0 ⟨rfl, hb0⟩
              unfold oneV
              rw [He.out]
              have h3' := own_below h3 hb0
              have h4' := h4.trans (hb0.mono hsz)
              have hsz' := h4'.size
              clear h3
              go_wp2_with (at_builtin; refine wpList_appLit rfl _ _ _ rfl elt_name (n := n.length) rfl h3' [stv (oneE r).2.1] (m := 1) rfl rfl (by simp [Value.oneCell', stv]) hsz' (by omega) (by omega) ?_; intro v1 w1 ho1 hbw1 hg1)
              have R := PrsRel.step hr He.out H1.out h2 HA.out ho1 h4' hbw1 (d := false) (m := (oneE r).2.2) Hd.out Hif.out
              clear ho1 hbw1
              go_roundw
              case rel => exact ⟨_, _, rfl, rfl, R⟩
              case measure => simp only [strLen_mk, List.length_drop]; omega
          · have hne : (((oneE r).1 : Int) != 0) = true := by simpa using he
            have hfin : prs l = .inl (oneE r).1 := by rw [HP.out, H1.out, prsR_err hr he]
            have Hfin := Lib.hid hfin
            clear hfin he hb2 hb3
            go_wp2_with fail
            refine (one_any _ _ (by omega)).mono ?_
            rintro e w0 ⟨rfl, hb0⟩
            unfold oneV
            go_wp2
            go_ret3
            exact PrsPost.err Hfin.out (h4.trans (hb0.mono hsz))
end Go.Proofs.Ytnelaegjcpkmdaa
