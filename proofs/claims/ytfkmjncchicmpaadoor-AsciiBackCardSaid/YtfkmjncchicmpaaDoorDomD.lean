/- The contract of domain.Parse. -/
import Derived.Test.YtfkmjncchicmpaaDoorDomB
import Derived.Test.YtfkmjncchicmpaaDoorDomC
namespace Go.Proofs.YtfkmjncchicmpaaDoor
open Go.RowKit
attribute [local go_sem] ba_get ext_take ext_drop

/-- what a reading of names comes to: an error; or the labels, and whether a dot stood last. -/
def prsF : Nat → List (List UInt8) → Bool → List UInt8 → Int ⊕ (List (List UInt8) × Bool)
  | 0, n, dot, _ => if 255 < sz n then .inl 3 else .inr (n, dot)
  | k + 1, n, dot, r => if r = [] then (if 255 < sz n then .inl 3 else .inr (n, dot)) else
    if (oneE r).1 = 0 then prsF k (n ++ [(oneE r).2.1]) (decide ((oneE r).2.2 < r.length)) (r.drop ((oneE r).2.2 + if (oneE r).2.2 < r.length then 1 else 0)) else .inl (oneE r).1
def prs (l : List UInt8) : Int ⊕ (List (List UInt8) × Bool) := if l = [46] then .inr ([], true) else if l = [] then .inl 8 else prsF l.length [] false l
theorem oneE_bd (r : List UInt8) : (oneE r).2.2 ≤ r.length ∧ ((oneE r).1 = 0 → 1 ≤ (oneE r).2.2 ∧ lokB (oneE r).2.1 = true) ∧ ((oneE r).1 = 0 ∨ (oneE r).1 = 5 ∨ (oneE r).1 = 7 ∨ (oneE r).1 = 8) := by
  unfold oneE
  rcases h : one r with _ | ⟨b, m⟩
  · exact ⟨Nat.zero_le _, (fun h => by cases h), .inr (.inl rfl)⟩
  · have hb := one_bd h
    dsimp only
    by_cases h0 : b = []
    · rw [if_pos h0]; exact ⟨Nat.zero_le _, (fun h => by cases h), .inr (.inr (.inr rfl))⟩
    · rw [if_neg h0]
      by_cases h1 : 63 < b.length
      · rw [if_pos h1]; exact ⟨Nat.zero_le _, (fun h => by cases h), .inr (.inr (.inl rfl))⟩
      · rw [if_neg h1]
        have : 0 < b.length := List.length_pos_iff.2 h0
        refine ⟨hb.1, fun _ => ⟨one_pos h h0, ?_⟩, .inl rfl⟩
        simp [lokB]; omega
theorem prsF_enough (k : Nat) : ∀ (j : Nat) (n : List (List UInt8)) (dot : Bool) (r : List UInt8), r.length ≤ k → r.length ≤ j → prsF k n dot r = prsF j n dot r := by
  induction k with
  | zero =>
    intro j n dot r h _
    have : r = [] := List.eq_nil_of_length_eq_zero (by omega)
    subst this
    rcases j with _ | j
    · rfl
    · simp [prsF]
  | succ k ih =>
    intro j n dot r h hj
    rcases j with _ | j
    · have : r = [] := List.eq_nil_of_length_eq_zero (by omega)
      subst this
      simp [prsF]
    · simp only [prsF]
      by_cases hr : r = []
      · rw [if_pos hr, if_pos hr]
      · rw [if_neg hr, if_neg hr]
        by_cases he : (oneE r).1 = 0
        · rw [if_pos he, if_pos he]
          have hb := (oneE_bd r).2.1 he
          refine ih j _ _ _ ?_ ?_ <;> rw [List.length_drop] <;> omega
        · rw [if_neg he, if_neg he]
/-- from a rest on, with labels that were read. -/
def prsR (n : List (List UInt8)) (dot : Bool) (r : List UInt8) : Int ⊕ (List (List UInt8) × Bool) := prsF r.length n dot r
theorem prsR_nil (n : List (List UInt8)) (dot : Bool) : prsR n dot [] = if 255 < sz n then .inl 3 else .inr (n, dot) := rfl
theorem prsR_err {n : List (List UInt8)} {dot : Bool} {r : List UInt8} (hr : r ≠ []) (he : (oneE r).1 ≠ 0) : prsR n dot r = .inl (oneE r).1 := by
  unfold prsR
  rcases r with _ | ⟨a, r⟩
  · exact absurd rfl hr
  · simp only [List.length_cons, prsF]; rw [if_neg hr, if_neg he]
theorem prsR_ok {n : List (List UInt8)} {dot : Bool} {r : List UInt8} (hr : r ≠ []) (he : (oneE r).1 = 0) :
    prsR n dot r = prsR (n ++ [(oneE r).2.1]) (decide ((oneE r).2.2 < r.length)) (r.drop ((oneE r).2.2 + if (oneE r).2.2 < r.length then 1 else 0)) := by
  unfold prsR
  have hb := (oneE_bd r).2.1 he
  rcases r with _ | ⟨a, r⟩
  · exact absurd rfl hr
  · simp only [List.length_cons, prsF]; rw [if_neg hr, if_pos he]
    refine prsF_enough _ _ _ _ _ ?_ (Nat.le_refl _)
    rw [List.length_drop]
    have e : (a :: r).length = r.length + 1 := rfl
    generalize (if (oneE (a :: r)).2.2 < (a :: r).length then 1 else 0) = x
    omega

/-- the labels that a reading came to (none, of an error), whether a dot stood last, and the error. -/
def pA (o : Int ⊕ (List (List UInt8) × Bool)) : List (List UInt8) := match o with | .inl _ => [] | .inr p => p.1
def pD (o : Int ⊕ (List (List UInt8) × Bool)) : Bool := match o with | .inl _ => false | .inr p => p.2
def pE (o : Int ⊕ (List (List UInt8) × Bool)) : Int := match o with | .inl e => e | .inr _ => 0
def PrsPost (w : World) (o : Int ⊕ (List (List UInt8) × Bool)) (e : Ending) (w' : World) : Prop :=
  ∃ v, e = .returned (.tuple #[v, .bool (pD o), .int .i64 (pE o)]) ∧ Sl w' 1 v (pA o).length ((pA o).map stv) ∧ Below w.heap.size w w'

theorem PrsPost.err {w w' : World} {o : Int ⊕ (List (List UInt8) × Bool)} {e : Int} (h : o = .inl e) (hb : Below w.heap.size w w') : PrsPost w o (.returned (.tuple #[.slice none 0 0, .bool false, .int .i64 e])) w' := by
  rw [h]; exact ⟨_, rfl, Sl.nil _ _, hb⟩
theorem PrsPost.ok {w w' : World} {o : Int ⊕ (List (List UInt8) × Bool)} {n : List (List UInt8)} {d : Bool} {v : Value} (h : o = .inr (n, d)) (hs : Sl w' 1 v n.length (n.map stv)) (hb : Below w.heap.size w w') : PrsPost w o (.returned (.tuple #[v, .bool d, .int .i64 0])) w' := by
  rw [h]; exact ⟨_, rfl, hs, hb⟩

def PrsRel (w : World) (l r : List UInt8) (v : Value) (dot : Bool) (wr : World) : Prop :=
  ∃ n : List (List UInt8), prsF l.length [] false l = prsR n dot r ∧ n.length + r.length ≤ l.length ∧ n.all lokB = true ∧ wr.ownsRow w.heap.size 9 1 v n.length (n.map stv) ∧ Below w.heap.size w wr
theorem PrsRel.step {w w0 w1 : World} {l r : List UInt8} {dot : Bool} {v1 : Value} {n : List (List UInt8)} (hr : r ≠ []) (he : (oneE r).1 = 0) (h1 : prsF l.length [] false l = prsR n dot r) (h2 : n.length + r.length ≤ l.length) (ha : n.all lokB = true)
    (h3 : w1.ownsRow w.heap.size 9 1 v1 (n.length + 1) (n.map stv ++ [stv (oneE r).2.1])) (h4 : Below w.heap.size w w0) (h5 : Below w.heap.size w0 w1) {d : Bool} {m : Nat} (hd : d = decide ((oneE r).2.2 < r.length)) (hm : m = (oneE r).2.2 + if (oneE r).2.2 < r.length then 1 else 0) : PrsRel w l (r.drop m) v1 d w1 := by
  have hb := (oneE_bd r).2.1 he
  subst hd hm
  refine ⟨n ++ [(oneE r).2.1], by rw [h1, prsR_ok hr he], ?_, by rw [List.all_append, ha]; simp [hb.2], by simpa using h3, h4.trans h5⟩
  rw [List.length_append, List.length_drop]
  simp
  have : 0 < r.length := List.length_pos_iff.2 hr
  omega

end Go.Proofs.YtfkmjncchicmpaaDoor
