/- Contracts and plain lemmas of our own, merged. -/
import Derived.Test.YtgebcifkbldfoaaDoorZNb13
import Derived.Test.YtgebcifkbldfoaaDoorZNb17
import Derived.Laws.BitsAllLaws
import Derived.Test.YtgebcifkbldfoaaDoorShelf
import Derived.Laws.CopyOwn
/- The contract of colon.several. -/
namespace Go.Proofs.YtgebcifkbldfoaaDoor
open Go.RowKit
attribute [local go_sem] ba_get ext_take ext_drop ext_any ba_app

def nv (n : Nat) : Value := .int .i64 (n : Int)
end Go.Proofs.YtgebcifkbldfoaaDoor

/- The contract of the reference's side (8). -/
namespace Go.Proofs.YtgebcifkbldfoaaDoor
open Go.RowKit
attribute [local go_sem] ba_get ext_take ext_drop ext_any ba_app

theorem own_base {w : World} {b b' : Nat} {e : TypeId} {k n : Nat} {v : Value} {xs : List Value} (h : w.ownsRow b e k v n xs) (hb : b' ≤ b) : w.ownsRow b' e k v n xs := by
  obtain ⟨h1, h2⟩ := h
  refine ⟨h1, ?_⟩
  rcases h2 with h2 | ⟨g, cap, cur, r1, r2, r3⟩
  · exact .inl h2
  · exact .inr ⟨g, cap, cur, r1, Nat.le_trans hb r2, r3⟩
end Go.Proofs.YtgebcifkbldfoaaDoor

/- The contract of colon.whole. -/
namespace Go.Proofs.YtgebcifkbldfoaaDoor
open Go.RowKit
attribute [local go_sem] ba_get ext_take ext_drop ext_any ba_app

theorem a8_under : Tryd.prog.underlying 193 = some (.array 8 3) := by kernel_rfl
end Go.Proofs.YtgebcifkbldfoaaDoor

/- The contract of colon.whole: the walk. -/
namespace Go.Proofs.YtgebcifkbldfoaaDoor
open Go.RowKit
attribute [local go_sem] ba_get ext_take ext_drop ext_any ba_app

theorem Sl.cellsOf {w : World} {v : Value} {n : Nat} {xs : List Value} (h : Sl w 1 v n xs) : ∃ A c, v = .slice A n c ∧ n ≤ c ∧ (0 < xs.length → ∃ ad, A = some ad ∧ ∀ (j : Nat) u, xs[j]? = some u → w.cell? (ad.add j) = some u) := by
  obtain ⟨h0, A, c, hv, hc, hA, hcell⟩ := h
  rcases Nat.eq_zero_or_pos n with hn | hn
  · refine ⟨A, c, hv, hc, fun hp => ?_⟩
    rw [h0, hn] at hp
    simp at hp
  · cases A with
    | none => exact absurd (hA rfl) (by omega)
    | some ad =>
      obtain ⟨_, hs, hcl⟩ := hcell ad rfl hn
      refine ⟨some ad, c, hv, hc, fun _ => ⟨ad, rfl, fun j u hu => ?_⟩⟩
      have := hcl j u hu
      rcases ad with ⟨b, off, sub⟩
      simp only at hs
      subst hs
      rw [add_none]
      exact this

theorem hold {p : Prop} (h : Hid p) : p := h.out
theorem Sl.src {w : World} {A : Option Addr} {n c : Nat} {xs : List Value} (h : Sl w 1 (.slice A n c) n xs) (hp : 0 < xs.length) : ∃ ad, A = some ad ∧ ∀ (j : Nat) u, xs[j]? = some u → w.cell? (ad.add j) = some u := by
  obtain ⟨A', c', hv, _, hh⟩ := h.cellsOf
  injection hv with h1 h2 h3
  subst h1
  exact hh hp

end Go.Proofs.YtgebcifkbldfoaaDoor

/- The contract of colon.whole: the last way, and all ways together. -/
namespace Go.Proofs.YtgebcifkbldfoaaDoor
open Go.RowKit
attribute [local go_sem] ba_get ext_take ext_drop ext_any ba_app

theorem Stays.refl (g : Nat) (w : World) : Stays g w w := ⟨rfl, rfl, rfl, rfl, fun _ _ => rfl⟩
theorem size_run {P : Program} {t : TypeId} {n : Nat} (hi : (P.info? t).map (·.size) = some n) (w : World) : (sizeOf t).run P w = .ok n w := by
  cases hi2 : P.info? t with
  | none => rw [hi2] at hi; cases hi
  | some i =>
    rw [hi2] at hi
    injection hi with hi
    simp [sizeOf, typeInfo, hi2, hi]
theorem slice8_l (w : World) (g : Nat) (l : Int) (h0 : 0 ≤ l) (h1 : l < 8) : (Instr.sliceAt 193 (.pointer (some ⟨g, 0, none⟩)) (some (.int .i64 l)) none none).run Tryd.prog w = .ok (.slice (some ⟨g, l.toNat, none⟩) (8 - l.toNat) (8 - l.toNat)) w := by
  have ha : Tryd.prog.arrayLen 193 = 8 := by kernel_rfl
  have he : Tryd.prog.elem 193 = 3 := by kernel_rfl
  have hs : (sizeOf 3).run Tryd.prog w = .ok 1 w := size_run (by kernel_rfl) w
  rw [run_sliceAt_array_l w _ _ (by rw [ha, he]; exact a8_under) .i64 l h0 (by rw [ha]; omega), he, hs, ha]
  simp only [Result.andThen_ok, slicedAt]
  rw [if_neg (by omega), Nat.mul_one, add_none, Nat.zero_add]
attribute [local go_sem] slice8_l

end Go.Proofs.YtgebcifkbldfoaaDoor

/- The contract of colon.Parse. -/
namespace Go.Proofs.YtgebcifkbldfoaaDoor
open Go.RowKit
attribute [local go_sem] ba_get ext_take ext_drop ext_any ba_app

def CoPost (w : World) (s : List UInt8) (e : Ending) (w' : World) : Prop := e = .returned (adS (colP s)) ∧ Below w.heap.size w w'
theorem CoPost.no {w w' : World} {s : List UInt8} {c : Int} (h : colP s = .inl c) (hb : Below w.heap.size w w') : CoPost w s (.returned (.tuple #[.agg (adA ad0), .int .i64 c])) w' := ⟨by rw [h]; rfl, hb⟩
end Go.Proofs.YtgebcifkbldfoaaDoor

/- The contract of the reference's plain (8). -/
namespace Go.Proofs.YtgebcifkbldfoaaDoor
open Go.RowKit
attribute [local go_sem] ba_get ext_take ext_drop ext_any ba_app

theorem ddx_short {s : List UInt8} (h : s.length < 2) : ddx s = none := by
  match s, h with
  | [], _ => rfl
  | [_], _ => rfl
theorem ddx_hit {s : List UInt8} {i : Nat} (h : i + 1 < s.length) (he : (s.take (i + 2)).drop i = [58, 58]) : ddx (s.drop i) = some 0 := by
  have e : (s.take (i + 2)).drop i = [s[i], s[i + 1]] := by
    rw [List.drop_take, show i + 2 - i = 2 by omega, List.drop_eq_getElem_cons (by omega), List.drop_eq_getElem_cons h]
    rfl
  rw [e] at he
  injection he with h1 he
  injection he with h2 _
  rw [List.drop_eq_getElem_cons (by omega), List.drop_eq_getElem_cons h, ddx, if_pos ⟨h1, h2⟩]
theorem ddx_miss {s : List UInt8} {i : Nat} (h : i + 1 < s.length) (he : (s.take (i + 2)).drop i ≠ [58, 58]) : ddx (s.drop i) = (ddx (s.drop (i + 1))).map (· + 1) := by
  have e : (s.take (i + 2)).drop i = [s[i], s[i + 1]] := by
    rw [List.drop_take, show i + 2 - i = 2 by omega, List.drop_eq_getElem_cons (by omega), List.drop_eq_getElem_cons h]
    rfl
  rw [e] at he
  rw [List.drop_eq_getElem_cons (by omega), List.drop_eq_getElem_cons h, ddx, if_neg]
  rintro ⟨h1, h2⟩
  exact he (by rw [h1, h2])
/-- what is known at place i, nothing having been found ahead of it. -/
def DdN (s : List UInt8) (i : Nat) : Prop := ddx s = (ddx (s.drop i)).map (· + i)
theorem DdN.zero (s : List UInt8) : DdN s 0 := by unfold DdN; rw [List.drop_zero]; cases ddx s <;> rfl
theorem DdN.next {s : List UInt8} {i : Nat} (h0 : DdN s i) (h : i + 1 < s.length) (he : (s.take (i + 2)).drop i ≠ [58, 58]) : DdN s (i + 1) := by
  unfold DdN at h0 ⊢
  rw [h0, ddx_miss h he]
  cases ddx (s.drop (i + 1)) with
  | none => rfl
  | some k => show some (k + 1 + i) = some (k + (i + 1)); congr 1; omega
theorem DdN.hit {s : List UInt8} {i : Nat} (h0 : DdN s i) (h : i + 1 < s.length) (he : (s.take (i + 2)).drop i = [58, 58]) : ddx s = some i := by
  unfold DdN at h0
  rw [h0, ddx_hit h he]
  show some (0 + i) = some i
  rw [Nat.zero_add]
theorem DdN.done {s : List UInt8} {i : Nat} (h0 : DdN s i) (h : s.length ≤ i + 1) : ddx s = none := by
  unfold DdN at h0
  rw [h0, ddx_short (by rw [List.length_drop]; omega)]
  rfl
def PlPost (w : World) (s : List UInt8) (e : Ending) (w' : World) : Prop := e = .returned (match plV s with | some l => .tuple #[.agg (adA (adG l)), .bool true] | none => .tuple #[.agg (adA ad0), .bool false]) ∧ Below w.heap.size w w'

theorem PlPost.no {w w' : World} {s : List UInt8} (h : plV s = none) (hb : Below w.heap.size w w') : PlPost w s (.returned (.tuple #[.agg (adA ad0), .bool false])) w' := ⟨by rw [h], hb⟩
def ApRel (w4 : World) (x : List Nat) (m : Nat) (v : Value) (wr : World) : Prop := wr.ownsRow w4.heap.size 3 1 v (x.length + m) ((x ++ List.replicate m 0).map nv) ∧ Below w4.heap.size w4 wr
theorem ApRel.next {w4 wr : World} {x : List Nat} {m : Nat} {v : Value} (h : wr.ownsRow w4.heap.size 3 1 v (x.length + m + 1) ((x ++ List.replicate m 0).map nv ++ [.int .i64 0])) (hb : Below w4.heap.size w4 wr) : ApRel w4 x (m + 1) v wr := by
  refine ⟨?_, hb⟩
  rw [List.replicate_succ', ← List.append_assoc, List.map_append]
  exact h
end Go.Proofs.YtgebcifkbldfoaaDoor
