/- More words of our own: make, and facts on bits. -/
import Derived.Test.YtnelaegjcpkmdaaK
namespace Go.Proofs.Ytnelaegjcpkmdaa
open Go.RowKit

/-- 'make([]T, 0, n)': a row of the call's own without members. -/
theorem wpList_mk0 {P : Program} {w : World} {ops : Array Oper} {rest : List Oper} {o : Oper} {a : Act} {Q : Exit → Act → World → Prop} (hg : o.guard = none) (l c : Operand) (t : TypeId) (hop : o.op = Op.makeSlice t l c)
    {base : Nat} {e : TypeId} {size bytes : Nat} (el : Elt P t e size bytes) {kl kc : IntKind} {C : Int} (n : Nat) (hl : a.eval l = .int kl 0) (hc : a.eval c = .int kc C) (hC : C = (n : Int))
    (b2 : bytes * n ≤ 281474976710656) (b3 : n ≤ 140737488355328) (b4 : base ≤ w.heap.size)
    (hK : ∀ w', w'.ownsRow base e size (.slice (some ⟨w.heap.size, 0, none⟩) 0 n) 0 [] → Below base w w' → wpList P ops Q rest (a.put o.dst (.slice (some ⟨w.heap.size, 0, none⟩) 0 n)) w') : wpList P ops Q (o :: rest) a w := by
  obtain ⟨i, z, hi, hz, hz1, hz2, hz3⟩ := el.info
  refine wpList_make_own w hg l c t hop base e i z size el.under hi hz hz1 kl kc C n hl hc hC (by rw [hz2]; exact b2) (by simp only [maxLen]; omega) b4 ?_
  intro w' h1 h2
  exact hK w' h1 ((Below.refl _ _).grown h2 b4 (fun k hk => by cases hk))

theorem ofInt_nat32 (a : Nat) (ha : a < 2147483648) : (BitVec.ofInt 32 (a : Int)).toNat = a := by
  rw [BitVec.ofInt_natCast, BitVec.toNat_ofNat]; exact Nat.mod_eq_of_lt (by omega)
theorem and63 {x : Int} (h0 : 0 ≤ x) (h1 : x < 2147483648) : bits .and .i32 x 63 = x % 64 := by
  obtain ⟨a, rfl⟩ := Int.eq_ofNat_of_zero_le h0
  have hx : a &&& 63 = a % 64 := Nat.and_two_pow_sub_one_eq_mod a 6
  show IntKind.i32.wrap ((BitVec.ofInt 32 (a : Int) &&& BitVec.ofInt 32 ((63 : Nat) : Int)).toNat : Int) = _
  rw [BitVec.toNat_and, ofInt_nat32 a (by omega), ofInt_nat32 63 (by omega), IntKind.wrap_i32, hx]
  omega
theorem or_fin (m : Nat) (P : Nat → Bool) (h : ∀ n : Fin 64, P n.val = true → bits .or .i32 (m : Int) (n.val : Int) = (m : Int) + (n.val : Int)) {x : Int} (h0 : 0 ≤ x) (h1 : x < 64) (hP : P x.toNat = true) : bits .or .i32 (m : Int) x = (m : Int) + x := by
  have := h ⟨x.toNat, by omega⟩ hP
  dsimp only at this
  rw [show ((x.toNat : Nat) : Int) = x by omega] at this
  exact this
theorem or128 {x : Int} (h0 : 0 ≤ x) (h1 : x < 64) : bits .or .i32 128 x = 128 + x := or_fin 128 (fun _ => true) (by decide +kernel) h0 h1 rfl
theorem or192 {x : Int} (h0 : 0 ≤ x) (h1 : x < 32) : bits .or .i32 192 x = 192 + x := or_fin 192 (fun n => decide (n < 32)) (by decide +kernel) h0 (by omega) (by simp; omega)
theorem or224 {x : Int} (h0 : 0 ≤ x) (h1 : x < 16) : bits .or .i32 224 x = 224 + x := or_fin 224 (fun n => decide (n < 16)) (by decide +kernel) h0 (by omega) (by simp; omega)
theorem or240 {x : Int} (h0 : 0 ≤ x) (h1 : x < 8) : bits .or .i32 240 x = 240 + x := or_fin 240 (fun n => decide (n < 8)) (by decide +kernel) h0 (by omega) (by simp; omega)
end Go.Proofs.Ytnelaegjcpkmdaa
