/- Contracts and plain lemmas of our own, merged. -/
import Derived.Test.YtgebcifkbldfoaaGreatDoorZSB12
import Derived.Test.YtgebcifkbldfoaaGreatDoorZSB17
import Derived.Test.YtgebcifkbldfoaaGreatDoorZSB19
import Derived.Test.YtgebcifkbldfoaaGreatDoorZSB25
import Derived.Test.YtgebcifkbldfoaaGreatDoorZSB26
import Derived.Test.YtgebcifkbldfoaaGreatDoorZSB28
import Derived.Test.YtgebcifkbldfoaaGreatDoorZSB29
import Derived.Test.YtgebcifkbldfoaaGreatDoorZSB32
import Derived.Test.YtgebcifkbldfoaaGreatDoorZSB34
import Derived.Test.YtgebcifkbldfoaaGreatDoorZSB35
import Derived.Test.YtgebcifkbldfoaaGreatDoorZSB4
import Derived.Test.YtgebcifkbldfoaaGreatDoorZSB9
/- What happens in the world: events, plain, and in memory. -/
namespace Go.Proofs.YtgebcifkbldfoaaGreatDoor
open Go.RowKit
attribute [local go_sem] ba_get ext_take ext_drop ext_any ba_app

/-- one cell of a block is stored into. -/
theorem wpList_storeC {P : Program} {w : World} {ops : Array Oper} {rest : List Oper} {o : Oper} {a : Act} {Q : Exit → Act → World → Prop} (hgd : o.guard = none) (ty : TypeId) (x y : Operand) (ho : o.op = .store ty x y) {g i : Nat} {v : Value} (hx : a.eval x = .pointer (some ⟨g, i, none⟩)) (hy : a.eval y = v) (h1 : v.oneCell' = true)
    {t : TypeId} {cs : Array Value} (hB : Bk w g t cs) (hi : i < cs.size) (hsz : (P.info? ty).map (·.size) = some 1)
    (h : ∀ w', Bk w' g t (cs.setIfInBounds i v) → Stays g w w' → wpList P ops Q rest (a.put o.dst undef) w') : wpList P ops Q (o :: rest) a w := by
  refine wpList_plain hgd fun _ hK => ?_
  have hr : (storeVar ty ⟨g, i, none⟩ v).run P w = .ok () (w.setCell ⟨g, i, none⟩ v) := by
    have := run_storeCells_cells (P := P) g i [v] 0 w (fun j hj => by
      have hj0 : j = 0 := by simpa using hj
      subst hj0
      rw [hB.cell, Array.getElem?_eq_getElem (by simpa using hi)]; rfl) (fun j _ => hB.free _) (fun u hu => by rw [List.mem_singleton.1 hu]; exact h1)
    have hc : v.cells = #[v] := by cases v <;> first | rfl | cases h1
    cases hq : P.info? ty with
    | none => simp [hq] at hsz
    | some ie =>
      have hs : ie.size = 1 := by simpa [hq] using hsz
      simp [storeVar, sizeOf, typeInfo, hq, hc, hs, this, World.setCells]
  unfold Oper.wp execOp
  simp only [ho, hx, hy, Instr.storeAt, Instr.sureAddr, Sem.run_bind, Sem.run_pure, Result.andThen_ok, hr]
  exact hK _ _ (h _ (hB.set_ i v) (Stays.cell w g i v))
structure Ev where
  k : Int
  a : Ad
  fp : Int
  p : Int
  d : List UInt8
def ev0 : Ev := ⟨0, ad0, 0, 0, []⟩
def evL (e : Ev) : List Value := .int .i64 e.k :: (adL e.a ++ [.int .i64 e.fp, .int .i64 e.p, stv e.d])
def evA (e : Ev) : Array Value := (evL e).toArray
theorem evL_len (e : Ev) : (evL e).length = 22 := by
  unfold evL
  rw [List.length_cons, List.length_append, adL_len]; rfl
theorem evA_size (e : Ev) : (evA e).size = 22 := by unfold evA; rw [List.size_toArray, evL_len]
theorem evL_one (e : Ev) : (evL e).toArray.all (·.oneCell') = true := by
  rw [List.all_toArray]
  unfold evL
  rw [List.all_cons, List.all_append]
  simp only [Bool.and_eq_true]
  exact ⟨rfl, List.all_eq_true.2 (adL_one e.a), rfl⟩
theorem ev_under : Tryz.prog.underlying 33 = some (.struct (Tryz.prog.fieldsOf 33)) := by kernel_rfl
theorem ev_size : (Tryz.prog.info? 33).map (·.size) = some 22 := by kernel_rfl
theorem ev_size' (x : Ev) : (Tryz.prog.info? 33).map (·.size) = some (evA x).size := by rw [evA_size]; exact ev_size
theorem ev_zero : ZeroIs Tryz.prog 33 (evA ev0) := by unfold ZeroIs; kernel_rfl
theorem built_ev0 : Tryz.prog.built 33 [] = some (evA ev0) := by kernel_rfl
/-- a reader: the fields, the event. -/
def rdL (v : Value) (e : Ev) : List Value := v :: evL e
def rdA (v : Value) (e : Ev) : Array Value := (rdL v e).toArray
theorem built_rd (A : Option Addr) (n c : Nat) : Tryz.prog.built 63 [(0, .slice A n c)] = some (rdA (.slice A n c) ev0) := by kernel_rfl
theorem rdA_size (v : Value) (e : Ev) : (rdA v e).size = 23 := by unfold rdA rdL; rw [List.size_toArray, List.length_cons, evL_len]
theorem rdA_k (v : Value) (e : Ev) (x : Int) : (rdA v e).setIfInBounds 1 (.int .i64 x) = rdA v { e with k := x } := by
  unfold rdA rdL evL
  rw [List.setIfInBounds_toArray]; rfl
theorem evT (e : Ev) : ∃ c0 c1 c2 c3 c4 c5 c6 c7 c8 c9 c10 c11 c12 c13 c14 c15 c16 c17, adL e.a = [c0, c1, c2, c3, c4, c5, c6, c7, c8, c9, c10, c11, c12, c13, c14, c15, c16, c17] := by
  have h := adL_len e.a
  generalize adL e.a = l at h
  match l, h with
  | [c0, c1, c2, c3, c4, c5, c6, c7, c8, c9, c10, c11, c12, c13, c14, c15, c16, c17], _ => exact ⟨_, _, _, _, _, _, _, _, _, _, _, _, _, _, _, _, _, _, rfl⟩
theorem rdA_fp (v : Value) (e : Ev) (x : Int) : (rdA v e).setIfInBounds 20 (.int .i64 x) = rdA v { e with fp := x } := by
  obtain ⟨c0, c1, c2, c3, c4, c5, c6, c7, c8, c9, c10, c11, c12, c13, c14, c15, c16, c17, h⟩ := evT e
  unfold rdA rdL evL
  rw [List.setIfInBounds_toArray, h]; rfl
theorem rdA_p (v : Value) (e : Ev) (x : Int) : (rdA v e).setIfInBounds 21 (.int .i64 x) = rdA v { e with p := x } := by
  obtain ⟨c0, c1, c2, c3, c4, c5, c6, c7, c8, c9, c10, c11, c12, c13, c14, c15, c16, c17, h⟩ := evT e
  unfold rdA rdL evL
  rw [List.setIfInBounds_toArray, h]; rfl
theorem rdA_d (v : Value) (e : Ev) (x : List UInt8) : (rdA v e).setIfInBounds 22 (.string ⟨x.toArray⟩) = rdA v { e with d := x } := by
  obtain ⟨c0, c1, c2, c3, c4, c5, c6, c7, c8, c9, c10, c11, c12, c13, c14, c15, c16, c17, h⟩ := evT e
  unfold rdA rdL evL
  rw [List.setIfInBounds_toArray, h]; rfl
theorem rdA_a (v : Value) (e : Ev) (x : Ad) : splA (rdA v e) 2 (adL x) = rdA v { e with a := x } := by
  obtain ⟨c0, c1, c2, c3, c4, c5, c6, c7, c8, c9, c10, c11, c12, c13, c14, c15, c16, c17, h⟩ := evT e
  have h2 := adL_len x
  unfold rdA rdL evL splA
  rw [h2, h]; rfl
/-! ### the plain answer -/
def numR (s : List UInt8) : Int ⊕ Nat := if s ≠ [] ∧ s.all dgB = true then (if val s ≤ 65535 then .inr (val s) else .inl 4) else .inl 5
def hxs : List UInt8 → Option (List UInt8)
  | x :: y :: r => match hex (x.toNat : Int), hex (y.toNat : Int), hxs r with
    | some h, some l, some t => some (UInt8.ofNat (16 * h.toNat + l.toNat) :: t)
    | _, _, _ => none
  | _ => some []
def datR (s : List UInt8) : Int ⊕ List UInt8 :=
  if s = [45] then .inr []
  else if s.length % 2 = 1 then .inl 5
  else match hxs s with
    | none => .inl 5
    | some b => if 65535 < b.length then .inl 3 else .inr b
def bindR {α β : Type} (x : Int ⊕ α) (f : α → Int ⊕ β) : Int ⊕ β := match x with | .inl e => .inl e | .inr a => f a
def wTick : List UInt8 := [116, 105, 99, 107]
def wPacket : List UInt8 := [112, 97, 99, 107, 101, 116]
def wOpen : List UInt8 := [111, 112, 101, 110]
def wBytes : List UInt8 := [98, 121, 116, 101, 115]
def wClose : List UInt8 := [99, 108, 111, 115, 101]
def packR : List (List UInt8) → Int ⊕ Ev
  | [_, f, g, h, i] => match adrP f with
    | .inl _ => .inl 5
    | .inr a => bindR (numR g) fun n => bindR (numR h) fun m => bindR (datR i) fun d => .inr ⟨2, a, n, m, d⟩
  | _ => .inl 5
def alonR (k : Int) : List (List UInt8) → Int ⊕ Ev
  | [_, h] => bindR (numR h) fun m => .inr ⟨k, ad0, 0, m, []⟩
  | _ => .inl 5
def byteR : List (List UInt8) → Int ⊕ Ev
  | [_, h, i] => bindR (numR h) fun m => bindR (datR i) fun d => .inr ⟨4, ad0, 0, m, d⟩
  | _ => .inl 5
def tickR : List (List UInt8) → Int ⊕ Ev
  | [_] => .inr ⟨1, ad0, 0, 0, []⟩
  | _ => .inl 5
def evF (F : List (List UInt8)) : Int ⊕ Ev := match F with
  | [] => .inl 1
  | w :: _ => if w = wTick then tickR F else if w = wPacket then packR F else if w = wOpen then alonR 3 F else if w = wBytes then byteR F else if w = wClose then alonR 5 F else .inl 10
def evP (s : List UInt8) : Int ⊕ Ev := evF (flds s)
def evR (r : Int ⊕ Ev) : Value := match r with
  | .inl e => .tuple #[.agg (evA ev0), .int .i64 e]
  | .inr x => .tuple #[.agg (evA x), .int .i64 0]
end Go.Proofs.YtgebcifkbldfoaaGreatDoor

/- script: the reader's methods. -/
namespace Go.Proofs.YtgebcifkbldfoaaGreatDoor
open Go.RowKit
attribute [local go_sem] ba_get ext_take ext_drop ext_any ba_app

def codeR {α : Type} (r : Int ⊕ α) : Int := match r with | .inl e => e | .inr _ => 0
def RdPost (w0 : World) (g : Nat) (v : Value) (r : Int ⊕ Ev) (e : Ending) (w' : World) : Prop := ∃ x, e = .returned (.int .i64 (codeR r)) ∧ Bk w' g 63 (rdA v x) ∧ (∀ y, r = .inr y → x = y) ∧ Below w0.heap.size w0 w'
theorem scz_int : (Tryz.prog.info? 3).map (·.size) = some 1 := by kernel_rfl
set_option maxRecDepth 100000 in
set_option maxHeartbeats 1000000 in
theorem sctick_any (w0 w : World) (g : Nat) (v : Value) (F : List (List UInt8)) (hs : Sl w0 1 v F.length (F.map stv)) (hb : Below w0.heap.size w0 w) (hg : w0.heap.size ≤ g) (hB : Bk w g 63 (rdA v ev0)) :
    Calls Tryz.prog 31 #[.pointer (some ⟨g, 0, none⟩)] w (RdPost w0 g v (tickR F)) := by
  obtain ⟨A, c, rfl, hc⟩ := hs.any
  clear hs
  have HB := Lib.hid hB
  have Hb := Lib.hid hb
  clear hB hb
  go_enter Tryz.func31, Tryz.ntmps31
  go_wp2_with (first
    | ((with_reducible show wpList _ _ _ (⟨none, .store _ (.tmp 6) _, _, _, _, _⟩ :: _) _ _); refine wpList_storeC (o := ⟨none, _, _, _, _, _⟩) (i := 1) (v := .int .i64 1) rfl _ _ _ rfl rfl rfl rfl HB.out (by rw [rdA_size]; decide) scz_int ?_; intro w2 hB2 hS2; rw [rdA_k] at hB2; have HB2 := Lib.hid hB2; have Hb2 := Lib.hid (Hb.out.trans (hS2.below hg)); have c0 : w2.cell? ⟨g, 0, none⟩ = some (.slice A F.length c) := hB2.cell 0; clear hB2 hS2; refine holdL ?_))
  refine Lib.hid ?_
  by_cases h1 : F.length = 1
  · obtain ⟨f, rfl⟩ : ∃ f, F = [f] := List.length_eq_one_iff.1 h1
    go_wp2
    go_ret
    exact ⟨_, rfl, HB2.out, (fun y hy => by cases hy; rfl), Hb2.out⟩
  · have E1 : Hid (tickR F = .inl 5) := Lib.hid (by
      match F, h1 with
      | [], _ => rfl
      | [_], h => exact absurd rfl h
      | _ :: _ :: _, _ => rfl)
    have h1' : ((F.length : Int) != 1) = true := by simp; omega
    go_wp2
    go_ret
    exact ⟨_, by rw [E1.out]; rfl, HB2.out, (fun y hy => by rw [E1.out] at hy; cases hy), Hb2.out⟩
/-- from: the field is an address. -/
def frR (x : Ev) (f : List UInt8) : Int ⊕ Ev := match adrP f with | .inl _ => .inl 5 | .inr a => .inr { x with a := a }
set_option maxRecDepth 100000 in
set_option maxHeartbeats 1000000 in
theorem scfrom_any (w0 w : World) (ht : Tab w0) (hm : MaxI w0) (g : Nat) (v : Value) (x : Ev) (F : List (List UInt8)) (hs : Sl w0 1 v F.length (F.map stv)) (hb : Below w0.heap.size w0 w) (hg : w0.heap.size ≤ g) (hB : Bk w g 63 (rdA v x)) (k : Nat) (hk : k < F.length) (hF : F.length ≤ 100000) (hf : (F[k]).length ≤ 1000000) :
    Calls Tryz.prog 47 #[.pointer (some ⟨g, 0, none⟩), .int .i64 (k : Int)] w (RdPost w0 g v (frR x F[k])) := by
  obtain ⟨b1, off, c1, rfl, hc1, hbl, hcell⟩ := (hs.below hb).pos (by omega)
  have hfx : w.cell? ⟨b1, off + k, none⟩ = some (.string ⟨(F[k]).toArray⟩) := hcell k (stv F[k]) (by rw [List.getElem?_map, List.getElem?_eq_getElem hk]; rfl)
  have HX := Lib.hid (aparse_any F[k] w (ht.below hb) (hm.below hb) (by omega))
  generalize F[k] = f at *
  have hkI : (k : Int) < (F.length : Int) := by omega
  have hk0 : (0 : Int) ≤ (k : Int) := by omega
  have HB := Lib.hid hB
  have Hb := Lib.hid hb
  have c0 : w.cell? ⟨g, 0, none⟩ = some (.slice (some ⟨b1, off, none⟩) F.length c1) := hB.cell 0
  clear hs hcell hB hb ht hm
  cases hx : adrP f with
  | inl e0 =>
    have he0 : (e0 == 0) = false := by rcases adrP_err hx with rfl | rfl <;> rfl
    have HE : Hid (frR x f = .inl 5) := Lib.hid (by unfold frR; rw [hx])
    have HX2 : Hid (Calls Tryz.prog 62 #[.string ⟨f.toArray⟩] w fun e w' => e = .returned (.tuple #[.agg (adA ad0), .int .i64 e0]) ∧ Below w.heap.size w w') := Lib.hid (HX.out.mono fun e w' ⟨he, hb⟩ => ⟨by rw [he, hx]; rfl, hb⟩)
    clear hx HX
    go_enter Tryz.func47, Tryz.ntmps47
    go_wp2_with (first
      | (go_at_call 62; refine HX2.out.mono ?_; rintro e w2 ⟨rfl, hb2⟩; have Hb2 := Lib.hid hb2; clear hb2)
      | ((with_reducible show wpList _ _ _ (⟨some 5, _, _, _, _, _⟩ :: _) _ _); refine wpList_allocAd (o := ⟨some 5, _, _, _, _, _⟩) rfl rfl ?_; intro g4 w4 hg4 hB4 hb4 hs4; have Hg4 := Lib.hid hg4; clear hg4 hs4)
      | ((with_reducible refine wpList_storeAd (o := ⟨none, _, _, _, _, _⟩) rfl (.tmp 5) _ rfl rfl rfl hB4 ?_); intro w5 hB5 hS5; have Hb5 := Lib.hid (bel_tr Hb2.out (hb4.trans (hS5.below (Nat.le_of_eq Hg4.out.symm)))); clear hB5 hS5 hb4 hB4))
    go_ret
    exact ⟨_, by rw [HE.out]; rfl, HB.out.bel Hb5.out, (fun y hy => by rw [HE.out] at hy; cases hy), bel_tr Hb.out Hb5.out⟩
  | inr a =>
    have HE : Hid (frR x f = .inr { x with a := a }) := Lib.hid (by unfold frR; rw [hx])
    have HX2 : Hid (Calls Tryz.prog 62 #[.string ⟨f.toArray⟩] w fun e w' => e = .returned (.tuple #[.agg (adA a), .int .i64 0]) ∧ Below w.heap.size w w') := Lib.hid (HX.out.mono fun e w' ⟨he, hb⟩ => ⟨by rw [he, hx]; rfl, hb⟩)
    clear hx HX
    go_enter Tryz.func47, Tryz.ntmps47
    go_wp2_with (first
      | (go_at_call 62; refine HX2.out.mono ?_; rintro e w2 ⟨rfl, hb2⟩; have Hb2 := Lib.hid hb2; clear hb2)
      | ((with_reducible show wpList _ _ _ (⟨some 5, _, _, _, _, _⟩ :: _) _ _); refine wpList_allocAd (o := ⟨some 5, _, _, _, _, _⟩) rfl rfl ?_; intro g4 w4 hg4 hB4 hb4 hs4; have Hg4 := Lib.hid hg4; clear hg4 hs4)
      | ((with_reducible refine wpList_storeAd (o := ⟨none, _, _, _, _, _⟩) rfl (.tmp 5) _ rfl rfl rfl hB4 ?_); intro w5 hB5 hS5; have Hb5 := Lib.hid (bel_tr Hb2.out (hb4.trans (hS5.below (Nat.le_of_eq Hg4.out.symm)))); have HB5 := Lib.hid (HB.out.bel Hb5.out); have HR5 := Lib.hid hB5; clear hB5 hS5 hb4 hB4)
      | ((with_reducible show wpList _ _ _ (⟨some 21, _, _, _, _, _⟩ :: _) _ _); refine wpList_loadAd (o := ⟨some 21, _, _, _, _, _⟩) rfl _ rfl rfl HR5.out ?_)
      | ((with_reducible show wpList _ _ _ (⟨none, .store _ (.tmp 24) _, _, _, _, _⟩ :: _) _ _); refine wpList_storeM (o := ⟨none, _, _, _, _, _⟩) (off := 2) (cells := adA a) rfl _ _ _ rfl rfl rfl HB5.out (ad_size' a) (by rw [rdA_size, adA_size]; decide) (adA_one a) ?_; intro w6 hB6 hS6; rw [show (adA a).toList = adL a from rfl, rdA_a] at hB6; have HB6 := Lib.hid hB6; have Hb6 := Lib.hid ((bel_tr Hb.out Hb5.out).trans (hS6.below hg)); clear hB6 hS6))
    go_ret
    exact ⟨_, by rw [HE.out]; rfl, HB6.out, (fun y hy => by rw [HE.out] at hy; cases hy; rfl), Hb6.out⟩
theorem numR_V (f : List UInt8) : ∃ n : Int, numV f ((65535 : Nat) : Int) = .tuple #[.int .i64 n, .int .i64 (codeR (numR f))] ∧ ∀ m, numR f = .inr m → n = (m : Int) := by
  unfold numV numR
  by_cases h : f ≠ [] ∧ f.all dgB = true
  · rw [if_pos h, if_pos h]
    by_cases h2 : val f ≤ 65535
    · rw [if_pos (by omega), if_pos h2]
      exact ⟨_, rfl, fun m hm => by cases hm; rfl⟩
    · rw [if_neg (by omega), if_neg h2]
      exact ⟨_, rfl, fun m hm => by cases hm⟩
  · rw [if_neg h, if_neg h]
    exact ⟨_, rfl, fun m hm => by cases hm⟩
def NuPost (w0 : World) (g i : Nat) (v : Value) (x : Ev) (f : List UInt8) (e : Ending) (w' : World) : Prop := ∃ n : Int, e = .returned (.int .i64 (codeR (numR f))) ∧ Bk w' g 63 ((rdA v x).setIfInBounds i (.int .i64 n)) ∧ (∀ m, numR f = .inr m → n = (m : Int)) ∧ Below w0.heap.size w0 w'
set_option maxRecDepth 100000 in
set_option maxHeartbeats 1000000 in
theorem scnum_any (w0 w : World) (g i : Nat) (v : Value) (x : Ev) (F : List (List UInt8)) (hs : Sl w0 1 v F.length (F.map stv)) (hb : Below w0.heap.size w0 w) (hg : w0.heap.size ≤ g) (hB : Bk w g 63 (rdA v x)) (hi : i < 23) (k : Nat) (hk : k < F.length) (hF : F.length ≤ 100000) (hf : (F[k]).length ≤ 1000000) :
    Calls Tryz.prog 48 #[.pointer (some ⟨g, 0, none⟩), .int .i64 (k : Int), .pointer (some ⟨g, i, none⟩)] w (NuPost w0 g i v x F[k]) := by
  obtain ⟨b1, off, c1, rfl, hc1, hbl, hcell⟩ := (hs.below hb).pos (by omega)
  have hfx : w.cell? ⟨b1, off + k, none⟩ = some (.string ⟨(F[k]).toArray⟩) := hcell k (stv F[k]) (by rw [List.getElem?_map, List.getElem?_eq_getElem hk]; rfl)
  have HX := Lib.hid (number_any F[k] ((65535 : Nat) : Int) w (by omega) (by omega) (by omega))
  generalize F[k] = f at *
  obtain ⟨n, hn, hm⟩ := numR_V f
  rw [hn] at HX
  have HM := Lib.hid hm
  have hkI : (k : Int) < (F.length : Int) := by omega
  have hk0 : (0 : Int) ≤ (k : Int) := by omega
  have HB := Lib.hid hB
  have Hb := Lib.hid hb
  have c0 : w.cell? ⟨g, 0, none⟩ = some (.slice (some ⟨b1, off, none⟩) F.length c1) := hB.cell 0
  clear hs hcell hB hb hn hm
  go_enter Tryz.func48, Tryz.ntmps48
  go_wp2_with (first
    | (go_at_call 63; refine HX.out.mono ?_; rintro e w2 ⟨rfl, hw⟩; subst hw)
    | ((with_reducible show wpList _ _ _ (⟨none, .store _ (.tmp 22) _, _, _, _, _⟩ :: _) _ _); refine wpList_storeC (o := ⟨none, _, _, _, _, _⟩) (i := i) (v := .int .i64 n) rfl _ _ _ rfl rfl rfl rfl HB.out (by rw [rdA_size]; exact hi) scz_int ?_; intro w6 hB6 hS6; have HB6 := Lib.hid hB6; have Hb6 := Lib.hid (Hb.out.trans (hS6.below hg)); clear hB6 hS6))
  go_ret
  exact ⟨n, rfl, HB6.out, HM.out, Hb6.out⟩
/-- 'make([]T, 0, n)'. -/
theorem wpList_makeE {P : Program} {w : World} {ops : Array Oper} {rest : List Oper} {o : Oper} {a : Act} {Q : Exit → Act → World → Prop} (hg : o.guard = none) (l c : Operand) (t : TypeId) (hop : o.op = Op.makeSlice t l c) {e : TypeId} {size bytes : Nat} (el : Elt P t e size bytes) {kl kc : IntKind} {C : Int} (n : Nat) (hl : a.eval l = .int kl 0) (hc : a.eval c = .int kc C) (hC : C = (n : Int)) (hb : bytes * n ≤ 281474976710656) (hn : n ≤ 1000000000)
    (h : ∀ v' w', w'.ownsRow w.heap.size e size v' 0 [] → Below w.heap.size w w' → wpList P ops Q rest (a.put o.dst v') w') : wpList P ops Q (o :: rest) a w := by
  obtain ⟨i, z, hi, hz, hz1, hz2, hz3⟩ := el.info
  subst hC
  obtain ⟨w', hr, ho, hgr⟩ := run_make_own w w.heap.size t e i z size el.under hi hz hz1 kl kc n (by rw [hz2]; exact hb) (by unfold maxLen; omega) (Nat.le_refl _)
  refine wpList_plain hg fun _ hK => ?_
  unfold Oper.wp
  simp only [execOp, hop, hl, hc, hr, Sem.run_bind, Result.andThen_ok]
  exact hK _ _ (h _ _ ho ((Below.refl _ _).grown hgr (Nat.le_refl _) (fun k hk => by cases hk)))
end Go.Proofs.YtgebcifkbldfoaaGreatDoor

/- script: the reader's data. -/
namespace Go.Proofs.YtgebcifkbldfoaaGreatDoor
open Go.RowKit
attribute [local go_sem] ba_get ext_take ext_drop ext_any ba_app

theorem hxs_next {x y : UInt8} {r : List UInt8} {h l : Int} (h1 : hex (x.toNat : Int) = some h) (h2 : hex (y.toNat : Int) = some l) : hxs (x :: y :: r) = (hxs r).map (UInt8.ofNat (16 * h.toNat + l.toNat) :: ·) := by
  rw [hxs, h1, h2]
  cases hxs r <;> rfl
theorem hxs_bad1 {x y : UInt8} {r : List UInt8} (h1 : hex (x.toNat : Int) = none) : hxs (x :: y :: r) = none := by
  rw [hxs, h1]
theorem hxs_bad2 {x y : UInt8} {r : List UInt8} (h2 : hex (y.toNat : Int) = none) : hxs (x :: y :: r) = none := by
  rw [hxs, h2]
  split <;> simp_all
/-- so far. -/
structure HxI (s : List UInt8) (i : Nat) (done : List UInt8) : Prop where
  eq : hxs s = (hxs (s.drop i)).map (done ++ ·)
  len : 2 * done.length = i
theorem HxI.start (s : List UInt8) : HxI s 0 [] := ⟨by rw [List.drop_zero]; cases hxs s <;> rfl, rfl⟩
theorem drop_two {s : List UInt8} {i : Nat} (h1 : i + 1 < s.length) : s.drop i = s[i] :: s[i + 1] :: s.drop (i + 2) := by
  rw [List.drop_eq_getElem_cons (by omega), List.drop_eq_getElem_cons h1]
theorem HxI.next {s : List UInt8} {i : Nat} {done : List UInt8} (H : HxI s i done) (h1 : i + 1 < s.length) {h l : Int} (e1 : hex (s[i].toNat : Int) = some h) (e2 : hex (s[i + 1].toNat : Int) = some l) : HxI s (i + 2) (done ++ [UInt8.ofNat (16 * h.toNat + l.toNat)]) :=
  ⟨by rw [H.eq, drop_two h1, hxs_next e1 e2]; cases hxs (s.drop (i + 2)) <;> simp, by have := H.len; rw [List.length_append]; simp; omega⟩
theorem HxI.bad1 {s : List UInt8} {i : Nat} {done : List UInt8} (H : HxI s i done) (h1 : i + 1 < s.length) (e1 : hex (s[i].toNat : Int) = none) : hxs s = none := by
  rw [H.eq, drop_two h1, hxs_bad1 e1]; rfl
theorem HxI.bad2 {s : List UInt8} {i : Nat} {done : List UInt8} (H : HxI s i done) (h1 : i + 1 < s.length) (e2 : hex (s[i + 1].toNat : Int) = none) : hxs s = none := by
  rw [H.eq, drop_two h1, hxs_bad2 e2]; rfl
theorem HxI.done_ {s : List UInt8} {done : List UInt8} (H : HxI s s.length done) : hxs s = some done := by
  rw [H.eq, List.drop_length]; simp [hxs]
def daR (x : Ev) (f : List UInt8) : Int ⊕ Ev := bindR (datR f) fun d => .inr { x with d := d }
theorem datR_odd {s : List UInt8} (h0 : s ≠ [45]) (h : s.length % 2 = 1) : datR s = .inl 5 := by unfold datR; rw [if_neg h0, if_pos h]
theorem datR_none {s : List UInt8} (h0 : s ≠ [45]) (h : hxs s = none) : datR s = .inl 5 := by
  unfold datR; rw [if_neg h0, h]
  split <;> rfl
theorem datR_some {s d : List UInt8} (h0 : s ≠ [45]) (h1 : ¬ s.length % 2 = 1) (h : hxs s = some d) : datR s = if 65535 < d.length then .inl 3 else .inr d := by
  unfold datR; rw [if_neg h0, if_neg h1, h]
def ScRel (w : World) (s : List UInt8) (i : Nat) (v : Value) (wr : World) : Prop := ∃ done, HxI s i done ∧ wr.ownsRow w.heap.size 5 1 v done.length (done.map byv) ∧ Below w.heap.size w wr
theorem scz_str : (Tryz.prog.info? 9).map (·.size) = some 1 := by kernel_rfl
set_option maxRecDepth 100000 in
set_option maxHeartbeats 2000000 in
theorem scdata_any (w0 w : World) (g : Nat) (v : Value) (x : Ev) (hx0 : x.d = []) (F : List (List UInt8)) (hs : Sl w0 1 v F.length (F.map stv)) (hb : Below w0.heap.size w0 w) (hg : w0.heap.size ≤ g) (hB : Bk w g 63 (rdA v x)) (k : Nat) (hk : k < F.length) (hF : F.length ≤ 100000) (hf : (F[k]).length ≤ 1000000) :
    Calls Tryz.prog 49 #[.pointer (some ⟨g, 0, none⟩), .int .i64 (k : Int)] w (RdPost w0 g v (daR x F[k])) := by
  obtain ⟨b1, off, c1, rfl, hc1, hbl, hcell⟩ := (hs.below hb).pos (by omega)
  have hfx : w.cell? ⟨b1, off + k, none⟩ = some (.string ⟨(F[k]).toArray⟩) := hcell k (stv F[k]) (by rw [List.getElem?_map, List.getElem?_eq_getElem hk]; rfl)
  generalize F[k] = s at *
  have hkI : (k : Int) < (F.length : Int) := by omega
  have hk0 : (0 : Int) ≤ (k : Int) := by omega
  have HB := Lib.hid hB
  have Hb := Lib.hid hb
  have c0 : w.cell? ⟨g, 0, none⟩ = some (.slice (some ⟨b1, off, none⟩) F.length c1) := hB.cell 0
  clear hs hcell hB hb
  by_cases h45 : s = [45]
  · subst h45
    have HE : Hid (daR x [45] = .inr x) := Lib.hid (by unfold daR datR bindR; rw [if_pos rfl]; simp only; rw [← hx0])
    clear hx0
    go_enter Tryz.func49, Tryz.ntmps49
    go_wp2
    go_ret
    exact ⟨x, by rw [HE.out]; rfl, HB.out, (fun y hy => by rw [HE.out] at hy; cases hy; rfl), Hb.out⟩
  · have n45 : (s == [45]) = false := beq_eq_false_iff_ne.2 h45
    have H45 := Lib.hid h45
    clear h45 hx0
    by_cases hod : s.length % 2 = 1
    · have HE : Hid (daR x s = .inl 5) := Lib.hid (by unfold daR; rw [datR_odd H45.out hod]; rfl)
      have hodI : (((s.length : Int).tmod 2) != 0) = true := by rw [Int.tmod_eq_emod_of_nonneg (by omega)]; simp; omega
      go_enter Tryz.func49, Tryz.ntmps49
      go_wp2
      go_ret
      exact ⟨x, by rw [HE.out]; rfl, HB.out, (fun y hy => by rw [HE.out] at hy; cases hy), Hb.out⟩
    · have hodI : (((s.length : Int).tmod 2) != 0) = false := by rw [Int.tmod_eq_emod_of_nonneg (by omega)]; simp; omega
      have hq : (s.length : Int).tdiv 2 = ((s.length / 2 : Nat) : Int) := by rw [Int.tdiv_eq_ediv_of_nonneg (by omega)]; omega
      have Hod := Lib.hid hod
      go_enter Tryz.func49, Tryz.ntmps49
      go_wp2_with (first
        | ((with_reducible show wpList _ _ _ (⟨some 28, _, _, _, _, _⟩ :: _) _ _); refine wpList_makeE (o := ⟨some 28, _, _, _, _, _⟩) rfl _ _ _ rfl elt_bytes (s.length / 2) rfl rfl (by first | exact hq | rfl) (by omega) (by omega) ?_; intro v2 w2 ho2 hb2; obtain ⟨A2, k2, rfl⟩ := own_any ho2; have Ho2 := Lib.hid ho2; have Hb2 := Lib.hid hb2; clear ho2 hb2; refine holdL ?_))
      refine Lib.hid ?_
      go_wp2
      go_loopw [6, 7] (fun v i wr => ∃ k : Nat, k ≤ s.length ∧ i = .int .i64 k ∧ ScRel w s k v wr) (fun _ i _ => s.length - (intOf i).toNat)
      case atStart => exact ⟨0, Nat.zero_le _, rfl, [], HxI.start s, Ho2.out, Hb2.out⟩
      case round =>
        obtain ⟨i, hi, rfl, done, hI, hown, hbw⟩ := hrel
        obtain ⟨A3, k3, rfl⟩ := own_any hown
        have HI := Lib.hid hI
        have Hbw := Lib.hid hbw
        have hl2 := hI.len
        have hsz := hbw.size
        clear hI hbw
        by_cases hlt : i < s.length
        · have hlt1 : i + 1 < s.length := by have := Hod.out; omega
          have i0 : (i : Int) < (s.length : Int) := by omega
          have i1 : (i : Int) + 1 < (s.length : Int) := by omega
          have hu1 := u8lt s[i]
          have hu2 := u8lt s[i + 1]
          cases h1 : hex (s[i].toNat : Int) with
          | none =>
            have HE : Hid (daR x s = .inl 5) := Lib.hid (by unfold daR; rw [datR_none H45.out (HI.out.bad1 hlt1 h1)]; rfl)
            have Hh := Lib.hid h1
            clear h1
            cases h2 : hex (s[i + 1].toNat : Int) with
            | none =>
              have Hk := Lib.hid h2
              clear h2
              go_wp2_with (first
                | (go_at_call 64; refine (hex_any (s[i].toNat : Int) _ (by omega) (by omega)).mono ?_; rintro e w2 ⟨rfl, h2⟩; have h3 := h2.symm; subst h3; clear h2; rw [Hh.out]; unfold hexV; refine holdL ?_))
              refine Lib.hid ?_
              go_wp2_with (first
                | (go_at_call 64; refine (hex_any (s[i + 1].toNat : Int) _ (by omega) (by omega)).mono ?_; rintro e w2 ⟨rfl, h2⟩; have h3 := h2.symm; subst h3; clear h2; rw [Hk.out]; unfold hexV))
              go_ret
              exact ⟨x, by rw [HE.out]; rfl, HB.out.bel Hbw.out, (fun y hy => by rw [HE.out] at hy; cases hy), bel_tr Hb.out Hbw.out⟩
            | some kk =>
              have Hk := Lib.hid h2
              clear h2
              go_wp2_with (first
                | (go_at_call 64; refine (hex_any (s[i].toNat : Int) _ (by omega) (by omega)).mono ?_; rintro e w2 ⟨rfl, h2⟩; have h3 := h2.symm; subst h3; clear h2; rw [Hh.out]; unfold hexV; refine holdL ?_))
              refine Lib.hid ?_
              go_wp2_with (first
                | (go_at_call 64; refine (hex_any (s[i + 1].toNat : Int) _ (by omega) (by omega)).mono ?_; rintro e w2 ⟨rfl, h2⟩; have h3 := h2.symm; subst h3; clear h2; rw [Hk.out]; unfold hexV))
              go_ret
              exact ⟨x, by rw [HE.out]; rfl, HB.out.bel Hbw.out, (fun y hy => by rw [HE.out] at hy; cases hy), bel_tr Hb.out Hbw.out⟩
          | some hh =>
            have hd := hexc_bd h1
            obtain ⟨n, rfl⟩ : ∃ n : Nat, hh = (n : Int) := ⟨hh.toNat, by omega⟩
            have Hh := Lib.hid h1
            cases h2 : hex (s[i + 1].toNat : Int) with
            | none =>
              have HE : Hid (daR x s = .inl 5) := Lib.hid (by unfold daR; rw [datR_none H45.out (HI.out.bad2 hlt1 h2)]; rfl)
              have Hk := Lib.hid h2
              clear h1 h2
              go_wp2_with (first
                | (go_at_call 64; refine (hex_any (s[i].toNat : Int) _ (by omega) (by omega)).mono ?_; rintro e w2 ⟨rfl, h2⟩; have h3 := h2.symm; subst h3; clear h2; rw [Hh.out]; unfold hexV; refine holdL ?_))
              refine Lib.hid ?_
              go_wp2_with (first
                | (go_at_call 64; refine (hex_any (s[i + 1].toNat : Int) _ (by omega) (by omega)).mono ?_; rintro e w2 ⟨rfl, h2⟩; have h3 := h2.symm; subst h3; clear h2; rw [Hk.out]; unfold hexV))
              go_ret
              exact ⟨x, by rw [HE.out]; rfl, HB.out.bel Hbw.out, (fun y hy => by rw [HE.out] at hy; cases hy), bel_tr Hb.out Hbw.out⟩
            | some kk =>
              have hd2 := hexc_bd h2
              obtain ⟨m, rfl⟩ : ∃ m : Nat, kk = (m : Int) := ⟨kk.toNat, by omega⟩
              have Hk := Lib.hid h2
              have HN := Lib.hid (HI.out.next hlt1 h1 h2)
              have hor := or16 (show n < 4096 by omega) (show m < 16 by omega)
              clear h1 h2
              go_wp2_with (first
                | (go_at_call 64; refine (hex_any (s[i].toNat : Int) _ (by omega) (by omega)).mono ?_; rintro e w2 ⟨rfl, h2⟩; have h3 := h2.symm; subst h3; clear h2; rw [Hh.out]; unfold hexV; refine holdL ?_))
              refine Lib.hid ?_
              go_wp2_with (first
                | (go_at_call 64; refine (hex_any (s[i + 1].toNat : Int) _ (by omega) (by omega)).mono ?_; rintro e w2 ⟨rfl, h2⟩; have h3 := h2.symm; subst h3; clear h2; rw [Hk.out]; unfold hexV)
                | (at_builtin; refine wpList_appLit rfl _ _ _ rfl elt_bytes (n := done.length) rfl hown [_] (m := 1) rfl rfl (by simp [Value.oneCell']) hsz (by omega) (by omega) ?_; intro v6 w6 ho6 hb6 hg6; have Ho6 := Lib.hid ho6; have Hb6 := Lib.hid (Hbw.out.trans hb6); clear ho6 hb6 hg6))
              go_roundw
              case rel => exact ⟨i + 2, by omega, by go_num, _, HN.out, by have h := Ho6.out; rw [byv_mk (n := 16 * n + m) (by omega) (by omega)] at h; simp only [Int.toNat_natCast, List.map_append, List.length_append, List.map_cons, List.map_nil, List.length_cons, List.length_nil]; exact h, Hb6.out⟩
              case measure => (simp [intOf]) <;> omega
        · obtain rfl : i = s.length := by omega
          have HD := Lib.hid HI.out.done_
          have i0 : ¬ (s.length : Int) < (s.length : Int) := by omega
          by_cases hbig : 65535 < done.length
          · have HE : Hid (daR x s = .inl 3) := Lib.hid (by unfold daR; rw [datR_some H45.out Hod.out HD.out, if_pos hbig]; rfl)
            have b0 : (65535 : Int) < (done.length : Int) := by omega
            go_wp2
            go_ret
            exact ⟨x, by rw [HE.out]; rfl, HB.out.bel Hbw.out, (fun y hy => by rw [HE.out] at hy; cases hy), bel_tr Hb.out Hbw.out⟩
          · have HE : Hid (daR x s = .inr { x with d := done }) := Lib.hid (by unfold daR; rw [datR_some H45.out Hod.out HD.out, if_neg hbig]; rfl)
            have b0 : ¬ (65535 : Int) < (done.length : Int) := by omega
            have hsl := Sl.own hown
            have hcv := str_run hsl
            have HBw := Lib.hid (HB.out.bel Hbw.out)
            go_wp2_with (first
              | ((with_reducible show wpList _ _ _ (⟨none, .store _ (.tmp 72) _, _, _, _, _⟩ :: _) _ _); refine wpList_storeC (o := ⟨none, _, _, _, _, _⟩) (i := 22) (v := .string ⟨done.toArray⟩) rfl _ _ _ rfl rfl rfl rfl HBw.out (by rw [rdA_size]; decide) scz_str ?_; intro w6 hB6 hS6; rw [rdA_d] at hB6; have HB6 := Lib.hid hB6; have Hb6 := Lib.hid ((bel_tr Hb.out Hbw.out).trans (hS6.below hg)); clear hB6 hS6))
            go_ret
            exact ⟨_, by rw [HE.out]; rfl, HB6.out, (fun y hy => by rw [HE.out] at hy; cases hy; rfl), Hb6.out⟩
end Go.Proofs.YtgebcifkbldfoaaGreatDoor

/- script: the reader's lines. -/
namespace Go.Proofs.YtgebcifkbldfoaaGreatDoor
open Go.RowKit
attribute [local go_sem] ba_get ext_take ext_drop ext_any ba_app

theorem numR_err {f : List UInt8} {e : Int} (h : numR f = .inl e) : e = 4 ∨ e = 5 := by
  unfold numR at h
  split at h
  · split at h
    · cases h
    · cases h; exact .inl rfl
  · cases h; exact .inr rfl
def NuOk (w0 : World) (g i : Nat) (v : Value) (x : Ev) (_f : List UInt8) (r : Int ⊕ Nat) (e : Ending) (w' : World) : Prop := ∃ n : Int, e = .returned (.int .i64 (codeR r)) ∧ Bk w' g 63 ((rdA v x).setIfInBounds i (.int .i64 n)) ∧ (∀ m, r = .inr m → n = (m : Int)) ∧ Below w0.heap.size w0 w'
theorem NuOk.of {w0 : World} {g i : Nat} {v : Value} {x : Ev} {f : List UInt8} {r : Int ⊕ Nat} {e : Ending} {w' : World} (hr : numR f = r) (h : NuPost w0 g i v x f e w') : NuOk w0 g i v x f r e w' := by subst hr; exact h
set_option maxRecDepth 100000 in
set_option maxHeartbeats 2000000 in
theorem scalone_any (kk : Int) (w0 w : World) (g : Nat) (v : Value) (F : List (List UInt8)) (hs : Sl w0 1 v F.length (F.map stv)) (hb : Below w0.heap.size w0 w) (hg : w0.heap.size ≤ g) (hB : Bk w g 63 (rdA v ev0)) (hF : F.length ≤ 100000) (hf : ∀ f ∈ F, f.length ≤ 1000000) :
    Calls Tryz.prog 50 #[.pointer (some ⟨g, 0, none⟩), .int .i64 kk] w (RdPost w0 g v (alonR kk F)) := by
  obtain ⟨A, c, rfl, hc⟩ := hs.any
  have HS := Lib.hid hs
  have HB := Lib.hid hB
  have Hb := Lib.hid hb
  have Hf := Lib.hid hf
  clear hB hb hs hf
  go_enter Tryz.func50, Tryz.ntmps50
  go_wp2_with (first
    | ((with_reducible show wpList _ _ _ (⟨none, .store _ (.tmp 9) _, _, _, _, _⟩ :: _) _ _); refine wpList_storeC (o := ⟨none, _, _, _, _, _⟩) (i := 1) (v := .int .i64 kk) rfl _ _ _ rfl rfl rfl rfl HB.out (by rw [rdA_size]; decide) scz_int ?_; intro w2 hB2 hS2; rw [rdA_k] at hB2; have HB2 := Lib.hid hB2; have Hb2 := Lib.hid (Hb.out.trans (hS2.below hg)); have c0 : w2.cell? ⟨g, 0, none⟩ = some (.slice A F.length c) := hB2.cell 0; clear hB2 hS2; refine holdL ?_))
  refine Lib.hid ?_
  by_cases h1 : F.length = 2
  · obtain ⟨f0, f1, rfl⟩ : ∃ f0 f1, F = [f0, f1] := by
      match F, h1 with
      | [a, b], _ => exact ⟨_, _, rfl⟩
    have HX := Lib.hid (scnum_any w0 w2 g 21 _ { ev0 with k := kk } [f0, f1] HS.out Hb2.out hg HB2.out (by decide) 1 (by simp) hF (Hf.out _ (by simp)))
    have HE : Hid (alonR kk [f0, f1] = bindR (numR f1) fun m => .inr ⟨kk, ad0, 0, m, []⟩) := Lib.hid rfl
    cases hn : numR f1 with
    | inl e0 =>
      have Hn := Lib.hid hn
      clear hn
      go_wp2_with (first
        | (go_at_call 48; refine HX.out.mono ?_; rintro e w3 ⟨n, rfl, hB3, hm, hb3⟩; rw [rdA_p] at hB3; have HB3 := Lib.hid hB3; have Hb3 := Lib.hid hb3; clear hB3 hb3 hm))
      go_ret
      exact ⟨_, by rw [HE.out, show numR f1 = _ from Hn.out]; simp [bindR, codeR], HB3.out, (fun y hy => by rw [HE.out, show numR f1 = _ from Hn.out] at hy; cases hy), Hb3.out⟩
    | inr m0 =>
      have Hn := Lib.hid hn
      clear hn
      go_wp2_with (first
        | (go_at_call 48; refine HX.out.mono ?_; rintro e w3 ⟨n, rfl, hB3, hm, hb3⟩; obtain rfl := hm m0 Hn.out; rw [rdA_p] at hB3; have HB3 := Lib.hid hB3; have Hb3 := Lib.hid hb3; clear hB3 hb3 hm))
      go_ret
      exact ⟨_, by rw [HE.out, show numR f1 = _ from Hn.out]; simp [bindR, codeR], HB3.out, (fun y hy => by rw [HE.out, show numR f1 = _ from Hn.out] at hy; cases hy; rfl), Hb3.out⟩
  · have E1 : Hid (alonR kk F = .inl 5) := Lib.hid (by
      match F, h1 with
      | [], _ => rfl
      | [_], _ => rfl
      | [_, _], h => exact absurd rfl h
      | _ :: _ :: _ :: _, _ => rfl)
    have h1' : ((F.length : Int) != 2) = true := by simp; omega
    go_wp2
    go_ret
    exact ⟨_, by rw [E1.out]; rfl, HB2.out, (fun y hy => by rw [E1.out] at hy; cases hy), Hb2.out⟩
set_option maxRecDepth 100000 in
set_option maxHeartbeats 2000000 in
theorem scopen_any (w0 w : World) (g : Nat) (v : Value) (F : List (List UInt8)) (hs : Sl w0 1 v F.length (F.map stv)) (hb : Below w0.heap.size w0 w) (hg : w0.heap.size ≤ g) (hB : Bk w g 63 (rdA v ev0)) (hF : F.length ≤ 100000) (hf : ∀ f ∈ F, f.length ≤ 1000000) :
    Calls Tryz.prog 33 #[.pointer (some ⟨g, 0, none⟩)] w (RdPost w0 g v (alonR 3 F)) := by
  have HX := Lib.hid (scalone_any 3 w0 w g v F hs hb hg hB hF hf)
  clear hs hb hB hf
  go_enter Tryz.func33, Tryz.ntmps33
  go_wp2_with (first
    | (go_at_call 50; refine HX.out.mono ?_; rintro e w3 ⟨x, rfl, hB3, hm, hb3⟩; have H3 := Lib.hid (And.intro hB3 (And.intro hm hb3)); clear hB3 hm hb3))
  go_ret
  exact ⟨x, rfl, H3.out.1, H3.out.2.1, H3.out.2.2⟩
set_option maxRecDepth 100000 in
set_option maxHeartbeats 2000000 in
theorem scclosed_any (w0 w : World) (g : Nat) (v : Value) (F : List (List UInt8)) (hs : Sl w0 1 v F.length (F.map stv)) (hb : Below w0.heap.size w0 w) (hg : w0.heap.size ≤ g) (hB : Bk w g 63 (rdA v ev0)) (hF : F.length ≤ 100000) (hf : ∀ f ∈ F, f.length ≤ 1000000) :
    Calls Tryz.prog 35 #[.pointer (some ⟨g, 0, none⟩)] w (RdPost w0 g v (alonR 5 F)) := by
  have HX := Lib.hid (scalone_any 5 w0 w g v F hs hb hg hB hF hf)
  clear hs hb hB hf
  go_enter Tryz.func35, Tryz.ntmps35
  go_wp2_with (first
    | (go_at_call 50; refine HX.out.mono ?_; rintro e w3 ⟨x, rfl, hB3, hm, hb3⟩; have H3 := Lib.hid (And.intro hB3 (And.intro hm hb3)); clear hB3 hm hb3))
  go_ret
  exact ⟨x, rfl, H3.out.1, H3.out.2.1, H3.out.2.2⟩
set_option maxRecDepth 100000 in
set_option maxHeartbeats 2000000 in
theorem scbytes_any (w0 w : World) (g : Nat) (v : Value) (F : List (List UInt8)) (hs : Sl w0 1 v F.length (F.map stv)) (hb : Below w0.heap.size w0 w) (hg : w0.heap.size ≤ g) (hB : Bk w g 63 (rdA v ev0)) (hF : F.length ≤ 100000) (hf : ∀ f ∈ F, f.length ≤ 1000000) :
    Calls Tryz.prog 34 #[.pointer (some ⟨g, 0, none⟩)] w (RdPost w0 g v (byteR F)) := by
  obtain ⟨A, c, rfl, hc⟩ := hs.any
  have HS := Lib.hid hs
  have HB := Lib.hid hB
  have Hb := Lib.hid hb
  have Hf := Lib.hid hf
  clear hB hb hs hf
  go_enter Tryz.func34, Tryz.ntmps34
  go_wp2_with (first
    | ((with_reducible show wpList _ _ _ (⟨none, .store _ _ _, _, _, _, _⟩ :: _) _ _); refine wpList_storeC (o := ⟨none, _, _, _, _, _⟩) (i := 1) (v := .int .i64 4) rfl _ _ _ rfl rfl rfl rfl HB.out (by rw [rdA_size]; decide) scz_int ?_; intro w2 hB2 hS2; rw [rdA_k] at hB2; have HB2 := Lib.hid hB2; have Hb2 := Lib.hid (Hb.out.trans (hS2.below hg)); have c0 : w2.cell? ⟨g, 0, none⟩ = some (.slice A F.length c) := hB2.cell 0; clear hB2 hS2; refine holdL ?_))
  refine Lib.hid ?_
  by_cases h1 : F.length = 3
  · obtain ⟨f0, f1, f2, rfl⟩ : ∃ f0 f1 f2, F = [f0, f1, f2] := by
      match F, h1 with
      | [a, b, c], _ => exact ⟨_, _, _, rfl⟩
    have HX3 := Lib.hid (scnum_any w0 w2 g 21 _ { ev0 with k := 4 } [f0, f1, f2] HS.out Hb2.out hg HB2.out (by decide) 1 (by simp) hF (Hf.out _ (by simp)))
    have HE : Hid (byteR [f0, f1, f2] = bindR (numR f1) fun m => bindR (datR f2) fun d => .inr ⟨4, ad0, 0, m, d⟩) := Lib.hid rfl
    cases hn : numR f1 with
    | inl e0 =>
      have Hn3 := Lib.hid hn
      have HE2 : Hid (byteR [f0, f1, f2] = .inl e0) := Lib.hid (by rw [HE.out, hn]; rfl)
      have hne : (e0 != 0) = true := by rcases numR_err hn with rfl | rfl <;> rfl
      have HX4 : Hid (Calls Tryz.prog 48 _ w2 _) := Lib.hid (HX3.out.mono fun e w' h => (show NuOk w0 g 21 _ _ f1 (.inl e0) e w' from NuOk.of hn h))
      clear hn HX3
      go_wp2_with (first
        | (go_at_call 48; refine HX4.out.mono ?_; rintro e w3 ⟨n, rfl, hB3, hm, hb3⟩; have HB3 := Lib.hid hB3; have Hb3 := Lib.hid hb3; clear hB3 hb3 hm; unfold codeR))
      go_ret
      exact ⟨_, by rw [HE2.out]; rfl, by have h := HB3.out; rw [rdA_p] at h; exact h, (fun y hy => by rw [HE2.out] at hy; cases hy), Hb3.out⟩
    | inr m0 =>
      have HX4 : Hid (Calls Tryz.prog 48 _ w2 _) := Lib.hid (HX3.out.mono fun e w' h => (show NuOk w0 g 21 _ _ f1 (.inr m0) e w' from NuOk.of hn h))
      have HE2 : Hid (byteR [f0, f1, f2] = daR ⟨4, ad0, 0, m0, []⟩ f2) := Lib.hid (by rw [HE.out, hn]; rfl)
      clear hn HX3
      go_wp2_with (first
        | (go_at_call 48; refine HX4.out.mono ?_; rintro e w3 ⟨n, rfl, hB3, hm, hb3⟩; obtain rfl := hm m0 rfl; rw [rdA_p] at hB3; have HX5 := Lib.hid (scdata_any w0 w3 g _ ⟨4, ad0, 0, m0, []⟩ rfl [f0, f1, f2] HS.out hb3 hg hB3 2 (by simp) hF (Hf.out _ (by simp))); clear hB3 hb3 hm; unfold codeR)
        | (go_at_call 49; refine HX5.out.mono ?_; rintro e w4 ⟨x, rfl, hB4, hm, hb4⟩; have H4 := Lib.hid (And.intro hB4 (And.intro hm hb4)); clear hB4 hm hb4))
      go_ret
      rw [HE2.out]
      exact ⟨x, rfl, H4.out.1, H4.out.2.1, H4.out.2.2⟩
  · have E1 : Hid (byteR F = .inl 5) := Lib.hid (by
      match F, h1 with
      | [], _ => rfl
      | [_], _ => rfl
      | [_, _], _ => rfl
      | [_, _, _], h => exact absurd rfl h
      | _ :: _ :: _ :: _ :: _, _ => rfl)
    have h1' : ((F.length : Int) != 3) = true := by simp; omega
    go_wp2
    go_ret
    exact ⟨_, by rw [E1.out]; rfl, HB2.out, (fun y hy => by rw [E1.out] at hy; cases hy), Hb2.out⟩
set_option maxRecDepth 100000 in
set_option maxHeartbeats 2000000 in
theorem scpacket_any (w0 w : World) (ht : Tab w0) (hm : MaxI w0) (g : Nat) (v : Value) (F : List (List UInt8)) (hs : Sl w0 1 v F.length (F.map stv)) (hb : Below w0.heap.size w0 w) (hg : w0.heap.size ≤ g) (hB : Bk w g 63 (rdA v ev0)) (hF : F.length ≤ 100000) (hf : ∀ f ∈ F, f.length ≤ 1000000) :
    Calls Tryz.prog 32 #[.pointer (some ⟨g, 0, none⟩)] w (RdPost w0 g v (packR F)) := by
  obtain ⟨A, c, rfl, hc⟩ := hs.any
  have HS := Lib.hid hs
  have HB := Lib.hid hB
  have Hb := Lib.hid hb
  have Hf := Lib.hid hf
  have Ht := Lib.hid ht
  have Hm := Lib.hid hm
  clear hB hb hs hf ht hm
  go_enter Tryz.func32, Tryz.ntmps32
  go_wp2_with (first
    | ((with_reducible show wpList _ _ _ (⟨none, .store _ _ _, _, _, _, _⟩ :: _) _ _); refine wpList_storeC (o := ⟨none, _, _, _, _, _⟩) (i := 1) (v := .int .i64 2) rfl _ _ _ rfl rfl rfl rfl HB.out (by rw [rdA_size]; decide) scz_int ?_; intro w2 hB2 hS2; rw [rdA_k] at hB2; have HB2 := Lib.hid hB2; have Hb2 := Lib.hid (Hb.out.trans (hS2.below hg)); have c0 : w2.cell? ⟨g, 0, none⟩ = some (.slice A F.length c) := hB2.cell 0; clear hB2 hS2; refine holdL ?_))
  refine Lib.hid ?_
  by_cases h1 : F.length = 5
  · obtain ⟨f0, f1, f2, f3, f4, rfl⟩ : ∃ f0 f1 f2 f3 f4, F = [f0, f1, f2, f3, f4] := by
      match F, h1 with
      | [a, b, c, d, e], _ => exact ⟨_, _, _, _, _, rfl⟩
    have HX3 := scfrom_any w0 w2 Ht.out Hm.out g _ { ev0 with k := 2 } [f0, f1, f2, f3, f4] HS.out Hb2.out hg HB2.out 1 (by simp) hF (Hf.out _ (by simp))
    rw [show ([f0, f1, f2, f3, f4] : List (List UInt8))[1] = f1 from rfl] at HX3
    cases ha : adrP f1 with
    | inl ea =>
      have HE2 : Hid (packR [f0, f1, f2, f3, f4] = .inl 5) := Lib.hid (by simp only [packR, ha])
      rw [show frR { ev0 with k := 2 } f1 = .inl 5 by unfold frR; rw [ha]] at HX3
      have HX4 := Lib.hid HX3
      clear ha HX3
      go_wp2_with (first
        | (go_at_call 47; refine HX4.out.mono ?_; rintro e w3 ⟨x, rfl, hB3, hm, hb3⟩; have HB3 := Lib.hid hB3; have Hb3 := Lib.hid hb3; clear hB3 hb3 hm; unfold codeR))
      go_ret
      exact ⟨x, by rw [HE2.out]; rfl, HB3.out, (fun y hy => by rw [HE2.out] at hy; cases hy), Hb3.out⟩
    | inr a =>
      rw [show frR { ev0 with k := 2 } f1 = .inr ⟨2, a, 0, 0, []⟩ by unfold frR; rw [ha]; rfl] at HX3
      have HX4 := Lib.hid HX3
      have HE : Hid (packR [f0, f1, f2, f3, f4] = bindR (numR f2) fun n => bindR (numR f3) fun m => bindR (datR f4) fun d => .inr ⟨2, a, n, m, d⟩) := Lib.hid (by simp only [packR, ha])
      clear ha HX3
      go_wp2_with (first
        | (go_at_call 47; refine HX4.out.mono ?_; rintro e w3 ⟨x, rfl, hB3, hm, hb3⟩; obtain rfl := hm _ rfl; have HB3 := Lib.hid hB3; have Hb3 := Lib.hid hb3; clear hB3 hb3 hm; unfold codeR; refine holdL ?_))
      refine Lib.hid ?_
      have HX5 := scnum_any w0 w3 g 20 _ ⟨2, a, 0, 0, []⟩ [f0, f1, f2, f3, f4] HS.out Hb3.out hg HB3.out (by decide) 2 (by simp) hF (Hf.out _ (by simp))
      rw [show ([f0, f1, f2, f3, f4] : List (List UInt8))[2] = f2 from rfl] at HX5
      cases hn : numR f2 with
      | inl e0 =>
        have HE2 : Hid (packR [f0, f1, f2, f3, f4] = .inl e0) := Lib.hid (by rw [HE.out, hn]; rfl)
        have hne : (e0 != 0) = true := by rcases numR_err hn with rfl | rfl <;> rfl
        have HX6 := Lib.hid (HX5.mono fun e w' h => NuOk.of hn h)
        clear hn HX5
        go_wp2_with (first
          | (go_at_call 48; refine HX6.out.mono ?_; rintro e w4 ⟨n, rfl, hB3, hm, hb3⟩; have HB4 := Lib.hid hB3; have Hb4 := Lib.hid hb3; clear hB3 hb3 hm; unfold codeR))
        go_ret
        exact ⟨_, by rw [HE2.out]; rfl, by have h := HB4.out; rw [rdA_fp] at h; exact h, (fun y hy => by rw [HE2.out] at hy; cases hy), Hb4.out⟩
      | inr n0 =>
        have HX6 := Lib.hid (HX5.mono fun e w' h => NuOk.of hn h)
        have HE1 : Hid (packR [f0, f1, f2, f3, f4] = bindR (numR f3) fun m => bindR (datR f4) fun d => .inr ⟨2, a, n0, m, d⟩) := Lib.hid (by rw [HE.out, hn]; rfl)
        clear hn HX5
        go_wp2_with (first
          | (go_at_call 48; refine HX6.out.mono ?_; rintro e w4 ⟨n, rfl, hB3, hm, hb3⟩; obtain rfl := hm n0 rfl; rw [rdA_fp] at hB3; have HB4 := Lib.hid hB3; have Hb4 := Lib.hid hb3; clear hB3 hb3 hm; unfold codeR; refine holdL ?_))
        refine Lib.hid ?_
        have HX7 := scnum_any w0 w4 g 21 _ ⟨2, a, n0, 0, []⟩ [f0, f1, f2, f3, f4] HS.out Hb4.out hg HB4.out (by decide) 3 (by simp) hF (Hf.out _ (by simp))
        rw [show ([f0, f1, f2, f3, f4] : List (List UInt8))[3] = f3 from rfl] at HX7
        cases hn : numR f3 with
        | inl e0 =>
          have HE2 : Hid (packR [f0, f1, f2, f3, f4] = .inl e0) := Lib.hid (by rw [HE1.out, hn]; rfl)
          have hne : (e0 != 0) = true := by rcases numR_err hn with rfl | rfl <;> rfl
          have HX8 := Lib.hid (HX7.mono fun e w' h => NuOk.of hn h)
          clear hn HX7
          go_wp2_with (first
            | (go_at_call 48; refine HX8.out.mono ?_; rintro e w5 ⟨n, rfl, hB3, hm, hb3⟩; have HB5 := Lib.hid hB3; have Hb5 := Lib.hid hb3; clear hB3 hb3 hm; unfold codeR))
          go_ret
          exact ⟨_, by rw [HE2.out]; rfl, by have h := HB5.out; rw [rdA_p] at h; exact h, (fun y hy => by rw [HE2.out] at hy; cases hy), Hb5.out⟩
        | inr m0 =>
          have HX8 := Lib.hid (HX7.mono fun e w' h => NuOk.of hn h)
          have HE2 : Hid (packR [f0, f1, f2, f3, f4] = daR ⟨2, a, n0, m0, []⟩ f4) := Lib.hid (by rw [HE1.out, hn]; rfl)
          clear hn HX7
          go_wp2_with (first
            | (go_at_call 48; refine HX8.out.mono ?_; rintro e w5 ⟨n, rfl, hB3, hm, hb3⟩; obtain rfl := hm m0 rfl; rw [rdA_p] at hB3; have HX9 := Lib.hid (scdata_any w0 w5 g _ ⟨2, a, n0, m0, []⟩ rfl [f0, f1, f2, f3, f4] HS.out hb3 hg hB3 4 (by simp) hF (Hf.out _ (by simp))); clear hB3 hb3 hm; unfold codeR)
            | (go_at_call 49; refine HX9.out.mono ?_; rintro e w6 ⟨x, rfl, hB4, hm, hb4⟩; have H4 := Lib.hid (And.intro hB4 (And.intro hm hb4)); clear hB4 hm hb4))
          go_ret
          rw [HE2.out]
          exact ⟨x, rfl, H4.out.1, H4.out.2.1, H4.out.2.2⟩
  · have E1 : Hid (packR F = .inl 5) := Lib.hid (by
      match F, h1 with
      | [], _ => rfl
      | [_], _ => rfl
      | [_, _], _ => rfl
      | [_, _, _], _ => rfl
      | [_, _, _, _], _ => rfl
      | [_, _, _, _, _], h => exact absurd rfl h
      | _ :: _ :: _ :: _ :: _ :: _ :: _, _ => rfl)
    have h1' : ((F.length : Int) != 5) = true := by simp; omega
    go_wp2
    go_ret
    exact ⟨_, by rw [E1.out]; rfl, HB2.out, (fun y hy => by rw [E1.out] at hy; cases hy), Hb2.out⟩
end Go.Proofs.YtgebcifkbldfoaaGreatDoor

/- script.Parse. -/
namespace Go.Proofs.YtgebcifkbldfoaaGreatDoor
open Go.RowKit
attribute [local go_sem] ba_get ext_take ext_drop ext_any ba_app

theorem evF_err {F : List (List UInt8)} {e : Int} (h : evF F = .inl e) : (e != 0) = true := by
  have hd : ∀ {s : List UInt8} {e : Int}, datR s = .inl e → (e != 0) = true := by
    intro s e h
    unfold datR at h
    split at h
    · cases h
    · split at h
      · cases h; rfl
      · split at h
        · cases h; rfl
        · split at h
          · cases h; rfl
          · cases h
  have hn : ∀ {s : List UInt8} {e : Int}, numR s = .inl e → (e != 0) = true := fun h => by rcases numR_err h with rfl | rfl <;> rfl
  have hb : ∀ {α β : Type} {x : Int ⊕ α} {f : α → Int ⊕ β} {e : Int}, bindR x f = .inl e → x = .inl e ∨ ∃ a, f a = .inl e := by
    intro α β x f e h
    cases x with
    | inl e' => cases h; exact .inl rfl
    | inr a => exact .inr ⟨a, h⟩
  unfold evF at h
  split at h
  · cases h; rfl
  · split at h
    · unfold tickR at h
      split at h
      · cases h
      · cases h; rfl
    · split at h
      · unfold packR at h
        split at h
        · split at h
          · cases h; rfl
          · rcases hb h with h | ⟨a, h⟩
            · exact hn h
            · rcases hb h with h | ⟨a, h⟩
              · exact hn h
              · rcases hb h with h | ⟨a, h⟩
                · exact hd h
                · cases h
        · cases h; rfl
      · split at h
        · unfold alonR at h
          split at h
          · rcases hb h with h | ⟨a, h⟩
            · exact hn h
            · cases h
          · cases h; rfl
        · split at h
          · unfold byteR at h
            split at h
            · rcases hb h with h | ⟨a, h⟩
              · exact hn h
              · rcases hb h with h | ⟨a, h⟩
                · exact hd h
                · cases h
            · cases h; rfl
          · split at h
            · unfold alonR at h
              split at h
              · rcases hb h with h | ⟨a, h⟩
                · exact hn h
                · cases h
              · cases h; rfl
            · cases h; rfl
def scV (g : Nat) (f : FuncId) : Value := .func (.func f) #[.pointer (some ⟨g, 0, none⟩)] #[]
def scL (g : Nat) : List (List UInt8 × Value) := [(wTick, scV g 31), (wPacket, scV g 32), (wOpen, scV g 33), (wBytes, scV g 34), (wClose, scV g 35)]
theorem zero_scf (w : World) : (zeroValue 64).run Tryz.prog w = .ok .nilFunc w := by
  have h : (Tryz.prog.info? 64).map (·.zero) = some (some .nilFunc) := by kernel_rfl
  cases hq : Tryz.prog.info? 64 with
  | none => rw [hq] at h; cases h
  | some i =>
    rw [hq] at h
    have hz : i.zero = some .nilFunc := by simpa using h
    simp [zeroValue, typeInfo, hq, hz]
theorem scgr_trans {a b c : World} {row : Option Nat} (h : a.grownBy b row) (k : b.grownBy c row) : a.grownBy c row :=
  ⟨k.os.trans h.os, k.tape.trans h.tape, k.output.trans h.output, Nat.le_trans h.size k.size, fun i hi hne => (k.block i (Nat.lt_of_lt_of_le hi h.size) hne).trans (h.block i hi hne)⟩
theorem scmkfn_run (fn : Fn) (first cap : Array Value) (w : World) : (Instr.makeFunc fn first cap).run Tryz.prog w = .ok (.func fn first cap) w := rfl
theorem wpList_lookupS {P : Program} {ops : Array Oper} {rest : List Oper} {o : Oper} {a : Act} {w : World} {Q : Exit → Act → World → Prop} (hg : o.guard = none) (m x : Operand) (t : TypeId) (hop : o.op = .lookup t m x true) {kt e : TypeId} (ht : P.underlying t = some (.map kt e)) (hk : P.underlying kt = some .string) {z : Value} (hz : ∀ w', (zeroValue e).run P w' = .ok z w')
    {r : Nat} (hm : a.eval m = .map (some r)) {s : List UInt8} (hx : a.eval x = stv s) {l : List (List UInt8 × Value)} (hM : MapS w r l) {v : Value} {b : Bool} (hv : (entS s l).getD z = v) (hb : (entS s l).isSome = b)
    (h : wpList P ops Q rest (a.put o.dst (.tuple #[v, .bool b])) w) : wpList P ops Q (o :: rest) a w := by
  refine wpList_plain hg fun _ hK => ?_
  subst hv hb
  have hr := run_lookupS (w := w) ht hk (hz _) hM s
  unfold Oper.wp execOp
  simp only [hop, hm, hx, Sem.run_bind, hr, Result.andThen_ok]
  exact hK _ _ h
theorem ret_evE {fn : Func} {p q : Tmp} (h : fn.results = #[.cell p 33, .tmp q]) {R : Ending → World → Prop} {a : Act} {w : World} {g : Nat} {t : TypeId} {b : Ev} {v : Value}
    (hp : a.tmps.getD p undef = .pointer (some ⟨g, 0, none⟩)) (hq : a.tmps.getD q undef = v) (hB : Bk w g t (evA b)) (hd : a.defers = []) (hR : R (.returned (.tuple #[.agg (evA b), v])) w) : bodyPost Tryz.prog fn R .ret a w := by
  refine bodyPost_ret_by (v := .tuple #[.agg (evA b), v]) ?_ hd hR
  have hp' : a.tmps[p]?.getD undef = .pointer (some ⟨g, 0, none⟩) := by simpa using hp
  have hq' : a.tmps[q]?.getD undef = v := by simpa using hq
  simp [results, h, hp', hq', asAddr, run_loadVar_row (P := Tryz.prog) w g t 33 (evA b) (0, 0) _ hB ev_under rfl (ev_size' b)]
def EvPost (w : World) (r : Int ⊕ Ev) (e : Ending) (w' : World) : Prop := e = .returned (evR r) ∧ Below w.heap.size w w'
attribute [local go_sem] scmkfn_run
set_option maxRecDepth 100000 in
set_option maxHeartbeats 4000000 in
theorem scparse_any (s : List UInt8) (w : World) (ht : Tab w) (hm : MaxI w) (hl : s.length ≤ 100000) : Calls Tryz.prog 14 #[.string ⟨s.toArray⟩] w (EvPost w (evP s)) := by
  have Ht := Lib.hid ht
  have Hm := Lib.hid hm
  clear ht hm
  have HFl := Lib.hid (flds_len s)
  have HFb := Lib.hid (fun f (h : f ∈ flds s) => flds_mem h)
  have HW := Lib.hid (fieldsW_any s)
  have HE : Hid (evP s = evF (flds s)) := Lib.hid rfl
  generalize flds s = F at *
  have hF : F.length ≤ 100000 := by have := HFl.out; omega
  have Hf : Hid (∀ f ∈ F, f.length ≤ 1000000) := Lib.hid (fun f h => by have := HFb.out f h; omega)
  clear HFl HFb
  go_enter Tryz.func14, Tryz.ntmps14
  go_wp2_with (first
    | ((with_reducible show wpList _ _ _ (⟨some 2, _, _, _, _, _⟩ :: _) _ _); refine wpList_allocZ (o := ⟨some 2, _, _, _, _, _⟩) rfl _ rfl ev_zero ?_; intro g2 w1 hg2 hB2 hb2 hs2; have Hg2 := Lib.hid (Nat.le_of_eq hg2.symm); have HB2 := Lib.hid hB2; have Hb1 := Lib.hid hb2; clear hg2 hs2 hB2 hb2)
    | (go_at_call 30; refine (HW.out _ (by omega)).mono ?_; rintro e w2 ⟨v2, rfl, hs2, hb2⟩; obtain ⟨A2, k2, rfl⟩ := own_any hs2; have Hs2 := Lib.hid (Sl.own hs2); have HB3 := Lib.hid (HB2.out.bel hb2); have Hb2 := Lib.hid (bel_tr Hb1.out hb2); clear hs2 hb2)
    | ((with_reducible show wpList _ _ _ (⟨some 11, _, _, _, _, _⟩ :: _) _ _); refine wpList_buildL (o := ⟨some 11, _, _, _, _, _⟩) rfl _ [(0, .tmp 10)] rfl (built_rd _ _ _) rfl ?_)
    | ((with_reducible refine wpList_boxB (o := ⟨some 12, _, _, _, _, _⟩) rfl _ _ rfl rfl ?_); intro g w3 hg hB hb hs; have Hg := Lib.hid hg; have HB := Lib.hid hB; have HB4 := Lib.hid (HB3.out.bel hb); have Hb3 := Lib.hid hb; have c0 : w3.cell? ⟨g, 0, none⟩ = some (.slice A2 F.length k2) := hB.cell 0; clear hg hB hb hs; refine holdL ?_))
  refine Lib.hid ?_
  have hg2w := Hg2.out
  by_cases hF0 : F = []
  · subst hF0
    have HE0 : Hid (evP s = .inl 1) := Lib.hid HE.out
    go_wp2_with (first
      | ((with_reducible show wpList _ _ _ (⟨some 19, _, _, _, _, _⟩ :: _) _ _); refine wpList_buildL (o := ⟨some 19, _, _, _, _, _⟩) rfl _ [] rfl built_ev0 rfl ?_)
      | ((with_reducible show wpList _ _ _ (⟨none, .store _ (.tmp 2) _, _, _, _, _⟩ :: _) _ _); refine wpList_storeB (o := ⟨none, _, _, _, _, _⟩) rfl _ (.tmp 2) _ rfl rfl rfl HB4.out (ev_size' ev0) rfl (evL_one _) ?_; intro w4 hB4 hS4; have HB5 := Lib.hid hB4; have Hb4 := Lib.hid ((bel_tr Hb2.out Hb3.out).trans (hS4.below hg2w)); clear hB4 hS4))
    refine ret_evE rfl rfl rfl HB5.out rfl ?_
    exact ⟨by rw [HE0.out]; rfl, Hb4.out⟩
  · obtain ⟨f, R, hFR⟩ : ∃ f R, F = f :: R := by
      match F, hF0 with
      | [], h => exact absurd rfl h
      | f :: R, _ => exact ⟨f, R, rfl⟩
    have hpos : 0 < F.length := by rw [hFR]; simp
    have hne : ((F.length : Int) == 0) = false := by simp; omega
    have HFR := Lib.hid hFR
    clear hF0 hFR
    go_wp2_with (first
      | ((with_reducible show wpList _ _ _ (⟨some 20, _, _, _, _, _⟩ :: _) _ _); refine wpList_makeS0 (o := ⟨some 20, _, _, _, _, _⟩) rfl _ rfl ?_; obtain ⟨gm, hgm⟩ : ∃ gm, gm = w3.heap.size := ⟨_, rfl⟩; rw [← hgm]; intro w4 hM hb hs; have HM4 := Lib.hid hM; have HGm := Lib.hid hgm; have Hb4 := Lib.hid hb; clear hM hgm hb hs)
      | ((with_reducible show wpList _ _ _ (⟨none, .insert _ _ _ (.tmp 22), _, _, _, _⟩ :: _) _ _); refine wpList_insertS (o := ⟨none, _, _, _, _, _⟩) rfl _ (.tmp 20) _ (.tmp 22) rfl Tryz.underlying65 Tryz.underlying9 rfl (x := wTick) rfl rfl HM4.out rfl ?_; intro w5 hM hg hs; have HM5 := Lib.hid hM; have HG5 := Lib.hid hg; clear hM hg hs)
      | ((with_reducible show wpList _ _ _ (⟨none, .insert _ _ _ (.tmp 24), _, _, _, _⟩ :: _) _ _); refine wpList_insertS (o := ⟨none, _, _, _, _, _⟩) rfl _ (.tmp 20) _ (.tmp 24) rfl Tryz.underlying65 Tryz.underlying9 rfl (x := wPacket) rfl rfl HM5.out rfl ?_; intro w6 hM hg hs; have HM6 := Lib.hid hM; have HG6 := Lib.hid hg; clear hM hg hs)
      | ((with_reducible show wpList _ _ _ (⟨none, .insert _ _ _ (.tmp 26), _, _, _, _⟩ :: _) _ _); refine wpList_insertS (o := ⟨none, _, _, _, _, _⟩) rfl _ (.tmp 20) _ (.tmp 26) rfl Tryz.underlying65 Tryz.underlying9 rfl (x := wOpen) rfl rfl HM6.out rfl ?_; intro w7 hM hg hs; have HM7 := Lib.hid hM; have HG7 := Lib.hid hg; clear hM hg hs)
      | ((with_reducible show wpList _ _ _ (⟨none, .insert _ _ _ (.tmp 28), _, _, _, _⟩ :: _) _ _); refine wpList_insertS (o := ⟨none, _, _, _, _, _⟩) rfl _ (.tmp 20) _ (.tmp 28) rfl Tryz.underlying65 Tryz.underlying9 rfl (x := wBytes) rfl rfl HM7.out rfl ?_; intro w8 hM hg hs; have HM8 := Lib.hid hM; have HG8 := Lib.hid hg; clear hM hg hs)
      | ((with_reducible show wpList _ _ _ (⟨none, .insert _ _ _ (.tmp 30), _, _, _, _⟩ :: _) _ _); refine wpList_insertS (o := ⟨none, _, _, _, _, _⟩) rfl _ (.tmp 20) _ (.tmp 30) rfl Tryz.underlying65 Tryz.underlying9 rfl (x := wClose) rfl rfl HM8.out rfl ?_; intro w9 hM hg hs; have HM9 := Lib.hid hM; have HG9 := Lib.hid hg; clear hM hg hs; refine holdL ?_))
    refine Lib.hid ?_
    have hG : w4.grownBy w9 (some gm) := scgr_trans (scgr_trans (scgr_trans (scgr_trans HG5.out HG6.out) HG7.out) HG8.out) HG9.out
    have hb34 : Below w3.heap.size w3 w4 := by rw [← HGm.out]; exact Hb4.out
    have hgm3 : gm = w3.heap.size := HGm.out
    have hltg := HB.out.lt
    have hlt2 := HB4.out.lt
    have hgw : w2.heap.size ≤ g := Nat.le_of_eq Hg.out.symm
    have hgmw : w2.heap.size ≤ gm := by omega
    have HBg : Hid (Bk w9 g 63 (rdA (.slice A2 F.length k2) ev0)) := Lib.hid ((HB.out.bel hb34).grown hG (fun e => by injection e with e; omega))
    have HM : Hid (MapS w9 gm (scL g)) := HM9
    have Hb29 : Hid (Below w2.heap.size w2 w9) := Lib.hid ((Hb3.out.trans (hb34.mono Hb3.out.size)).grown hG (Nat.le_trans Hb3.out.size hb34.size) (fun k e => by cases e; exact hgmw))
    obtain ⟨b1, off, c1, hv, hc1, hbl, hcell⟩ := Hs2.out.pos hpos
    injection hv with hv1 _ hv2
    subst hv1 hv2
    have hfx : w9.cell? ⟨b1, off, none⟩ = some (.string ⟨f.toArray⟩) := by
      have h := hcell 0 (stv f) (by rw [HFR.out]; rfl)
      rw [Nat.add_zero] at h
      exact (bel_cells Hb29.out hbl off).trans h
    have c0' : w9.cell? ⟨g, 0, none⟩ = some (.slice (some ⟨b1, off, none⟩) F.length k2) := HBg.out.cell 0
    have HRg : Hid (Bk w2 g2 33 (evA ev0)) := HB3
    have hposI : (0 : Int) < (F.length : Int) := by omega
    have hg2l : g2 < w2.heap.size := HRg.out.lt
    clear hG hb34 hgm3 hltg hlt2 hgmw hcell c0 HB HB2 HB4 Hb1 Hb3 Hb4 HM4 HM5 HM6 HM7 HM8 HM9 HG5 HG6 HG7 HG8 HG9 HGm Hg HW
    by_cases hw0 : f = wTick
    · subst hw0
      have h := sctick_any w2 w9 g _ F Hs2.out Hb29.out hgw HBg.out
      rw [show tickR F = evF F by rw [HFR.out]; simp [evF, wTick]] at h
      cases hr : evF F with
      | inl e0 =>
        have hne0 := evF_err hr
        rw [hr] at h
        have HX := Lib.hid h
        have HE0 : Hid (evP s = .inl e0) := Lib.hid (HE.out.trans hr)
        clear h hr
        unfold wTick at hfx
        go_wp2_with (first
          | ((with_reducible show wpList _ _ _ (⟨some 40, _, _, _, _, _⟩ :: _) _ _); refine wpList_lookupS (o := ⟨some 40, _, _, _, _, _⟩) rfl _ _ _ rfl Tryz.underlying65 Tryz.underlying9 zero_scf rfl (s := wTick) rfl HM.out (v := .func (.func 31) #[.pointer (some ⟨g, 0, none⟩)] #[]) (b := true) rfl rfl ?_)
          | (go_at_call 31; refine HX.out.mono ?_; rintro e w10 ⟨x, rfl, hB10, hm10, hb10⟩; have HR10 := Lib.hid (HRg.out.bel hb10); have Hb10 := Lib.hid (bel_tr Hb2.out hb10); clear hB10 hm10 hb10; unfold codeR)
          | ((with_reducible show wpList _ _ _ (⟨some 50, _, _, _, _, _⟩ :: _) _ _); refine wpList_buildL (o := ⟨some 50, _, _, _, _, _⟩) rfl _ [] rfl built_ev0 rfl ?_)
          | ((with_reducible show wpList _ _ _ (⟨none, .store _ (.tmp 2) _, _, _, _, _⟩ :: _) _ _); refine wpList_storeB (o := ⟨none, _, _, _, _, _⟩) rfl _ (.tmp 2) _ rfl rfl rfl HR10.out (ev_size' ev0) (by simp only [evA_size]) (evL_one _) ?_; intro w11 hB11 hS11; have HB11 := Lib.hid hB11; have Hb11 := Lib.hid (Hb10.out.trans (hS11.below hg2w)); clear hB11 hS11))
        refine ret_evE rfl rfl rfl HB11.out rfl ?_
        exact ⟨by rw [HE0.out]; rfl, Hb11.out⟩
      | inr y =>
        rw [hr] at h
        have HX := Lib.hid h
        have HE0 : Hid (evP s = .inr y) := Lib.hid (HE.out.trans hr)
        clear h hr
        unfold wTick at hfx
        go_wp2_with (first
          | ((with_reducible show wpList _ _ _ (⟨some 40, _, _, _, _, _⟩ :: _) _ _); refine wpList_lookupS (o := ⟨some 40, _, _, _, _, _⟩) rfl _ _ _ rfl Tryz.underlying65 Tryz.underlying9 zero_scf rfl (s := wTick) rfl HM.out (v := .func (.func 31) #[.pointer (some ⟨g, 0, none⟩)] #[]) (b := true) rfl rfl ?_)
          | (go_at_call 31; refine HX.out.mono ?_; rintro e w10 ⟨x, rfl, hB10, hm10, hb10⟩; obtain rfl := hm10 _ rfl; have HR10 := Lib.hid (HRg.out.bel hb10); have Hb10 := Lib.hid (bel_tr Hb2.out hb10); have hRx := Bk.rangeL (cs := rdL (.slice (some ⟨b1, off, none⟩) F.length k2) x) hB10 1 (evL x) [] (List.append_nil _).symm; clear hB10 hm10 hb10; unfold codeR)
          | ((with_reducible show wpList _ _ _ (⟨some 55, _, _, _, _, _⟩ :: _) _ _); refine wpList_load_mid (op := ⟨some 55, _, _, _, _, _⟩) rfl _ _ rfl _ _ rfl _ _ hRx ev_under rfl (ev_size' x) ?_)
          | ((with_reducible show wpList _ _ _ (⟨none, .store _ (.tmp 2) _, _, _, _, _⟩ :: _) _ _); refine wpList_storeB (o := ⟨none, _, _, _, _, _⟩) rfl _ (.tmp 2) _ rfl rfl rfl HR10.out (ev_size' x) ((evA_size ev0).trans (evA_size x).symm) (evL_one _) ?_; intro w11 hB11 hS11; have HB11 := Lib.hid hB11; have Hb11 := Lib.hid (Hb10.out.trans (hS11.below hg2w)); clear hB11 hS11))
        refine ret_evE rfl rfl rfl HB11.out rfl ?_
        exact ⟨by rw [HE0.out]; rfl, Hb11.out⟩
    by_cases hw1 : f = wPacket
    · subst hw1
      have h := scpacket_any w2 w9 (Ht.out.below Hb2.out) (Hm.out.below Hb2.out) g _ F Hs2.out Hb29.out hgw HBg.out hF Hf.out
      rw [show packR F = evF F by rw [HFR.out]; simp [evF, wTick, wPacket]] at h
      cases hr : evF F with
      | inl e0 =>
        have hne0 := evF_err hr
        rw [hr] at h
        have HX := Lib.hid h
        have HE0 : Hid (evP s = .inl e0) := Lib.hid (HE.out.trans hr)
        clear h hr
        unfold wPacket at hfx
        go_wp2_with (first
          | ((with_reducible show wpList _ _ _ (⟨some 40, _, _, _, _, _⟩ :: _) _ _); refine wpList_lookupS (o := ⟨some 40, _, _, _, _, _⟩) rfl _ _ _ rfl Tryz.underlying65 Tryz.underlying9 zero_scf rfl (s := wPacket) rfl HM.out (v := .func (.func 32) #[.pointer (some ⟨g, 0, none⟩)] #[]) (b := true) rfl rfl ?_)
          | (go_at_call 32; refine HX.out.mono ?_; rintro e w10 ⟨x, rfl, hB10, hm10, hb10⟩; have HR10 := Lib.hid (HRg.out.bel hb10); have Hb10 := Lib.hid (bel_tr Hb2.out hb10); clear hB10 hm10 hb10; unfold codeR)
          | ((with_reducible show wpList _ _ _ (⟨some 50, _, _, _, _, _⟩ :: _) _ _); refine wpList_buildL (o := ⟨some 50, _, _, _, _, _⟩) rfl _ [] rfl built_ev0 rfl ?_)
          | ((with_reducible show wpList _ _ _ (⟨none, .store _ (.tmp 2) _, _, _, _, _⟩ :: _) _ _); refine wpList_storeB (o := ⟨none, _, _, _, _, _⟩) rfl _ (.tmp 2) _ rfl rfl rfl HR10.out (ev_size' ev0) (by simp only [evA_size]) (evL_one _) ?_; intro w11 hB11 hS11; have HB11 := Lib.hid hB11; have Hb11 := Lib.hid (Hb10.out.trans (hS11.below hg2w)); clear hB11 hS11))
        refine ret_evE rfl rfl rfl HB11.out rfl ?_
        exact ⟨by rw [HE0.out]; rfl, Hb11.out⟩
      | inr y =>
        rw [hr] at h
        have HX := Lib.hid h
        have HE0 : Hid (evP s = .inr y) := Lib.hid (HE.out.trans hr)
        clear h hr
        unfold wPacket at hfx
        go_wp2_with (first
          | ((with_reducible show wpList _ _ _ (⟨some 40, _, _, _, _, _⟩ :: _) _ _); refine wpList_lookupS (o := ⟨some 40, _, _, _, _, _⟩) rfl _ _ _ rfl Tryz.underlying65 Tryz.underlying9 zero_scf rfl (s := wPacket) rfl HM.out (v := .func (.func 32) #[.pointer (some ⟨g, 0, none⟩)] #[]) (b := true) rfl rfl ?_)
          | (go_at_call 32; refine HX.out.mono ?_; rintro e w10 ⟨x, rfl, hB10, hm10, hb10⟩; obtain rfl := hm10 _ rfl; have HR10 := Lib.hid (HRg.out.bel hb10); have Hb10 := Lib.hid (bel_tr Hb2.out hb10); have hRx := Bk.rangeL (cs := rdL (.slice (some ⟨b1, off, none⟩) F.length k2) x) hB10 1 (evL x) [] (List.append_nil _).symm; clear hB10 hm10 hb10; unfold codeR)
          | ((with_reducible show wpList _ _ _ (⟨some 55, _, _, _, _, _⟩ :: _) _ _); refine wpList_load_mid (op := ⟨some 55, _, _, _, _, _⟩) rfl _ _ rfl _ _ rfl _ _ hRx ev_under rfl (ev_size' x) ?_)
          | ((with_reducible show wpList _ _ _ (⟨none, .store _ (.tmp 2) _, _, _, _, _⟩ :: _) _ _); refine wpList_storeB (o := ⟨none, _, _, _, _, _⟩) rfl _ (.tmp 2) _ rfl rfl rfl HR10.out (ev_size' x) ((evA_size ev0).trans (evA_size x).symm) (evL_one _) ?_; intro w11 hB11 hS11; have HB11 := Lib.hid hB11; have Hb11 := Lib.hid (Hb10.out.trans (hS11.below hg2w)); clear hB11 hS11))
        refine ret_evE rfl rfl rfl HB11.out rfl ?_
        exact ⟨by rw [HE0.out]; rfl, Hb11.out⟩
    by_cases hw2 : f = wOpen
    · subst hw2
      have h := scopen_any w2 w9 g _ F Hs2.out Hb29.out hgw HBg.out hF Hf.out
      rw [show alonR 3 F = evF F by rw [HFR.out]; simp [evF, wTick, wPacket, wOpen]] at h
      cases hr : evF F with
      | inl e0 =>
        have hne0 := evF_err hr
        rw [hr] at h
        have HX := Lib.hid h
        have HE0 : Hid (evP s = .inl e0) := Lib.hid (HE.out.trans hr)
        clear h hr
        unfold wOpen at hfx
        go_wp2_with (first
          | ((with_reducible show wpList _ _ _ (⟨some 40, _, _, _, _, _⟩ :: _) _ _); refine wpList_lookupS (o := ⟨some 40, _, _, _, _, _⟩) rfl _ _ _ rfl Tryz.underlying65 Tryz.underlying9 zero_scf rfl (s := wOpen) rfl HM.out (v := .func (.func 33) #[.pointer (some ⟨g, 0, none⟩)] #[]) (b := true) rfl rfl ?_)
          | (go_at_call 33; refine HX.out.mono ?_; rintro e w10 ⟨x, rfl, hB10, hm10, hb10⟩; have HR10 := Lib.hid (HRg.out.bel hb10); have Hb10 := Lib.hid (bel_tr Hb2.out hb10); clear hB10 hm10 hb10; unfold codeR)
          | ((with_reducible show wpList _ _ _ (⟨some 50, _, _, _, _, _⟩ :: _) _ _); refine wpList_buildL (o := ⟨some 50, _, _, _, _, _⟩) rfl _ [] rfl built_ev0 rfl ?_)
          | ((with_reducible show wpList _ _ _ (⟨none, .store _ (.tmp 2) _, _, _, _, _⟩ :: _) _ _); refine wpList_storeB (o := ⟨none, _, _, _, _, _⟩) rfl _ (.tmp 2) _ rfl rfl rfl HR10.out (ev_size' ev0) (by simp only [evA_size]) (evL_one _) ?_; intro w11 hB11 hS11; have HB11 := Lib.hid hB11; have Hb11 := Lib.hid (Hb10.out.trans (hS11.below hg2w)); clear hB11 hS11))
        refine ret_evE rfl rfl rfl HB11.out rfl ?_
        exact ⟨by rw [HE0.out]; rfl, Hb11.out⟩
      | inr y =>
        rw [hr] at h
        have HX := Lib.hid h
        have HE0 : Hid (evP s = .inr y) := Lib.hid (HE.out.trans hr)
        clear h hr
        unfold wOpen at hfx
        go_wp2_with (first
          | ((with_reducible show wpList _ _ _ (⟨some 40, _, _, _, _, _⟩ :: _) _ _); refine wpList_lookupS (o := ⟨some 40, _, _, _, _, _⟩) rfl _ _ _ rfl Tryz.underlying65 Tryz.underlying9 zero_scf rfl (s := wOpen) rfl HM.out (v := .func (.func 33) #[.pointer (some ⟨g, 0, none⟩)] #[]) (b := true) rfl rfl ?_)
          | (go_at_call 33; refine HX.out.mono ?_; rintro e w10 ⟨x, rfl, hB10, hm10, hb10⟩; obtain rfl := hm10 _ rfl; have HR10 := Lib.hid (HRg.out.bel hb10); have Hb10 := Lib.hid (bel_tr Hb2.out hb10); have hRx := Bk.rangeL (cs := rdL (.slice (some ⟨b1, off, none⟩) F.length k2) x) hB10 1 (evL x) [] (List.append_nil _).symm; clear hB10 hm10 hb10; unfold codeR)
          | ((with_reducible show wpList _ _ _ (⟨some 55, _, _, _, _, _⟩ :: _) _ _); refine wpList_load_mid (op := ⟨some 55, _, _, _, _, _⟩) rfl _ _ rfl _ _ rfl _ _ hRx ev_under rfl (ev_size' x) ?_)
          | ((with_reducible show wpList _ _ _ (⟨none, .store _ (.tmp 2) _, _, _, _, _⟩ :: _) _ _); refine wpList_storeB (o := ⟨none, _, _, _, _, _⟩) rfl _ (.tmp 2) _ rfl rfl rfl HR10.out (ev_size' x) ((evA_size ev0).trans (evA_size x).symm) (evL_one _) ?_; intro w11 hB11 hS11; have HB11 := Lib.hid hB11; have Hb11 := Lib.hid (Hb10.out.trans (hS11.below hg2w)); clear hB11 hS11))
        refine ret_evE rfl rfl rfl HB11.out rfl ?_
        exact ⟨by rw [HE0.out]; rfl, Hb11.out⟩
    by_cases hw3 : f = wBytes
    · subst hw3
      have h := scbytes_any w2 w9 g _ F Hs2.out Hb29.out hgw HBg.out hF Hf.out
      rw [show byteR F = evF F by rw [HFR.out]; simp [evF, wTick, wPacket, wOpen, wBytes]] at h
      cases hr : evF F with
      | inl e0 =>
        have hne0 := evF_err hr
        rw [hr] at h
        have HX := Lib.hid h
        have HE0 : Hid (evP s = .inl e0) := Lib.hid (HE.out.trans hr)
        clear h hr
        unfold wBytes at hfx
        go_wp2_with (first
          | ((with_reducible show wpList _ _ _ (⟨some 40, _, _, _, _, _⟩ :: _) _ _); refine wpList_lookupS (o := ⟨some 40, _, _, _, _, _⟩) rfl _ _ _ rfl Tryz.underlying65 Tryz.underlying9 zero_scf rfl (s := wBytes) rfl HM.out (v := .func (.func 34) #[.pointer (some ⟨g, 0, none⟩)] #[]) (b := true) rfl rfl ?_)
          | (go_at_call 34; refine HX.out.mono ?_; rintro e w10 ⟨x, rfl, hB10, hm10, hb10⟩; have HR10 := Lib.hid (HRg.out.bel hb10); have Hb10 := Lib.hid (bel_tr Hb2.out hb10); clear hB10 hm10 hb10; unfold codeR)
          | ((with_reducible show wpList _ _ _ (⟨some 50, _, _, _, _, _⟩ :: _) _ _); refine wpList_buildL (o := ⟨some 50, _, _, _, _, _⟩) rfl _ [] rfl built_ev0 rfl ?_)
          | ((with_reducible show wpList _ _ _ (⟨none, .store _ (.tmp 2) _, _, _, _, _⟩ :: _) _ _); refine wpList_storeB (o := ⟨none, _, _, _, _, _⟩) rfl _ (.tmp 2) _ rfl rfl rfl HR10.out (ev_size' ev0) (by simp only [evA_size]) (evL_one _) ?_; intro w11 hB11 hS11; have HB11 := Lib.hid hB11; have Hb11 := Lib.hid (Hb10.out.trans (hS11.below hg2w)); clear hB11 hS11))
        refine ret_evE rfl rfl rfl HB11.out rfl ?_
        exact ⟨by rw [HE0.out]; rfl, Hb11.out⟩
      | inr y =>
        rw [hr] at h
        have HX := Lib.hid h
        have HE0 : Hid (evP s = .inr y) := Lib.hid (HE.out.trans hr)
        clear h hr
        unfold wBytes at hfx
        go_wp2_with (first
          | ((with_reducible show wpList _ _ _ (⟨some 40, _, _, _, _, _⟩ :: _) _ _); refine wpList_lookupS (o := ⟨some 40, _, _, _, _, _⟩) rfl _ _ _ rfl Tryz.underlying65 Tryz.underlying9 zero_scf rfl (s := wBytes) rfl HM.out (v := .func (.func 34) #[.pointer (some ⟨g, 0, none⟩)] #[]) (b := true) rfl rfl ?_)
          | (go_at_call 34; refine HX.out.mono ?_; rintro e w10 ⟨x, rfl, hB10, hm10, hb10⟩; obtain rfl := hm10 _ rfl; have HR10 := Lib.hid (HRg.out.bel hb10); have Hb10 := Lib.hid (bel_tr Hb2.out hb10); have hRx := Bk.rangeL (cs := rdL (.slice (some ⟨b1, off, none⟩) F.length k2) x) hB10 1 (evL x) [] (List.append_nil _).symm; clear hB10 hm10 hb10; unfold codeR)
          | ((with_reducible show wpList _ _ _ (⟨some 55, _, _, _, _, _⟩ :: _) _ _); refine wpList_load_mid (op := ⟨some 55, _, _, _, _, _⟩) rfl _ _ rfl _ _ rfl _ _ hRx ev_under rfl (ev_size' x) ?_)
          | ((with_reducible show wpList _ _ _ (⟨none, .store _ (.tmp 2) _, _, _, _, _⟩ :: _) _ _); refine wpList_storeB (o := ⟨none, _, _, _, _, _⟩) rfl _ (.tmp 2) _ rfl rfl rfl HR10.out (ev_size' x) ((evA_size ev0).trans (evA_size x).symm) (evL_one _) ?_; intro w11 hB11 hS11; have HB11 := Lib.hid hB11; have Hb11 := Lib.hid (Hb10.out.trans (hS11.below hg2w)); clear hB11 hS11))
        refine ret_evE rfl rfl rfl HB11.out rfl ?_
        exact ⟨by rw [HE0.out]; rfl, Hb11.out⟩
    by_cases hw4 : f = wClose
    · subst hw4
      have h := scclosed_any w2 w9 g _ F Hs2.out Hb29.out hgw HBg.out hF Hf.out
      rw [show alonR 5 F = evF F by rw [HFR.out]; simp [evF, wTick, wPacket, wOpen, wBytes, wClose]] at h
      cases hr : evF F with
      | inl e0 =>
        have hne0 := evF_err hr
        rw [hr] at h
        have HX := Lib.hid h
        have HE0 : Hid (evP s = .inl e0) := Lib.hid (HE.out.trans hr)
        clear h hr
        unfold wClose at hfx
        go_wp2_with (first
          | ((with_reducible show wpList _ _ _ (⟨some 40, _, _, _, _, _⟩ :: _) _ _); refine wpList_lookupS (o := ⟨some 40, _, _, _, _, _⟩) rfl _ _ _ rfl Tryz.underlying65 Tryz.underlying9 zero_scf rfl (s := wClose) rfl HM.out (v := .func (.func 35) #[.pointer (some ⟨g, 0, none⟩)] #[]) (b := true) rfl rfl ?_)
          | (go_at_call 35; refine HX.out.mono ?_; rintro e w10 ⟨x, rfl, hB10, hm10, hb10⟩; have HR10 := Lib.hid (HRg.out.bel hb10); have Hb10 := Lib.hid (bel_tr Hb2.out hb10); clear hB10 hm10 hb10; unfold codeR)
          | ((with_reducible show wpList _ _ _ (⟨some 50, _, _, _, _, _⟩ :: _) _ _); refine wpList_buildL (o := ⟨some 50, _, _, _, _, _⟩) rfl _ [] rfl built_ev0 rfl ?_)
          | ((with_reducible show wpList _ _ _ (⟨none, .store _ (.tmp 2) _, _, _, _, _⟩ :: _) _ _); refine wpList_storeB (o := ⟨none, _, _, _, _, _⟩) rfl _ (.tmp 2) _ rfl rfl rfl HR10.out (ev_size' ev0) (by simp only [evA_size]) (evL_one _) ?_; intro w11 hB11 hS11; have HB11 := Lib.hid hB11; have Hb11 := Lib.hid (Hb10.out.trans (hS11.below hg2w)); clear hB11 hS11))
        refine ret_evE rfl rfl rfl HB11.out rfl ?_
        exact ⟨by rw [HE0.out]; rfl, Hb11.out⟩
      | inr y =>
        rw [hr] at h
        have HX := Lib.hid h
        have HE0 : Hid (evP s = .inr y) := Lib.hid (HE.out.trans hr)
        clear h hr
        unfold wClose at hfx
        go_wp2_with (first
          | ((with_reducible show wpList _ _ _ (⟨some 40, _, _, _, _, _⟩ :: _) _ _); refine wpList_lookupS (o := ⟨some 40, _, _, _, _, _⟩) rfl _ _ _ rfl Tryz.underlying65 Tryz.underlying9 zero_scf rfl (s := wClose) rfl HM.out (v := .func (.func 35) #[.pointer (some ⟨g, 0, none⟩)] #[]) (b := true) rfl rfl ?_)
          | (go_at_call 35; refine HX.out.mono ?_; rintro e w10 ⟨x, rfl, hB10, hm10, hb10⟩; obtain rfl := hm10 _ rfl; have HR10 := Lib.hid (HRg.out.bel hb10); have Hb10 := Lib.hid (bel_tr Hb2.out hb10); have hRx := Bk.rangeL (cs := rdL (.slice (some ⟨b1, off, none⟩) F.length k2) x) hB10 1 (evL x) [] (List.append_nil _).symm; clear hB10 hm10 hb10; unfold codeR)
          | ((with_reducible show wpList _ _ _ (⟨some 55, _, _, _, _, _⟩ :: _) _ _); refine wpList_load_mid (op := ⟨some 55, _, _, _, _, _⟩) rfl _ _ rfl _ _ rfl _ _ hRx ev_under rfl (ev_size' x) ?_)
          | ((with_reducible show wpList _ _ _ (⟨none, .store _ (.tmp 2) _, _, _, _, _⟩ :: _) _ _); refine wpList_storeB (o := ⟨none, _, _, _, _, _⟩) rfl _ (.tmp 2) _ rfl rfl rfl HR10.out (ev_size' x) ((evA_size ev0).trans (evA_size x).symm) (evL_one _) ?_; intro w11 hB11 hS11; have HB11 := Lib.hid hB11; have Hb11 := Lib.hid (Hb10.out.trans (hS11.below hg2w)); clear hB11 hS11))
        refine ret_evE rfl rfl rfl HB11.out rfl ?_
        exact ⟨by rw [HE0.out]; rfl, Hb11.out⟩
    have HE0 : Hid (evP s = .inl 10) := Lib.hid (by rw [HE.out, HFR.out]; simp only [evF]; rw [if_neg hw0, if_neg hw1, if_neg hw2, if_neg hw3, if_neg hw4])
    have HR10 := Lib.hid (HRg.out.bel Hb29.out)
    have Hb10 := Lib.hid (bel_tr Hb2.out Hb29.out)
    have hv0 : (entS f (scL g)).getD .nilFunc = .nilFunc := by unfold scL; simp only [entS]; rw [if_neg hw0, if_neg hw1, if_neg hw2, if_neg hw3, if_neg hw4]; rfl
    have hb0 : (entS f (scL g)).isSome = false := by unfold scL; simp only [entS]; rw [if_neg hw0, if_neg hw1, if_neg hw2, if_neg hw3, if_neg hw4]; rfl
    clear hw0 hw1 hw2 hw3 hw4
    go_wp2_with (first
      | ((with_reducible show wpList _ _ _ (⟨some 40, _, _, _, _, _⟩ :: _) _ _); refine wpList_lookupS (o := ⟨some 40, _, _, _, _, _⟩) rfl _ _ _ rfl Tryz.underlying65 Tryz.underlying9 zero_scf rfl (s := f) rfl HM.out hv0 hb0 ?_)
      | ((with_reducible show wpList _ _ _ (⟨some 45, _, _, _, _, _⟩ :: _) _ _); refine wpList_buildL (o := ⟨some 45, _, _, _, _, _⟩) rfl _ [] rfl built_ev0 rfl ?_)
      | ((with_reducible show wpList _ _ _ (⟨none, .store _ (.tmp 2) _, _, _, _, _⟩ :: _) _ _); refine wpList_storeB (o := ⟨none, _, _, _, _, _⟩) rfl _ (.tmp 2) _ rfl rfl rfl HR10.out (ev_size' ev0) rfl (evL_one _) ?_; intro w11 hB11 hS11; have HB11 := Lib.hid hB11; have Hb11 := Lib.hid (Hb10.out.trans (hS11.below hg2w)); clear hB11 hS11))
    refine ret_evE rfl rfl rfl HB11.out rfl ?_
    exact ⟨by rw [HE0.out]; rfl, Hb11.out⟩
end Go.Proofs.YtgebcifkbldfoaaGreatDoor

/- script: the reference's data. -/
namespace Go.Proofs.YtgebcifkbldfoaaGreatDoor
open Go.RowKit
attribute [local go_sem] ba_get ext_take ext_drop ext_any ba_app

def datV (r : Int ⊕ List UInt8) : Value := match r with
  | .inl e => .tuple #[stv [], .int .i64 e]
  | .inr d => .tuple #[stv d, .int .i64 0]
end Go.Proofs.YtgebcifkbldfoaaGreatDoor

/- script: the reference's Parse. PRINTED by wip/tools/mk_scg.py. -/
namespace Go.Proofs.YtgebcifkbldfoaaGreatDoor
open Go.RowKit
attribute [local go_sem] ba_get ext_take ext_drop ext_any ba_app

/-- how things stand in the reference's Parse: the result's block g2, the event's block g5, the fields. -/
structure ScW (w2 : World) (g2 g5 b1 off k2 : Nat) (F : List (List UInt8)) (x : Ev) (wk : World) : Prop where
  bel : Below w2.heap.size w2 wk
  res : Bk wk g2 33 (evA ev0)
  ev : Bk wk g5 33 (evA x)
  hg2 : g2 < w2.heap.size
  hg5 : w2.heap.size ≤ g5
  sl : Sl w2 1 (.slice (some ⟨b1, off, none⟩) F.length k2) F.length (F.map stv)
section
variable {w2 wk w' : World} {g2 g5 b1 off k2 : Nat} {F : List (List UInt8)} {x y : Ev}
theorem ScW.call (h : ScW w2 g2 g5 b1 off k2 F x wk) (hb : Below wk.heap.size wk w') : ScW w2 g2 g5 b1 off k2 F x w' :=
  ⟨bel_tr h.bel hb, h.res.bel hb, h.ev.bel hb, h.hg2, h.hg5, h.sl⟩
theorem ScW.put (h : ScW w2 g2 g5 b1 off k2 F x wk) (hB : Bk w' g5 33 (evA y)) (hS : Stays g5 wk w') : ScW w2 g2 g5 b1 off k2 F y w' :=
  ⟨h.bel.trans (hS.below h.hg5), h.res.stays hS (by have := h.hg2; have := h.hg5; omega), hB, h.hg2, h.hg5, h.sl⟩
theorem ScW.far (h : ScW w2 g2 g5 b1 off k2 F x wk) {g : Nat} (hS : Stays g wk w') (hne : g5 ≠ g) (hg : w2.heap.size ≤ g) : ScW w2 g2 g5 b1 off k2 F x w' :=
  ⟨h.bel.trans (hS.below hg), h.res.stays hS (by have := h.hg2; omega), h.ev.stays hS hne, h.hg2, h.hg5, h.sl⟩
theorem ScW.at_ (h : ScW w2 g2 g5 b1 off k2 F x wk) (i : Nat) {f : List UInt8} (hf : F[i]? = some f) : wk.cell? ⟨b1, off + i, none⟩ = some (.string ⟨f.toArray⟩) := by
  have hi : i < F.length := (List.getElem?_eq_some_iff.1 hf).1
  obtain ⟨_, A, c, hv, _, _, hcell⟩ := h.sl
  injection hv with hv1 _ hv2
  subst hv1 hv2
  obtain ⟨h1, _, h3⟩ := hcell _ rfl (by omega)
  have := h3 i (stv f) (by rw [List.getElem?_map, hf]; rfl)
  exact (bel_cells h.bel h1 _).trans this
end
end Go.Proofs.YtgebcifkbldfoaaGreatDoor

/- script: the events that lines tell; the reference's Read. -/
namespace Go.Proofs.YtgebcifkbldfoaaGreatDoor
open Go.RowKit
attribute [local go_sem] ba_get ext_take ext_drop ext_any ba_app

theorem elt_ev : Elt Tryz.prog 22 33 22 72 := Elt.mk' (z := .agg (evA ev0)) Tryz.underlying22 (by kernel_rfl) (by kernel_rfl) (by decide)
theorem evL_ones (e : Ev) : ∀ u ∈ evL e, u.oneCell' = true := by
  have h := evL_one e
  rw [List.all_toArray] at h
  exact List.all_eq_true.1 h
/-- the events that lines tell. -/
def readL : List (List UInt8) → Int ⊕ List Ev
  | [] => .inr []
  | t :: r => if flds (Lib.trimSuffix t [13]) = [] then readL r else bindR (evP (Lib.trimSuffix t [13])) fun x => bindR (readL r) fun l => .inr (x :: l)
/-- so far: n of the lines have told l. -/
structure RdI (L : List (List UInt8)) (n : Nat) (l : List Ev) : Prop where
  eq : readL L = bindR (readL (L.drop n)) fun r => .inr (l ++ r)
  len : l.length ≤ n
section
variable {L : List (List UInt8)} {n : Nat} {l : List Ev} {t u : List UInt8}
theorem RdI.start (L : List (List UInt8)) : RdI L 0 [] := ⟨by rw [List.drop_zero]; cases readL L <;> rfl, Nat.le_refl _⟩
theorem rd_drop (ht : L[n]? = some t) : L.drop n = t :: L.drop (n + 1) := by
  obtain ⟨h1, h2⟩ := List.getElem?_eq_some_iff.1 ht
  rw [List.drop_eq_getElem_cons h1, h2]
theorem RdI.skip (h : RdI L n l) (ht : L[n]? = some t) (hu : Lib.trimSuffix t [13] = u) (hf : flds u = []) : RdI L (n + 1) l :=
  ⟨by rw [h.eq, rd_drop ht, readL, hu, if_pos hf], Nat.le_succ_of_le h.len⟩
theorem RdI.bad (h : RdI L n l) (ht : L[n]? = some t) (hu : Lib.trimSuffix t [13] = u) (hf : flds u ≠ []) {e : Int} (he : evP u = .inl e) : readL L = .inl e := by
  rw [h.eq, rd_drop ht, readL, hu, if_neg hf, he]; rfl
theorem RdI.next (h : RdI L n l) (ht : L[n]? = some t) (hu : Lib.trimSuffix t [13] = u) (hf : flds u ≠ []) {x : Ev} (he : evP u = .inr x) : RdI L (n + 1) (l ++ [x]) :=
  ⟨by
    rw [h.eq, rd_drop ht, readL, hu, if_neg hf, he]
    show bindR (bindR (readL (L.drop (n + 1))) fun r => .inr (x :: r)) _ = _
    cases readL (L.drop (n + 1)) with
    | inl e => rfl
    | inr r => simp [bindR], by rw [List.length_append]; have := h.len; simp; omega⟩
theorem RdI.done_ (h : RdI L n l) (hn : L.length ≤ n) : readL L = .inr l := by
  rw [h.eq, List.drop_eq_nil_of_le hn]; simp [readL, bindR]
end
theorem evP_err {u : List UInt8} {e : Int} (h : evP u = .inl e) : (e != 0) = true := evF_err h
def RdsPost (w : World) (r : Int ⊕ List Ev) (e : Ending) (w' : World) : Prop := match r with
  | .inl c => e = .returned (.tuple #[.slice none 0 0, .int .i64 c]) ∧ Below w.heap.size w w'
  | .inr l => ∃ v, e = .returned (.tuple #[v, .int .i64 0]) ∧ w'.ownsRow w.heap.size 33 22 v l.length (l.flatMap evL) ∧ Below w.heap.size w w'
theorem RdsPost.bad {w w' : World} {r : Int ⊕ List Ev} {c : Int} {e : Ending} (h : r = .inl c) (he : e = .returned (.tuple #[.slice none 0 0, .int .i64 c])) (hb : Below w.heap.size w w') : RdsPost w r e w' := by subst h; exact ⟨he, hb⟩
theorem RdsPost.good {w w' : World} {r : Int ⊕ List Ev} {l : List Ev} {v : Value} {e : Ending} (h : r = .inr l) (he : e = .returned (.tuple #[v, .int .i64 0])) (ho : w'.ownsRow w.heap.size 33 22 v l.length (l.flatMap evL)) (hb : Below w.heap.size w w') : RdsPost w r e w' := by subst h; exact ⟨v, he, ho, hb⟩
/-- how it stands in the reference's Read. -/
structure RrRel (w : World) (s : List UInt8) (i fr : Nat) (v : Value) (D : List (List UInt8)) (l : List Ev) (wr : World) : Prop where
  own : wr.ownsRow w.heap.size 33 22 v l.length (l.flatMap evL)
  is : RdI (linL s) D.length l
  few : D.length ≤ i
  b : Below w.heap.size w wr
  le : i ≤ s.length + 1
  hfr : fr ≤ i
  at_ : (i ≤ s.length → linL s = D ++ spB 10 ((s.take i).drop fr) (s.drop i))
  fin : (i = s.length + 1 → linL s = D)
theorem RrRel.start (w : World) (s : List UInt8) : RrRel w s 0 0 (.slice none 0 0) [] [] w :=
  ⟨by simpa using World.ownsRow_nil w w.heap.size 33 22, RdI.start _, Nat.le_refl _, Below.refl _ _, Nat.zero_le _, Nat.le_refl _, fun _ => rfl, fun h => by omega⟩
end Go.Proofs.YtgebcifkbldfoaaGreatDoor

/- script: Read. -/
namespace Go.Proofs.YtgebcifkbldfoaaGreatDoor
open Go.RowKit
attribute [local go_sem] ba_get ext_take ext_drop ext_any ba_app

theorem load_box {P : Program} {ty : TypeId} {w : World} {g : Nat} {v : Value} (hc : w.cell? ⟨g, 0, none⟩ = some v) {d : TypeDesc} (hu : P.underlying ty = some d) (hd : d.isRow = false) : (loadVar ty ⟨g, 0, none⟩).run P w = .ok v w := by
  have ha : (isAgg ty).run P w = .ok false w := by
    cases d <;> first | (cases hd; done) | simp [isAgg, run_underlying hu]
  simp only [loadVar, Sem.run_bind, ha, Result.andThen_ok, Bool.false_eq_true, if_false]
  simp [load, Sem.run, hc]
theorem results_box2 {P : Program} {fn : Func} {p q : Tmp} {ty tz : TypeId} (h : fn.results = #[.cell p ty, .cell q tz]) (tmps : Array Value) {w : World} {g k : Nat} {v u : Value} (hp : tmps.getD p undef = .pointer (some ⟨g, 0, none⟩)) (hq : tmps.getD q undef = .pointer (some ⟨k, 0, none⟩))
    (hc : w.cell? ⟨g, 0, none⟩ = some v) (hk : w.cell? ⟨k, 0, none⟩ = some u) {d e : TypeDesc} (hu : P.underlying ty = some d) (hd : d.isRow = false) (hv : P.underlying tz = some e) (he : e.isRow = false) : (results fn tmps).run P w = .ok (.tuple #[v, u]) w := by
  have hr := load_box hc hu hd
  have hs := load_box hk hv he
  have hp' : tmps[p]?.getD undef = .pointer (some ⟨g, 0, none⟩) := by simpa using hp
  have hq' : tmps[q]?.getD undef = .pointer (some ⟨k, 0, none⟩) := by simpa using hq
  simp [results, h, hp', hq', asAddr, hr, hs]
/-- how it stands behind i of the lines. -/
structure ScI (w : World) (g : Nat) (s : List UInt8) (i : Nat) (V : World) : Prop where
  l : ∃ v l, Boxed V (g + 2) 22 v ∧ V.ownsRow w.heap.size 33 22 v l.length (l.flatMap evL) ∧ RdI (linL s) i l
  r : Boxed V g 22 (.slice none 0 0)
  e : Boxed V (g + 1) 25 (.int .i64 0)
  b : Below w.heap.size w V
theorem ScI.kept {w : World} {g i : Nat} {s : List UInt8} {W W' : World} {row : Option Nat} (h : ScI w g s i W) (hg : W.grownBy W' row) (hh : Harm [33] w.heap.size W row) (h2 : some (g + 2) ≠ row) (h0 : some g ≠ row) (h1 : some (g + 1) ≠ row) : ScI w g s i W' := by
  obtain ⟨v, l, hv, ho, hi⟩ := h.l
  exact ⟨⟨v, l, (hg.block _ hv.lt h2).trans hv, row_kept ho hg hh, hi⟩, (hg.block _ h.r.lt h0).trans h.r, (hg.block _ h.e.lt h1).trans h.e, Below.kept h.b h.b.size hg hh⟩
theorem ScI.bel {w : World} {g i : Nat} {s : List UInt8} {W W' : World} (h : ScI w g s i W) (hb : Below W.heap.size W W') : ScI w g s i W' :=
  h.kept (gr_none hb) ⟨(fun r e => by cases e), (fun _ _ _ _ _ _ e => by cases e)⟩ (fun e => by cases e) (fun e => by cases e) (fun e => by cases e)
/-- how the loop may be left. -/
structure ScX (w : World) (g : Nat) (s : List UInt8) (c : Code) (V : World) : Prop where
  c : c = .ret
  r : Boxed V g 22 (.slice none 0 0)
  e : ∃ e0, Boxed V (g + 1) 25 (.int .i64 e0) ∧ readL (linL s) = .inl e0
  b : Below w.heap.size w V
theorem ScX.kept {w : World} {g : Nat} {s : List UInt8} {c : Code} {W W' : World} {row : Option Nat} (h : ScX w g s c W) (hg : W.grownBy W' row) (hh : Harm [] w.heap.size W row) (h0 : some g ≠ row) (h1 : some (g + 1) ≠ row) : ScX w g s c W' := by
  obtain ⟨e0, he, hx⟩ := h.e
  exact ⟨h.c, (hg.block _ h.r.lt h0).trans h.r, ⟨e0, (hg.block _ he.lt h1).trans he, hx⟩, Below.kept h.b h.b.size hg hh⟩
theorem KpS.harm {b k : Nat} {W W' : World} {row : Option Nat} (hg : W.grownBy W' row) (hh : Harm [9, 3] k W row) : KpS b W W' :=
  KpS.grown hg (fun r e t u hB => ⟨fun h => hh.ne r _ t _ (show W.heap[r]? = _ from hB) (by simp [h]) e.symm, fun h => hh.ne r _ t _ (show W.heap[r]? = _ from hB) (by simp [h]) e.symm⟩)
attribute [local go_sem] Oper.semAt_some
set_option maxRecDepth 100000 in
set_option maxHeartbeats 4000000 in
theorem scread_any (s : List UInt8) (w : World) (ht : Tab w) (hm : MaxI w) (hl : s.length ≤ 100000) : Calls Tryz.prog 15 #[.string ⟨s.toArray⟩] w (RdsPost w (readL (linL s))) := by
  refine (callsIn_wide (n := 0)).1 ?_
  refine callsIn_of_wp_marks Tryz.func15 rfl trivial ?_ rfl
  simp only [Tryz.ntmps15, List.size_toArray, List.length_cons, List.length_nil, Nat.reduceAdd, Nat.reduceSub, Array.replicate_succ, Array.replicate_zero, List.push_toArray, List.append_toArray, List.nil_append, List.cons_append]
  gi_wp2
  refine ⟨trivial, rfl, ?_⟩
  gi_at_call 36
  refine (callsIn_wide.2 (splitseq_any s _)).mono ?_
  rintro e w2 ⟨rfl, hw2⟩
  obtain ⟨g, hg⟩ : ∃ g, g = w.heap.size := ⟨_, rfl⟩
  simp only [World.size_alloc, ← hg, Nat.add_assoc, Nat.reduceAdd] at hw2 ⊢
  have hsz : ∀ (W : World) (n : Nat), W.heap.size = n → ∀ (ty : TypeId) (v : Value), Boxed (W.alloc (.cells #[v] ty)) n ty v := fun W n h ty v => by rw [← h]; exact Boxed.new W ty v
  have B0 : Boxed w2 g 22 (.slice none 0 0) := by rw [hw2]; exact (((((hsz w g hg.symm _ _).alloc _).alloc _).alloc _).alloc _).alloc _
  have B1 : Boxed w2 (g + 1) 25 (.int .i64 0) := by rw [hw2]; exact ((((hsz _ (g + 1) (by simp [hg]) _ _).alloc _).alloc _).alloc _).alloc _
  have B2 : Boxed w2 (g + 2) 22 (.slice none 0 0) := by rw [hw2]; exact (((hsz _ (g + 2) (by simp [hg]) _ _).alloc _).alloc _).alloc _
  have B3 : Boxed w2 (g + 3) 9 (.string ⟨s.toArray⟩) := by rw [hw2]; exact ((hsz _ (g + 3) (by simp [hg]) _ _).alloc _).alloc _
  have B4 : Boxed w2 (g + 3 + 1) 9 (.string ⟨#[10]⟩) := by rw [hw2]; exact (hsz _ (g + 3 + 1) (by simp [hg]) _ _).alloc _
  have B5 : Boxed w2 (g + 3 + 2) 3 (.int .i64 0) := by rw [hw2]; exact hsz _ (g + 3 + 2) (by simp [hg]) _ _
  have hb02 : Below w.heap.size w w2 := by rw [hw2]; exact ((((((Below.refl _ w).alloc (Nat.le_refl _) _).alloc (by simp) _).alloc (by simp; omega) _).alloc (by simp; omega) _).alloc (by simp; omega) _).alloc (by simp; omega) _
  have hgl : w.heap.size ≤ g := by omega
  have Hb02 := Lib.hid hb02
  have Ht := Lib.hid ht
  have Hm := Lib.hid hm
  have hg5 : g + 5 < w2.heap.size := B5.lt
  clear hw2 hg hb02 ht hm hsz
  gi_wp2
  refine range_seqD (gf := 65) (lb := #[.pointer (some ⟨g + 4, 0, none⟩), .pointer (some ⟨g + 3, 0, none⟩), .pointer (some ⟨g + 5, 0, none⟩)]) rfl (enters_of Tryz.func65 (by kernel_rfl) rfl) (split_seq s (g + 3) w2 B3 B4 B5 (by omega)) (by omega) (Below.refl _ _) (fun h k => KpS.trans h k) (fun W l o o' h hc => KpS.put W l o o' h hc)
    (fun c args V he => by rw [he]; rfl) (fun c args => ownFrom_pure _ _)
    (fun i V => ScI w g s i V)
    (fun c V => ScX w g s c V)
    (fun i X Y row hs hg hr => hs.kept hg (Harm.loop (by omega) hr) (fun e => by have := (hr _ e.symm).1; omega) (fun e => by have := (hr _ e.symm).1; omega) (fun e => by have := (hr _ e.symm).1; omega))
    (fun i X Y v v' hs hg hv hv' => hs.kept hg (Harm.type (by omega) hv (by decide)) (fun e => by injection e with e; omega) (fun e => by injection e with e; omega) (fun e => by injection e with e; omega))
    (fun c _ X Y row hs hg hr => hs.kept hg (Harm.loop (by omega) hr) (fun e => by have := (hr _ e.symm).1; omega) (fun e => by have := (hr _ e.symm).1; omega))
    ⟨⟨_, [], B2, by simpa using World.ownsRow_nil w2 w.heap.size 33 22, RdI.start _⟩, B0, B1, Hb02.out⟩
    (fun args => { tmps := #[.string ⟨s.toArray⟩, undef, .pointer (some ⟨g, 0, none⟩), .pointer (some ⟨g + 1, 0, none⟩), .pointer (some ⟨g + 2, 0, none⟩), args.getD 0 undef, undef, undef, .string ⟨s.toArray⟩, .func (.func 65) #[] #[.pointer (some ⟨g + 4, 0, none⟩), .pointer (some ⟨g + 3, 0, none⟩), .pointer (some ⟨g + 5, 0, none⟩)], args.getD 0 undef, undef, undef, undef, undef, undef, undef, undef, undef, undef, undef, undef, undef, undef, undef, undef, undef, undef, undef, undef], defers := [] }) ?assign ?body ?done ?stop
  case assign =>
    intro l2 c args V K he hK
    obtain rfl := he
    gi_wp2
    exact hK
  case body =>
    rintro l2 i c args V hl2 ⟨r, hr⟩ hI hc he
    obtain rfl := he
    have hcl : c.length ≤ 100000 := by have := spB_mem 10 s [] c (List.mem_of_getElem? hc); simp at this; omega
    obtain ⟨u, hu⟩ : ∃ u, Lib.trimSuffix c [13] = u := ⟨_, rfl⟩
    have hul : u.length ≤ 100000 := by rw [← hu]; exact Nat.le_trans (trS_len c) hcl
    have HTr : Hid (∀ w', Calls Tryz.prog 37 #[.string ⟨c.toArray⟩, .string ⟨#[13]⟩] w' fun e w'' => e = .returned (.string ⟨u.toArray⟩) ∧ Below w'.heap.size w' w'') := Lib.hid (fun w' => by rw [← hu]; exact trim_any c w' (by omega))
    have HX := Lib.hid (fun w' => fields_any u w' (by omega))
    have HI := Lib.hid hI
    have Hc := Lib.hid hc
    have Hu := Lib.hid hu
    have hVs := hI.b.size
    have hlV : i < (linL s).length := (List.getElem?_eq_some_iff.1 hc).1
    have hLl := linL_len 10 s []
    have hiB : i ≤ 100000 := by have : (linL s).length = (spB 10 [] s).length := rfl; omega
    clear hI hc hu hr hLl hlV
    by_cases hE : flds u = []
    · rw [hE] at HX
      have HN : Hid (∀ l, RdI (linL s) i l → RdI (linL s) (i + 1) l) := Lib.hid (fun l h => h.skip Hc.out Hu.out hE)
      clear hE
      gi_wp2
      refine ⟨trivial, rfl, ?_⟩
      gi_at_call 37
      refine (CallsIn.inRound l2 (callsIn_wide.2 (HTr.out _))).mono ?_
      rintro e w5 ⟨rfl, hb5⟩
      have Hb5 := Lib.hid hb5
      clear hb5
      gi_wp2
      refine ⟨trivial, rfl, ?_⟩
      gi_at_call 30
      refine (CallsIn.inRound l2 (callsIn_wide.2 (HX.out _))).mono ?_
      rintro e w6 ⟨v6, rfl, hs6, hb6⟩
      obtain ⟨A6, q6, rfl, _⟩ := hs6.any
      have Hb6 := Lib.hid (bel_tr Hb5.out hb6)
      clear hs6 hb6
      gi_wp2
      obtain ⟨v, l, h1, h2, h3⟩ := HI.out.l
      have h := HI.out.bel Hb6.out
      refine ⟨keeps_below Hb6.out, KpS.below Hb6.out, ⟨?_, h.r, h.e, h.b⟩⟩
      obtain ⟨v, l, h1, h2, h3⟩ := h.l
      exact ⟨v, l, h1, h2, HN.out l h3⟩
    · obtain ⟨F, hF⟩ : ∃ F, flds u = F := ⟨_, rfl⟩
      have f1 : ((F.length : Int) == 0) = false := by have := List.length_pos_iff.2 hE; rw [hF] at this; exact beq_eq_false_iff_ne.2 (by omega)
      rw [hF] at HX
      have HP := Lib.hid (fun w' (h : Below w.heap.size w w') => scparse_any u w' (Ht.out.below h) (Hm.out.below h) (by omega))
      cases hx : evP u with
      | inl e0 =>
        have hne := evP_err hx
        rw [hx] at HP
        have HR : Hid (readL (linL s) = .inl e0) := Lib.hid (by obtain ⟨v, l, h1, h2, h3⟩ := HI.out.l; exact h3.bad Hc.out Hu.out hE hx)
        clear hx hE hF
        gi_wp2
        refine ⟨trivial, rfl, ?_⟩
        gi_at_call 37
        refine (CallsIn.inRound l2 (callsIn_wide.2 (HTr.out _))).mono ?_
        rintro e w5 ⟨rfl, hb5⟩
        have Hb5 := Lib.hid hb5
        clear hb5
        gi_wp2
        refine ⟨trivial, rfl, ?_⟩
        gi_at_call 30
        refine (CallsIn.inRound l2 (callsIn_wide.2 (HX.out _))).mono ?_
        rintro e w6 ⟨v6, rfl, hs6, hb6⟩
        obtain ⟨A6, q6, rfl, _⟩ := hs6.any
        have Hb6 := Lib.hid (bel_tr Hb5.out hb6)
        clear hs6 hb6
        gi_wp2
        refine ⟨trivial, rfl, ?_⟩
        gi_at_call 14
        refine (CallsIn.inRound l2 (callsIn_wide.2 (HP.out _ (bel_tr HI.out.b Hb6.out)))).mono ?_
        rintro e w7 ⟨rfl, hb7⟩
        have Hb7 := Lib.hid (bel_tr Hb6.out hb7)
        clear hb7
        unfold evR
        gi_wp2_with (refine wpListIn_of (fun ⟨_, _, h⟩ => h) _ _ _ rfl ?_)
        go_wp2_with (first
          | ((with_reducible show wpList _ _ _ (⟨some 6, _, _, _, _, _⟩ :: _) _ _); refine wpList_allocZ (o := ⟨some 6, _, _, _, _, _⟩) rfl _ rfl ev_zero ?_; intro g6 w8 hg8 hB8 hb8 hs8; have Hg8 := Lib.hid (Nat.le_of_eq hg8.symm); have HB8 := Lib.hid hB8; have Hb8 := Lib.hid (bel_tr Hb7.out hb8); clear hg8 hs8 hB8 hb8)
          | ((with_reducible show wpList _ _ _ (⟨none, .store _ (.tmp 6) _, _, _, _, _⟩ :: _) _ _); refine wpList_storeB (o := ⟨none, _, _, _, _, _⟩) rfl _ (.tmp 6) _ rfl rfl rfl HB8.out (ev_size' ev0) rfl (evL_one _) ?_; intro w9 hB9 hS9; have Hb9 := Lib.hid (Hb8.out.trans (hS9.below (Nat.le_trans Hb7.out.size Hg8.out))); clear hB9 hS9; have h9 := HI.out.bel Hb9.out; have c9 := h9.r.cell; have d9 := h9.e.cell; have f9 := h9.r.frozen; have k9 := h9.e.frozen; have H9 := Lib.hid h9; clear h9))
        gi_wp2
        have hS1 := Stays.cell w9 g 0 (.slice none 0 0)
        have hS2 := Stays.cell (w9.setCell ⟨g, 0, none⟩ (.slice none 0 0)) (g + 1) 0 (.int .i64 e0)
        have r1 := H9.out.r.set (.slice none 0 0)
        have e1 : Boxed (w9.setCell ⟨g, 0, none⟩ (.slice none 0 0)) (g + 1) 25 (.int .i64 0) := (hS1.block _ (by omega)).trans H9.out.e
        have e2 := e1.set (.int .i64 e0)
        have r2 : Boxed ((w9.setCell ⟨g, 0, none⟩ (.slice none 0 0)).setCell ⟨g + 1, 0, none⟩ (.int .i64 e0)) g 22 (.slice none 0 0) := (hS2.block _ (by omega)).trans r1
        exact ⟨((keeps_below Hb9.out).trans (keeps_cells hS1.grown H9.out.r)).trans (keeps_cells hS2.grown e1), ⟨rfl, r2, ⟨e0, e2, HR.out⟩, (H9.out.b.trans (hS1.below hgl)).trans (hS2.below (by omega))⟩⟩
      | inr x =>
        rw [hx] at HP
        have HN : Hid (∀ l, RdI (linL s) i l → RdI (linL s) (i + 1) (l ++ [x])) := Lib.hid (fun l h => h.next Hc.out Hu.out hE hx)
        clear hx hE hF
        gi_wp2
        refine ⟨trivial, rfl, ?_⟩
        gi_at_call 37
        refine (CallsIn.inRound l2 (callsIn_wide.2 (HTr.out _))).mono ?_
        rintro e w5 ⟨rfl, hb5⟩
        have Hb5 := Lib.hid hb5
        clear hb5
        gi_wp2
        refine ⟨trivial, rfl, ?_⟩
        gi_at_call 30
        refine (CallsIn.inRound l2 (callsIn_wide.2 (HX.out _))).mono ?_
        rintro e w6 ⟨v6, rfl, hs6, hb6⟩
        obtain ⟨A6, q6, rfl, _⟩ := hs6.any
        have Hb6 := Lib.hid (bel_tr Hb5.out hb6)
        clear hs6 hb6
        gi_wp2
        refine ⟨trivial, rfl, ?_⟩
        gi_at_call 14
        refine (CallsIn.inRound l2 (callsIn_wide.2 (HP.out _ (bel_tr HI.out.b Hb6.out)))).mono ?_
        rintro e w7 ⟨rfl, hb7⟩
        have Hb7 := Lib.hid (bel_tr Hb6.out hb7)
        clear hb7
        unfold evR
        gi_wp2_with (refine wpListIn_of (fun ⟨_, _, h⟩ => h) _ _ _ rfl ?_)
        go_wp2_with (first
          | ((with_reducible show wpList _ _ _ (⟨some 6, _, _, _, _, _⟩ :: _) _ _); refine wpList_allocZ (o := ⟨some 6, _, _, _, _, _⟩) rfl _ rfl ev_zero ?_; intro g6 w8 hg8 hB8 hb8 hs8; have Hg8 := Lib.hid (Nat.le_of_eq hg8.symm); have HB8 := Lib.hid hB8; have Hb8 := Lib.hid (bel_tr Hb7.out hb8); clear hg8 hs8 hB8 hb8)
          | ((with_reducible show wpList _ _ _ (⟨none, .store _ (.tmp 6) _, _, _, _, _⟩ :: _) _ _); refine wpList_storeB (o := ⟨none, _, _, _, _, _⟩) rfl _ (.tmp 6) _ rfl rfl rfl HB8.out (ev_size' x) ((evA_size ev0).trans (evA_size x).symm) (evL_one _) ?_; intro w9 hB9 hS9; have HB9 := Lib.hid hB9; have Hb9 := Lib.hid (Hb8.out.trans (hS9.below (Nat.le_trans Hb7.out.size Hg8.out))); clear hB9 hS9; have H9 := Lib.hid (HI.out.bel Hb9.out)))
        obtain ⟨v, l, bx9, ho9, hi9⟩ := H9.out.l
        obtain ⟨A, cp, rfl⟩ := own_any ho9
        have hll := hi9.len
        have c9 := bx9.cell
        have HI9 := Lib.hid hi9
        have Bx9 := Lib.hid bx9
        have hV9 := Hb9.out.size
        clear bx9 hi9
        gi_wp2_with (((with_reducible show wpListIn _ _ _ _ _ (⟨some 25, _, _, _, _, _⟩ :: _) _ _); refine wpListIn_of (fun ⟨_, _, h⟩ => h) _ _ _ rfl ?_))
        go_wp2_with (first
          | ((with_reducible show wpList _ _ _ (⟨some 26, _, _, _, _, _⟩ :: _) _ _); refine wpList_loadB (o := ⟨some 26, _, _, _, _, _⟩) rfl _ _ rfl rfl HB9.out ev_under rfl (ev_size' x) ?_)
          | ((with_reducible show wpList _ _ _ (⟨some 27, _, _, _, _, _⟩ :: _) _ _); refine wpList_lit (o := ⟨some 27, _, _, _, _, _⟩) rfl _ _ rfl elt_ev [.agg (evA x)] rfl (by decide) (by decide) (fun v hv => by rw [List.mem_singleton.1 hv]; exact evA_size _) rfl ?_; intro w10 hB10 hx10 hb10 hs10; clear hx10 hs10; have hB10 := bk_list (l := evL x) hB10 rfl)
          | (at_builtin; refine wpList_app rfl (.tmp 25) (.tmp 27) _ rfl elt_ev rfl (own_below ho9 hb10) rfl (hB10.sl (size := 22) (n := 1) (evL_len _) 1 (Nat.le_refl _)) (evL_ones _) (Nat.le_trans hVs (Nat.le_trans hV9 hb10.size)) (by omega) (by omega) ?_; intro v11 w11 ho11 hb11 hg11; obtain ⟨A11, q11, rfl⟩ := own_any ho11
             have B11 : Bk w11 (g + 2) 22 #[.slice A l.length cp] := (Bk.bel Bx9.out hb10).grown hg11 (own_neBk (own_below ho9 hb10) (Bk.bel Bx9.out hb10) (by decide))
             have c11 : w11.cell? ⟨g + 2, 0, none⟩ = some (.slice A l.length cp) := B11.cell 0
             have f11 := B11.free 0
             have HB11 := Lib.hid B11
             clear B11 c9))
        have o10 := own_below ho9 hb10
        have hS := Stays.cell w11 (g + 2) 0 (.slice A11 (l.length + 1) q11)
        have hr11 : Boxed w11 g 22 (.slice none 0 0) := (Bk.bel (show Bk w9 g _ _ from H9.out.r) hb10).grown hg11 (own_neBk o10 (Bk.bel (show Bk w9 g _ _ from H9.out.r) hb10) (by decide))
        have he11 : Boxed w11 (g + 1) 25 (.int .i64 0) := (Bk.bel (show Bk w9 (g + 1) _ _ from H9.out.e) hb10).grown hg11 (own_neBk o10 (Bk.bel (show Bk w9 (g + 1) _ _ from H9.out.e) hb10) (by decide))
        have hb011 : Below w.heap.size w w11 := (H9.out.b.trans (hb10.mono (Nat.le_trans hVs hV9))).trans hb11
        refine ⟨(((keeps_below Hb9.out).trans (keeps_below hb10)).trans (keeps_row o10 hg11)).trans (keeps_cells hS.grown HB11.out), (((KpS.below Hb9.out).trans (KpS.below hb10)).trans (KpS.harm hg11 (Harm.own (Nat.le_refl _) o10 (by decide)))).trans (KpS.harm hS.grown (Harm.type (Nat.le_refl _) HB11.out (by decide))), ⟨⟨_, l ++ [x], HB11.out.set_ 0 _, ?_, HN.out _ HI9.out⟩, (hS.block _ (by omega)).trans hr11, (hS.block _ (by omega)).trans he11, hb011.trans (hS.below (by omega))⟩⟩
        have o11 := row_kept ho11 hS.grown (Harm.type (by omega : w.heap.size ≤ g + 2) HB11.out (by decide))
        rw [List.length_append, List.flatMap_append]
        simpa using o11
  case done =>
    rintro D V hD hI hK
    obtain ⟨v, l, hbx, hown, hi⟩ := hI.l
    have HR : Hid (readL (linL s) = .inr l) := Lib.hid (hi.done_ (Nat.le_refl _))
    obtain ⟨A, cp, rfl⟩ := own_any hown
    have hc4 := hbx.cell
    have hc2 := hI.r.cell
    have hc3 := hI.e.cell
    have f2 := hI.r.frozen
    have f3 := hI.e.frozen
    have HI := Lib.hid hI
    have HK := Lib.hid hK
    have Hown := Lib.hid hown
    clear hI hK hown hbx hi
    gi_wp2
    have hS1 := Stays.cell V g 0 (.slice A l.length cp)
    have hS2 := Stays.cell (V.setCell ⟨g, 0, none⟩ (.slice A l.length cp)) (g + 1) 0 (.int .i64 0)
    have r1 := HI.out.r.set (.slice A l.length cp)
    have e1 : Boxed (V.setCell ⟨g, 0, none⟩ (.slice A l.length cp)) (g + 1) 25 (.int .i64 0) := (hS1.block _ (by omega)).trans HI.out.e
    have e2 := e1.set (.int .i64 0)
    have r2 : Boxed ((V.setCell ⟨g, 0, none⟩ (.slice A l.length cp)).setCell ⟨g + 1, 0, none⟩ (.int .i64 0)) g 22 (.slice A l.length cp) := (hS2.block _ (by omega)).trans r1
    have hK2 : ((V.setCell ⟨g, 0, none⟩ (.slice A l.length cp)).setCell ⟨g + 1, 0, none⟩ (.int .i64 0)).heap[D]? = some (.deferred (some [])) := (hS2.block D (by intro e; omega)).trans ((hS1.block D (by intro e; omega)).trans HK.out)
    have o2 := row_kept (row_kept Hown.out hS1.grown (Harm.type hgl HI.out.r (by decide))) hS2.grown (Harm.type (by omega : w.heap.size ≤ g + 1) e1 (by decide))
    have hb2 := (HI.out.b.trans (hS1.below hgl)).trans (hS2.below (by omega))
    generalize (V.setCell ⟨g, 0, none⟩ (.slice A l.length cp)).setCell ⟨g + 1, 0, none⟩ (.int .i64 0) = V2 at *
    refine ⟨by simp, .inl ⟨_, _, rfl, run_takeDeferred hK2, ?_⟩⟩
    have hg := grownBy_putObj' V2 D (.deferred none)
    have hh : ∀ T, Harm T w.heap.size V2 (some D) := fun T => Harm.loop (B := w.heap.size) (Nat.le_refl _) (fun r e => by cases e; exact ⟨by omega, _, hK2, rfl⟩)
    have r3 : Boxed (V2.putObj D (.deferred none)) g 22 (.slice A l.length cp) := (hg.block g r2.lt (by intro e; cases e; omega)).trans r2
    have e3 : Boxed (V2.putObj D (.deferred none)) (g + 1) 25 (.int .i64 0) := (hg.block (g + 1) e2.lt (by intro e; cases e; omega)).trans e2
    refine ⟨_, results_box2 rfl _ rfl rfl r3.cell e3.cell Tryz.underlying22 rfl Tryz.underlying25 rfl, ?_⟩
    exact RdsPost.good HR.out rfl (row_kept o2 hg (hh _)) (Below.kept hb2 hb2.size hg (hh []))
  case stop =>
    rintro D c V hD hx hK
    obtain ⟨rfl, r2, ⟨e0, e2, hR⟩, hb⟩ := hx
    have HR := Lib.hid hR
    have Hb := Lib.hid hb
    clear hR hb
    gi_wp2
    refine ⟨by simp, .inl ⟨_, _, rfl, run_takeDeferred hK, ?_⟩⟩
    have hg := grownBy_putObj' V D (.deferred none)
    have hh : ∀ T, Harm T w.heap.size V (some D) := fun T => Harm.loop (B := w.heap.size) (Nat.le_refl _) (fun r e => by cases e; exact ⟨by omega, _, hK, rfl⟩)
    have r3 : Boxed (V.putObj D (.deferred none)) g 22 (.slice none 0 0) := (hg.block g r2.lt (by intro e; cases e; omega)).trans r2
    have e3 : Boxed (V.putObj D (.deferred none)) (g + 1) 25 (.int .i64 e0) := (hg.block (g + 1) e2.lt (by intro e; cases e; omega)).trans e2
    refine ⟨_, results_box2 rfl _ rfl rfl r3.cell e3.cell Tryz.underlying22 rfl Tryz.underlying25 rfl, ?_⟩
    exact RdsPost.bad HR.out rfl (Below.kept Hb.out Hb.out.size hg (hh []))
end Go.Proofs.YtgebcifkbldfoaaGreatDoor

/- script: events compared; the reference's Same; the law's own test. -/
namespace Go.Proofs.YtgebcifkbldfoaaGreatDoor
open Go.RowKit
attribute [local go_sem] ba_get ext_take ext_drop ext_any ba_app

/-- the fields of two structs, one by one. -/
inductive EqFe (P : Program) (w : World) (d : Nat) (xs ys : Array Value) : List (Bool × TypeId × Nat) → Bool → Prop
  | nil : EqFe P w d xs ys [] true
  | cons {t : TypeId} {o : Nat} {x y : Value} {b c : Bool} {l : List (Bool × TypeId × Nat)} (p : (part t xs o).run P w = .ok x w) (q : (part t ys o).run P w = .ok y w) (e : (Op.equalIn d t x y).run P w = .ok b w) (h : EqFe P w d xs ys l c) : EqFe P w d xs ys ((false, t, o) :: l) (b && c)
theorem eqFe_run {P : Program} {w : World} {d : Nat} {xs ys : Array Value} {l : List (Bool × TypeId × Nat)} {c : Bool} (h : EqFe P w d xs ys l c) : ∀ fs : List Field, fs.map (fun f => (f.name == "_", f.type, f.offset)) = l → (Op.eqFields d xs ys fs).run P w = .ok c w := by
  induction h with
  | nil => intro fs hl; cases fs with | nil => rfl | cons _ _ => cases hl
  | @cons t o x y b c l p q e h ih =>
    intro fs hl
    cases fs with
    | nil => cases hl
    | cons f fs =>
      rw [List.map_cons, List.cons.injEq, Prod.mk.injEq, Prod.mk.injEq] at hl
      obtain ⟨⟨hn, ht, ho⟩, hl⟩ := hl
      have hn' : f.name ≠ "_" := by simpa using hn
      have ih' := ih fs hl
      subst ht ho
      cases b
      · simp [Op.eqFields, hn', p, q, e]
      · simp [Op.eqFields, hn', p, q, e, ih']
theorem ev_fields : (Tryz.prog.fieldsOf 33).toList.map (fun f => (f.name == "_", f.type, f.offset)) = [(false, 3, 0), (false, 31, 1), (false, 3, 19), (false, 3, 20), (false, 9, 21)] := by kernel_rfl
theorem ev_sizeof {t : TypeId} {n : Nat} (h : (Tryz.prog.info? t).map (·.size) = some n) (w : World) : (sizeOf t).run Tryz.prog w = .ok n w := by
  cases hq : Tryz.prog.info? t with
  | none => rw [hq] at h; cases h
  | some i => rw [hq] at h; simp [sizeOf, typeInfo, hq]; simpa using h
theorem evA_ex (x : Ev) : (evA x).extract 1 (1 + 18) = adA x.a := by
  unfold evA adA evL
  rw [List.extract_toArray]
  have := adL_len x.a
  simp [this]
theorem evA_0 (x : Ev) : (evA x)[0]? = some (.int .i64 x.k) := rfl
theorem evA_19 (x : Ev) : (evA x)[19]? = some (.int .i64 x.fp) := by
  obtain ⟨c0, c1, c2, c3, c4, c5, c6, c7, c8, c9, c10, c11, c12, c13, c14, c15, c16, c17, h⟩ := evT x
  unfold evA evL; rw [h]; rfl
theorem evA_20 (x : Ev) : (evA x)[20]? = some (.int .i64 x.p) := by
  obtain ⟨c0, c1, c2, c3, c4, c5, c6, c7, c8, c9, c10, c11, c12, c13, c14, c15, c16, c17, h⟩ := evT x
  unfold evA evL; rw [h]; rfl
theorem evA_21 (x : Ev) : (evA x)[21]? = some (.string ⟨x.d.toArray⟩) := by
  obtain ⟨c0, c1, c2, c3, c4, c5, c6, c7, c8, c9, c10, c11, c12, c13, c14, c15, c16, c17, h⟩ := evT x
  unfold evA evL; rw [h]; rfl
theorem part_ev_a (w : World) (x : Ev) : (part 31 (evA x) 1).run Tryz.prog w = .ok (.agg (adA x.a)) w := by
  simp only [part, isAgg, Sem.run_bind, run_underlying ad_under, Result.andThen_ok, Sem.run_pure, if_true, ev_sizeof ad_size, evA_ex]
theorem part_ev_k (w : World) (x : Ev) : (part 3 (evA x) 0).run Tryz.prog w = .ok (.int .i64 x.k) w := by
  simp [part, isAgg, run_underlying Tryz.underlying3, evA_0]
theorem part_ev_fp (w : World) (x : Ev) : (part 3 (evA x) 19).run Tryz.prog w = .ok (.int .i64 x.fp) w := by
  simp [part, isAgg, run_underlying Tryz.underlying3, evA_19]
theorem part_ev_p (w : World) (x : Ev) : (part 3 (evA x) 20).run Tryz.prog w = .ok (.int .i64 x.p) w := by
  simp [part, isAgg, run_underlying Tryz.underlying3, evA_20]
theorem part_ev_d (w : World) (x : Ev) : (part 9 (evA x) 21).run Tryz.prog w = .ok (.string ⟨x.d.toArray⟩) w := by
  simp [part, isAgg, run_underlying Tryz.underlying9, evA_21]
theorem run_ev_eq (w : World) (d : Nat) (x : Ev) : (Op.equalIn (d + 5) 33 (.agg (evA x)) (.agg (evA x))).run Tryz.prog w = .ok true w := by
  rw [run_equalIn_struct w (d + 4) _ _ _ ev_under Tryz.stoodInHeld33]
  rw [eqFe_run (EqFe.cons (part_ev_k w x) (part_ev_k w x) (run_equalIn_int w (d + 3) 3 .i64 .i64 x.k x.k Tryz.underlying3) (EqFe.cons (part_ev_a w x) (part_ev_a w x) (run_ad_eq w (d + 1) x.a x.a) (EqFe.cons (part_ev_fp w x) (part_ev_fp w x) (run_equalIn_int w (d + 3) 3 .i64 .i64 x.fp x.fp Tryz.underlying3) (EqFe.cons (part_ev_p w x) (part_ev_p w x) (run_equalIn_int w (d + 3) 3 .i64 .i64 x.p x.p Tryz.underlying3) (EqFe.cons (part_ev_d w x) (part_ev_d w x) (run_equalIn_string w (d + 3) 9 _ _ Tryz.underlying9) .nil))))) _ ev_fields]
  refine congrArg (fun c => Result.ok c w) ?_
  simp
theorem ev_eql (w : World) (x : Ev) : (binOp .eql 33 (.agg (evA x)) (.agg (evA x))).run Tryz.prog w = .ok (.bool true) w := by
  rw [run_eql_struct, run_ev_eq w 9995 x]; rfl
theorem ev_neq (w : World) (x : Ev) : (binOp .neq 33 (.agg (evA x)) (.agg (evA x))).run Tryz.prog w = .ok (.bool false) w := by
  rw [run_neq_struct, run_ev_eq w 9995 x]; rfl
theorem quiet_loadEv {w : World} {o : Oper} {a a' : Act} {K : Act → Prop} (x : Operand) (ho : o.op = .load 33 x) {g off : Nat} (hx : a.eval x = .pointer (some ⟨g, off, none⟩)) {b : Ev} (hB : w.rangeAt g off (evL b))
    (ha : a.put o.dst (.agg (evA b)) = a') (hk : K a') : o.quiet Tryz.prog a (fun w' => ∃ y : BelT w, w' = y.at_) K := by
  subst ha
  refine ⟨_, ?_, hk⟩
  rintro _ ⟨y, rfl⟩
  unfold Oper.quietAt execOp
  have hr : y.at_.rangeAt g off (evL b) := fun j v hv => y.cell (hB j v hv)
  simp only [ho, hx, Instr.loadAt, Instr.sureAddr, Sem.run_bind, Sem.run_pure, Result.andThen_ok, run_loadVar_mid y.at_ g off 33 (evL b) _ hr ev_under rfl (by rw [evL_len]; exact ev_size)]
  exact ⟨rfl, rfl⟩
theorem quiet_neqEv {w : World} {o : Oper} {a a' : Act} {K : Act → Prop} (x y : Operand) {t : TypeId} (ho : o.op = .binOp .neq 33 x y t) {b : Ev} (hx : a.eval x = .agg (evA b)) (hy : a.eval y = .agg (evA b))
    (ha : a.put o.dst (.bool false) = a') (hk : K a') : o.quiet Tryz.prog a (fun w' => ∃ y : BelT w, w' = y.at_) K := by
  subst ha
  refine ⟨_, ?_, hk⟩
  rintro _ ⟨z, rfl⟩
  unfold Oper.quietAt execOp
  simp only [ho, hx, hy, Sem.run_bind, run_eqGuard_agg z.at_ .neq 33 x y _ _ Tryz.eqGuardType33, Result.andThen_ok, ev_neq]
  exact ⟨rfl, rfl⟩
theorem quiet_eqlEv {w : World} {o : Oper} {a a' : Act} {K : Act → Prop} (x y : Operand) {t : TypeId} (ho : o.op = .binOp .eql 33 x y t) {b : Ev} (hx : a.eval x = .agg (evA b)) (hy : a.eval y = .agg (evA b))
    (ha : a.put o.dst (.bool true) = a') (hk : K a') : o.quiet Tryz.prog a (fun w' => ∃ y : BelT w, w' = y.at_) K := by
  subst ha
  refine ⟨_, ?_, hk⟩
  rintro _ ⟨z, rfl⟩
  unfold Oper.quietAt execOp
  simp only [ho, hx, hy, Sem.run_bind, run_eqGuard_agg z.at_ .eql 33 x y _ _ Tryz.eqGuardType33, Result.andThen_ok, ev_eql]
  exact ⟨rfl, rfl⟩
theorem quiet_bldE {w : World} {o : Oper} {a a' : Act} {K : Act → Prop} (t : TypeId) (l : List (Nat × Operand)) (ho : o.op = .build t l.toArray)
    {vals : List (Nat × Value)} {cs : Array Value} (hb : Tryz.prog.built t vals = some cs) (hv : l.map (fun p => (p.1, a.eval p.2)) = vals)
    (ha : a.put o.dst (.agg cs) = a') (hk : K a') : o.quiet Tryz.prog a (fun w' => ∃ y : BelT w, w' = y.at_) K := by
  subst ha hv
  refine ⟨_, ?_, hk⟩
  rintro _ ⟨y, rfl⟩
  have hb' : Tryz.prog.built t (l.toArray.map fun (i, x) => (i, a.eval x)).toList = some cs := by rw [← hb]; simp
  unfold Oper.quietAt execOp
  simp only [ho, Sem.run_bind, run_build y.at_ t _ cs hb', Result.andThen_ok]
  exact ⟨rfl, rfl⟩
set_option maxRecDepth 100000 in
set_option maxHeartbeats 1000000 in
theorem sameEvs_any (L : List Ev) (va vb : Value) (w : World) (ha : Sl w 22 va L.length (L.flatMap evL)) (hb : Sl w 22 vb L.length (L.flatMap evL)) (hl : L.length ≤ 1000000) :
    Calls Tryz.prog 16 #[va, vb] w (Good w) := by
  obtain ⟨a1, c1, rfl, hc1⟩ := ha.any
  obtain ⟨a2, c2, rfl, hc2⟩ := hb.any
  have Ha := Lib.hid ha
  have Hb := Lib.hid hb
  clear ha hb
  have i1 : ((L.length : Int) != (L.length : Int)) = false := by simp
  have i2 : (L.length != L.length) = false := by simp
  go_enter Tryz.func16, Tryz.ntmps16
  go_wp2
  go_loopw [5] (fun i wr => ∃ k : Nat, k ≤ L.length ∧ i = .int .i64 k ∧ Below w.heap.size w wr) (fun i _ => L.length - (intOf i).toNat)
  case atStart => exact ⟨0, Nat.zero_le _, rfl, Below.refl _ _⟩
  case round =>
    obtain ⟨k, hk, rfl, hbel⟩ := hrel
    by_cases hlt : k < L.length
    · have hltI : (k : Int) < (L.length : Int) := by omega
      have hk0 : (0 : Int) ≤ (k : Int) := by omega
      obtain ⟨b, off, c, hv, hc, hbl, hcell⟩ := Ha.out.pos (by omega)
      injection hv with hv1 _ hv2
      subst hv1 hv2
      obtain ⟨b2, off2, c3, hv, hc3, hbl2, hcell2⟩ := Hb.out.pos (by omega)
      injection hv with hv1 _ hv2
      subst hv1 hv2
      have hR := range_of evL_len hcell hlt
      have hR2 := range_of evL_len hcell2 hlt
      have HR : wr.rangeAt b (off + k * 22) (evL L[k]) := fun j u hu => ((hbel.cell (p := ⟨b, off + k * 22 + j, none⟩) hbl).trans (hR j u hu))
      have HR2 : wr.rangeAt b2 (off2 + k * 22) (evL L[k]) := fun j u hu => ((hbel.cell (p := ⟨b2, off2 + k * 22 + j, none⟩) hbl2).trans (hR2 j u hu))
      clear hR hR2 hcell hcell2
      go_wp2
      refine wp_region_bel (by kernel_rfl) (by kernel_rfl) ?_
      repeat (first
        | go_big_quiet_skip
        | (go_big_quiet_want; first
            | ((with_reducible show (⟨some 20, _, _, _, _, _⟩ : Oper).quiet _ _ _ _); refine quiet_loadEv (o := ⟨some 20, _, _, _, _, _⟩) _ rfl rfl HR (by simp only [Act.put, List.setIfInBounds_toArray, List.set_cons_succ, List.set_cons_zero]; exact rfl) ?_; go_big_quiet_on)
            | ((with_reducible show (⟨some 24, _, _, _, _, _⟩ : Oper).quiet _ _ _ _); refine quiet_loadEv (o := ⟨some 24, _, _, _, _, _⟩) _ rfl rfl HR2 (by simp only [Act.put, List.setIfInBounds_toArray, List.set_cons_succ, List.set_cons_zero]; exact rfl) ?_; go_big_quiet_on)
            | ((with_reducible show (⟨some 25, _, _, _, _, _⟩ : Oper).quiet _ _ _ _); refine quiet_neqEv (o := ⟨some 25, _, _, _, _, _⟩) _ _ rfl rfl rfl (by simp only [Act.put, List.setIfInBounds_toArray, List.set_cons_succ, List.set_cons_zero]; exact rfl) ?_; go_big_quiet_on)
            | (go_big_quiet_op; go_big_quiet_on)))
      refine wpQuiet_nil ?_
      rintro _ ⟨x, rfl⟩
      go_wp2
      go_roundw
      case rel => exact ⟨k + 1, by omega, by go_num, hbel.trans (x.bel.mono hbel.size)⟩
      case measure => (simp [intOf]) <;> omega
    · have hltI : ¬ (k : Int) < (L.length : Int) := by omega
      go_wp2
      go_ret
      exact ⟨rfl, hbel⟩
/-! ### the law's own test -/
def w44s : List UInt8 := [112, 97, 99, 107, 101, 116, 32, 49, 57, 50, 46, 48, 46, 50, 46, 53, 51, 32, 53, 51, 32, 49, 48, 50, 52, 32, 48, 48, 102, 102]
def w44e : Ev := ⟨2, adOf 192 0 2 53, 53, 1024, [0, 255]⟩
theorem w44_parse : evP w44s = .inr w44e := by kernel_rfl
theorem built_w44 : Tryz.prog.built 33 [(0, .int .i64 2), (1, .agg (adA (adOf 192 0 2 53))), (2, .int .i64 53), (3, .int .i64 1024), (4, .string ⟨#[0, 255]⟩)] = some (evA w44e) := by kernel_rfl
theorem rof_w44 (w : World) : Calls Tryz.prog 17 #[.int .i64 192, .int .i64 0, .int .i64 2, .int .i64 53] w (AdPost w (adOf 192 0 2 53)) := rof_any 192 0 2 53 w
theorem w44_any (w : World) (ht : Tab w) (hm : MaxI w) : Calls Tryz.prog 14 #[.string ⟨#[112, 97, 99, 107, 101, 116, 32, 49, 57, 50, 46, 48, 46, 50, 46, 53, 51, 32, 53, 51, 32, 49, 48, 50, 52, 32, 48, 48, 102, 102]⟩] w fun e w' => e = .returned (.tuple #[.agg (evA w44e), .int .i64 0]) ∧ Below w.heap.size w w' := by
  have h := scparse_any w44s w ht hm (by decide)
  rw [w44_parse] at h
  exact h
set_option maxRecDepth 100000 in
set_option maxHeartbeats 4000000 in
theorem works44_any (w : World) (ht : Tab w) (hm : MaxI w) : Calls Tryz.prog 4 #[] w (Good w) := by
  have HP := Lib.hid (w44_any w ht hm)
  clear ht hm
  go_enter Tryz.func4, Tryz.ntmps4
  go_wp2_with (first
    | (go_at_call 14; refine HP.out.mono ?_; rintro e w2 ⟨rfl, hb2⟩; have Hb2 := Lib.hid hb2; clear hb2)
    | ((with_reducible show wpList _ _ _ (⟨some 1, _, _, _, _, _⟩ :: _) _ _); refine wpList_allocZ (o := ⟨some 1, _, _, _, _, _⟩) rfl _ rfl ev_zero ?_; intro g1 w3 hg3 hB3 hb3 hs3; have Hg3 := Lib.hid (Nat.le_of_eq hg3.symm); have HB3 := Lib.hid hB3; have Hb3 := Lib.hid (bel_tr Hb2.out hb3); clear hg3 hs3 hB3 hb3)
    | ((with_reducible show wpList _ _ _ (⟨none, .store _ (.tmp 1) _, _, _, _, _⟩ :: _) _ _); refine wpList_storeB (o := ⟨none, _, _, _, _, _⟩) rfl _ (.tmp 1) _ rfl rfl rfl HB3.out (ev_size' w44e) ((evA_size ev0).trans (evA_size w44e).symm) (evL_one _) ?_; intro w4 hB4 hS4; have Hb4 := Lib.hid (Hb3.out.trans (hS4.below (Nat.le_trans Hb2.out.size Hg3.out))); have R4 := Bk.rangeL (cs := evL w44e) hB4 0 (evL w44e) [] (by simp); clear hB4 hS4))
  refine wp_region_bel (by kernel_rfl) (by kernel_rfl) ?_
  repeat (first
    | go_big_quiet_skip
    | (go_big_quiet_want; first
        | ((with_reducible show (⟨some 10, _, _, _, _, _⟩ : Oper).quiet _ _ _ _); refine quiet_loadEv (o := ⟨some 10, _, _, _, _, _⟩) _ rfl rfl R4 (by simp only [Act.put, List.setIfInBounds_toArray, List.set_cons_succ, List.set_cons_zero]; exact rfl) ?_; go_big_quiet_on)
        | ((with_reducible show (⟨some 12, _, _, _, _, _⟩ : Oper).quiet _ _ _ _); refine quiet_bldE (o := ⟨some 12, _, _, _, _, _⟩) _ [(0, .const (.int .i64 2)), (1, .tmp 11), (2, .const (.int .i64 53)), (3, .const (.int .i64 1024)), (4, .const (.string ⟨#[0, 255]⟩))] rfl built_w44 rfl (by simp only [Act.put, List.setIfInBounds_toArray, List.set_cons_succ, List.set_cons_zero]; exact rfl) ?_; go_big_quiet_on)
        | ((with_reducible show (⟨some 13, _, _, _, _, _⟩ : Oper).quiet _ _ _ _); refine quiet_eqlEv (o := ⟨some 13, _, _, _, _, _⟩) _ _ rfl rfl rfl (by simp only [Act.put, List.setIfInBounds_toArray, List.set_cons_succ, List.set_cons_zero]; exact rfl) ?_; go_big_quiet_on)
        | (go_big_quiet_op; first | go_big_quiet_on | go_big_quiet_call ((go_at_call 17; refine bel_call (rof_w44 _))))))
  refine wpQuiet_nil ?_
  rintro _ ⟨x, rfl⟩
  go_wp2
  go_ret
  exact ⟨rfl, bel_tr Hb4.out x.bel⟩
end Go.Proofs.YtgebcifkbldfoaaGreatDoor

/- ScriptLines: the walk. -/
namespace Go.Proofs.YtgebcifkbldfoaaGreatDoor
open Go.RowKit
attribute [local go_sem] ba_get ext_take ext_drop ext_any ba_app

def rdX (r : Int ⊕ List Ev) : List Ev := match r with | .inl _ => [] | .inr l => l
theorem RdsPost.open_ {w w' : World} {r : Int ⊕ List Ev} {e : Ending} (h : RdsPost w r e w') : ∃ v, e = .returned (.tuple #[v, .int .i64 (codeR r)]) ∧ Sl w' 22 v (rdX r).length ((rdX r).flatMap evL) ∧ Below w.heap.size w w' := by
  cases r with
  | inl c => exact ⟨_, h.1, Sl.nil _ _, h.2⟩
  | inr l =>
    obtain ⟨v, he, ho, hb⟩ := h
    exact ⟨v, he, Sl.own ho, hb⟩
end Go.Proofs.YtgebcifkbldfoaaGreatDoor

/- script: what is written of events, and that it is read as it was (plain). -/
namespace Go.Proofs.YtgebcifkbldfoaaGreatDoor
open Go.RowKit

theorem fldR_app4 : ∀ (x word r : List UInt8), (∀ b ∈ x, blB b = false) → fldR word (x ++ r) = fldR (word ++ x) r
  | [], word, r, _ => by simp
  | b :: x, word, r, h => by
    rw [List.cons_append, fldR, if_neg (by rw [h b (by simp)]; simp), fldR_app4 x (word ++ [b]) r (fun c hc => h c (by simp [hc]))]
    simp
/-- words, each behind a blank. -/
def bT4 (A : List (List UInt8)) : List UInt8 := A.flatMap fun x => 32 :: x
theorem bT_cons4 (x : List UInt8) (A : List (List UInt8)) : bT4 (x :: A) = 32 :: (x ++ bT4 A) := by simp [bT4]
theorem flds_blank4 (l : List UInt8) : flds (32 :: l) = flds l := by
  unfold flds
  rw [fldR, if_pos (by decide), if_pos rfl]
theorem flds_bT4 : ∀ (A : List (List UInt8)), (∀ x ∈ A, x ≠ [] ∧ ∀ b ∈ x, blB b = false) → flds (bT4 A) = A
  | [], _ => rfl
  | x :: A, h => by
    obtain ⟨h1, h2⟩ := h x (by simp)
    have ih := flds_bT4 A (fun y hy => h y (by simp [hy]))
    rw [bT_cons4, flds_blank4]
    unfold flds
    rw [fldR_app4 x [] _ h2, List.nil_append]
    cases A with
    | nil =>
      show fldR x [] = _
      rw [fldR, if_neg h1]
    | cons y A =>
      rw [bT_cons4] at ih ⊢
      rw [flds_blank4] at ih
      unfold flds at ih
      rw [fldR, if_pos (by decide), if_neg h1, ih]
theorem joi_bT4 : ∀ (A : List (List UInt8)), A ≠ [] → 32 :: joi [32] A = bT4 A
  | [], h => absurd rfl h
  | [x], _ => by rw [bT_cons4]; simp [bT4, joi, Lib.join]
  | x :: y :: A, _ => by
    rw [bT_cons4, ← joi_bT4 (y :: A) (by simp)]
    have := joi_more (A := x :: y :: A) 32 (k := 0) (by simp)
    simp at this
    rw [this]
/-- a port's number. -/
def PrtP (n : Int) : Prop := 0 ≤ n ∧ n ≤ 65535
instance (n : Int) : Decidable (PrtP n) := inferInstanceAs (Decidable (_ ∧ _))
/-- what is wrong with an event. -/
def chkE (e : Ev) : Int :=
  if e.k < 1 ∨ 5 < e.k then 10
  else if e.k = 2 ∧ chkA e.a ≠ 0 then 5
  else if e.k = 2 ∧ ¬ PrtP e.fp then 4
  else if e.k ≠ 1 ∧ ¬ PrtP e.p then 4
  else if (e.k = 2 ∨ e.k = 4) ∧ 65535 < e.d.length then 3
  else if e.k ≠ 2 ∧ (e.a ≠ ad0 ∨ e.fp ≠ 0) then 5
  else if e.k = 1 ∧ e.p ≠ 0 then 5
  else if ¬ (e.k = 2 ∨ e.k = 4) ∧ e.d ≠ [] then 5
  else 0
/-- bytes as digits of the base 16. -/
def hxT (d : List UInt8) : List UInt8 := d.flatMap fun c => [fig (c.toNat / 16), fig (c.toNat % 16)]
def hexE (d : List UInt8) : List UInt8 := if d = [] then [45] else hxT d
/-- the words of an event's line. -/
def wrdE (e : Ev) : List (List UInt8) :=
  if e.k = 1 then [wTick] else if e.k = 2 then [wPacket, adrT e.a, Lib.itoa e.fp, Lib.itoa e.p, hexE e.d]
  else if e.k = 3 then [wOpen, Lib.itoa e.p] else if e.k = 4 then [wBytes, Lib.itoa e.p, hexE e.d] else [wClose, Lib.itoa e.p]
def linE (e : Ev) : List UInt8 := joi [32] (wrdE e)
def lnEv (e : Ev) : Int ⊕ List UInt8 := if chkE e ≠ 0 then .inl (chkE e) else .inr (linE e)
def txEv : List Ev → Int ⊕ List UInt8
  | [] => .inr []
  | e :: r => bindR (lnEv e) fun t => bindR (txEv r) fun s => .inr (t ++ 10 :: s)
/-- a byte that may stand in a word. -/
def OkB (b : UInt8) : Prop := 33 ≤ b.toNat
instance (b : UInt8) : Decidable (OkB b) := inferInstanceAs (Decidable (_ ≤ _))
theorem ok_bl {b : UInt8} (h : OkB b) : blB b = false := by unfold OkB at h; unfold blB; exact decide_eq_false (by omega)
theorem ok_10 {b : UInt8} (h : OkB b) : b ≠ 10 := fun e => by subst e; revert h; decide
theorem ok_13 {b : UInt8} (h : OkB b) : b ≠ 13 := fun e => by subst e; revert h; decide
theorem ok_dg {b : UInt8} (h : dgB b = true) : OkB b := by unfold dgB at h; have := of_decide_eq_true h; unfold OkB; omega
theorem fig_ok (n : Nat) (h : n < 16) : OkB (fig n) := by
  have : ∀ n : Fin 16, OkB (fig n.val) := by decide
  exact this ⟨n, h⟩
theorem hxF_ok (k : Nat) : ∀ n, ∀ c ∈ hxF k n, OkB c := by
  induction k with
  | zero => intro n c hc; simp [hxF] at hc
  | succ k ih =>
    intro n c hc
    rw [hxF] at hc
    split at hc
    · simp at hc
    · rcases List.mem_append.1 hc with hc | hc
      · exact ih _ c hc
      · rw [List.mem_singleton.1 hc]; exact fig_ok _ (Nat.mod_lt _ (by decide))
theorem hexT_ok (n : Nat) : ∀ c ∈ hexT n, OkB c := by
  intro c hc
  unfold hexT at hc
  split at hc
  · rw [List.mem_singleton.1 hc]; decide
  · exact hxF_ok 4 n c hc
theorem txG_ok (a : Ad) (f n : Nat) : ∀ i, ∀ c ∈ txG a f n i, OkB c
  | 0, c, hc => by cases hc
  | i + 1, c, hc => by
    have ih := txG_ok a f n i
    have h58 : c = 58 → OkB c := fun e => by rw [e]; decide
    rw [txG] at hc
    split at hc
    · split at hc
      · rcases List.mem_append.1 hc with hc | hc
        · exact ih c hc
        · simp only [List.mem_cons, List.not_mem_nil, or_false, or_self] at hc
          exact h58 hc
      · exact ih c hc
    · rcases List.mem_append.1 hc with hc | hc
      · split at hc
        · rcases List.mem_append.1 hc with hc | hc
          · exact ih c hc
          · exact h58 (List.mem_singleton.1 hc)
        · exact ih c hc
      · exact hexT_ok _ c hc
theorem qtx_ok (a : Ad) : ∀ x ∈ qtx a, OkB x := by
  intro x hx
  rcases jB_mem hx with rfl | ⟨L, hL, hx⟩
  · decide
  · have hd : ∀ c : UInt8, x ∈ itu c → OkB x := fun c hc => ok_dg (List.all_eq_true.1 (itu_dg c) x hc)
    simp only [List.mem_cons, List.not_mem_nil, or_false] at hL
    rcases hL with rfl | rfl | rfl | rfl <;> exact hd _ hx
theorem bareT_ok (a : Ad) : ∀ c ∈ bareT a, OkB c := by
  intro c hc
  unfold bareT at hc
  split at hc
  · rcases List.mem_append.1 hc with hc | hc
    · have : ∀ c ∈ ffff, OkB c := by decide
      exact this c hc
    · exact qtx_ok _ c hc
  · exact txG_ok a _ _ 8 c hc
theorem itoa_ok {n : Int} (h : 0 ≤ n) : (∀ c ∈ Lib.itoa n, OkB c) ∧ Lib.itoa n ≠ [] ∧ (Lib.itoa n).all dgB = true ∧ val (Lib.itoa n) = n.toNat := by
  rw [itoa_pos h]
  have h2 := (dec_val n.toNat).2
  refine ⟨fun c hc => ok_dg (List.all_eq_true.1 h2 c hc), ?_, h2, (dec_val n.toNat).1⟩
  intro h0
  have h2 := congrArg List.length h0
  rw [Lib.decDigits] at h2
  split at h2 <;> simp at h2
theorem adrT_ok {a : Ad} (h : chkA a = 0) : (∀ c ∈ adrT a, OkB c) ∧ adrT a ≠ [] ∧ adrP (adrT a) = .inr a := by
  unfold chkA at h
  by_cases h4 : a.fam = 4
  · rw [if_pos h4] at h
    have ht : adrT a = qtx a := by unfold adrT; exact if_pos h4
    have haF : a = adF a := by
      by_cases h0 : a = adF a
      · exact h0
      · rw [if_neg h0] at h; cases h
    rw [ht]
    refine ⟨qtx_ok a, fun h0 => ?_, ?_⟩
    · have := qtx_len7 a; rw [h0] at this; simp at this
    · unfold adrP
      rw [if_neg (by rw [qtx_nocol]; decide), qpA_of]
      show Sum.inr (adF a) = _
      rw [← haF]
  · rw [if_neg h4] at h
    by_cases h6 : a.fam = 6
    · rw [if_pos h6] at h
      have hz : 0 ≤ a.zone ∧ a.zone ≤ 2147483647 := by
        by_cases h0 : a.zone < 0 ∨ 2147483647 < a.zone
        · rw [if_pos h0] at h; cases h
        · omega
      have ht : adrT a = colT a := by unfold adrT; rw [if_neg h4, if_pos h6]
      have hp : colP (colT a) = .inr a := by
        by_cases h0 : 0 < a.zone
        · obtain ⟨hb, hc⟩ := colP_colTz h0 hz.2
          rw [hc]
          exact congrArg Sum.inr (Ad.same h6.symm rfl rfl)
        · rw [colP_colT0 h0]
          exact congrArg Sum.inr (Ad.same h6.symm rfl (by show (0 : Int) = _; omega))
      have hcol := colP_colon hp
      rw [ht]
      refine ⟨?_, fun h0 => ?_, ?_⟩
      · intro c hc
        unfold colT at hc
        split at hc
        · rcases List.mem_append.1 hc with hc | hc
          · exact bareT_ok a c hc
          · rcases List.mem_cons.1 hc with rfl | hc
            · decide
            · exact (itoa_ok (n := a.zone) (by omega)).1 c hc
        · exact bareT_ok a c hc
      · rw [h0] at hcol; cases hcol
      · unfold adrP; rw [if_pos hcol, hp]
    · rw [if_neg h6] at h; cases h
theorem numR_itoa {n : Int} (h : PrtP n) : numR (Lib.itoa n) = .inr n.toNat := by
  obtain ⟨_, h1, h2, h3⟩ := itoa_ok h.1
  unfold numR
  rw [if_pos ⟨h1, h2⟩, h3, if_pos (by have := h.2; omega)]
theorem hex_fig (n : Nat) (h : n < 16) : hex ((fig n).toNat : Int) = some (n : Int) := by
  have : ∀ n : Fin 16, hex ((fig n.val).toNat : Int) = some (n.val : Int) := by decide
  exact this ⟨n, h⟩
theorem hxs_hxT : ∀ d : List UInt8, hxs (hxT d) = some d
  | [] => rfl
  | c :: r => by
    have hc := c.toNat_lt
    show hxs (fig (c.toNat / 16) :: fig (c.toNat % 16) :: hxT r) = _
    rw [hxs_next (hex_fig (c.toNat / 16) (by omega)) (hex_fig (c.toNat % 16) (by omega)), hxs_hxT r]
    simp only [Option.map_some, Int.toNat_natCast]
    rw [show 16 * (c.toNat / 16) + c.toNat % 16 = c.toNat by omega]
    simp
theorem hxT_len : ∀ d : List UInt8, (hxT d).length = 2 * d.length
  | [] => rfl
  | c :: r => by
    show (fig (c.toNat / 16) :: fig (c.toNat % 16) :: hxT r).length = _
    rw [List.length_cons, List.length_cons, hxT_len r, List.length_cons]; omega
theorem hexE_ok (d : List UInt8) : (∀ c ∈ hexE d, OkB c) ∧ hexE d ≠ [] := by
  unfold hexE
  split
  · decide
  · next h =>
    refine ⟨fun c hc => ?_, fun h0 => ?_⟩
    · unfold hxT at hc
      obtain ⟨x, _, hx⟩ := List.mem_flatMap.1 hc
      have := x.toNat_lt
      simp only [List.mem_cons, List.not_mem_nil, or_false] at hx
      rcases hx with rfl | rfl <;> exact fig_ok _ (by omega)
    · have := congrArg List.length h0
      rw [hxT_len] at this
      have := List.length_pos_iff.2 h
      simp at *
      omega
theorem datR_hexE {d : List UInt8} (h : d.length ≤ 65535) : datR (hexE d) = .inr d := by
  by_cases h0 : d = []
  · subst h0; rfl
  · have hl := hxT_len d
    have hp := List.length_pos_iff.2 h0
    have he : hexE d = hxT d := by unfold hexE; exact if_neg h0
    rw [he]
    rw [datR_some (fun e => by rw [e] at hl; simp at hl; omega) (by rw [hl]; omega) (hxs_hxT d), if_neg (by omega)]
/-- what an event with nothing wrong is. -/
theorem chkE_ok {e : Ev} (h : chkE e = 0) : (1 ≤ e.k ∧ e.k ≤ 5) ∧ (e.k = 2 → chkA e.a = 0 ∧ PrtP e.fp) ∧ (e.k ≠ 1 → PrtP e.p) ∧ ((e.k = 2 ∨ e.k = 4) → e.d.length ≤ 65535) ∧ (e.k ≠ 2 → e.a = ad0 ∧ e.fp = 0) ∧ (e.k = 1 → e.p = 0) ∧ (¬ (e.k = 2 ∨ e.k = 4) → e.d = []) := by
  unfold chkE at h
  split at h
  · cases h
  split at h
  · cases h
  split at h
  · cases h
  split at h
  · cases h
  split at h
  · cases h
  split at h
  · cases h
  split at h
  · cases h
  split at h
  · cases h
  next h1 h2 h3 h4 h5 h6 h7 h8 =>
  refine ⟨by omega, fun hk => ⟨?_, ?_⟩, fun hk => ?_, fun hk => ?_, fun hk => ⟨?_, ?_⟩, fun hk => ?_, fun hk => ?_⟩
  · exact Decidable.byContradiction fun hn => h2 ⟨hk, hn⟩
  · exact Decidable.byContradiction fun hn => h3 ⟨hk, hn⟩
  · exact Decidable.byContradiction fun hn => h4 ⟨hk, hn⟩
  · exact Decidable.byContradiction fun hn => h5 ⟨hk, by omega⟩
  · exact Decidable.byContradiction fun hn => h6 ⟨hk, .inl hn⟩
  · exact Decidable.byContradiction fun hn => h6 ⟨hk, .inr hn⟩
  · exact Decidable.byContradiction fun hn => h7 ⟨hk, hn⟩
  · exact Decidable.byContradiction fun hn => h8 ⟨hk, hn⟩
theorem wrdE_ok {e : Ev} (h : chkE e = 0) : ∀ x ∈ wrdE e, x ≠ [] ∧ ∀ b ∈ x, OkB b := by
  obtain ⟨h1, h2, h3, h4, h5, h6, h7⟩ := chkE_ok h
  have w1 : ∀ w ∈ [wTick, wPacket, wOpen, wBytes, wClose], w ≠ [] ∧ ∀ b ∈ w, OkB b := by decide
  have hp : e.k ≠ 1 → Lib.itoa e.p ≠ [] ∧ ∀ b ∈ Lib.itoa e.p, OkB b := fun hk => ⟨(itoa_ok (h3 hk).1).2.1, (itoa_ok (h3 hk).1).1⟩
  have hd : hexE e.d ≠ [] ∧ ∀ b ∈ hexE e.d, OkB b := ⟨(hexE_ok e.d).2, (hexE_ok e.d).1⟩
  intro x hx
  unfold wrdE at hx
  split at hx
  · rw [List.mem_singleton.1 hx]; exact w1 _ (by simp)
  · next hk1 =>
    split at hx
    · next hk2 =>
      have ha := adrT_ok (h2 hk2).1
      have hf := itoa_ok (h2 hk2).2.1
      simp only [List.mem_cons, List.not_mem_nil, or_false] at hx
      rcases hx with rfl | rfl | rfl | rfl | rfl
      · exact w1 _ (by simp)
      · exact ⟨ha.2.1, ha.1⟩
      · exact ⟨hf.2.1, hf.1⟩
      · exact hp hk1
      · exact hd
    · split at hx
      · simp only [List.mem_cons, List.not_mem_nil, or_false] at hx
        rcases hx with rfl | rfl
        · exact w1 _ (by simp)
        · exact hp hk1
      · split at hx
        · simp only [List.mem_cons, List.not_mem_nil, or_false] at hx
          rcases hx with rfl | rfl | rfl
          · exact w1 _ (by simp)
          · exact hp hk1
          · exact hd
        · simp only [List.mem_cons, List.not_mem_nil, or_false] at hx
          rcases hx with rfl | rfl
          · exact w1 _ (by simp)
          · exact hp hk1
theorem wrdE_ne (e : Ev) : wrdE e ≠ [] := by
  unfold wrdE
  split
  · simp
  · split
    · simp
    · split
      · simp
      · split <;> simp
theorem flds_linE {e : Ev} (h : chkE e = 0) : flds (linE e) = wrdE e := by
  have hb := flds_bT4 (wrdE e) (fun x hx => ⟨(wrdE_ok h x hx).1, fun b hb => ok_bl ((wrdE_ok h x hx).2 b hb)⟩)
  rw [← joi_bT4 _ (wrdE_ne e), flds_blank4] at hb
  exact hb
theorem linE_by {e : Ev} (h : chkE e = 0) : ∀ b ∈ linE e, b ≠ 10 ∧ b ≠ 13 := by
  intro b hb
  have hj := joi_bT4 (wrdE e) (wrdE_ne e)
  have hm : b ∈ bT4 (wrdE e) := by rw [← hj]; exact List.mem_cons_of_mem _ hb
  unfold bT4 at hm
  obtain ⟨x, hx, hb⟩ := List.mem_flatMap.1 hm
  rcases List.mem_cons.1 hb with rfl | hb
  · decide
  · exact ⟨ok_10 ((wrdE_ok h x hx).2 b hb), ok_13 ((wrdE_ok h x hx).2 b hb)⟩
theorem ev_same {x y : Ev} (h0 : x.k = y.k) (h1 : x.a = y.a) (h2 : x.fp = y.fp) (h3 : x.p = y.p) (h4 : x.d = y.d) : x = y := by
  cases x; cases y; simp only at h0 h1 h2 h3 h4; subst h0 h1 h2 h3 h4; rfl
/-- what is written of an event is read as the event. -/
theorem evP_linE {e : Ev} (h : chkE e = 0) : evP (linE e) = .inr e := by
  obtain ⟨h1, h2, h3, h4, h5, h6, h7⟩ := chkE_ok h
  unfold evP
  rw [flds_linE h]
  have hpn : ∀ hk : e.k ≠ 1, ((e.p.toNat : Nat) : Int) = e.p := fun hk => Int.toNat_of_nonneg (h3 hk).1
  rcases (show e.k = 1 ∨ e.k = 2 ∨ e.k = 3 ∨ e.k = 4 ∨ e.k = 5 by omega) with hk | hk | hk | hk | hk
  · have hw : wrdE e = [wTick] := by unfold wrdE; rw [if_pos hk]
    rw [hw]
    show Sum.inr _ = _
    exact congrArg Sum.inr (ev_same hk.symm (h5 (by omega)).1.symm (h5 (by omega)).2.symm (h6 hk).symm (h7 (by omega)).symm)
  · have hw : wrdE e = [wPacket, adrT e.a, Lib.itoa e.fp, Lib.itoa e.p, hexE e.d] := by unfold wrdE; rw [if_neg (by omega), if_pos hk]
    rw [hw]
    rw [show ∀ R, evF (wPacket :: R) = packR (wPacket :: R) from fun R => by simp [evF, wTick, wPacket]]
    simp only [packR, (adrT_ok (h2 hk).1).2.2, numR_itoa (h2 hk).2, numR_itoa (h3 (by omega)), datR_hexE (h4 (.inl hk)), bindR]
    exact congrArg Sum.inr (ev_same hk.symm rfl (Int.toNat_of_nonneg (h2 hk).2.1) (hpn (by omega)) rfl)
  · have hw : wrdE e = [wOpen, Lib.itoa e.p] := by unfold wrdE; rw [if_neg (by omega), if_neg (by omega), if_pos hk]
    rw [hw]
    rw [show ∀ R, evF (wOpen :: R) = alonR 3 (wOpen :: R) from fun R => by simp [evF, wTick, wPacket, wOpen]]
    simp only [alonR, numR_itoa (h3 (by omega)), bindR]
    exact congrArg Sum.inr (ev_same hk.symm (h5 (by omega)).1.symm (h5 (by omega)).2.symm (hpn (by omega)) (h7 (by omega)).symm)
  · have hw : wrdE e = [wBytes, Lib.itoa e.p, hexE e.d] := by unfold wrdE; rw [if_neg (by omega), if_neg (by omega), if_neg (by omega), if_pos hk]
    rw [hw]
    rw [show ∀ R, evF (wBytes :: R) = byteR (wBytes :: R) from fun R => by simp [evF, wTick, wPacket, wOpen, wBytes]]
    simp only [byteR, numR_itoa (h3 (by omega)), datR_hexE (h4 (.inr hk)), bindR]
    exact congrArg Sum.inr (ev_same hk.symm (h5 (by omega)).1.symm (h5 (by omega)).2.symm (hpn (by omega)) rfl)
  · have hw : wrdE e = [wClose, Lib.itoa e.p] := by unfold wrdE; rw [if_neg (by omega), if_neg (by omega), if_neg (by omega), if_neg (by omega)]
    rw [hw]
    rw [show ∀ R, evF (wClose :: R) = alonR 5 (wClose :: R) from fun R => by simp [evF, wTick, wPacket, wOpen, wBytes, wClose]]
    simp only [alonR, numR_itoa (h3 (by omega)), bindR]
    exact congrArg Sum.inr (ev_same hk.symm (h5 (by omega)).1.symm (h5 (by omega)).2.symm (hpn (by omega)) (h7 (by omega)).symm)
theorem trS_free {l : List UInt8} (h : ∀ b ∈ l, b ≠ 13) : Lib.trimSuffix l [13] = l := by
  unfold Lib.trimSuffix
  refine if_neg ?_
  intro hs
  unfold Lib.hasSuffix at hs
  have := (List.isSuffixOf_iff_suffix.1 hs).subset (List.mem_singleton.2 rfl : (13 : UInt8) ∈ [13])
  exact h 13 this rfl
theorem linL_cut {t : List UInt8} (s : List UInt8) (h : ∀ b ∈ t, b ≠ 10) : linL (t ++ 10 :: s) = t :: linL s := by
  unfold linL
  rw [spB_app t h [] (10 :: s), List.nil_append, spB, if_pos rfl]
/-- what is written of events is read as they were. -/
theorem readL_txEv : ∀ (l : List Ev) {s : List UInt8}, txEv l = .inr s → readL (linL s) = .inr l
  | [], s, h => by
    cases h
    show readL (spB 10 [] []) = _
    rw [spB, readL, trS_nil, if_pos (show flds [] = [] by rfl)]
    rfl
  | e :: r, s, h => by
    rw [txEv] at h
    unfold lnEv at h
    split at h
    · cases h
    · next hc =>
      have hc0 : chkE e = 0 := Decidable.byContradiction hc
      cases hr : txEv r with
      | inl c => rw [hr] at h; cases h
      | inr u =>
        rw [hr] at h
        injection h with h
        subst h
        have hb := linE_by hc0
        have hne : flds (linE e) ≠ [] := by rw [flds_linE hc0]; exact wrdE_ne e
        rw [linL_cut u (fun b hx => (hb b hx).1), readL, trS_free (fun b hx => (hb b hx).2), if_neg hne, evP_linE hc0, readL_txEv r hr]
        rfl
end Go.Proofs.YtgebcifkbldfoaaGreatDoor

/- script: bytes as digits of the base 16, by the program and by the reference. -/
namespace Go.Proofs.YtgebcifkbldfoaaGreatDoor
open Go.RowKit
attribute [local go_sem] ba_get ext_take ext_drop ext_any ba_app

theorem hxT_next {s : List UInt8} {k : Nat} (h : k < s.length) : hxT (s.take (k + 1)) = hxT (s.take k) ++ [fig (s[k].toNat / 16), fig (s[k].toNat % 16)] := by
  unfold hxT
  rw [List.take_succ_eq_append_getElem h, List.flatMap_append]
  rfl
def HexPost (w : World) (s : List UInt8) (e : Ending) (w' : World) : Prop := e = .returned (.string ⟨(hexE s).toArray⟩) ∧ Below w.heap.size w w'
theorem hexE_ne {s : List UInt8} (h : s ≠ []) : hexE s = hxT s := if_neg h
set_option maxRecDepth 100000 in
set_option maxHeartbeats 4000000 in
theorem rhex44_any (s : List UInt8) (w : World) (hl : s.length ≤ 1000000) : Calls Tryz.prog 13 #[.string ⟨s.toArray⟩] w (HexPost w s) := by
  by_cases h0 : s = []
  · subst h0
    go_enter Tryz.func13, Tryz.ntmps13
    go_wp2
    go_ret
    exact ⟨rfl, Below.refl _ _⟩
  · have HE := Lib.hid (hexE_ne h0)
    have h1 : s.isEmpty = false := by cases s <;> simp_all
    have h2 : (s == []) = false := by cases s <;> simp_all
    clear h0
    go_enter Tryz.func13, Tryz.ntmps13
    go_wp2
    go_loopw [3, 4] (fun t i wr => ∃ k : Nat, k ≤ s.length ∧ i = .int .i64 k ∧ t = .string ⟨(hxT (s.take k)).toArray⟩ ∧ Below w.heap.size w wr) (fun _ i _ => s.length - (intOf i).toNat)
    case atStart => exact ⟨0, Nat.zero_le _, rfl, rfl, Below.refl _ _⟩
    case round =>
      obtain ⟨k, hk, rfl, rfl, hb⟩ := hrel
      have hTl := hxT_len (s.take k)
      rw [List.length_take] at hTl
      by_cases hlt : k < s.length
      · have i1 : (k : Int) < (s.length : Int) := by omega
        have i0 : (0 : Int) ≤ (k : Int) := by omega
        have Hnx := Lib.hid (hxT_next hlt)
        have hu := u8lt s[k]
        have e1 : (s[k].toNat : Int) / 16 = ((s[k].toNat / 16 : Nat) : Int) := by omega
        have e2 : (s[k].toNat : Int) % 16 = ((s[k].toNat % 16 : Nat) : Int) := by omega
        have e3 : (s[k].toNat : Int).tdiv 16 = ((s[k].toNat / 16 : Nat) : Int) := by rw [Int.tdiv_eq_ediv_of_nonneg (by omega)]; exact e1
        have e4 : (s[k].toNat : Int).tmod 16 = ((s[k].toNat % 16 : Nat) : Int) := by rw [Int.tmod_eq_emod_of_nonneg (by omega)]; exact e2
        have hlo : s[k].toNat % 16 < 16 := by omega
        have hhi : s[k].toNat / 16 < 16 := by omega
        generalize hxT (s.take k) = T at *
        generalize s[k].toNat % 16 = lo at *
        generalize s[k].toNat / 16 = hi at *
        have hTl2 : T.length ≤ 2000000 := by omega
        clear hTl
        go_wp2
        refine wp_region_bel (by kernel_rfl) (by kernel_rfl) ?_
        repeat (first
          | go_big_quiet_skip
          | (go_big_quiet_want; (go_big_quiet_op; go_big_quiet_on)))
        refine wpQuiet_nil ?_
        rintro _ ⟨x, rfl⟩
        have hbx := bel_tr hb x.bel
        have i7 : ((lo : Nat) : Int) < 16 := by omega
        have i8 : ((hi : Nat) : Int) < 16 := by omega
        have t7 : ((lo : Int) + 1).toNat = lo + 1 := by omega
        have t8 : ((hi : Int) + 1).toNat = hi + 1 := by omega
        have k0 : (0 : Int) ≤ (lo : Int) + 1 := by omega
        have k1 : (lo : Int) + 1 ≤ 16 := by omega
        have k2 : (lo : Int) ≤ (lo : Int) + 1 := by omega
        have k3 : (0 : Int) ≤ (hi : Int) + 1 := by omega
        have k4 : (hi : Int) + 1 ≤ 16 := by omega
        have k5 : (hi : Int) ≤ (hi : Int) + 1 := by omega
        have k6 : IntKind.i64.wrap ((lo : Int) + 1) = (lo : Int) + 1 := IntWalk.i64_in _ (by omega)
        have k7 : IntKind.i64.wrap ((hi : Int) + 1) = (hi : Int) + 1 := IntWalk.i64_in _ (by omega)
        have hcl : List.drop lo (48 :: List.take lo [49, 50, 51, 52, 53, 54, 55, 56, 57, 97, 98, 99, 100, 101, 102]) = [fig lo] := figL_cut hlo
        have hch : List.drop hi (48 :: List.take hi [49, 50, 51, 52, 53, 54, 55, 56, 57, 97, 98, 99, 100, 101, 102]) = [fig hi] := figL_cut hhi
        generalize x.at_ = wx at *
        go_wp2
        refine wp_region_bel (by kernel_rfl) (by kernel_rfl) ?_
        repeat (first
          | go_big_quiet_skip
          | (go_big_quiet_want; (go_big_quiet_op; go_big_quiet_on)))
        refine wpQuiet_nil ?_
        rintro _ ⟨y, rfl⟩
        have Hby := Lib.hid (bel_tr hbx y.bel)
        clear hcl hch k0 k1 k2 k3 k4 k5 k6 k7 t7 t8
        go_wp2
        go_roundw
        case rel => exact ⟨k + 1, by omega, by go_num, by rw [Hnx.out], Hby.out⟩
        case measure => (simp [intOf]) <;> omega
      · obtain rfl : k = s.length := by omega
        have i1 : ¬ (s.length : Int) < (s.length : Int) := by omega
        have Hb := Lib.hid hb
        go_wp2
        go_ret
        exact ⟨by rw [HE.out]; rfl, Hb.out⟩
theorem fig_at {n : Nat} (h : n < 16) : ([48, 49, 50, 51, 52, 53, 54, 55, 56, 57, 97, 98, 99, 100, 101, 102] : List UInt8)[n]'h = fig n := by
  have : ∀ n : Fin 16, ([48, 49, 50, 51, 52, 53, 54, 55, 56, 57, 97, 98, 99, 100, 101, 102] : List UInt8)[n.val]'n.isLt = fig n.val := by decide
  exact this ⟨n, h⟩
set_option maxRecDepth 100000 in
set_option maxHeartbeats 4000000 in
theorem hex44_any (s : List UInt8) (w : World) (hl : s.length ≤ 1000000) : Calls Tryz.prog 12 #[.string ⟨s.toArray⟩] w (HexPost w s) := by
  by_cases h0 : s = []
  · subst h0
    go_enter Tryz.func12, Tryz.ntmps12
    go_wp2
    go_ret
    exact ⟨rfl, Below.refl _ _⟩
  · have HE := Lib.hid (hexE_ne h0)
    have h1 : s.isEmpty = false := by cases s <;> simp_all
    have h2 : (s == []) = false := by cases s <;> simp_all
    clear h0
    go_enter Tryz.func12, Tryz.ntmps12
    go_wp2_with (first
      | ((with_reducible show wpList _ _ _ (⟨some 10, _, _, _, _, _⟩ :: _) _ _); refine wpList_makeE (o := ⟨some 10, _, _, _, _, _⟩) rfl _ _ _ rfl elt_bytes (2 * s.length) rfl rfl (by first | rfl | (simp; done) | omega) (by omega) (by omega) ?_; intro v2 w2 ho2 hb2; obtain ⟨A2, k2, rfl⟩ := own_any ho2; have Ho2 := Lib.hid ho2; have Hb2 := Lib.hid hb2; clear ho2 hb2; refine holdL ?_))
    refine Lib.hid ?_
    go_wp2
    go_loopw [3, 13] (fun v i wr => ∃ k : Nat, k ≤ s.length ∧ i = .int .i64 k ∧ wr.ownsRow w.heap.size 5 1 v (hxT (s.take k)).length ((hxT (s.take k)).map byv) ∧ Below w.heap.size w wr) (fun _ i _ => s.length - (intOf i).toNat)
    case atStart => exact ⟨0, Nat.zero_le _, rfl, Ho2.out, Hb2.out⟩
    case round =>
      obtain ⟨k, hk, rfl, hown, hb⟩ := hrel
      have hTl := hxT_len (s.take k)
      rw [List.length_take] at hTl
      obtain ⟨A3, k3, rfl⟩ := own_any hown
      by_cases hlt : k < s.length
      · have i1 : (k : Int) < (s.length : Int) := by omega
        have i0 : (0 : Int) ≤ (k : Int) := by omega
        have Hnx := Lib.hid (hxT_next hlt)
        have hu := u8lt s[k]
        have a15 := and_u8_15 s[k]
        have e15 := shr_u8_4 s[k]
        have hlo : s[k].toNat % 16 < 16 := by omega
        have hhi : s[k].toNat / 16 < 16 := by omega
        generalize hxT (s.take k) = T at *
        generalize s[k].toNat % 16 = lo at *
        generalize s[k].toNat / 16 = hi at *
        have hTl2 : T.length ≤ 2000000 := by omega
        have i7 : ((lo : Nat) : Int) < 16 := by omega
        have i8 : ((hi : Nat) : Int) < 16 := by omega
        clear hTl
        have Hown := Lib.hid hown
        clear hown
        go_wp2
        have hfh := fig_at hhi
        have hfl := fig_at hlo
        refine wp_region_held (S := fun _ => True) (by kernel_rfl) ?_
        refine wpAnyH_take (i := 0) (oi := ⟨some 16, _, _, _, _, none⟩) (v := .slice A3 T.length k3) rfl (by kernel_rfl) (by kernel_rfl) (by kernel_rfl) (fun _ _ _ h => h) (Or.inl ⟨by rfl, fun w' hS' => by go_simp⟩) trivial ?_
        simp only [Act.put, List.setIfInBounds_toArray, List.set_cons_zero, List.set_cons_succ]
        refine wpAnyH_take (i := 1) (oi := ⟨some 17, _, _, _, _, none⟩) (v := .string ⟨s.toArray⟩) rfl (by kernel_rfl) (by kernel_rfl) (by kernel_rfl) (fun _ _ _ h => h) (Or.inl ⟨by rfl, fun w' hS' => by go_simp⟩) trivial ?_
        simp only [Act.put, List.setIfInBounds_toArray, List.set_cons_zero, List.set_cons_succ]
        refine wpAnyH_take (i := 2) (oi := ⟨some 18, _, _, _, _, none⟩) (v := .int .i64 (k : Int)) rfl (by kernel_rfl) (by kernel_rfl) (by kernel_rfl) (fun _ _ _ h => h) (Or.inl ⟨by rfl, fun w' hS' => by go_simp⟩) trivial ?_
        simp only [Act.put, List.setIfInBounds_toArray, List.set_cons_zero, List.set_cons_succ]
        refine wpAnyH_take (i := 3) (oi := ⟨some 19, _, _, _, _, none⟩) (v := .int .u8 (s[k].toNat : Int)) rfl (by kernel_rfl) (by kernel_rfl) (by kernel_rfl) (fun _ _ _ h => h) (Or.inl ⟨by rfl, fun w' hS' => by go_simp⟩) trivial ?_
        simp only [Act.put, List.setIfInBounds_toArray, List.set_cons_zero, List.set_cons_succ]
        refine wpAnyH_take (i := 4) (oi := ⟨some 20, _, _, _, _, none⟩) (v := .int .u8 (hi : Int)) rfl (by kernel_rfl) (by kernel_rfl) (by kernel_rfl) (fun _ _ _ h => h) (Or.inl ⟨by rfl, fun w' hS' => by go_simp⟩) trivial ?_
        simp only [Act.put, List.setIfInBounds_toArray, List.set_cons_zero, List.set_cons_succ]
        refine wpAnyH_take (i := 5) (oi := ⟨some 21, _, _, _, _, none⟩) (v := .int .u8 ((fig hi).toNat : Int)) rfl (by kernel_rfl) (by kernel_rfl) (by kernel_rfl) (fun _ _ _ h => h) (Or.inl ⟨by rfl, fun w' hS' => by go_simp⟩) trivial ?_
        simp only [Act.put, List.setIfInBounds_toArray, List.set_cons_zero, List.set_cons_succ]
        refine wpAnyH_take (i := 6) (oi := ⟨some 22, _, _, _, _, none⟩) (v := .string ⟨s.toArray⟩) rfl (by kernel_rfl) (by kernel_rfl) (by kernel_rfl) (fun _ _ _ h => h) (Or.inl ⟨by rfl, fun w' hS' => by go_simp⟩) trivial ?_
        simp only [Act.put, List.setIfInBounds_toArray, List.set_cons_zero, List.set_cons_succ]
        refine wpAnyH_take (i := 7) (oi := ⟨some 23, _, _, _, _, none⟩) (v := .int .i64 (k : Int)) rfl (by kernel_rfl) (by kernel_rfl) (by kernel_rfl) (fun _ _ _ h => h) (Or.inl ⟨by rfl, fun w' hS' => by go_simp⟩) trivial ?_
        simp only [Act.put, List.setIfInBounds_toArray, List.set_cons_zero, List.set_cons_succ]
        refine wpAnyH_take (i := 8) (oi := ⟨some 24, _, _, _, _, none⟩) (v := .int .u8 (s[k].toNat : Int)) rfl (by kernel_rfl) (by kernel_rfl) (by kernel_rfl) (fun _ _ _ h => h) (Or.inl ⟨by rfl, fun w' hS' => by go_simp⟩) trivial ?_
        simp only [Act.put, List.setIfInBounds_toArray, List.set_cons_zero, List.set_cons_succ]
        refine wpAnyH_take (i := 9) (oi := ⟨some 25, _, _, _, _, none⟩) (v := .int .u8 (lo : Int)) rfl (by kernel_rfl) (by kernel_rfl) (by kernel_rfl) (fun _ _ _ h => h) (Or.inl ⟨by rfl, fun w' hS' => by go_simp⟩) trivial ?_
        simp only [Act.put, List.setIfInBounds_toArray, List.set_cons_zero, List.set_cons_succ]
        refine wpAnyH_take (i := 10) (oi := ⟨some 26, _, _, _, _, none⟩) (v := .int .u8 ((fig lo).toNat : Int)) rfl (by kernel_rfl) (by kernel_rfl) (by kernel_rfl) (fun _ _ _ h => h) (Or.inl ⟨by rfl, fun w' hS' => by go_simp⟩) trivial ?_
        simp only [Act.put, List.setIfInBounds_toArray, List.set_cons_zero, List.set_cons_succ]
        clear hfh hfl
        refine wpAnyH_all (rs := [11]) (by kernel_rfl) (by decide) ?_
        intro i hi9
        obtain rfl := List.mem_singleton.1 hi9
        refine wpOp_of_list (o := ⟨some 27, _, _, _, _, none⟩) rfl ?_
        refine wpList_lit (o := ⟨some 27, _, _, _, _, none⟩) rfl _ _ rfl elt_bytes [.int .u8 ((fig hi).toNat : Int), .int .u8 ((fig lo).toNat : Int)] rfl (by decide) (by decide) (fun v hv => by simp at hv; rcases hv with rfl | rfl <;> rfl) rfl ?_
        intro w8 hB8 hx8 hb8 hs8
        have hb8' := bel_drew hb8
        have Hx8 := Lib.hid (Sl.own hx8)
        have Ho8 := Lib.hid (own_below Hown.out hb8')
        have hb08 := bel_tr hb hb8'
        clear hB8 hx8 hs8
        show _ ∧ _
        refine ⟨trivial, ?_⟩
        simp only [Act.put, List.setIfInBounds_toArray, List.set_cons_zero, List.set_cons_succ]
        refine wpAnyH_all (rs := [12]) (by kernel_rfl) (by decide) ?_
        intro i hi9
        obtain rfl := List.mem_singleton.1 hi9
        refine wpOp_of_list (o := ⟨some 28, _, _, _, _, none⟩) rfl ?_
        refine wpList_app (o := ⟨some 28, _, _, _, _, none⟩) rfl (.tmp 16) (.tmp 27) _ rfl elt_bytes rfl Ho8.out rfl Hx8.out (fun v hv => by simp [Value.cells] at hv; rcases hv with rfl | rfl <;> rfl) hb08.size (by omega) (by omega) ?_
        intro v9 w9 ho9 hb9 hg9
        have hb09 := hb08.trans hb9
        obtain ⟨a9, c9, rfl⟩ := own_any ho9
        show _ ∧ _
        refine ⟨trivial, ?_⟩
        simp only [Act.put, List.setIfInBounds_toArray, List.set_cons_zero, List.set_cons_succ]
        refine wpAnyH_take (i := 13) (oi := ⟨some 3, _, _, _, _, none⟩) (v := .slice a9 (T.length + 2) c9) rfl (by kernel_rfl) (by kernel_rfl) (by kernel_rfl) (fun _ _ _ h => h) (Or.inl ⟨by rfl, fun w' hS' => by go_simp⟩) trivial ?_
        simp only [Act.put, List.setIfInBounds_toArray, List.set_cons_zero, List.set_cons_succ]
        refine wpAnyH_done (by kernel_rfl) ?_ _
        go_wp2
        go_roundw
        case rel => exact ⟨k + 1, by omega, by go_num, by rw [Hnx.out, List.length_append, List.map_append]; exact ho9, hb09⟩
        case measure => (simp [intOf]) <;> omega
      · obtain rfl : k = s.length := by omega
        have i1 : ¬ (s.length : Int) < (s.length : Int) := by omega
        rw [List.take_length] at hown
        have hcv := str_run (Sl.own hown)
        have Hb := Lib.hid hb
        go_wp2
        go_ret
        exact ⟨by rw [HE.out]; rfl, Hb.out⟩
end Go.Proofs.YtgebcifkbldfoaaGreatDoor

/- script: an event's line, by the program and by the reference. PRINTED by wip/tools/mk_scp.py. -/
namespace Go.Proofs.YtgebcifkbldfoaaGreatDoor
open Go.RowKit
attribute [local go_sem] ba_get ext_take ext_drop ext_any ba_app

def LnPost (w : World) (e : Ev) (r : Ending) (w' : World) : Prop := r = .returned (datV (lnEv e)) ∧ Below w.heap.size w w'
theorem hexE_len (d : List UInt8) : (hexE d).length ≤ 2 * d.length + 1 := by
  unfold hexE
  split
  · simp
  · rw [hxT_len]; omega
theorem itoa_len {n : Int} (h : PrtP n) : (Lib.itoa n).length ≤ 21 := Lib.itoa_length_le n (by have := h.1; omega) (by have := h.2; omega)
theorem joi_len4 : ∀ A : List (List UInt8), (joi [32] A).length ≤ (A.map (fun x => x.length + 1)).sum
  | [] => Nat.zero_le _
  | x :: A => by
    have h := congrArg List.length (joi_bT4 (x :: A) (by simp))
    have h2 : ∀ A : List (List UInt8), (bT4 A).length = (A.map (fun x => x.length + 1)).sum := fun A => by
      induction A with
      | nil => rfl
      | cons y A ih => rw [bT_cons4, List.length_cons, List.length_append, ih, List.map_cons, List.sum_cons]; omega
    rw [h2, List.length_cons] at h
    omega
theorem linE_len {e : Ev} (h : chkE e = 0) : (linE e).length ≤ 2 * e.d.length + 1100 := by
  obtain ⟨h1, h2, h3, h4, h5, h6, h7⟩ := chkE_ok h
  have hj := joi_len4 (wrdE e)
  have ha := adrT_len e.a
  have hd := hexE_len e.d
  have hp : e.k ≠ 1 → (Lib.itoa e.p).length ≤ 21 := fun hk => itoa_len (h3 hk)
  have hf : e.k = 2 → (Lib.itoa e.fp).length ≤ 21 := fun hk => itoa_len (h2 hk).2
  have w1 : wTick.length = 4 ∧ wPacket.length = 6 ∧ wOpen.length = 4 ∧ wBytes.length = 5 ∧ wClose.length = 5 := by decide
  unfold linE
  refine Nat.le_trans hj ?_
  unfold wrdE
  rcases (show e.k = 1 ∨ e.k = 2 ∨ e.k = 3 ∨ e.k = 4 ∨ e.k = 5 by omega) with hk | hk | hk | hk | hk
  · rw [if_pos hk]; simp; omega
  · have := hp (by omega); have := hf hk
    rw [if_neg (by omega), if_pos hk]; simp; omega
  · have := hp (by omega)
    rw [if_neg (by omega), if_neg (by omega), if_pos hk]; simp; omega
  · have := hp (by omega)
    rw [if_neg (by omega), if_neg (by omega), if_neg (by omega), if_pos hk]; simp; omega
  · have := hp (by omega)
    rw [if_neg (by omega), if_neg (by omega), if_neg (by omega), if_neg (by omega)]; simp; omega
theorem lnEv_bad {e : Ev} (h : chkE e ≠ 0) : lnEv e = .inl (chkE e) := if_pos h
theorem lnEv_ok {e : Ev} (h : chkE e = 0) : lnEv e = .inr (linE e) := if_neg (by simp [h])
end Go.Proofs.YtgebcifkbldfoaaGreatDoor

/- script: what is wrong with an event, by the program and by the reference. PRINTED by wip/tools/mk_scn.py. -/
namespace Go.Proofs.YtgebcifkbldfoaaGreatDoor
open Go.RowKit
attribute [local go_sem] ba_get ext_take ext_drop ext_any ba_app

theorem port_any (n : Int) (w : World) : Calls Tryz.prog 27 #[.int .i64 n] w fun e w' => e = .returned (.bool (decide (PrtP n))) ∧ w = w' := by
  have HP : Hid (decide (PrtP n) = (decide (0 ≤ n) && decide (n ≤ 65535))) := Lib.hid (by rw [Bool.eq_iff_iff, Bool.and_eq_true, decide_eq_true_iff, decide_eq_true_iff, decide_eq_true_iff]; exact Iff.rfl)
  by_cases h0 : 0 ≤ n
  · by_cases h1 : n ≤ 65535
    all_goals
      go_enter Tryz.func27, Tryz.ntmps27
      go_wp2
      go_ret
      exact ⟨by rw [HP.out]; simp [h0, h1], rfl⟩
  · go_enter Tryz.func27, Tryz.ntmps27
    go_wp2
    go_ret
    exact ⟨by rw [HP.out, decide_eq_false (by omega : ¬ 0 ≤ n)]; rfl, rfl⟩
theorem rout_any (n : Int) (w : World) : Calls Tryz.prog 29 #[.int .i64 n] w fun e w' => e = .returned (.bool (!decide (PrtP n))) ∧ w = w' := by
  have HP : Hid ((!decide (PrtP n)) = (decide (n < 0) || decide (65535 < n))) := Lib.hid (by
    have h : PrtP n ↔ ¬ (n < 0 ∨ 65535 < n) := by unfold PrtP; omega
    by_cases h1 : n < 0 ∨ 65535 < n
    · rw [decide_eq_false (fun h2 => h.1 h2 h1)]
      rcases h1 with h1 | h1
      · rw [decide_eq_true h1]; rfl
      · rw [decide_eq_true h1]; simp
    · rw [decide_eq_true (h.2 h1), decide_eq_false (fun h2 => h1 (.inl h2)), decide_eq_false (fun h2 => h1 (.inr h2))]; rfl)
  by_cases h0 : n < 0
  · go_enter Tryz.func29, Tryz.ntmps29
    go_wp2
    go_ret
    exact ⟨by rw [HP.out, decide_eq_true h0]; rfl, rfl⟩
  · by_cases h1 : 65535 < n
    all_goals
      go_enter Tryz.func29, Tryz.ntmps29
      go_wp2
      go_ret
      exact ⟨by rw [HP.out, decide_eq_false (by omega : ¬ n < 0)]; first | (rw [decide_eq_true (by omega : 65535 < n)]; rfl) | (rw [decide_eq_false (by omega : ¬ 65535 < n)]; rfl), rfl⟩
/-- what is wrong, by eight tests. -/
def chkB (k : Int) (bc bf bp ba bz bq bl be : Bool) : Int :=
  if k < 1 ∨ 5 < k then 10
  else if k = 2 ∧ bc = true then 5
  else if k = 2 ∧ bf = false then 4
  else if k ≠ 1 ∧ bp = false then 4
  else if (k = 2 ∨ k = 4) ∧ bl = true then 3
  else if k ≠ 2 ∧ (ba = true ∨ bz = true) then 5
  else if k = 1 ∧ bq = true then 5
  else if ¬ (k = 2 ∨ k = 4) ∧ be = false then 5
  else 0
theorem chkE_B (k : Int) (a : Ad) (fp p : Int) (d : List UInt8) : chkE ⟨k, a, fp, p, d⟩ = chkB k (chkA a != 0) (decide (PrtP fp)) (decide (PrtP p)) (!decide (a = ad0)) (fp != 0) (p != 0) (decide ((65535 : Int) < (d.length : Int))) d.isEmpty := by
  have e : ((65535 : Int) < (d.length : Int)) = (65535 < d.length) := propext ⟨fun h => by omega, fun h => by omega⟩
  unfold chkE chkB
  simp [e]
theorem chkB_no {k : Int} {bc bf bp ba bz bq bl be : Bool} (h : k < 1 ∨ 5 < k) : chkB k bc bf bp ba bz bq bl be = 10 := if_pos h
theorem wpList_neqAdR {w : World} {ops : Array Oper} {rest : List Oper} {o : Oper} {a : Act} {Q : Exit → Act → World → Prop} (hgd : o.guard = none) (x y : Operand) {t : TypeId} (ho : o.op = .binOp .neq 31 x y t) {b c : Ad} (hx : a.eval x = .agg (adA b)) (hy : a.eval y = .agg (adA c)) {r : Bool} (hr : (!decide (b = c)) = r)
    (h : wpList Tryz.prog ops Q rest (a.put o.dst (.bool r)) w) : wpList Tryz.prog ops Q (o :: rest) a w := by
  subst hr
  exact wpList_neqAd hgd x y ho hx hy h
theorem Bk.range_ev {w : World} {g : Nat} {t : TypeId} {k fp p : Int} {a : Ad} {d : List UInt8} (h : Bk w g t (evA ⟨k, a, fp, p, d⟩)) : w.rangeAt g 1 (adL a) := h.rangeL (cs := evL ⟨k, a, fp, p, d⟩) 1 (adL a) [.int .i64 fp, .int .i64 p, stv d] rfl
theorem built_adz : Tryz.prog.built 31 [] = some (adA ad0) := by kernel_rfl
end Go.Proofs.YtgebcifkbldfoaaGreatDoor

/- script: what is wrong with an event, by the program. PRINTED by wip/tools/mk_scn.py. -/
namespace Go.Proofs.YtgebcifkbldfoaaGreatDoor
open Go.RowKit
attribute [local go_sem] ba_get ext_take ext_drop ext_any ba_app
set_option maxRecDepth 100000 in
set_option maxHeartbeats 8000000 in
theorem scheck_any (e : Ev) (w : World) : Calls Tryz.prog 10 #[.agg (evA e)] w fun e' w' => e' = .returned (.int .i64 (chkE e)) ∧ Below w.heap.size w w' := by
  obtain ⟨k, a, fp, p, d⟩ := e
  have HC := Lib.hid (chkE_B k a fp p d)
  obtain ⟨c, hc⟩ : ∃ c, chkA a = c := ⟨_, rfl⟩
  have HA : Hid (∀ w', Calls Tryz.prog 26 #[.agg (adA a)] w' fun e w'' => e = .returned (.int .i64 c) ∧ Below w'.heap.size w' w'') := Lib.hid (fun w' => by rw [← hc]; exact acheck_any a w')
  have HF := Lib.hid (fun w' => port_any fp w')
  have HP := Lib.hid (fun w' => port_any p w')
  rw [hc] at HC
  generalize h1 : (c != 0) = bc at *
  generalize h2 : decide (PrtP fp) = bf at *
  generalize h3 : decide (PrtP p) = bp at *
  generalize h4 : (!decide (a = ad0)) = ba at *
  generalize h5 : (fp != 0) = bz at *
  generalize h6 : (p != 0) = bq at *
  generalize h7 : decide ((65535 : Int) < (d.length : Int)) = bl at *
  generalize h8 : d.isEmpty = be at *
  have h9 : (d == []) = be := by rw [← h8]; cases d <;> rfl
  have H4 := Lib.hid h4
  clear h2 h3 h4 hc
  rcases (show k < 1 ∨ 5 < k ∨ k = 1 ∨ k = 2 ∨ k = 3 ∨ k = 4 ∨ k = 5 by omega) with hk | hk | rfl | rfl | rfl | rfl | rfl
  case' inl => have e2 : (k == 2) = false := beq_eq_false_iff_ne.2 (by omega)
  case' inl => have e4 : (k == 4) = false := beq_eq_false_iff_ne.2 (by omega)
  case' inl => rw [chkB_no (.inl hk)] at HC
  case' inr.inl => have e2 : (k == 2) = false := beq_eq_false_iff_ne.2 (by omega)
  case' inr.inl => have e4 : (k == 4) = false := beq_eq_false_iff_ne.2 (by omega)
  case' inr.inl => have e5 : ¬ k < 1 := by omega
  case' inr.inl => rw [chkB_no (.inr hk)] at HC
  case' inr.inr.inl => rcases (show ba = true ∨ (ba = false ∧ bz = true) ∨ (ba = false ∧ bz = false ∧ bq = true) ∨ (ba = false ∧ bz = false ∧ bq = false ∧ be = false) ∨ (ba = false ∧ bz = false ∧ bq = false ∧ be = true) by cases ba <;> cases bz <;> cases bq <;> cases be <;> simp) with rfl | ⟨rfl, rfl⟩ | ⟨rfl, rfl, rfl⟩ | ⟨rfl, rfl, rfl, rfl⟩ | ⟨rfl, rfl, rfl, rfl⟩
  case' inr.inr.inr.inl => rcases (show bc = true ∨ (bc = false ∧ bf = false) ∨ (bc = false ∧ bf = true ∧ bp = false) ∨ (bc = false ∧ bf = true ∧ bp = true ∧ bl = true) ∨ (bc = false ∧ bf = true ∧ bp = true ∧ bl = false) by cases bc <;> cases bf <;> cases bp <;> cases bl <;> simp) with rfl | ⟨rfl, rfl⟩ | ⟨rfl, rfl, rfl⟩ | ⟨rfl, rfl, rfl, rfl⟩ | ⟨rfl, rfl, rfl, rfl⟩
  case' inr.inr.inr.inr.inl => rcases (show bp = false ∨ (bp = true ∧ ba = true) ∨ (bp = true ∧ ba = false ∧ bz = true) ∨ (bp = true ∧ ba = false ∧ bz = false ∧ be = false) ∨ (bp = true ∧ ba = false ∧ bz = false ∧ be = true) by cases bp <;> cases ba <;> cases bz <;> cases be <;> simp) with rfl | ⟨rfl, rfl⟩ | ⟨rfl, rfl, rfl⟩ | ⟨rfl, rfl, rfl, rfl⟩ | ⟨rfl, rfl, rfl, rfl⟩
  case' inr.inr.inr.inr.inr.inl => rcases (show bp = false ∨ (bp = true ∧ bl = true) ∨ (bp = true ∧ bl = false ∧ ba = true) ∨ (bp = true ∧ bl = false ∧ ba = false ∧ bz = true) ∨ (bp = true ∧ bl = false ∧ ba = false ∧ bz = false) by cases bp <;> cases ba <;> cases bz <;> cases bl <;> simp) with rfl | ⟨rfl, rfl⟩ | ⟨rfl, rfl, rfl⟩ | ⟨rfl, rfl, rfl, rfl⟩ | ⟨rfl, rfl, rfl, rfl⟩
  case' inr.inr.inr.inr.inr.inr => rcases (show bp = false ∨ (bp = true ∧ ba = true) ∨ (bp = true ∧ ba = false ∧ bz = true) ∨ (bp = true ∧ ba = false ∧ bz = false ∧ be = false) ∨ (bp = true ∧ ba = false ∧ bz = false ∧ be = true) by cases bp <;> cases ba <;> cases bz <;> cases be <;> simp) with rfl | ⟨rfl, rfl⟩ | ⟨rfl, rfl, rfl⟩ | ⟨rfl, rfl, rfl, rfl⟩ | ⟨rfl, rfl, rfl, rfl⟩
  all_goals
    go_enter Tryz.func10, Tryz.ntmps10
    go_wp2_with (first
      | ((with_reducible show wpList _ _ _ (⟨some 1, _, _, _, _, none⟩ :: _) _ _); refine wpList_boxB (o := ⟨some 1, _, _, _, _, _⟩) rfl _ _ rfl rfl ?_; intro g w1 hg hB hb hs; have HB := Lib.hid hB; have Hb := Lib.hid hb; clear hg hs hB hb))
    have c0 : w1.cell? ⟨g, 0, none⟩ = _ := (HB.out.cell 0).trans (evA_0 _)
    dsimp only at c0
    refine wp_region_bel (by kernel_rfl) (by kernel_rfl) ?_
    repeat (first
      | go_big_quiet_skip
      | (go_big_quiet_want; first
          | ((with_reducible show (⟨some 6, _, _, _, _, _⟩ : Oper).quiet _ _ _ _); refine quiet_loadC (o := ⟨some 6, _, _, _, _, _⟩) _ _ rfl rfl c0 Tryz.underlying3 rfl (by simp only [Act.put, List.setIfInBounds_toArray, List.set_cons_succ, List.set_cons_zero]; exact rfl) ?_; go_big_quiet_on)
          | ((with_reducible show (⟨some 9, _, _, _, _, _⟩ : Oper).quiet _ _ _ _); refine quiet_loadC (o := ⟨some 9, _, _, _, _, _⟩) _ _ rfl rfl c0 Tryz.underlying3 rfl (by simp only [Act.put, List.setIfInBounds_toArray, List.set_cons_succ, List.set_cons_zero]; exact rfl) ?_; go_big_quiet_on)
          | ((with_reducible show (⟨some 13, _, _, _, _, _⟩ : Oper).quiet _ _ _ _); refine quiet_loadC (o := ⟨some 13, _, _, _, _, _⟩) _ _ rfl rfl c0 Tryz.underlying3 rfl (by simp only [Act.put, List.setIfInBounds_toArray, List.set_cons_succ, List.set_cons_zero]; exact rfl) ?_; go_big_quiet_on)
          | (go_big_quiet_op; go_big_quiet_on)))
    refine wpQuiet_nil ?_
    rintro _ ⟨x, rfl⟩
    clear c0
    have HB := Lib.hid (HB.out.bel x.bel)
    have Hb := Lib.hid (bel_tr Hb.out x.bel)
    have c0 : x.at_.cell? ⟨g, 0, none⟩ = _ := (HB.out.cell 0).trans (evA_0 _)
    have c19 : x.at_.cell? ⟨g, 19, none⟩ = _ := (HB.out.cell 19).trans (evA_19 _)
    have c20 : x.at_.cell? ⟨g, 20, none⟩ = _ := (HB.out.cell 20).trans (evA_20 _)
    have c21 : x.at_.cell? ⟨g, 21, none⟩ = _ := (HB.out.cell 21).trans (evA_21 _)
    have R1 := Lib.hid (HB.out.range_ev)
    dsimp only at c0 c19 c20 c21
    go_wp2_with (first
      | ((with_reducible show wpList _ _ _ (⟨some 29, _, _, _, _, some _⟩ :: _) _ _); refine wpList_guarded (o := ⟨some 29, _, _, _, _, _⟩) rfl ?_)
      | ((with_reducible show wpList _ _ _ (⟨some 64, _, _, _, _, some _⟩ :: _) _ _); refine wpList_guarded (o := ⟨some 64, _, _, _, _, _⟩) rfl ?_)
      | ((with_reducible show wpList _ _ _ (⟨some 65, _, _, _, _, some _⟩ :: _) _ _); refine wpList_guarded (o := ⟨some 65, _, _, _, _, _⟩) rfl ?_)
      | ((with_reducible show wpList _ _ _ (⟨some 66, _, _, _, _, some _⟩ :: _) _ _); refine wpList_guarded (o := ⟨some 66, _, _, _, _, _⟩) rfl ?_)
      | ((with_reducible show wpList _ _ _ (⟨some 29, _, _, _, _, none⟩ :: _) _ _); refine wpList_loadAdM (o := ⟨some 29, _, _, _, _, _⟩) rfl _ rfl rfl R1.out ?_)
      | ((with_reducible show wpList _ _ _ (⟨some 64, _, _, _, _, none⟩ :: _) _ _); refine wpList_loadAdM (o := ⟨some 64, _, _, _, _, _⟩) rfl _ rfl rfl R1.out ?_)
      | ((with_reducible show wpList _ _ _ (⟨some 65, _, _, _, _, none⟩ :: _) _ _); refine wpList_buildL (o := ⟨some 65, _, _, _, _, _⟩) rfl _ [] rfl built_adz rfl ?_)
      | ((with_reducible show wpList _ _ _ (⟨some 66, _, _, _, _, none⟩ :: _) _ _); refine wpList_neqAdR (o := ⟨some 66, _, _, _, _, _⟩) rfl _ _ rfl rfl rfl H4.out ?_)
      | (go_at_call 26; (with_reducible refine (HA.out _).mono ?_); rintro e w3 ⟨rfl, hb3⟩; have HB := Lib.hid (HB.out.bel hb3); have Hb := Lib.hid (bel_tr Hb.out hb3); clear hb3 c0 c19 c20 c21 R1; have c0 : w3.cell? ⟨g, 0, none⟩ = _ := (HB.out.cell 0).trans (evA_0 _); have c19 : w3.cell? ⟨g, 19, none⟩ = _ := (HB.out.cell 19).trans (evA_19 _); have c20 : w3.cell? ⟨g, 20, none⟩ = _ := (HB.out.cell 20).trans (evA_20 _); have c21 : w3.cell? ⟨g, 21, none⟩ = _ := (HB.out.cell 21).trans (evA_21 _); have R1 := Lib.hid (HB.out.range_ev); dsimp only at c0 c19 c20 c21)
      | (go_at_call 27; (with_reducible refine (HF.out _).mono ?_); rintro e w4 ⟨rfl, h4⟩; have h5 := h4.symm; subst h5; clear h4)
      | (go_at_call 27; (with_reducible refine (HP.out _).mono ?_); rintro e w4 ⟨rfl, h4⟩; have h5 := h4.symm; subst h5; clear h4))
    go_ret
    exact ⟨by rw [HC.out]; rfl, Hb.out⟩
end Go.Proofs.YtgebcifkbldfoaaGreatDoor
