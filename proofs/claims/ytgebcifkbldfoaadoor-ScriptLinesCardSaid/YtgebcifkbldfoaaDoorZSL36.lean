/- Contracts and plain lemmas of our own, merged. -/
import Derived.Test.YtgebcifkbldfoaaDoorZSL19
import Derived.Test.YtgebcifkbldfoaaDoorZSL25
import Derived.Test.YtgebcifkbldfoaaDoorZSL28
import Derived.Test.YtgebcifkbldfoaaDoorZSL29
import Derived.Test.YtgebcifkbldfoaaDoorZSL32
import Derived.Test.YtgebcifkbldfoaaDoorZSL34
import Derived.Test.YtgebcifkbldfoaaDoorZSL35
import Derived.Test.YtgebcifkbldfoaaDoorZSL4
import Derived.Test.YtgebcifkbldfoaaDoorZSL9
/- What happens in the world: events, plain, and in memory. -/
namespace Go.Proofs.YtgebcifkbldfoaaDoor
open Go.RowKit
attribute [local go_sem] ba_get ext_take ext_drop ext_any ba_app

/-- one cell of a block is stored into. -/
theorem wpList_storeC {P : Program} {w : World} {ops : Array Oper} {rest : List Oper} {o : Oper} {a : Act} {Q : Exit → Act → World → Prop} (hgd : o.guard = none) (ty : TypeId) (x y : Operand) (ho : o.op = .store ty x y) {g i : Nat} {v : Value} (hx : a.eval x = .pointer (some ⟨g, i, none⟩)) (hy : a.eval y = v) (h1 : v.oneCell' = true)
    {t : TypeId} {cs : Array Value} (hB : Bk w g t cs) (hi : i < cs.size) (hsz : (P.info? ty).map (·.size) = some 1)
    (h : ∀ w', Bk w' g t (cs.setIfInBounds i v) → Stays g w w' → wpList P ops Q rest (a.put o.dst undef) w') : wpList P ops Q (o :: rest) a w := by
  refine wpList_plain hgd fun _ hK => ?_
  have hr : (storeVar ty ⟨g, i, none⟩ v).run P w = .ok () (w.setCell ⟨g, i, none⟩ v) := by
    have := run_storeCells_cells (P := P) g i [v] 0 w (fun j hj => by
      have hj0 : j = 0 := by simpa using hj
      subst hj0
      rw [hB.cell, Array.getElem?_eq_getElem (by simpa using hi)]; rfl) (fun j _ => hB.free _) (fun u hu => by rw [List.mem_singleton.1 hu]; exact h1)
    have hc : v.cells = #[v] := by cases v <;> first | rfl | cases h1
    cases hq : P.info? ty with
    | none => simp [hq] at hsz
    | some ie =>
      have hs : ie.size = 1 := by simpa [hq] using hsz
      simp [storeVar, sizeOf, typeInfo, hq, hc, hs, this, World.setCells]
  unfold Oper.wp execOp
  simp only [ho, hx, hy, Instr.storeAt, Instr.sureAddr, Sem.run_bind, Sem.run_pure, Result.andThen_ok, hr]
  exact hK _ _ (h _ (hB.set_ i v) (Stays.cell w g i v))
structure Ev where
  k : Int
  a : Ad
  fp : Int
  p : Int
  d : List UInt8
def ev0 : Ev := ⟨0, ad0, 0, 0, []⟩
def evL (e : Ev) : List Value := .int .i64 e.k :: (adL e.a ++ [.int .i64 e.fp, .int .i64 e.p, stv e.d])
def evA (e : Ev) : Array Value := (evL e).toArray
theorem evL_len (e : Ev) : (evL e).length = 22 := by
  unfold evL
  rw [List.length_cons, List.length_append, adL_len]; rfl
theorem evA_size (e : Ev) : (evA e).size = 22 := by unfold evA; rw [List.size_toArray, evL_len]
theorem evL_one (e : Ev) : (evL e).toArray.all (·.oneCell') = true := by
  rw [List.all_toArray]
  unfold evL
  rw [List.all_cons, List.all_append]
  simp only [Bool.and_eq_true]
  exact ⟨rfl, List.all_eq_true.2 (adL_one e.a), rfl⟩
theorem ev_under : Tryd.prog.underlying 36 = some (.struct (Tryd.prog.fieldsOf 36)) := by kernel_rfl
theorem ev_size : (Tryd.prog.info? 36).map (·.size) = some 22 := by kernel_rfl
theorem ev_size' (x : Ev) : (Tryd.prog.info? 36).map (·.size) = some (evA x).size := by rw [evA_size]; exact ev_size
theorem ev_zero : ZeroIs Tryd.prog 36 (evA ev0) := by unfold ZeroIs; kernel_rfl
theorem built_ev0 : Tryd.prog.built 36 [] = some (evA ev0) := by kernel_rfl
/-- a reader: the fields, the event. -/
def rdL (v : Value) (e : Ev) : List Value := v :: evL e
def rdA (v : Value) (e : Ev) : Array Value := (rdL v e).toArray
theorem built_rd (A : Option Addr) (n c : Nat) : Tryd.prog.built 85 [(0, .slice A n c)] = some (rdA (.slice A n c) ev0) := by kernel_rfl
theorem rdA_size (v : Value) (e : Ev) : (rdA v e).size = 23 := by unfold rdA rdL; rw [List.size_toArray, List.length_cons, evL_len]
theorem rdA_k (v : Value) (e : Ev) (x : Int) : (rdA v e).setIfInBounds 1 (.int .i64 x) = rdA v { e with k := x } := by
  unfold rdA rdL evL
  rw [List.setIfInBounds_toArray]; rfl
theorem evT (e : Ev) : ∃ c0 c1 c2 c3 c4 c5 c6 c7 c8 c9 c10 c11 c12 c13 c14 c15 c16 c17, adL e.a = [c0, c1, c2, c3, c4, c5, c6, c7, c8, c9, c10, c11, c12, c13, c14, c15, c16, c17] := by
  have h := adL_len e.a
  generalize adL e.a = l at h
  match l, h with
  | [c0, c1, c2, c3, c4, c5, c6, c7, c8, c9, c10, c11, c12, c13, c14, c15, c16, c17], _ => exact ⟨_, _, _, _, _, _, _, _, _, _, _, _, _, _, _, _, _, _, rfl⟩
theorem rdA_fp (v : Value) (e : Ev) (x : Int) : (rdA v e).setIfInBounds 20 (.int .i64 x) = rdA v { e with fp := x } := by
  obtain ⟨c0, c1, c2, c3, c4, c5, c6, c7, c8, c9, c10, c11, c12, c13, c14, c15, c16, c17, h⟩ := evT e
  unfold rdA rdL evL
  rw [List.setIfInBounds_toArray, h]; rfl
theorem rdA_p (v : Value) (e : Ev) (x : Int) : (rdA v e).setIfInBounds 21 (.int .i64 x) = rdA v { e with p := x } := by
  obtain ⟨c0, c1, c2, c3, c4, c5, c6, c7, c8, c9, c10, c11, c12, c13, c14, c15, c16, c17, h⟩ := evT e
  unfold rdA rdL evL
  rw [List.setIfInBounds_toArray, h]; rfl
theorem rdA_d (v : Value) (e : Ev) (x : List UInt8) : (rdA v e).setIfInBounds 22 (.string ⟨x.toArray⟩) = rdA v { e with d := x } := by
  obtain ⟨c0, c1, c2, c3, c4, c5, c6, c7, c8, c9, c10, c11, c12, c13, c14, c15, c16, c17, h⟩ := evT e
  unfold rdA rdL evL
  rw [List.setIfInBounds_toArray, h]; rfl
theorem rdA_a (v : Value) (e : Ev) (x : Ad) : splA (rdA v e) 2 (adL x) = rdA v { e with a := x } := by
  obtain ⟨c0, c1, c2, c3, c4, c5, c6, c7, c8, c9, c10, c11, c12, c13, c14, c15, c16, c17, h⟩ := evT e
  have h2 := adL_len x
  unfold rdA rdL evL splA
  rw [h2, h]; rfl
theorem evA_k (e : Ev) (x : Int) : (evA e).setIfInBounds 0 (.int .i64 x) = evA { e with k := x } := by
  unfold evA evL
  rw [List.setIfInBounds_toArray]; rfl
theorem evA_fp (e : Ev) (x : Int) : (evA e).setIfInBounds 19 (.int .i64 x) = evA { e with fp := x } := by
  obtain ⟨c0, c1, c2, c3, c4, c5, c6, c7, c8, c9, c10, c11, c12, c13, c14, c15, c16, c17, h⟩ := evT e
  unfold evA evL
  rw [List.setIfInBounds_toArray, h]; rfl
theorem evA_p (e : Ev) (x : Int) : (evA e).setIfInBounds 20 (.int .i64 x) = evA { e with p := x } := by
  obtain ⟨c0, c1, c2, c3, c4, c5, c6, c7, c8, c9, c10, c11, c12, c13, c14, c15, c16, c17, h⟩ := evT e
  unfold evA evL
  rw [List.setIfInBounds_toArray, h]; rfl
theorem evA_d (e : Ev) (x : List UInt8) : (evA e).setIfInBounds 21 (.string ⟨x.toArray⟩) = evA { e with d := x } := by
  obtain ⟨c0, c1, c2, c3, c4, c5, c6, c7, c8, c9, c10, c11, c12, c13, c14, c15, c16, c17, h⟩ := evT e
  unfold evA evL
  rw [List.setIfInBounds_toArray, h]; rfl
theorem evA_a (e : Ev) (x : Ad) : splA (evA e) 1 (adL x) = evA { e with a := x } := by
  obtain ⟨c0, c1, c2, c3, c4, c5, c6, c7, c8, c9, c10, c11, c12, c13, c14, c15, c16, c17, h⟩ := evT e
  have h2 := adL_len x
  unfold evA evL splA
  rw [h2, h]; rfl

/-! ### the plain answer -/
def numR (s : List UInt8) : Int ⊕ Nat := if s ≠ [] ∧ s.all dgB = true then (if val s ≤ 65535 then .inr (val s) else .inl 4) else .inl 5
def hxs : List UInt8 → Option (List UInt8)
  | x :: y :: r => match hex (x.toNat : Int), hex (y.toNat : Int), hxs r with
    | some h, some l, some t => some (UInt8.ofNat (16 * h.toNat + l.toNat) :: t)
    | _, _, _ => none
  | _ => some []
def datR (s : List UInt8) : Int ⊕ List UInt8 :=
  if s = [45] then .inr []
  else if s.length % 2 = 1 then .inl 5
  else match hxs s with
    | none => .inl 5
    | some b => if 65535 < b.length then .inl 3 else .inr b
def bindR {α β : Type} (x : Int ⊕ α) (f : α → Int ⊕ β) : Int ⊕ β := match x with | .inl e => .inl e | .inr a => f a
def wTick : List UInt8 := [116, 105, 99, 107]
def wPacket : List UInt8 := [112, 97, 99, 107, 101, 116]
def wOpen : List UInt8 := [111, 112, 101, 110]
def wBytes : List UInt8 := [98, 121, 116, 101, 115]
def wClose : List UInt8 := [99, 108, 111, 115, 101]
def packR : List (List UInt8) → Int ⊕ Ev
  | [_, f, g, h, i] => match adrP f with
    | .inl _ => .inl 5
    | .inr a => bindR (numR g) fun n => bindR (numR h) fun m => bindR (datR i) fun d => .inr ⟨2, a, n, m, d⟩
  | _ => .inl 5
def alonR (k : Int) : List (List UInt8) → Int ⊕ Ev
  | [_, h] => bindR (numR h) fun m => .inr ⟨k, ad0, 0, m, []⟩
  | _ => .inl 5
def byteR : List (List UInt8) → Int ⊕ Ev
  | [_, h, i] => bindR (numR h) fun m => bindR (datR i) fun d => .inr ⟨4, ad0, 0, m, d⟩
  | _ => .inl 5
def tickR : List (List UInt8) → Int ⊕ Ev
  | [_] => .inr ⟨1, ad0, 0, 0, []⟩
  | _ => .inl 5
def evF (F : List (List UInt8)) : Int ⊕ Ev := match F with
  | [] => .inl 1
  | w :: _ => if w = wTick then tickR F else if w = wPacket then packR F else if w = wOpen then alonR 3 F else if w = wBytes then byteR F else if w = wClose then alonR 5 F else .inl 10
def evP (s : List UInt8) : Int ⊕ Ev := evF (flds s)
def evR (r : Int ⊕ Ev) : Value := match r with
  | .inl e => .tuple #[.agg (evA ev0), .int .i64 e]
  | .inr x => .tuple #[.agg (evA x), .int .i64 0]
end Go.Proofs.YtgebcifkbldfoaaDoor

/- script: the reader's methods. -/
namespace Go.Proofs.YtgebcifkbldfoaaDoor
open Go.RowKit
attribute [local go_sem] ba_get ext_take ext_drop ext_any ba_app

def codeR {α : Type} (r : Int ⊕ α) : Int := match r with | .inl e => e | .inr _ => 0
def RdPost (w0 : World) (g : Nat) (v : Value) (r : Int ⊕ Ev) (e : Ending) (w' : World) : Prop := ∃ x, e = .returned (.int .i64 (codeR r)) ∧ Bk w' g 85 (rdA v x) ∧ (∀ y, r = .inr y → x = y) ∧ Below w0.heap.size w0 w'
theorem scz_int : (Tryd.prog.info? 3).map (·.size) = some 1 := by kernel_rfl
set_option maxRecDepth 100000 in
set_option maxHeartbeats 1000000 in
theorem sctick_any (w0 w : World) (g : Nat) (v : Value) (F : List (List UInt8)) (hs : Sl w0 1 v F.length (F.map stv)) (hb : Below w0.heap.size w0 w) (hg : w0.heap.size ≤ g) (hB : Bk w g 85 (rdA v ev0)) :
    Calls Tryd.prog 50 #[.pointer (some ⟨g, 0, none⟩)] w (RdPost w0 g v (tickR F)) := by
  obtain ⟨A, c, rfl, hc⟩ := hs.any
  clear hs
  have HB := Lib.hid hB
  have Hb := Lib.hid hb
  clear hB hb
  go_enter Tryd.func50, Tryd.ntmps50
  go_wp2_with (first
    | ((with_reducible show wpList _ _ _ (⟨none, .store _ (.tmp 6) _, _, _, _, _⟩ :: _) _ _); refine wpList_storeC (o := ⟨none, _, _, _, _, _⟩) (i := 1) (v := .int .i64 1) rfl _ _ _ rfl rfl rfl rfl HB.out (by rw [rdA_size]; decide) scz_int ?_; intro w2 hB2 hS2; rw [rdA_k] at hB2; have HB2 := Lib.hid hB2; have Hb2 := Lib.hid (Hb.out.trans (hS2.below hg)); have c0 : w2.cell? ⟨g, 0, none⟩ = some (.slice A F.length c) := hB2.cell 0; clear hB2 hS2; refine holdL ?_))
  refine Lib.hid ?_
  by_cases h1 : F.length = 1
  · obtain ⟨f, rfl⟩ : ∃ f, F = [f] := List.length_eq_one_iff.1 h1
    go_wp2
    go_ret
    exact ⟨_, rfl, HB2.out, (fun y hy => by cases hy; rfl), Hb2.out⟩
  · have E1 : Hid (tickR F = .inl 5) := Lib.hid (by
      match F, h1 with
      | [], _ => rfl
      | [_], h => exact absurd rfl h
      | _ :: _ :: _, _ => rfl)
    have h1' : ((F.length : Int) != 1) = true := by simp; omega
    go_wp2
    go_ret
    exact ⟨_, by rw [E1.out]; rfl, HB2.out, (fun y hy => by rw [E1.out] at hy; cases hy), Hb2.out⟩
/-- from: the field is an address. -/
def frR (x : Ev) (f : List UInt8) : Int ⊕ Ev := match adrP f with | .inl _ => .inl 5 | .inr a => .inr { x with a := a }
set_option maxRecDepth 100000 in
set_option maxHeartbeats 1000000 in
theorem scfrom_any (w0 w : World) (ht : Tab w0) (hm : MaxI w0) (g : Nat) (v : Value) (x : Ev) (F : List (List UInt8)) (hs : Sl w0 1 v F.length (F.map stv)) (hb : Below w0.heap.size w0 w) (hg : w0.heap.size ≤ g) (hB : Bk w g 85 (rdA v x)) (k : Nat) (hk : k < F.length) (hF : F.length ≤ 100000) (hf : (F[k]).length ≤ 1000000) :
    Calls Tryd.prog 86 #[.pointer (some ⟨g, 0, none⟩), .int .i64 (k : Int)] w (RdPost w0 g v (frR x F[k])) := by
  obtain ⟨b1, off, c1, rfl, hc1, hbl, hcell⟩ := (hs.below hb).pos (by omega)
  have hfx : w.cell? ⟨b1, off + k, none⟩ = some (.string ⟨(F[k]).toArray⟩) := hcell k (stv F[k]) (by rw [List.getElem?_map, List.getElem?_eq_getElem hk]; rfl)
  have HX := Lib.hid (aparse_any F[k] w (ht.below hb) (hm.below hb) (by omega))
  generalize F[k] = f at *
  have hkI : (k : Int) < (F.length : Int) := by omega
  have hk0 : (0 : Int) ≤ (k : Int) := by omega
  have HB := Lib.hid hB
  have Hb := Lib.hid hb
  have c0 : w.cell? ⟨g, 0, none⟩ = some (.slice (some ⟨b1, off, none⟩) F.length c1) := hB.cell 0
  clear hs hcell hB hb ht hm
  cases hx : adrP f with
  | inl e0 =>
    have he0 : (e0 == 0) = false := by rcases adrP_err hx with rfl | rfl <;> rfl
    have HE : Hid (frR x f = .inl 5) := Lib.hid (by unfold frR; rw [hx])
    have HX2 : Hid (Calls Tryd.prog 96 #[.string ⟨f.toArray⟩] w fun e w' => e = .returned (.tuple #[.agg (adA ad0), .int .i64 e0]) ∧ Below w.heap.size w w') := Lib.hid (HX.out.mono fun e w' ⟨he, hb⟩ => ⟨by rw [he, hx]; rfl, hb⟩)
    clear hx HX
    go_enter Tryd.func86, Tryd.ntmps86
    go_wp2_with (first
      | (go_at_call 96; refine HX2.out.mono ?_; rintro e w2 ⟨rfl, hb2⟩; have Hb2 := Lib.hid hb2; clear hb2)
      | ((with_reducible show wpList _ _ _ (⟨some 5, _, _, _, _, _⟩ :: _) _ _); refine wpList_allocAd (o := ⟨some 5, _, _, _, _, _⟩) rfl rfl ?_; intro g4 w4 hg4 hB4 hb4 hs4; have Hg4 := Lib.hid hg4; clear hg4 hs4)
      | ((with_reducible refine wpList_storeAd (o := ⟨none, _, _, _, _, _⟩) rfl (.tmp 5) _ rfl rfl rfl hB4 ?_); intro w5 hB5 hS5; have Hb5 := Lib.hid (bel_tr Hb2.out (hb4.trans (hS5.below (Nat.le_of_eq Hg4.out.symm)))); clear hB5 hS5 hb4 hB4))
    go_ret
    exact ⟨_, by rw [HE.out]; rfl, HB.out.bel Hb5.out, (fun y hy => by rw [HE.out] at hy; cases hy), bel_tr Hb.out Hb5.out⟩
  | inr a =>
    have HE : Hid (frR x f = .inr { x with a := a }) := Lib.hid (by unfold frR; rw [hx])
    have HX2 : Hid (Calls Tryd.prog 96 #[.string ⟨f.toArray⟩] w fun e w' => e = .returned (.tuple #[.agg (adA a), .int .i64 0]) ∧ Below w.heap.size w w') := Lib.hid (HX.out.mono fun e w' ⟨he, hb⟩ => ⟨by rw [he, hx]; rfl, hb⟩)
    clear hx HX
    go_enter Tryd.func86, Tryd.ntmps86
    go_wp2_with (first
      | (go_at_call 96; refine HX2.out.mono ?_; rintro e w2 ⟨rfl, hb2⟩; have Hb2 := Lib.hid hb2; clear hb2)
      | ((with_reducible show wpList _ _ _ (⟨some 5, _, _, _, _, _⟩ :: _) _ _); refine wpList_allocAd (o := ⟨some 5, _, _, _, _, _⟩) rfl rfl ?_; intro g4 w4 hg4 hB4 hb4 hs4; have Hg4 := Lib.hid hg4; clear hg4 hs4)
      | ((with_reducible refine wpList_storeAd (o := ⟨none, _, _, _, _, _⟩) rfl (.tmp 5) _ rfl rfl rfl hB4 ?_); intro w5 hB5 hS5; have Hb5 := Lib.hid (bel_tr Hb2.out (hb4.trans (hS5.below (Nat.le_of_eq Hg4.out.symm)))); have HB5 := Lib.hid (HB.out.bel Hb5.out); have HR5 := Lib.hid hB5; clear hB5 hS5 hb4 hB4)
      | ((with_reducible show wpList _ _ _ (⟨some 21, _, _, _, _, _⟩ :: _) _ _); refine wpList_loadAd (o := ⟨some 21, _, _, _, _, _⟩) rfl _ rfl rfl HR5.out ?_)
      | ((with_reducible show wpList _ _ _ (⟨none, .store _ (.tmp 24) _, _, _, _, _⟩ :: _) _ _); refine wpList_storeM (o := ⟨none, _, _, _, _, _⟩) (off := 2) (cells := adA a) rfl _ _ _ rfl rfl rfl HB5.out (ad_size' a) (by rw [rdA_size, adA_size]; decide) (adA_one a) ?_; intro w6 hB6 hS6; rw [show (adA a).toList = adL a from rfl, rdA_a] at hB6; have HB6 := Lib.hid hB6; have Hb6 := Lib.hid ((bel_tr Hb.out Hb5.out).trans (hS6.below hg)); clear hB6 hS6))
    go_ret
    exact ⟨_, by rw [HE.out]; rfl, HB6.out, (fun y hy => by rw [HE.out] at hy; cases hy; rfl), Hb6.out⟩
theorem numR_V (f : List UInt8) : ∃ n : Int, numV f ((65535 : Nat) : Int) = .tuple #[.int .i64 n, .int .i64 (codeR (numR f))] ∧ ∀ m, numR f = .inr m → n = (m : Int) := by
  unfold numV numR
  by_cases h : f ≠ [] ∧ f.all dgB = true
  · rw [if_pos h, if_pos h]
    by_cases h2 : val f ≤ 65535
    · rw [if_pos (by omega), if_pos h2]
      exact ⟨_, rfl, fun m hm => by cases hm; rfl⟩
    · rw [if_neg (by omega), if_neg h2]
      exact ⟨_, rfl, fun m hm => by cases hm⟩
  · rw [if_neg h, if_neg h]
    exact ⟨_, rfl, fun m hm => by cases hm⟩
def NuPost (w0 : World) (g i : Nat) (v : Value) (x : Ev) (f : List UInt8) (e : Ending) (w' : World) : Prop := ∃ n : Int, e = .returned (.int .i64 (codeR (numR f))) ∧ Bk w' g 85 ((rdA v x).setIfInBounds i (.int .i64 n)) ∧ (∀ m, numR f = .inr m → n = (m : Int)) ∧ Below w0.heap.size w0 w'
set_option maxRecDepth 100000 in
set_option maxHeartbeats 1000000 in
theorem scnum_any (w0 w : World) (g i : Nat) (v : Value) (x : Ev) (F : List (List UInt8)) (hs : Sl w0 1 v F.length (F.map stv)) (hb : Below w0.heap.size w0 w) (hg : w0.heap.size ≤ g) (hB : Bk w g 85 (rdA v x)) (hi : i < 23) (k : Nat) (hk : k < F.length) (hF : F.length ≤ 100000) (hf : (F[k]).length ≤ 1000000) :
    Calls Tryd.prog 87 #[.pointer (some ⟨g, 0, none⟩), .int .i64 (k : Int), .pointer (some ⟨g, i, none⟩)] w (NuPost w0 g i v x F[k]) := by
  obtain ⟨b1, off, c1, rfl, hc1, hbl, hcell⟩ := (hs.below hb).pos (by omega)
  have hfx : w.cell? ⟨b1, off + k, none⟩ = some (.string ⟨(F[k]).toArray⟩) := hcell k (stv F[k]) (by rw [List.getElem?_map, List.getElem?_eq_getElem hk]; rfl)
  have HX := Lib.hid (number_any F[k] ((65535 : Nat) : Int) w (by omega) (by omega) (by omega))
  generalize F[k] = f at *
  obtain ⟨n, hn, hm⟩ := numR_V f
  rw [hn] at HX
  have HM := Lib.hid hm
  have hkI : (k : Int) < (F.length : Int) := by omega
  have hk0 : (0 : Int) ≤ (k : Int) := by omega
  have HB := Lib.hid hB
  have Hb := Lib.hid hb
  have c0 : w.cell? ⟨g, 0, none⟩ = some (.slice (some ⟨b1, off, none⟩) F.length c1) := hB.cell 0
  clear hs hcell hB hb hn hm
  go_enter Tryd.func87, Tryd.ntmps87
  go_wp2_with (first
    | (go_at_call 115; refine HX.out.mono ?_; rintro e w2 ⟨rfl, hw⟩; subst hw)
    | ((with_reducible show wpList _ _ _ (⟨none, .store _ (.tmp 22) _, _, _, _, _⟩ :: _) _ _); refine wpList_storeC (o := ⟨none, _, _, _, _, _⟩) (i := i) (v := .int .i64 n) rfl _ _ _ rfl rfl rfl rfl HB.out (by rw [rdA_size]; exact hi) scz_int ?_; intro w6 hB6 hS6; have HB6 := Lib.hid hB6; have Hb6 := Lib.hid (Hb.out.trans (hS6.below hg)); clear hB6 hS6))
  go_ret
  exact ⟨n, rfl, HB6.out, HM.out, Hb6.out⟩
/-- 'make([]T, 0, n)'. -/
theorem wpList_makeE {P : Program} {w : World} {ops : Array Oper} {rest : List Oper} {o : Oper} {a : Act} {Q : Exit → Act → World → Prop} (hg : o.guard = none) (l c : Operand) (t : TypeId) (hop : o.op = Op.makeSlice t l c) {e : TypeId} {size bytes : Nat} (el : Elt P t e size bytes) {kl kc : IntKind} {C : Int} (n : Nat) (hl : a.eval l = .int kl 0) (hc : a.eval c = .int kc C) (hC : C = (n : Int)) (hb : bytes * n ≤ 281474976710656) (hn : n ≤ 1000000000)
    (h : ∀ v' w', w'.ownsRow w.heap.size e size v' 0 [] → Below w.heap.size w w' → wpList P ops Q rest (a.put o.dst v') w') : wpList P ops Q (o :: rest) a w := by
  obtain ⟨i, z, hi, hz, hz1, hz2, hz3⟩ := el.info
  subst hC
  obtain ⟨w', hr, ho, hgr⟩ := run_make_own w w.heap.size t e i z size el.under hi hz hz1 kl kc n (by rw [hz2]; exact hb) (by unfold maxLen; omega) (Nat.le_refl _)
  refine wpList_plain hg fun _ hK => ?_
  unfold Oper.wp
  simp only [execOp, hop, hl, hc, hr, Sem.run_bind, Result.andThen_ok]
  exact hK _ _ (h _ _ ho ((Below.refl _ _).grown hgr (Nat.le_refl _) (fun k hk => by cases hk)))
end Go.Proofs.YtgebcifkbldfoaaDoor

/- script: the reader's data. -/
namespace Go.Proofs.YtgebcifkbldfoaaDoor
open Go.RowKit
attribute [local go_sem] ba_get ext_take ext_drop ext_any ba_app

theorem hxs_next {x y : UInt8} {r : List UInt8} {h l : Int} (h1 : hex (x.toNat : Int) = some h) (h2 : hex (y.toNat : Int) = some l) : hxs (x :: y :: r) = (hxs r).map (UInt8.ofNat (16 * h.toNat + l.toNat) :: ·) := by
  rw [hxs, h1, h2]
  cases hxs r <;> rfl
theorem hxs_bad1 {x y : UInt8} {r : List UInt8} (h1 : hex (x.toNat : Int) = none) : hxs (x :: y :: r) = none := by
  rw [hxs, h1]
theorem hxs_bad2 {x y : UInt8} {r : List UInt8} (h2 : hex (y.toNat : Int) = none) : hxs (x :: y :: r) = none := by
  rw [hxs, h2]
  split <;> simp_all
/-- so far. -/
structure HxI (s : List UInt8) (i : Nat) (done : List UInt8) : Prop where
  eq : hxs s = (hxs (s.drop i)).map (done ++ ·)
  len : 2 * done.length = i
theorem HxI.start (s : List UInt8) : HxI s 0 [] := ⟨by rw [List.drop_zero]; cases hxs s <;> rfl, rfl⟩
theorem drop_two {s : List UInt8} {i : Nat} (h1 : i + 1 < s.length) : s.drop i = s[i] :: s[i + 1] :: s.drop (i + 2) := by
  rw [List.drop_eq_getElem_cons (by omega), List.drop_eq_getElem_cons h1]
theorem HxI.next {s : List UInt8} {i : Nat} {done : List UInt8} (H : HxI s i done) (h1 : i + 1 < s.length) {h l : Int} (e1 : hex (s[i].toNat : Int) = some h) (e2 : hex (s[i + 1].toNat : Int) = some l) : HxI s (i + 2) (done ++ [UInt8.ofNat (16 * h.toNat + l.toNat)]) :=
  ⟨by rw [H.eq, drop_two h1, hxs_next e1 e2]; cases hxs (s.drop (i + 2)) <;> simp, by have := H.len; rw [List.length_append]; simp; omega⟩
theorem HxI.bad1 {s : List UInt8} {i : Nat} {done : List UInt8} (H : HxI s i done) (h1 : i + 1 < s.length) (e1 : hex (s[i].toNat : Int) = none) : hxs s = none := by
  rw [H.eq, drop_two h1, hxs_bad1 e1]; rfl
theorem HxI.bad2 {s : List UInt8} {i : Nat} {done : List UInt8} (H : HxI s i done) (h1 : i + 1 < s.length) (e2 : hex (s[i + 1].toNat : Int) = none) : hxs s = none := by
  rw [H.eq, drop_two h1, hxs_bad2 e2]; rfl
theorem HxI.done_ {s : List UInt8} {done : List UInt8} (H : HxI s s.length done) : hxs s = some done := by
  rw [H.eq, List.drop_length]; simp [hxs]
def daR (x : Ev) (f : List UInt8) : Int ⊕ Ev := bindR (datR f) fun d => .inr { x with d := d }
theorem datR_odd {s : List UInt8} (h0 : s ≠ [45]) (h : s.length % 2 = 1) : datR s = .inl 5 := by unfold datR; rw [if_neg h0, if_pos h]
theorem datR_none {s : List UInt8} (h0 : s ≠ [45]) (h : hxs s = none) : datR s = .inl 5 := by
  unfold datR; rw [if_neg h0, h]
  split <;> rfl
theorem datR_some {s d : List UInt8} (h0 : s ≠ [45]) (h1 : ¬ s.length % 2 = 1) (h : hxs s = some d) : datR s = if 65535 < d.length then .inl 3 else .inr d := by
  unfold datR; rw [if_neg h0, if_neg h1, h]
def ScRel (w : World) (s : List UInt8) (i : Nat) (v : Value) (wr : World) : Prop := ∃ done, HxI s i done ∧ wr.ownsRow w.heap.size 5 1 v done.length (done.map byv) ∧ Below w.heap.size w wr
theorem scz_str : (Tryd.prog.info? 9).map (·.size) = some 1 := by kernel_rfl
set_option maxRecDepth 100000 in
set_option maxHeartbeats 2000000 in
theorem scdata_any (w0 w : World) (g : Nat) (v : Value) (x : Ev) (hx0 : x.d = []) (F : List (List UInt8)) (hs : Sl w0 1 v F.length (F.map stv)) (hb : Below w0.heap.size w0 w) (hg : w0.heap.size ≤ g) (hB : Bk w g 85 (rdA v x)) (k : Nat) (hk : k < F.length) (hF : F.length ≤ 100000) (hf : (F[k]).length ≤ 1000000) :
    Calls Tryd.prog 88 #[.pointer (some ⟨g, 0, none⟩), .int .i64 (k : Int)] w (RdPost w0 g v (daR x F[k])) := by
  obtain ⟨b1, off, c1, rfl, hc1, hbl, hcell⟩ := (hs.below hb).pos (by omega)
  have hfx : w.cell? ⟨b1, off + k, none⟩ = some (.string ⟨(F[k]).toArray⟩) := hcell k (stv F[k]) (by rw [List.getElem?_map, List.getElem?_eq_getElem hk]; rfl)
  generalize F[k] = s at *
  have hkI : (k : Int) < (F.length : Int) := by omega
  have hk0 : (0 : Int) ≤ (k : Int) := by omega
  have HB := Lib.hid hB
  have Hb := Lib.hid hb
  have c0 : w.cell? ⟨g, 0, none⟩ = some (.slice (some ⟨b1, off, none⟩) F.length c1) := hB.cell 0
  clear hs hcell hB hb
  by_cases h45 : s = [45]
  · subst h45
    have HE : Hid (daR x [45] = .inr x) := Lib.hid (by unfold daR datR bindR; rw [if_pos rfl]; simp only; rw [← hx0])
    clear hx0
    go_enter Tryd.func88, Tryd.ntmps88
    go_wp2
    go_ret
    exact ⟨x, by rw [HE.out]; rfl, HB.out, (fun y hy => by rw [HE.out] at hy; cases hy; rfl), Hb.out⟩
  · have n45 : (s == [45]) = false := beq_eq_false_iff_ne.2 h45
    have H45 := Lib.hid h45
    clear h45 hx0
    by_cases hod : s.length % 2 = 1
    · have HE : Hid (daR x s = .inl 5) := Lib.hid (by unfold daR; rw [datR_odd H45.out hod]; rfl)
      have hodI : (((s.length : Int).tmod 2) != 0) = true := by rw [Int.tmod_eq_emod_of_nonneg (by omega)]; simp; omega
      go_enter Tryd.func88, Tryd.ntmps88
      go_wp2
      go_ret
      exact ⟨x, by rw [HE.out]; rfl, HB.out, (fun y hy => by rw [HE.out] at hy; cases hy), Hb.out⟩
    · have hodI : (((s.length : Int).tmod 2) != 0) = false := by rw [Int.tmod_eq_emod_of_nonneg (by omega)]; simp; omega
      have hq : (s.length : Int).tdiv 2 = ((s.length / 2 : Nat) : Int) := by rw [Int.tdiv_eq_ediv_of_nonneg (by omega)]; omega
      have Hod := Lib.hid hod
      go_enter Tryd.func88, Tryd.ntmps88
      go_wp2_with (first
        | ((with_reducible show wpList _ _ _ (⟨some 28, _, _, _, _, _⟩ :: _) _ _); refine wpList_makeE (o := ⟨some 28, _, _, _, _, _⟩) rfl _ _ _ rfl elt_bytes (s.length / 2) rfl rfl (by first | exact hq | rfl) (by omega) (by omega) ?_; intro v2 w2 ho2 hb2; obtain ⟨A2, k2, rfl⟩ := own_any ho2; have Ho2 := Lib.hid ho2; have Hb2 := Lib.hid hb2; clear ho2 hb2; refine holdL ?_))
      refine Lib.hid ?_
      go_wp2
      go_loopw [6, 7] (fun v i wr => ∃ k : Nat, k ≤ s.length ∧ i = .int .i64 k ∧ ScRel w s k v wr) (fun _ i _ => s.length - (intOf i).toNat)
      case atStart => exact ⟨0, Nat.zero_le _, rfl, [], HxI.start s, Ho2.out, Hb2.out⟩
      case round =>
        obtain ⟨i, hi, rfl, done, hI, hown, hbw⟩ := hrel
        obtain ⟨A3, k3, rfl⟩ := own_any hown
        have HI := Lib.hid hI
        have Hbw := Lib.hid hbw
        have hl2 := hI.len
        have hsz := hbw.size
        clear hI hbw
        by_cases hlt : i < s.length
        · have hlt1 : i + 1 < s.length := by have := Hod.out; omega
          have i0 : (i : Int) < (s.length : Int) := by omega
          have i1 : (i : Int) + 1 < (s.length : Int) := by omega
          have hu1 := u8lt s[i]
          have hu2 := u8lt s[i + 1]
          cases h1 : hex (s[i].toNat : Int) with
          | none =>
            have HE : Hid (daR x s = .inl 5) := Lib.hid (by unfold daR; rw [datR_none H45.out (HI.out.bad1 hlt1 h1)]; rfl)
            have Hh := Lib.hid h1
            clear h1
            cases h2 : hex (s[i + 1].toNat : Int) with
            | none =>
              have Hk := Lib.hid h2
              clear h2
              go_wp2_with (first
                | (go_at_call 116; refine (hex_any (s[i].toNat : Int) _ (by omega) (by omega)).mono ?_; rintro e w2 ⟨rfl, h2⟩; have h3 := h2.symm; subst h3; clear h2; rw [Hh.out]; unfold hexV; refine holdL ?_))
              refine Lib.hid ?_
              go_wp2_with (first
                | (go_at_call 116; refine (hex_any (s[i + 1].toNat : Int) _ (by omega) (by omega)).mono ?_; rintro e w2 ⟨rfl, h2⟩; have h3 := h2.symm; subst h3; clear h2; rw [Hk.out]; unfold hexV))
              go_ret
              exact ⟨x, by rw [HE.out]; rfl, HB.out.bel Hbw.out, (fun y hy => by rw [HE.out] at hy; cases hy), bel_tr Hb.out Hbw.out⟩
            | some kk =>
              have Hk := Lib.hid h2
              clear h2
              go_wp2_with (first
                | (go_at_call 116; refine (hex_any (s[i].toNat : Int) _ (by omega) (by omega)).mono ?_; rintro e w2 ⟨rfl, h2⟩; have h3 := h2.symm; subst h3; clear h2; rw [Hh.out]; unfold hexV; refine holdL ?_))
              refine Lib.hid ?_
              go_wp2_with (first
                | (go_at_call 116; refine (hex_any (s[i + 1].toNat : Int) _ (by omega) (by omega)).mono ?_; rintro e w2 ⟨rfl, h2⟩; have h3 := h2.symm; subst h3; clear h2; rw [Hk.out]; unfold hexV))
              go_ret
              exact ⟨x, by rw [HE.out]; rfl, HB.out.bel Hbw.out, (fun y hy => by rw [HE.out] at hy; cases hy), bel_tr Hb.out Hbw.out⟩
          | some hh =>
            have hd := hexc_bd h1
            obtain ⟨n, rfl⟩ : ∃ n : Nat, hh = (n : Int) := ⟨hh.toNat, by omega⟩
            have Hh := Lib.hid h1
            cases h2 : hex (s[i + 1].toNat : Int) with
            | none =>
              have HE : Hid (daR x s = .inl 5) := Lib.hid (by unfold daR; rw [datR_none H45.out (HI.out.bad2 hlt1 h2)]; rfl)
              have Hk := Lib.hid h2
              clear h1 h2
              go_wp2_with (first
                | (go_at_call 116; refine (hex_any (s[i].toNat : Int) _ (by omega) (by omega)).mono ?_; rintro e w2 ⟨rfl, h2⟩; have h3 := h2.symm; subst h3; clear h2; rw [Hh.out]; unfold hexV; refine holdL ?_))
              refine Lib.hid ?_
              go_wp2_with (first
                | (go_at_call 116; refine (hex_any (s[i + 1].toNat : Int) _ (by omega) (by omega)).mono ?_; rintro e w2 ⟨rfl, h2⟩; have h3 := h2.symm; subst h3; clear h2; rw [Hk.out]; unfold hexV))
              go_ret
              exact ⟨x, by rw [HE.out]; rfl, HB.out.bel Hbw.out, (fun y hy => by rw [HE.out] at hy; cases hy), bel_tr Hb.out Hbw.out⟩
            | some kk =>
              have hd2 := hexc_bd h2
              obtain ⟨m, rfl⟩ : ∃ m : Nat, kk = (m : Int) := ⟨kk.toNat, by omega⟩
              have Hk := Lib.hid h2
              have HN := Lib.hid (HI.out.next hlt1 h1 h2)
              have hor := or16 (show n < 4096 by omega) (show m < 16 by omega)
              clear h1 h2
              go_wp2_with (first
                | (go_at_call 116; refine (hex_any (s[i].toNat : Int) _ (by omega) (by omega)).mono ?_; rintro e w2 ⟨rfl, h2⟩; have h3 := h2.symm; subst h3; clear h2; rw [Hh.out]; unfold hexV; refine holdL ?_))
              refine Lib.hid ?_
              go_wp2_with (first
                | (go_at_call 116; refine (hex_any (s[i + 1].toNat : Int) _ (by omega) (by omega)).mono ?_; rintro e w2 ⟨rfl, h2⟩; have h3 := h2.symm; subst h3; clear h2; rw [Hk.out]; unfold hexV)
                | (at_builtin; refine wpList_appLit rfl _ _ _ rfl elt_bytes (n := done.length) rfl hown [_] (m := 1) rfl rfl (by simp [Value.oneCell']) hsz (by omega) (by omega) ?_; intro v6 w6 ho6 hb6 hg6; have Ho6 := Lib.hid ho6; have Hb6 := Lib.hid (Hbw.out.trans hb6); clear ho6 hb6 hg6))
              go_roundw
              case rel => exact ⟨i + 2, by omega, by go_num, _, HN.out, by have h := Ho6.out; rw [byv_mk (n := 16 * n + m) (by omega) (by omega)] at h; simp only [Int.toNat_natCast, List.map_append, List.length_append, List.map_cons, List.map_nil, List.length_cons, List.length_nil]; exact h, Hb6.out⟩
              case measure => (simp [intOf]) <;> omega
        · obtain rfl : i = s.length := by omega
          have HD := Lib.hid HI.out.done_
          have i0 : ¬ (s.length : Int) < (s.length : Int) := by omega
          by_cases hbig : 65535 < done.length
          · have HE : Hid (daR x s = .inl 3) := Lib.hid (by unfold daR; rw [datR_some H45.out Hod.out HD.out, if_pos hbig]; rfl)
            have b0 : (65535 : Int) < (done.length : Int) := by omega
            go_wp2
            go_ret
            exact ⟨x, by rw [HE.out]; rfl, HB.out.bel Hbw.out, (fun y hy => by rw [HE.out] at hy; cases hy), bel_tr Hb.out Hbw.out⟩
          · have HE : Hid (daR x s = .inr { x with d := done }) := Lib.hid (by unfold daR; rw [datR_some H45.out Hod.out HD.out, if_neg hbig]; rfl)
            have b0 : ¬ (65535 : Int) < (done.length : Int) := by omega
            have hsl := Sl.own hown
            have hcv := str_run hsl
            have HBw := Lib.hid (HB.out.bel Hbw.out)
            go_wp2_with (first
              | ((with_reducible show wpList _ _ _ (⟨none, .store _ (.tmp 72) _, _, _, _, _⟩ :: _) _ _); refine wpList_storeC (o := ⟨none, _, _, _, _, _⟩) (i := 22) (v := .string ⟨done.toArray⟩) rfl _ _ _ rfl rfl rfl rfl HBw.out (by rw [rdA_size]; decide) scz_str ?_; intro w6 hB6 hS6; rw [rdA_d] at hB6; have HB6 := Lib.hid hB6; have Hb6 := Lib.hid ((bel_tr Hb.out Hbw.out).trans (hS6.below hg)); clear hB6 hS6))
            go_ret
            exact ⟨_, by rw [HE.out]; rfl, HB6.out, (fun y hy => by rw [HE.out] at hy; cases hy; rfl), Hb6.out⟩
end Go.Proofs.YtgebcifkbldfoaaDoor

/- script: the reader's lines. -/
namespace Go.Proofs.YtgebcifkbldfoaaDoor
open Go.RowKit
attribute [local go_sem] ba_get ext_take ext_drop ext_any ba_app

theorem numR_err {f : List UInt8} {e : Int} (h : numR f = .inl e) : e = 4 ∨ e = 5 := by
  unfold numR at h
  split at h
  · split at h
    · cases h
    · cases h; exact .inl rfl
  · cases h; exact .inr rfl
def NuOk (w0 : World) (g i : Nat) (v : Value) (x : Ev) (_f : List UInt8) (r : Int ⊕ Nat) (e : Ending) (w' : World) : Prop := ∃ n : Int, e = .returned (.int .i64 (codeR r)) ∧ Bk w' g 85 ((rdA v x).setIfInBounds i (.int .i64 n)) ∧ (∀ m, r = .inr m → n = (m : Int)) ∧ Below w0.heap.size w0 w'
theorem NuOk.of {w0 : World} {g i : Nat} {v : Value} {x : Ev} {f : List UInt8} {r : Int ⊕ Nat} {e : Ending} {w' : World} (hr : numR f = r) (h : NuPost w0 g i v x f e w') : NuOk w0 g i v x f r e w' := by subst hr; exact h
set_option maxRecDepth 100000 in
set_option maxHeartbeats 2000000 in
theorem scalone_any (kk : Int) (w0 w : World) (g : Nat) (v : Value) (F : List (List UInt8)) (hs : Sl w0 1 v F.length (F.map stv)) (hb : Below w0.heap.size w0 w) (hg : w0.heap.size ≤ g) (hB : Bk w g 85 (rdA v ev0)) (hF : F.length ≤ 100000) (hf : ∀ f ∈ F, f.length ≤ 1000000) :
    Calls Tryd.prog 89 #[.pointer (some ⟨g, 0, none⟩), .int .i64 kk] w (RdPost w0 g v (alonR kk F)) := by
  obtain ⟨A, c, rfl, hc⟩ := hs.any
  have HS := Lib.hid hs
  have HB := Lib.hid hB
  have Hb := Lib.hid hb
  have Hf := Lib.hid hf
  clear hB hb hs hf
  go_enter Tryd.func89, Tryd.ntmps89
  go_wp2_with (first
    | ((with_reducible show wpList _ _ _ (⟨none, .store _ (.tmp 9) _, _, _, _, _⟩ :: _) _ _); refine wpList_storeC (o := ⟨none, _, _, _, _, _⟩) (i := 1) (v := .int .i64 kk) rfl _ _ _ rfl rfl rfl rfl HB.out (by rw [rdA_size]; decide) scz_int ?_; intro w2 hB2 hS2; rw [rdA_k] at hB2; have HB2 := Lib.hid hB2; have Hb2 := Lib.hid (Hb.out.trans (hS2.below hg)); have c0 : w2.cell? ⟨g, 0, none⟩ = some (.slice A F.length c) := hB2.cell 0; clear hB2 hS2; refine holdL ?_))
  refine Lib.hid ?_
  by_cases h1 : F.length = 2
  · obtain ⟨f0, f1, rfl⟩ : ∃ f0 f1, F = [f0, f1] := by
      match F, h1 with
      | [a, b], _ => exact ⟨_, _, rfl⟩
    have HX := Lib.hid (scnum_any w0 w2 g 21 _ { ev0 with k := kk } [f0, f1] HS.out Hb2.out hg HB2.out (by decide) 1 (by simp) hF (Hf.out _ (by simp)))
    have HE : Hid (alonR kk [f0, f1] = bindR (numR f1) fun m => .inr ⟨kk, ad0, 0, m, []⟩) := Lib.hid rfl
    cases hn : numR f1 with
    | inl e0 =>
      have Hn := Lib.hid hn
      clear hn
      go_wp2_with (first
        | (go_at_call 87; refine HX.out.mono ?_; rintro e w3 ⟨n, rfl, hB3, hm, hb3⟩; rw [rdA_p] at hB3; have HB3 := Lib.hid hB3; have Hb3 := Lib.hid hb3; clear hB3 hb3 hm))
      go_ret
      exact ⟨_, by rw [HE.out, show numR f1 = _ from Hn.out]; simp [bindR, codeR], HB3.out, (fun y hy => by rw [HE.out, show numR f1 = _ from Hn.out] at hy; cases hy), Hb3.out⟩
    | inr m0 =>
      have Hn := Lib.hid hn
      clear hn
      go_wp2_with (first
        | (go_at_call 87; refine HX.out.mono ?_; rintro e w3 ⟨n, rfl, hB3, hm, hb3⟩; obtain rfl := hm m0 Hn.out; rw [rdA_p] at hB3; have HB3 := Lib.hid hB3; have Hb3 := Lib.hid hb3; clear hB3 hb3 hm))
      go_ret
      exact ⟨_, by rw [HE.out, show numR f1 = _ from Hn.out]; simp [bindR, codeR], HB3.out, (fun y hy => by rw [HE.out, show numR f1 = _ from Hn.out] at hy; cases hy; rfl), Hb3.out⟩
  · have E1 : Hid (alonR kk F = .inl 5) := Lib.hid (by
      match F, h1 with
      | [], _ => rfl
      | [_], _ => rfl
      | [_, _], h => exact absurd rfl h
      | _ :: _ :: _ :: _, _ => rfl)
    have h1' : ((F.length : Int) != 2) = true := by simp; omega
    go_wp2
    go_ret
    exact ⟨_, by rw [E1.out]; rfl, HB2.out, (fun y hy => by rw [E1.out] at hy; cases hy), Hb2.out⟩
set_option maxRecDepth 100000 in
set_option maxHeartbeats 2000000 in
theorem scopen_any (w0 w : World) (g : Nat) (v : Value) (F : List (List UInt8)) (hs : Sl w0 1 v F.length (F.map stv)) (hb : Below w0.heap.size w0 w) (hg : w0.heap.size ≤ g) (hB : Bk w g 85 (rdA v ev0)) (hF : F.length ≤ 100000) (hf : ∀ f ∈ F, f.length ≤ 1000000) :
    Calls Tryd.prog 52 #[.pointer (some ⟨g, 0, none⟩)] w (RdPost w0 g v (alonR 3 F)) := by
  have HX := Lib.hid (scalone_any 3 w0 w g v F hs hb hg hB hF hf)
  clear hs hb hB hf
  go_enter Tryd.func52, Tryd.ntmps52
  go_wp2_with (first
    | (go_at_call 89; refine HX.out.mono ?_; rintro e w3 ⟨x, rfl, hB3, hm, hb3⟩; have H3 := Lib.hid (And.intro hB3 (And.intro hm hb3)); clear hB3 hm hb3))
  go_ret
  exact ⟨x, rfl, H3.out.1, H3.out.2.1, H3.out.2.2⟩
set_option maxRecDepth 100000 in
set_option maxHeartbeats 2000000 in
theorem scclosed_any (w0 w : World) (g : Nat) (v : Value) (F : List (List UInt8)) (hs : Sl w0 1 v F.length (F.map stv)) (hb : Below w0.heap.size w0 w) (hg : w0.heap.size ≤ g) (hB : Bk w g 85 (rdA v ev0)) (hF : F.length ≤ 100000) (hf : ∀ f ∈ F, f.length ≤ 1000000) :
    Calls Tryd.prog 54 #[.pointer (some ⟨g, 0, none⟩)] w (RdPost w0 g v (alonR 5 F)) := by
  have HX := Lib.hid (scalone_any 5 w0 w g v F hs hb hg hB hF hf)
  clear hs hb hB hf
  go_enter Tryd.func54, Tryd.ntmps54
  go_wp2_with (first
    | (go_at_call 89; refine HX.out.mono ?_; rintro e w3 ⟨x, rfl, hB3, hm, hb3⟩; have H3 := Lib.hid (And.intro hB3 (And.intro hm hb3)); clear hB3 hm hb3))
  go_ret
  exact ⟨x, rfl, H3.out.1, H3.out.2.1, H3.out.2.2⟩
set_option maxRecDepth 100000 in
set_option maxHeartbeats 2000000 in
theorem scbytes_any (w0 w : World) (g : Nat) (v : Value) (F : List (List UInt8)) (hs : Sl w0 1 v F.length (F.map stv)) (hb : Below w0.heap.size w0 w) (hg : w0.heap.size ≤ g) (hB : Bk w g 85 (rdA v ev0)) (hF : F.length ≤ 100000) (hf : ∀ f ∈ F, f.length ≤ 1000000) :
    Calls Tryd.prog 53 #[.pointer (some ⟨g, 0, none⟩)] w (RdPost w0 g v (byteR F)) := by
  obtain ⟨A, c, rfl, hc⟩ := hs.any
  have HS := Lib.hid hs
  have HB := Lib.hid hB
  have Hb := Lib.hid hb
  have Hf := Lib.hid hf
  clear hB hb hs hf
  go_enter Tryd.func53, Tryd.ntmps53
  go_wp2_with (first
    | ((with_reducible show wpList _ _ _ (⟨none, .store _ _ _, _, _, _, _⟩ :: _) _ _); refine wpList_storeC (o := ⟨none, _, _, _, _, _⟩) (i := 1) (v := .int .i64 4) rfl _ _ _ rfl rfl rfl rfl HB.out (by rw [rdA_size]; decide) scz_int ?_; intro w2 hB2 hS2; rw [rdA_k] at hB2; have HB2 := Lib.hid hB2; have Hb2 := Lib.hid (Hb.out.trans (hS2.below hg)); have c0 : w2.cell? ⟨g, 0, none⟩ = some (.slice A F.length c) := hB2.cell 0; clear hB2 hS2; refine holdL ?_))
  refine Lib.hid ?_
  by_cases h1 : F.length = 3
  · obtain ⟨f0, f1, f2, rfl⟩ : ∃ f0 f1 f2, F = [f0, f1, f2] := by
      match F, h1 with
      | [a, b, c], _ => exact ⟨_, _, _, rfl⟩
    have HX3 := Lib.hid (scnum_any w0 w2 g 21 _ { ev0 with k := 4 } [f0, f1, f2] HS.out Hb2.out hg HB2.out (by decide) 1 (by simp) hF (Hf.out _ (by simp)))
    have HE : Hid (byteR [f0, f1, f2] = bindR (numR f1) fun m => bindR (datR f2) fun d => .inr ⟨4, ad0, 0, m, d⟩) := Lib.hid rfl
    cases hn : numR f1 with
    | inl e0 =>
      have Hn3 := Lib.hid hn
      have HE2 : Hid (byteR [f0, f1, f2] = .inl e0) := Lib.hid (by rw [HE.out, hn]; rfl)
      have hne : (e0 != 0) = true := by rcases numR_err hn with rfl | rfl <;> rfl
      have HX4 : Hid (Calls Tryd.prog 87 _ w2 _) := Lib.hid (HX3.out.mono fun e w' h => (show NuOk w0 g 21 _ _ f1 (.inl e0) e w' from NuOk.of hn h))
      clear hn HX3
      go_wp2_with (first
        | (go_at_call 87; refine HX4.out.mono ?_; rintro e w3 ⟨n, rfl, hB3, hm, hb3⟩; have HB3 := Lib.hid hB3; have Hb3 := Lib.hid hb3; clear hB3 hb3 hm; unfold codeR))
      go_ret
      exact ⟨_, by rw [HE2.out]; rfl, by have h := HB3.out; rw [rdA_p] at h; exact h, (fun y hy => by rw [HE2.out] at hy; cases hy), Hb3.out⟩
    | inr m0 =>
      have HX4 : Hid (Calls Tryd.prog 87 _ w2 _) := Lib.hid (HX3.out.mono fun e w' h => (show NuOk w0 g 21 _ _ f1 (.inr m0) e w' from NuOk.of hn h))
      have HE2 : Hid (byteR [f0, f1, f2] = daR ⟨4, ad0, 0, m0, []⟩ f2) := Lib.hid (by rw [HE.out, hn]; rfl)
      clear hn HX3
      go_wp2_with (first
        | (go_at_call 87; refine HX4.out.mono ?_; rintro e w3 ⟨n, rfl, hB3, hm, hb3⟩; obtain rfl := hm m0 rfl; rw [rdA_p] at hB3; have HX5 := Lib.hid (scdata_any w0 w3 g _ ⟨4, ad0, 0, m0, []⟩ rfl [f0, f1, f2] HS.out hb3 hg hB3 2 (by simp) hF (Hf.out _ (by simp))); clear hB3 hb3 hm; unfold codeR)
        | (go_at_call 88; refine HX5.out.mono ?_; rintro e w4 ⟨x, rfl, hB4, hm, hb4⟩; have H4 := Lib.hid (And.intro hB4 (And.intro hm hb4)); clear hB4 hm hb4))
      go_ret
      rw [HE2.out]
      exact ⟨x, rfl, H4.out.1, H4.out.2.1, H4.out.2.2⟩
  · have E1 : Hid (byteR F = .inl 5) := Lib.hid (by
      match F, h1 with
      | [], _ => rfl
      | [_], _ => rfl
      | [_, _], _ => rfl
      | [_, _, _], h => exact absurd rfl h
      | _ :: _ :: _ :: _ :: _, _ => rfl)
    have h1' : ((F.length : Int) != 3) = true := by simp; omega
    go_wp2
    go_ret
    exact ⟨_, by rw [E1.out]; rfl, HB2.out, (fun y hy => by rw [E1.out] at hy; cases hy), Hb2.out⟩
set_option maxRecDepth 100000 in
set_option maxHeartbeats 2000000 in
theorem scpacket_any (w0 w : World) (ht : Tab w0) (hm : MaxI w0) (g : Nat) (v : Value) (F : List (List UInt8)) (hs : Sl w0 1 v F.length (F.map stv)) (hb : Below w0.heap.size w0 w) (hg : w0.heap.size ≤ g) (hB : Bk w g 85 (rdA v ev0)) (hF : F.length ≤ 100000) (hf : ∀ f ∈ F, f.length ≤ 1000000) :
    Calls Tryd.prog 51 #[.pointer (some ⟨g, 0, none⟩)] w (RdPost w0 g v (packR F)) := by
  obtain ⟨A, c, rfl, hc⟩ := hs.any
  have HS := Lib.hid hs
  have HB := Lib.hid hB
  have Hb := Lib.hid hb
  have Hf := Lib.hid hf
  have Ht := Lib.hid ht
  have Hm := Lib.hid hm
  clear hB hb hs hf ht hm
  go_enter Tryd.func51, Tryd.ntmps51
  go_wp2_with (first
    | ((with_reducible show wpList _ _ _ (⟨none, .store _ _ _, _, _, _, _⟩ :: _) _ _); refine wpList_storeC (o := ⟨none, _, _, _, _, _⟩) (i := 1) (v := .int .i64 2) rfl _ _ _ rfl rfl rfl rfl HB.out (by rw [rdA_size]; decide) scz_int ?_; intro w2 hB2 hS2; rw [rdA_k] at hB2; have HB2 := Lib.hid hB2; have Hb2 := Lib.hid (Hb.out.trans (hS2.below hg)); have c0 : w2.cell? ⟨g, 0, none⟩ = some (.slice A F.length c) := hB2.cell 0; clear hB2 hS2; refine holdL ?_))
  refine Lib.hid ?_
  by_cases h1 : F.length = 5
  · obtain ⟨f0, f1, f2, f3, f4, rfl⟩ : ∃ f0 f1 f2 f3 f4, F = [f0, f1, f2, f3, f4] := by
      match F, h1 with
      | [a, b, c, d, e], _ => exact ⟨_, _, _, _, _, rfl⟩
    have HX3 := scfrom_any w0 w2 Ht.out Hm.out g _ { ev0 with k := 2 } [f0, f1, f2, f3, f4] HS.out Hb2.out hg HB2.out 1 (by simp) hF (Hf.out _ (by simp))
    rw [show ([f0, f1, f2, f3, f4] : List (List UInt8))[1] = f1 from rfl] at HX3
    cases ha : adrP f1 with
    | inl ea =>
      have HE2 : Hid (packR [f0, f1, f2, f3, f4] = .inl 5) := Lib.hid (by simp only [packR, ha])
      rw [show frR { ev0 with k := 2 } f1 = .inl 5 by unfold frR; rw [ha]] at HX3
      have HX4 := Lib.hid HX3
      clear ha HX3
      go_wp2_with (first
        | (go_at_call 86; refine HX4.out.mono ?_; rintro e w3 ⟨x, rfl, hB3, hm, hb3⟩; have HB3 := Lib.hid hB3; have Hb3 := Lib.hid hb3; clear hB3 hb3 hm; unfold codeR))
      go_ret
      exact ⟨x, by rw [HE2.out]; rfl, HB3.out, (fun y hy => by rw [HE2.out] at hy; cases hy), Hb3.out⟩
    | inr a =>
      rw [show frR { ev0 with k := 2 } f1 = .inr ⟨2, a, 0, 0, []⟩ by unfold frR; rw [ha]; rfl] at HX3
      have HX4 := Lib.hid HX3
      have HE : Hid (packR [f0, f1, f2, f3, f4] = bindR (numR f2) fun n => bindR (numR f3) fun m => bindR (datR f4) fun d => .inr ⟨2, a, n, m, d⟩) := Lib.hid (by simp only [packR, ha])
      clear ha HX3
      go_wp2_with (first
        | (go_at_call 86; refine HX4.out.mono ?_; rintro e w3 ⟨x, rfl, hB3, hm, hb3⟩; obtain rfl := hm _ rfl; have HB3 := Lib.hid hB3; have Hb3 := Lib.hid hb3; clear hB3 hb3 hm; unfold codeR; refine holdL ?_))
      refine Lib.hid ?_
      have HX5 := scnum_any w0 w3 g 20 _ ⟨2, a, 0, 0, []⟩ [f0, f1, f2, f3, f4] HS.out Hb3.out hg HB3.out (by decide) 2 (by simp) hF (Hf.out _ (by simp))
      rw [show ([f0, f1, f2, f3, f4] : List (List UInt8))[2] = f2 from rfl] at HX5
      cases hn : numR f2 with
      | inl e0 =>
        have HE2 : Hid (packR [f0, f1, f2, f3, f4] = .inl e0) := Lib.hid (by rw [HE.out, hn]; rfl)
        have hne : (e0 != 0) = true := by rcases numR_err hn with rfl | rfl <;> rfl
        have HX6 := Lib.hid (HX5.mono fun e w' h => NuOk.of hn h)
        clear hn HX5
        go_wp2_with (first
          | (go_at_call 87; refine HX6.out.mono ?_; rintro e w4 ⟨n, rfl, hB3, hm, hb3⟩; have HB4 := Lib.hid hB3; have Hb4 := Lib.hid hb3; clear hB3 hb3 hm; unfold codeR))
        go_ret
        exact ⟨_, by rw [HE2.out]; rfl, by have h := HB4.out; rw [rdA_fp] at h; exact h, (fun y hy => by rw [HE2.out] at hy; cases hy), Hb4.out⟩
      | inr n0 =>
        have HX6 := Lib.hid (HX5.mono fun e w' h => NuOk.of hn h)
        have HE1 : Hid (packR [f0, f1, f2, f3, f4] = bindR (numR f3) fun m => bindR (datR f4) fun d => .inr ⟨2, a, n0, m, d⟩) := Lib.hid (by rw [HE.out, hn]; rfl)
        clear hn HX5
        go_wp2_with (first
          | (go_at_call 87; refine HX6.out.mono ?_; rintro e w4 ⟨n, rfl, hB3, hm, hb3⟩; obtain rfl := hm n0 rfl; rw [rdA_fp] at hB3; have HB4 := Lib.hid hB3; have Hb4 := Lib.hid hb3; clear hB3 hb3 hm; unfold codeR; refine holdL ?_))
        refine Lib.hid ?_
        have HX7 := scnum_any w0 w4 g 21 _ ⟨2, a, n0, 0, []⟩ [f0, f1, f2, f3, f4] HS.out Hb4.out hg HB4.out (by decide) 3 (by simp) hF (Hf.out _ (by simp))
        rw [show ([f0, f1, f2, f3, f4] : List (List UInt8))[3] = f3 from rfl] at HX7
        cases hn : numR f3 with
        | inl e0 =>
          have HE2 : Hid (packR [f0, f1, f2, f3, f4] = .inl e0) := Lib.hid (by rw [HE1.out, hn]; rfl)
          have hne : (e0 != 0) = true := by rcases numR_err hn with rfl | rfl <;> rfl
          have HX8 := Lib.hid (HX7.mono fun e w' h => NuOk.of hn h)
          clear hn HX7
          go_wp2_with (first
            | (go_at_call 87; refine HX8.out.mono ?_; rintro e w5 ⟨n, rfl, hB3, hm, hb3⟩; have HB5 := Lib.hid hB3; have Hb5 := Lib.hid hb3; clear hB3 hb3 hm; unfold codeR))
          go_ret
          exact ⟨_, by rw [HE2.out]; rfl, by have h := HB5.out; rw [rdA_p] at h; exact h, (fun y hy => by rw [HE2.out] at hy; cases hy), Hb5.out⟩
        | inr m0 =>
          have HX8 := Lib.hid (HX7.mono fun e w' h => NuOk.of hn h)
          have HE2 : Hid (packR [f0, f1, f2, f3, f4] = daR ⟨2, a, n0, m0, []⟩ f4) := Lib.hid (by rw [HE1.out, hn]; rfl)
          clear hn HX7
          go_wp2_with (first
            | (go_at_call 87; refine HX8.out.mono ?_; rintro e w5 ⟨n, rfl, hB3, hm, hb3⟩; obtain rfl := hm m0 rfl; rw [rdA_p] at hB3; have HX9 := Lib.hid (scdata_any w0 w5 g _ ⟨2, a, n0, m0, []⟩ rfl [f0, f1, f2, f3, f4] HS.out hb3 hg hB3 4 (by simp) hF (Hf.out _ (by simp))); clear hB3 hb3 hm; unfold codeR)
            | (go_at_call 88; refine HX9.out.mono ?_; rintro e w6 ⟨x, rfl, hB4, hm, hb4⟩; have H4 := Lib.hid (And.intro hB4 (And.intro hm hb4)); clear hB4 hm hb4))
          go_ret
          rw [HE2.out]
          exact ⟨x, rfl, H4.out.1, H4.out.2.1, H4.out.2.2⟩
  · have E1 : Hid (packR F = .inl 5) := Lib.hid (by
      match F, h1 with
      | [], _ => rfl
      | [_], _ => rfl
      | [_, _], _ => rfl
      | [_, _, _], _ => rfl
      | [_, _, _, _], _ => rfl
      | [_, _, _, _, _], h => exact absurd rfl h
      | _ :: _ :: _ :: _ :: _ :: _ :: _, _ => rfl)
    have h1' : ((F.length : Int) != 5) = true := by simp; omega
    go_wp2
    go_ret
    exact ⟨_, by rw [E1.out]; rfl, HB2.out, (fun y hy => by rw [E1.out] at hy; cases hy), Hb2.out⟩
end Go.Proofs.YtgebcifkbldfoaaDoor

/- script.Parse. -/
namespace Go.Proofs.YtgebcifkbldfoaaDoor
open Go.RowKit
attribute [local go_sem] ba_get ext_take ext_drop ext_any ba_app

theorem evF_err {F : List (List UInt8)} {e : Int} (h : evF F = .inl e) : (e != 0) = true := by
  have hd : ∀ {s : List UInt8} {e : Int}, datR s = .inl e → (e != 0) = true := by
    intro s e h
    unfold datR at h
    split at h
    · cases h
    · split at h
      · cases h; rfl
      · split at h
        · cases h; rfl
        · split at h
          · cases h; rfl
          · cases h
  have hn : ∀ {s : List UInt8} {e : Int}, numR s = .inl e → (e != 0) = true := fun h => by rcases numR_err h with rfl | rfl <;> rfl
  have hb : ∀ {α β : Type} {x : Int ⊕ α} {f : α → Int ⊕ β} {e : Int}, bindR x f = .inl e → x = .inl e ∨ ∃ a, f a = .inl e := by
    intro α β x f e h
    cases x with
    | inl e' => cases h; exact .inl rfl
    | inr a => exact .inr ⟨a, h⟩
  unfold evF at h
  split at h
  · cases h; rfl
  · split at h
    · unfold tickR at h
      split at h
      · cases h
      · cases h; rfl
    · split at h
      · unfold packR at h
        split at h
        · split at h
          · cases h; rfl
          · rcases hb h with h | ⟨a, h⟩
            · exact hn h
            · rcases hb h with h | ⟨a, h⟩
              · exact hn h
              · rcases hb h with h | ⟨a, h⟩
                · exact hd h
                · cases h
        · cases h; rfl
      · split at h
        · unfold alonR at h
          split at h
          · rcases hb h with h | ⟨a, h⟩
            · exact hn h
            · cases h
          · cases h; rfl
        · split at h
          · unfold byteR at h
            split at h
            · rcases hb h with h | ⟨a, h⟩
              · exact hn h
              · rcases hb h with h | ⟨a, h⟩
                · exact hd h
                · cases h
            · cases h; rfl
          · split at h
            · unfold alonR at h
              split at h
              · rcases hb h with h | ⟨a, h⟩
                · exact hn h
                · cases h
              · cases h; rfl
            · cases h; rfl
def scV (g : Nat) (f : FuncId) : Value := .func (.func f) #[.pointer (some ⟨g, 0, none⟩)] #[]
def scL (g : Nat) : List (List UInt8 × Value) := [(wTick, scV g 50), (wPacket, scV g 51), (wOpen, scV g 52), (wBytes, scV g 53), (wClose, scV g 54)]
theorem zero_scf (w : World) : (zeroValue 86).run Tryd.prog w = .ok .nilFunc w := by
  have h : (Tryd.prog.info? 86).map (·.zero) = some (some .nilFunc) := by kernel_rfl
  cases hq : Tryd.prog.info? 86 with
  | none => rw [hq] at h; cases h
  | some i =>
    rw [hq] at h
    have hz : i.zero = some .nilFunc := by simpa using h
    simp [zeroValue, typeInfo, hq, hz]
theorem scgr_trans {a b c : World} {row : Option Nat} (h : a.grownBy b row) (k : b.grownBy c row) : a.grownBy c row :=
  ⟨k.os.trans h.os, k.tape.trans h.tape, k.output.trans h.output, Nat.le_trans h.size k.size, fun i hi hne => (k.block i (Nat.lt_of_lt_of_le hi h.size) hne).trans (h.block i hi hne)⟩
theorem scmkfn_run (fn : Fn) (first cap : Array Value) (w : World) : (Instr.makeFunc fn first cap).run Tryd.prog w = .ok (.func fn first cap) w := rfl
theorem wpList_lookupS {P : Program} {ops : Array Oper} {rest : List Oper} {o : Oper} {a : Act} {w : World} {Q : Exit → Act → World → Prop} (hg : o.guard = none) (m x : Operand) (t : TypeId) (hop : o.op = .lookup t m x true) {kt e : TypeId} (ht : P.underlying t = some (.map kt e)) (hk : P.underlying kt = some .string) {z : Value} (hz : ∀ w', (zeroValue e).run P w' = .ok z w')
    {r : Nat} (hm : a.eval m = .map (some r)) {s : List UInt8} (hx : a.eval x = stv s) {l : List (List UInt8 × Value)} (hM : MapS w r l) {v : Value} {b : Bool} (hv : (entS s l).getD z = v) (hb : (entS s l).isSome = b)
    (h : wpList P ops Q rest (a.put o.dst (.tuple #[v, .bool b])) w) : wpList P ops Q (o :: rest) a w := by
  refine wpList_plain hg fun _ hK => ?_
  subst hv hb
  have hr := run_lookupS (w := w) ht hk (hz _) hM s
  unfold Oper.wp execOp
  simp only [hop, hm, hx, Sem.run_bind, hr, Result.andThen_ok]
  exact hK _ _ h
theorem ret_evE {fn : Func} {p q : Tmp} (h : fn.results = #[.cell p 36, .tmp q]) {R : Ending → World → Prop} {a : Act} {w : World} {g : Nat} {t : TypeId} {b : Ev} {v : Value}
    (hp : a.tmps.getD p undef = .pointer (some ⟨g, 0, none⟩)) (hq : a.tmps.getD q undef = v) (hB : Bk w g t (evA b)) (hd : a.defers = []) (hR : R (.returned (.tuple #[.agg (evA b), v])) w) : bodyPost Tryd.prog fn R .ret a w := by
  refine bodyPost_ret_by (v := .tuple #[.agg (evA b), v]) ?_ hd hR
  have hp' : a.tmps[p]?.getD undef = .pointer (some ⟨g, 0, none⟩) := by simpa using hp
  have hq' : a.tmps[q]?.getD undef = v := by simpa using hq
  simp [results, h, hp', hq', asAddr, run_loadVar_row (P := Tryd.prog) w g t 36 (evA b) (0, 0) _ hB ev_under rfl (ev_size' b)]
def EvPost (w : World) (r : Int ⊕ Ev) (e : Ending) (w' : World) : Prop := e = .returned (evR r) ∧ Below w.heap.size w w'
attribute [local go_sem] scmkfn_run
set_option maxRecDepth 100000 in
set_option maxHeartbeats 4000000 in
theorem scparse_any (s : List UInt8) (w : World) (ht : Tab w) (hm : MaxI w) (hl : s.length ≤ 100000) : Calls Tryd.prog 18 #[.string ⟨s.toArray⟩] w (EvPost w (evP s)) := by
  have Ht := Lib.hid ht
  have Hm := Lib.hid hm
  clear ht hm
  have HFl := Lib.hid (flds_len s)
  have HFb := Lib.hid (fun f (h : f ∈ flds s) => flds_mem h)
  have HW := Lib.hid (fieldsW_any s)
  have HE : Hid (evP s = evF (flds s)) := Lib.hid rfl
  generalize flds s = F at *
  have hF : F.length ≤ 100000 := by have := HFl.out; omega
  have Hf : Hid (∀ f ∈ F, f.length ≤ 1000000) := Lib.hid (fun f h => by have := HFb.out f h; omega)
  clear HFl HFb
  go_enter Tryd.func18, Tryd.ntmps18
  go_wp2_with (first
    | ((with_reducible show wpList _ _ _ (⟨some 2, _, _, _, _, _⟩ :: _) _ _); refine wpList_allocZ (o := ⟨some 2, _, _, _, _, _⟩) rfl _ rfl ev_zero ?_; intro g2 w1 hg2 hB2 hb2 hs2; have Hg2 := Lib.hid (Nat.le_of_eq hg2.symm); have HB2 := Lib.hid hB2; have Hb1 := Lib.hid hb2; clear hg2 hs2 hB2 hb2)
    | (go_at_call 49; refine (HW.out _ (by omega)).mono ?_; rintro e w2 ⟨v2, rfl, hs2, hb2⟩; obtain ⟨A2, k2, rfl⟩ := own_any hs2; have Hs2 := Lib.hid (Sl.own hs2); have HB3 := Lib.hid (HB2.out.bel hb2); have Hb2 := Lib.hid (bel_tr Hb1.out hb2); clear hs2 hb2)
    | ((with_reducible show wpList _ _ _ (⟨some 11, _, _, _, _, _⟩ :: _) _ _); refine wpList_buildL (o := ⟨some 11, _, _, _, _, _⟩) rfl _ [(0, .tmp 10)] rfl (built_rd _ _ _) rfl ?_)
    | ((with_reducible refine wpList_boxB (o := ⟨some 12, _, _, _, _, _⟩) rfl _ _ rfl rfl ?_); intro g w3 hg hB hb hs; have Hg := Lib.hid hg; have HB := Lib.hid hB; have HB4 := Lib.hid (HB3.out.bel hb); have Hb3 := Lib.hid hb; have c0 : w3.cell? ⟨g, 0, none⟩ = some (.slice A2 F.length k2) := hB.cell 0; clear hg hB hb hs; refine holdL ?_))
  refine Lib.hid ?_
  have hg2w := Hg2.out
  by_cases hF0 : F = []
  · subst hF0
    have HE0 : Hid (evP s = .inl 1) := Lib.hid HE.out
    go_wp2_with (first
      | ((with_reducible show wpList _ _ _ (⟨some 19, _, _, _, _, _⟩ :: _) _ _); refine wpList_buildL (o := ⟨some 19, _, _, _, _, _⟩) rfl _ [] rfl built_ev0 rfl ?_)
      | ((with_reducible show wpList _ _ _ (⟨none, .store _ (.tmp 2) _, _, _, _, _⟩ :: _) _ _); refine wpList_storeB (o := ⟨none, _, _, _, _, _⟩) rfl _ (.tmp 2) _ rfl rfl rfl HB4.out (ev_size' ev0) rfl (evL_one _) ?_; intro w4 hB4 hS4; have HB5 := Lib.hid hB4; have Hb4 := Lib.hid ((bel_tr Hb2.out Hb3.out).trans (hS4.below hg2w)); clear hB4 hS4))
    refine ret_evE rfl rfl rfl HB5.out rfl ?_
    exact ⟨by rw [HE0.out]; rfl, Hb4.out⟩
  · obtain ⟨f, R, hFR⟩ : ∃ f R, F = f :: R := by
      match F, hF0 with
      | [], h => exact absurd rfl h
      | f :: R, _ => exact ⟨f, R, rfl⟩
    have hpos : 0 < F.length := by rw [hFR]; simp
    have hne : ((F.length : Int) == 0) = false := by simp; omega
    have HFR := Lib.hid hFR
    clear hF0 hFR
    go_wp2_with (first
      | ((with_reducible show wpList _ _ _ (⟨some 20, _, _, _, _, _⟩ :: _) _ _); refine wpList_makeS0 (o := ⟨some 20, _, _, _, _, _⟩) rfl _ rfl ?_; obtain ⟨gm, hgm⟩ : ∃ gm, gm = w3.heap.size := ⟨_, rfl⟩; rw [← hgm]; intro w4 hM hb hs; have HM4 := Lib.hid hM; have HGm := Lib.hid hgm; have Hb4 := Lib.hid hb; clear hM hgm hb hs)
      | ((with_reducible show wpList _ _ _ (⟨none, .insert _ _ _ (.tmp 22), _, _, _, _⟩ :: _) _ _); refine wpList_insertS (o := ⟨none, _, _, _, _, _⟩) rfl _ (.tmp 20) _ (.tmp 22) rfl Tryd.underlying87 Tryd.underlying9 rfl (x := wTick) rfl rfl HM4.out rfl ?_; intro w5 hM hg hs; have HM5 := Lib.hid hM; have HG5 := Lib.hid hg; clear hM hg hs)
      | ((with_reducible show wpList _ _ _ (⟨none, .insert _ _ _ (.tmp 24), _, _, _, _⟩ :: _) _ _); refine wpList_insertS (o := ⟨none, _, _, _, _, _⟩) rfl _ (.tmp 20) _ (.tmp 24) rfl Tryd.underlying87 Tryd.underlying9 rfl (x := wPacket) rfl rfl HM5.out rfl ?_; intro w6 hM hg hs; have HM6 := Lib.hid hM; have HG6 := Lib.hid hg; clear hM hg hs)
      | ((with_reducible show wpList _ _ _ (⟨none, .insert _ _ _ (.tmp 26), _, _, _, _⟩ :: _) _ _); refine wpList_insertS (o := ⟨none, _, _, _, _, _⟩) rfl _ (.tmp 20) _ (.tmp 26) rfl Tryd.underlying87 Tryd.underlying9 rfl (x := wOpen) rfl rfl HM6.out rfl ?_; intro w7 hM hg hs; have HM7 := Lib.hid hM; have HG7 := Lib.hid hg; clear hM hg hs)
      | ((with_reducible show wpList _ _ _ (⟨none, .insert _ _ _ (.tmp 28), _, _, _, _⟩ :: _) _ _); refine wpList_insertS (o := ⟨none, _, _, _, _, _⟩) rfl _ (.tmp 20) _ (.tmp 28) rfl Tryd.underlying87 Tryd.underlying9 rfl (x := wBytes) rfl rfl HM7.out rfl ?_; intro w8 hM hg hs; have HM8 := Lib.hid hM; have HG8 := Lib.hid hg; clear hM hg hs)
      | ((with_reducible show wpList _ _ _ (⟨none, .insert _ _ _ (.tmp 30), _, _, _, _⟩ :: _) _ _); refine wpList_insertS (o := ⟨none, _, _, _, _, _⟩) rfl _ (.tmp 20) _ (.tmp 30) rfl Tryd.underlying87 Tryd.underlying9 rfl (x := wClose) rfl rfl HM8.out rfl ?_; intro w9 hM hg hs; have HM9 := Lib.hid hM; have HG9 := Lib.hid hg; clear hM hg hs; refine holdL ?_))
    refine Lib.hid ?_
    have hG : w4.grownBy w9 (some gm) := scgr_trans (scgr_trans (scgr_trans (scgr_trans HG5.out HG6.out) HG7.out) HG8.out) HG9.out
    have hb34 : Below w3.heap.size w3 w4 := by rw [← HGm.out]; exact Hb4.out
    have hgm3 : gm = w3.heap.size := HGm.out
    have hltg := HB.out.lt
    have hlt2 := HB4.out.lt
    have hgw : w2.heap.size ≤ g := Nat.le_of_eq Hg.out.symm
    have hgmw : w2.heap.size ≤ gm := by omega
    have HBg : Hid (Bk w9 g 85 (rdA (.slice A2 F.length k2) ev0)) := Lib.hid ((HB.out.bel hb34).grown hG (fun e => by injection e with e; omega))
    have HM : Hid (MapS w9 gm (scL g)) := HM9
    have Hb29 : Hid (Below w2.heap.size w2 w9) := Lib.hid ((Hb3.out.trans (hb34.mono Hb3.out.size)).grown hG (Nat.le_trans Hb3.out.size hb34.size) (fun k e => by cases e; exact hgmw))
    obtain ⟨b1, off, c1, hv, hc1, hbl, hcell⟩ := Hs2.out.pos hpos
    injection hv with hv1 _ hv2
    subst hv1 hv2
    have hfx : w9.cell? ⟨b1, off, none⟩ = some (.string ⟨f.toArray⟩) := by
      have h := hcell 0 (stv f) (by rw [HFR.out]; rfl)
      rw [Nat.add_zero] at h
      exact (bel_cells Hb29.out hbl off).trans h
    have c0' : w9.cell? ⟨g, 0, none⟩ = some (.slice (some ⟨b1, off, none⟩) F.length k2) := HBg.out.cell 0
    have HRg : Hid (Bk w2 g2 36 (evA ev0)) := HB3
    have hposI : (0 : Int) < (F.length : Int) := by omega
    have hg2l : g2 < w2.heap.size := HRg.out.lt
    clear hG hb34 hgm3 hltg hlt2 hgmw hcell c0 HB HB2 HB4 Hb1 Hb3 Hb4 HM4 HM5 HM6 HM7 HM8 HM9 HG5 HG6 HG7 HG8 HG9 HGm Hg HW
    by_cases hw0 : f = wTick
    · subst hw0
      have h := sctick_any w2 w9 g _ F Hs2.out Hb29.out hgw HBg.out
      rw [show tickR F = evF F by rw [HFR.out]; simp [evF, wTick]] at h
      cases hr : evF F with
      | inl e0 =>
        have hne0 := evF_err hr
        rw [hr] at h
        have HX := Lib.hid h
        have HE0 : Hid (evP s = .inl e0) := Lib.hid (HE.out.trans hr)
        clear h hr
        unfold wTick at hfx
        go_wp2_with (first
          | ((with_reducible show wpList _ _ _ (⟨some 40, _, _, _, _, _⟩ :: _) _ _); refine wpList_lookupS (o := ⟨some 40, _, _, _, _, _⟩) rfl _ _ _ rfl Tryd.underlying87 Tryd.underlying9 zero_scf rfl (s := wTick) rfl HM.out (v := .func (.func 50) #[.pointer (some ⟨g, 0, none⟩)] #[]) (b := true) rfl rfl ?_)
          | (go_at_call 50; refine HX.out.mono ?_; rintro e w10 ⟨x, rfl, hB10, hm10, hb10⟩; have HR10 := Lib.hid (HRg.out.bel hb10); have Hb10 := Lib.hid (bel_tr Hb2.out hb10); clear hB10 hm10 hb10; unfold codeR)
          | ((with_reducible show wpList _ _ _ (⟨some 50, _, _, _, _, _⟩ :: _) _ _); refine wpList_buildL (o := ⟨some 50, _, _, _, _, _⟩) rfl _ [] rfl built_ev0 rfl ?_)
          | ((with_reducible show wpList _ _ _ (⟨none, .store _ (.tmp 2) _, _, _, _, _⟩ :: _) _ _); refine wpList_storeB (o := ⟨none, _, _, _, _, _⟩) rfl _ (.tmp 2) _ rfl rfl rfl HR10.out (ev_size' ev0) (by simp only [evA_size]) (evL_one _) ?_; intro w11 hB11 hS11; have HB11 := Lib.hid hB11; have Hb11 := Lib.hid (Hb10.out.trans (hS11.below hg2w)); clear hB11 hS11))
        refine ret_evE rfl rfl rfl HB11.out rfl ?_
        exact ⟨by rw [HE0.out]; rfl, Hb11.out⟩
      | inr y =>
        rw [hr] at h
        have HX := Lib.hid h
        have HE0 : Hid (evP s = .inr y) := Lib.hid (HE.out.trans hr)
        clear h hr
        unfold wTick at hfx
        go_wp2_with (first
          | ((with_reducible show wpList _ _ _ (⟨some 40, _, _, _, _, _⟩ :: _) _ _); refine wpList_lookupS (o := ⟨some 40, _, _, _, _, _⟩) rfl _ _ _ rfl Tryd.underlying87 Tryd.underlying9 zero_scf rfl (s := wTick) rfl HM.out (v := .func (.func 50) #[.pointer (some ⟨g, 0, none⟩)] #[]) (b := true) rfl rfl ?_)
          | (go_at_call 50; refine HX.out.mono ?_; rintro e w10 ⟨x, rfl, hB10, hm10, hb10⟩; obtain rfl := hm10 _ rfl; have HR10 := Lib.hid (HRg.out.bel hb10); have Hb10 := Lib.hid (bel_tr Hb2.out hb10); have hRx := Bk.rangeL (cs := rdL (.slice (some ⟨b1, off, none⟩) F.length k2) x) hB10 1 (evL x) [] (List.append_nil _).symm; clear hB10 hm10 hb10; unfold codeR)
          | ((with_reducible show wpList _ _ _ (⟨some 55, _, _, _, _, _⟩ :: _) _ _); refine wpList_load_mid (op := ⟨some 55, _, _, _, _, _⟩) rfl _ _ rfl _ _ rfl _ _ hRx ev_under rfl (ev_size' x) ?_)
          | ((with_reducible show wpList _ _ _ (⟨none, .store _ (.tmp 2) _, _, _, _, _⟩ :: _) _ _); refine wpList_storeB (o := ⟨none, _, _, _, _, _⟩) rfl _ (.tmp 2) _ rfl rfl rfl HR10.out (ev_size' x) ((evA_size ev0).trans (evA_size x).symm) (evL_one _) ?_; intro w11 hB11 hS11; have HB11 := Lib.hid hB11; have Hb11 := Lib.hid (Hb10.out.trans (hS11.below hg2w)); clear hB11 hS11))
        refine ret_evE rfl rfl rfl HB11.out rfl ?_
        exact ⟨by rw [HE0.out]; rfl, Hb11.out⟩
    by_cases hw1 : f = wPacket
    · subst hw1
      have h := scpacket_any w2 w9 (Ht.out.below Hb2.out) (Hm.out.below Hb2.out) g _ F Hs2.out Hb29.out hgw HBg.out hF Hf.out
      rw [show packR F = evF F by rw [HFR.out]; simp [evF, wTick, wPacket]] at h
      cases hr : evF F with
      | inl e0 =>
        have hne0 := evF_err hr
        rw [hr] at h
        have HX := Lib.hid h
        have HE0 : Hid (evP s = .inl e0) := Lib.hid (HE.out.trans hr)
        clear h hr
        unfold wPacket at hfx
        go_wp2_with (first
          | ((with_reducible show wpList _ _ _ (⟨some 40, _, _, _, _, _⟩ :: _) _ _); refine wpList_lookupS (o := ⟨some 40, _, _, _, _, _⟩) rfl _ _ _ rfl Tryd.underlying87 Tryd.underlying9 zero_scf rfl (s := wPacket) rfl HM.out (v := .func (.func 51) #[.pointer (some ⟨g, 0, none⟩)] #[]) (b := true) rfl rfl ?_)
          | (go_at_call 51; refine HX.out.mono ?_; rintro e w10 ⟨x, rfl, hB10, hm10, hb10⟩; have HR10 := Lib.hid (HRg.out.bel hb10); have Hb10 := Lib.hid (bel_tr Hb2.out hb10); clear hB10 hm10 hb10; unfold codeR)
          | ((with_reducible show wpList _ _ _ (⟨some 50, _, _, _, _, _⟩ :: _) _ _); refine wpList_buildL (o := ⟨some 50, _, _, _, _, _⟩) rfl _ [] rfl built_ev0 rfl ?_)
          | ((with_reducible show wpList _ _ _ (⟨none, .store _ (.tmp 2) _, _, _, _, _⟩ :: _) _ _); refine wpList_storeB (o := ⟨none, _, _, _, _, _⟩) rfl _ (.tmp 2) _ rfl rfl rfl HR10.out (ev_size' ev0) (by simp only [evA_size]) (evL_one _) ?_; intro w11 hB11 hS11; have HB11 := Lib.hid hB11; have Hb11 := Lib.hid (Hb10.out.trans (hS11.below hg2w)); clear hB11 hS11))
        refine ret_evE rfl rfl rfl HB11.out rfl ?_
        exact ⟨by rw [HE0.out]; rfl, Hb11.out⟩
      | inr y =>
        rw [hr] at h
        have HX := Lib.hid h
        have HE0 : Hid (evP s = .inr y) := Lib.hid (HE.out.trans hr)
        clear h hr
        unfold wPacket at hfx
        go_wp2_with (first
          | ((with_reducible show wpList _ _ _ (⟨some 40, _, _, _, _, _⟩ :: _) _ _); refine wpList_lookupS (o := ⟨some 40, _, _, _, _, _⟩) rfl _ _ _ rfl Tryd.underlying87 Tryd.underlying9 zero_scf rfl (s := wPacket) rfl HM.out (v := .func (.func 51) #[.pointer (some ⟨g, 0, none⟩)] #[]) (b := true) rfl rfl ?_)
          | (go_at_call 51; refine HX.out.mono ?_; rintro e w10 ⟨x, rfl, hB10, hm10, hb10⟩; obtain rfl := hm10 _ rfl; have HR10 := Lib.hid (HRg.out.bel hb10); have Hb10 := Lib.hid (bel_tr Hb2.out hb10); have hRx := Bk.rangeL (cs := rdL (.slice (some ⟨b1, off, none⟩) F.length k2) x) hB10 1 (evL x) [] (List.append_nil _).symm; clear hB10 hm10 hb10; unfold codeR)
          | ((with_reducible show wpList _ _ _ (⟨some 55, _, _, _, _, _⟩ :: _) _ _); refine wpList_load_mid (op := ⟨some 55, _, _, _, _, _⟩) rfl _ _ rfl _ _ rfl _ _ hRx ev_under rfl (ev_size' x) ?_)
          | ((with_reducible show wpList _ _ _ (⟨none, .store _ (.tmp 2) _, _, _, _, _⟩ :: _) _ _); refine wpList_storeB (o := ⟨none, _, _, _, _, _⟩) rfl _ (.tmp 2) _ rfl rfl rfl HR10.out (ev_size' x) ((evA_size ev0).trans (evA_size x).symm) (evL_one _) ?_; intro w11 hB11 hS11; have HB11 := Lib.hid hB11; have Hb11 := Lib.hid (Hb10.out.trans (hS11.below hg2w)); clear hB11 hS11))
        refine ret_evE rfl rfl rfl HB11.out rfl ?_
        exact ⟨by rw [HE0.out]; rfl, Hb11.out⟩
    by_cases hw2 : f = wOpen
    · subst hw2
      have h := scopen_any w2 w9 g _ F Hs2.out Hb29.out hgw HBg.out hF Hf.out
      rw [show alonR 3 F = evF F by rw [HFR.out]; simp [evF, wTick, wPacket, wOpen]] at h
      cases hr : evF F with
      | inl e0 =>
        have hne0 := evF_err hr
        rw [hr] at h
        have HX := Lib.hid h
        have HE0 : Hid (evP s = .inl e0) := Lib.hid (HE.out.trans hr)
        clear h hr
        unfold wOpen at hfx
        go_wp2_with (first
          | ((with_reducible show wpList _ _ _ (⟨some 40, _, _, _, _, _⟩ :: _) _ _); refine wpList_lookupS (o := ⟨some 40, _, _, _, _, _⟩) rfl _ _ _ rfl Tryd.underlying87 Tryd.underlying9 zero_scf rfl (s := wOpen) rfl HM.out (v := .func (.func 52) #[.pointer (some ⟨g, 0, none⟩)] #[]) (b := true) rfl rfl ?_)
          | (go_at_call 52; refine HX.out.mono ?_; rintro e w10 ⟨x, rfl, hB10, hm10, hb10⟩; have HR10 := Lib.hid (HRg.out.bel hb10); have Hb10 := Lib.hid (bel_tr Hb2.out hb10); clear hB10 hm10 hb10; unfold codeR)
          | ((with_reducible show wpList _ _ _ (⟨some 50, _, _, _, _, _⟩ :: _) _ _); refine wpList_buildL (o := ⟨some 50, _, _, _, _, _⟩) rfl _ [] rfl built_ev0 rfl ?_)
          | ((with_reducible show wpList _ _ _ (⟨none, .store _ (.tmp 2) _, _, _, _, _⟩ :: _) _ _); refine wpList_storeB (o := ⟨none, _, _, _, _, _⟩) rfl _ (.tmp 2) _ rfl rfl rfl HR10.out (ev_size' ev0) (by simp only [evA_size]) (evL_one _) ?_; intro w11 hB11 hS11; have HB11 := Lib.hid hB11; have Hb11 := Lib.hid (Hb10.out.trans (hS11.below hg2w)); clear hB11 hS11))
        refine ret_evE rfl rfl rfl HB11.out rfl ?_
        exact ⟨by rw [HE0.out]; rfl, Hb11.out⟩
      | inr y =>
        rw [hr] at h
        have HX := Lib.hid h
        have HE0 : Hid (evP s = .inr y) := Lib.hid (HE.out.trans hr)
        clear h hr
        unfold wOpen at hfx
        go_wp2_with (first
          | ((with_reducible show wpList _ _ _ (⟨some 40, _, _, _, _, _⟩ :: _) _ _); refine wpList_lookupS (o := ⟨some 40, _, _, _, _, _⟩) rfl _ _ _ rfl Tryd.underlying87 Tryd.underlying9 zero_scf rfl (s := wOpen) rfl HM.out (v := .func (.func 52) #[.pointer (some ⟨g, 0, none⟩)] #[]) (b := true) rfl rfl ?_)
          | (go_at_call 52; refine HX.out.mono ?_; rintro e w10 ⟨x, rfl, hB10, hm10, hb10⟩; obtain rfl := hm10 _ rfl; have HR10 := Lib.hid (HRg.out.bel hb10); have Hb10 := Lib.hid (bel_tr Hb2.out hb10); have hRx := Bk.rangeL (cs := rdL (.slice (some ⟨b1, off, none⟩) F.length k2) x) hB10 1 (evL x) [] (List.append_nil _).symm; clear hB10 hm10 hb10; unfold codeR)
          | ((with_reducible show wpList _ _ _ (⟨some 55, _, _, _, _, _⟩ :: _) _ _); refine wpList_load_mid (op := ⟨some 55, _, _, _, _, _⟩) rfl _ _ rfl _ _ rfl _ _ hRx ev_under rfl (ev_size' x) ?_)
          | ((with_reducible show wpList _ _ _ (⟨none, .store _ (.tmp 2) _, _, _, _, _⟩ :: _) _ _); refine wpList_storeB (o := ⟨none, _, _, _, _, _⟩) rfl _ (.tmp 2) _ rfl rfl rfl HR10.out (ev_size' x) ((evA_size ev0).trans (evA_size x).symm) (evL_one _) ?_; intro w11 hB11 hS11; have HB11 := Lib.hid hB11; have Hb11 := Lib.hid (Hb10.out.trans (hS11.below hg2w)); clear hB11 hS11))
        refine ret_evE rfl rfl rfl HB11.out rfl ?_
        exact ⟨by rw [HE0.out]; rfl, Hb11.out⟩
    by_cases hw3 : f = wBytes
    · subst hw3
      have h := scbytes_any w2 w9 g _ F Hs2.out Hb29.out hgw HBg.out hF Hf.out
      rw [show byteR F = evF F by rw [HFR.out]; simp [evF, wTick, wPacket, wOpen, wBytes]] at h
      cases hr : evF F with
      | inl e0 =>
        have hne0 := evF_err hr
        rw [hr] at h
        have HX := Lib.hid h
        have HE0 : Hid (evP s = .inl e0) := Lib.hid (HE.out.trans hr)
        clear h hr
        unfold wBytes at hfx
        go_wp2_with (first
          | ((with_reducible show wpList _ _ _ (⟨some 40, _, _, _, _, _⟩ :: _) _ _); refine wpList_lookupS (o := ⟨some 40, _, _, _, _, _⟩) rfl _ _ _ rfl Tryd.underlying87 Tryd.underlying9 zero_scf rfl (s := wBytes) rfl HM.out (v := .func (.func 53) #[.pointer (some ⟨g, 0, none⟩)] #[]) (b := true) rfl rfl ?_)
          | (go_at_call 53; refine HX.out.mono ?_; rintro e w10 ⟨x, rfl, hB10, hm10, hb10⟩; have HR10 := Lib.hid (HRg.out.bel hb10); have Hb10 := Lib.hid (bel_tr Hb2.out hb10); clear hB10 hm10 hb10; unfold codeR)
          | ((with_reducible show wpList _ _ _ (⟨some 50, _, _, _, _, _⟩ :: _) _ _); refine wpList_buildL (o := ⟨some 50, _, _, _, _, _⟩) rfl _ [] rfl built_ev0 rfl ?_)
          | ((with_reducible show wpList _ _ _ (⟨none, .store _ (.tmp 2) _, _, _, _, _⟩ :: _) _ _); refine wpList_storeB (o := ⟨none, _, _, _, _, _⟩) rfl _ (.tmp 2) _ rfl rfl rfl HR10.out (ev_size' ev0) (by simp only [evA_size]) (evL_one _) ?_; intro w11 hB11 hS11; have HB11 := Lib.hid hB11; have Hb11 := Lib.hid (Hb10.out.trans (hS11.below hg2w)); clear hB11 hS11))
        refine ret_evE rfl rfl rfl HB11.out rfl ?_
        exact ⟨by rw [HE0.out]; rfl, Hb11.out⟩
      | inr y =>
        rw [hr] at h
        have HX := Lib.hid h
        have HE0 : Hid (evP s = .inr y) := Lib.hid (HE.out.trans hr)
        clear h hr
        unfold wBytes at hfx
        go_wp2_with (first
          | ((with_reducible show wpList _ _ _ (⟨some 40, _, _, _, _, _⟩ :: _) _ _); refine wpList_lookupS (o := ⟨some 40, _, _, _, _, _⟩) rfl _ _ _ rfl Tryd.underlying87 Tryd.underlying9 zero_scf rfl (s := wBytes) rfl HM.out (v := .func (.func 53) #[.pointer (some ⟨g, 0, none⟩)] #[]) (b := true) rfl rfl ?_)
          | (go_at_call 53; refine HX.out.mono ?_; rintro e w10 ⟨x, rfl, hB10, hm10, hb10⟩; obtain rfl := hm10 _ rfl; have HR10 := Lib.hid (HRg.out.bel hb10); have Hb10 := Lib.hid (bel_tr Hb2.out hb10); have hRx := Bk.rangeL (cs := rdL (.slice (some ⟨b1, off, none⟩) F.length k2) x) hB10 1 (evL x) [] (List.append_nil _).symm; clear hB10 hm10 hb10; unfold codeR)
          | ((with_reducible show wpList _ _ _ (⟨some 55, _, _, _, _, _⟩ :: _) _ _); refine wpList_load_mid (op := ⟨some 55, _, _, _, _, _⟩) rfl _ _ rfl _ _ rfl _ _ hRx ev_under rfl (ev_size' x) ?_)
          | ((with_reducible show wpList _ _ _ (⟨none, .store _ (.tmp 2) _, _, _, _, _⟩ :: _) _ _); refine wpList_storeB (o := ⟨none, _, _, _, _, _⟩) rfl _ (.tmp 2) _ rfl rfl rfl HR10.out (ev_size' x) ((evA_size ev0).trans (evA_size x).symm) (evL_one _) ?_; intro w11 hB11 hS11; have HB11 := Lib.hid hB11; have Hb11 := Lib.hid (Hb10.out.trans (hS11.below hg2w)); clear hB11 hS11))
        refine ret_evE rfl rfl rfl HB11.out rfl ?_
        exact ⟨by rw [HE0.out]; rfl, Hb11.out⟩
    by_cases hw4 : f = wClose
    · subst hw4
      have h := scclosed_any w2 w9 g _ F Hs2.out Hb29.out hgw HBg.out hF Hf.out
      rw [show alonR 5 F = evF F by rw [HFR.out]; simp [evF, wTick, wPacket, wOpen, wBytes, wClose]] at h
      cases hr : evF F with
      | inl e0 =>
        have hne0 := evF_err hr
        rw [hr] at h
        have HX := Lib.hid h
        have HE0 : Hid (evP s = .inl e0) := Lib.hid (HE.out.trans hr)
        clear h hr
        unfold wClose at hfx
        go_wp2_with (first
          | ((with_reducible show wpList _ _ _ (⟨some 40, _, _, _, _, _⟩ :: _) _ _); refine wpList_lookupS (o := ⟨some 40, _, _, _, _, _⟩) rfl _ _ _ rfl Tryd.underlying87 Tryd.underlying9 zero_scf rfl (s := wClose) rfl HM.out (v := .func (.func 54) #[.pointer (some ⟨g, 0, none⟩)] #[]) (b := true) rfl rfl ?_)
          | (go_at_call 54; refine HX.out.mono ?_; rintro e w10 ⟨x, rfl, hB10, hm10, hb10⟩; have HR10 := Lib.hid (HRg.out.bel hb10); have Hb10 := Lib.hid (bel_tr Hb2.out hb10); clear hB10 hm10 hb10; unfold codeR)
          | ((with_reducible show wpList _ _ _ (⟨some 50, _, _, _, _, _⟩ :: _) _ _); refine wpList_buildL (o := ⟨some 50, _, _, _, _, _⟩) rfl _ [] rfl built_ev0 rfl ?_)
          | ((with_reducible show wpList _ _ _ (⟨none, .store _ (.tmp 2) _, _, _, _, _⟩ :: _) _ _); refine wpList_storeB (o := ⟨none, _, _, _, _, _⟩) rfl _ (.tmp 2) _ rfl rfl rfl HR10.out (ev_size' ev0) (by simp only [evA_size]) (evL_one _) ?_; intro w11 hB11 hS11; have HB11 := Lib.hid hB11; have Hb11 := Lib.hid (Hb10.out.trans (hS11.below hg2w)); clear hB11 hS11))
        refine ret_evE rfl rfl rfl HB11.out rfl ?_
        exact ⟨by rw [HE0.out]; rfl, Hb11.out⟩
      | inr y =>
        rw [hr] at h
        have HX := Lib.hid h
        have HE0 : Hid (evP s = .inr y) := Lib.hid (HE.out.trans hr)
        clear h hr
        unfold wClose at hfx
        go_wp2_with (first
          | ((with_reducible show wpList _ _ _ (⟨some 40, _, _, _, _, _⟩ :: _) _ _); refine wpList_lookupS (o := ⟨some 40, _, _, _, _, _⟩) rfl _ _ _ rfl Tryd.underlying87 Tryd.underlying9 zero_scf rfl (s := wClose) rfl HM.out (v := .func (.func 54) #[.pointer (some ⟨g, 0, none⟩)] #[]) (b := true) rfl rfl ?_)
          | (go_at_call 54; refine HX.out.mono ?_; rintro e w10 ⟨x, rfl, hB10, hm10, hb10⟩; obtain rfl := hm10 _ rfl; have HR10 := Lib.hid (HRg.out.bel hb10); have Hb10 := Lib.hid (bel_tr Hb2.out hb10); have hRx := Bk.rangeL (cs := rdL (.slice (some ⟨b1, off, none⟩) F.length k2) x) hB10 1 (evL x) [] (List.append_nil _).symm; clear hB10 hm10 hb10; unfold codeR)
          | ((with_reducible show wpList _ _ _ (⟨some 55, _, _, _, _, _⟩ :: _) _ _); refine wpList_load_mid (op := ⟨some 55, _, _, _, _, _⟩) rfl _ _ rfl _ _ rfl _ _ hRx ev_under rfl (ev_size' x) ?_)
          | ((with_reducible show wpList _ _ _ (⟨none, .store _ (.tmp 2) _, _, _, _, _⟩ :: _) _ _); refine wpList_storeB (o := ⟨none, _, _, _, _, _⟩) rfl _ (.tmp 2) _ rfl rfl rfl HR10.out (ev_size' x) ((evA_size ev0).trans (evA_size x).symm) (evL_one _) ?_; intro w11 hB11 hS11; have HB11 := Lib.hid hB11; have Hb11 := Lib.hid (Hb10.out.trans (hS11.below hg2w)); clear hB11 hS11))
        refine ret_evE rfl rfl rfl HB11.out rfl ?_
        exact ⟨by rw [HE0.out]; rfl, Hb11.out⟩
    have HE0 : Hid (evP s = .inl 10) := Lib.hid (by rw [HE.out, HFR.out]; simp only [evF]; rw [if_neg hw0, if_neg hw1, if_neg hw2, if_neg hw3, if_neg hw4])
    have HR10 := Lib.hid (HRg.out.bel Hb29.out)
    have Hb10 := Lib.hid (bel_tr Hb2.out Hb29.out)
    have hv0 : (entS f (scL g)).getD .nilFunc = .nilFunc := by unfold scL; simp only [entS]; rw [if_neg hw0, if_neg hw1, if_neg hw2, if_neg hw3, if_neg hw4]; rfl
    have hb0 : (entS f (scL g)).isSome = false := by unfold scL; simp only [entS]; rw [if_neg hw0, if_neg hw1, if_neg hw2, if_neg hw3, if_neg hw4]; rfl
    clear hw0 hw1 hw2 hw3 hw4
    go_wp2_with (first
      | ((with_reducible show wpList _ _ _ (⟨some 40, _, _, _, _, _⟩ :: _) _ _); refine wpList_lookupS (o := ⟨some 40, _, _, _, _, _⟩) rfl _ _ _ rfl Tryd.underlying87 Tryd.underlying9 zero_scf rfl (s := f) rfl HM.out hv0 hb0 ?_)
      | ((with_reducible show wpList _ _ _ (⟨some 45, _, _, _, _, _⟩ :: _) _ _); refine wpList_buildL (o := ⟨some 45, _, _, _, _, _⟩) rfl _ [] rfl built_ev0 rfl ?_)
      | ((with_reducible show wpList _ _ _ (⟨none, .store _ (.tmp 2) _, _, _, _, _⟩ :: _) _ _); refine wpList_storeB (o := ⟨none, _, _, _, _, _⟩) rfl _ (.tmp 2) _ rfl rfl rfl HR10.out (ev_size' ev0) rfl (evL_one _) ?_; intro w11 hB11 hS11; have HB11 := Lib.hid hB11; have Hb11 := Lib.hid (Hb10.out.trans (hS11.below hg2w)); clear hB11 hS11))
    refine ret_evE rfl rfl rfl HB11.out rfl ?_
    exact ⟨by rw [HE0.out]; rfl, Hb11.out⟩
end Go.Proofs.YtgebcifkbldfoaaDoor

/- script: the reference's data. -/
namespace Go.Proofs.YtgebcifkbldfoaaDoor
open Go.RowKit
attribute [local go_sem] ba_get ext_take ext_drop ext_any ba_app

def datV (r : Int ⊕ List UInt8) : Value := match r with
  | .inl e => .tuple #[stv [], .int .i64 e]
  | .inr d => .tuple #[stv d, .int .i64 0]
def DatPost (w : World) (s : List UInt8) (e : Ending) (w' : World) : Prop := e = .returned (datV (datR s)) ∧ Below w.heap.size w w'
set_option maxRecDepth 100000 in
set_option maxHeartbeats 2000000 in
theorem scrdata_any (s : List UInt8) (w : World) (hl : s.length ≤ 1000000) : Calls Tryd.prog 58 #[.string ⟨s.toArray⟩] w (DatPost w s) := by
  by_cases h45 : s = [45]
  · subst h45
    have HE : Hid (datV (datR [45]) = .tuple #[stv [], .int .i64 0]) := Lib.hid rfl
    go_enter Tryd.func58, Tryd.ntmps58
    go_wp2
    go_ret2
    exact ⟨by rw [HE.out]; rfl, Below.refl _ _⟩
  · have n45 : (s == [45]) = false := beq_eq_false_iff_ne.2 h45
    have H45 := Lib.hid h45
    clear h45
    by_cases hod : s.length % 2 = 1
    · have HE : Hid (datV (datR s) = .tuple #[stv [], .int .i64 5]) := Lib.hid (by rw [datR_odd H45.out hod]; rfl)
      have hodI : (((s.length : Int) % 2) == 1) = true := by simp; omega
      clear hod
      go_enter Tryd.func58, Tryd.ntmps58
      go_wp2
      go_ret2
      exact ⟨by rw [HE.out]; rfl, Below.refl _ _⟩
    · have hodI : (((s.length : Int) % 2) == 1) = false := by simp; omega
      have Hod := Lib.hid hod
      clear hod
      go_enter Tryd.func58, Tryd.ntmps58
      go_wp2
      go_loopw [4, 5] (fun v i wr => ∃ k : Nat, k ≤ s.length ∧ i = .int .i64 k ∧ ScRel w s k v wr) (fun _ i _ => s.length - (intOf i).toNat)
      case atStart => exact ⟨0, Nat.zero_le _, rfl, [], HxI.start s, by simpa using World.ownsRow_nil w w.heap.size 5 1, Below.refl _ _⟩
      case round =>
        obtain ⟨i, hi, rfl, done, hI, hown, hbw⟩ := hrel
        obtain ⟨A3, k3, rfl⟩ := own_any hown
        have HI := Lib.hid hI
        have Hbw := Lib.hid hbw
        have hl2 := hI.len
        have hsz := hbw.size
        clear hI hbw
        by_cases hlt : i < s.length
        · have hlt1 : i + 1 < s.length := by have := Hod.out; omega
          have i0 : (i : Int) < (s.length : Int) := by omega
          have i1 : (i : Int) + 1 < (s.length : Int) := by omega
          have hu1 := u8lt s[i]
          have hu2 := u8lt s[i + 1]
          cases h1 : hex (s[i].toNat : Int) with
          | none =>
            have HE : Hid (datV (datR s) = .tuple #[stv [], .int .i64 5]) := Lib.hid (by rw [datR_none H45.out (HI.out.bad1 hlt1 h1)]; rfl)
            have Hh := Lib.hid h1
            clear h1
            cases h2 : hex (s[i + 1].toNat : Int) with
            | none =>
              have Hk := Lib.hid h2
              clear h2
              go_wp2_with (first
                | (go_at_call 92; refine (rhex_any (s[i].toNat : Int) _ (by omega) (by omega)).mono ?_; rintro e w2 ⟨rfl, h2⟩; have h3 := h2.symm; subst h3; clear h2; rw [Hh.out]; unfold hexV; refine holdL ?_))
              refine Lib.hid ?_
              go_wp2_with (first
                | (go_at_call 92; refine (rhex_any (s[i + 1].toNat : Int) _ (by omega) (by omega)).mono ?_; rintro e w2 ⟨rfl, h2⟩; have h3 := h2.symm; subst h3; clear h2; rw [Hk.out]; unfold hexV))
              go_ret2
              exact ⟨by rw [HE.out]; rfl, Hbw.out⟩
            | some kk =>
              have Hk := Lib.hid h2
              clear h2
              go_wp2_with (first
                | (go_at_call 92; refine (rhex_any (s[i].toNat : Int) _ (by omega) (by omega)).mono ?_; rintro e w2 ⟨rfl, h2⟩; have h3 := h2.symm; subst h3; clear h2; rw [Hh.out]; unfold hexV; refine holdL ?_))
              refine Lib.hid ?_
              go_wp2_with (first
                | (go_at_call 92; refine (rhex_any (s[i + 1].toNat : Int) _ (by omega) (by omega)).mono ?_; rintro e w2 ⟨rfl, h2⟩; have h3 := h2.symm; subst h3; clear h2; rw [Hk.out]; unfold hexV))
              go_ret2
              exact ⟨by rw [HE.out]; rfl, Hbw.out⟩
          | some hh =>
            have hd := hexc_bd h1
            obtain ⟨n, rfl⟩ : ∃ n : Nat, hh = (n : Int) := ⟨hh.toNat, by omega⟩
            have Hh := Lib.hid h1
            cases h2 : hex (s[i + 1].toNat : Int) with
            | none =>
              have HE : Hid (datV (datR s) = .tuple #[stv [], .int .i64 5]) := Lib.hid (by rw [datR_none H45.out (HI.out.bad2 hlt1 h2)]; rfl)
              have Hk := Lib.hid h2
              clear h1 h2
              go_wp2_with (first
                | (go_at_call 92; refine (rhex_any (s[i].toNat : Int) _ (by omega) (by omega)).mono ?_; rintro e w2 ⟨rfl, h2⟩; have h3 := h2.symm; subst h3; clear h2; rw [Hh.out]; unfold hexV; refine holdL ?_))
              refine Lib.hid ?_
              go_wp2_with (first
                | (go_at_call 92; refine (rhex_any (s[i + 1].toNat : Int) _ (by omega) (by omega)).mono ?_; rintro e w2 ⟨rfl, h2⟩; have h3 := h2.symm; subst h3; clear h2; rw [Hk.out]; unfold hexV))
              go_ret2
              exact ⟨by rw [HE.out]; rfl, Hbw.out⟩
            | some kk =>
              have hd2 := hexc_bd h2
              obtain ⟨m, rfl⟩ : ∃ m : Nat, kk = (m : Int) := ⟨kk.toNat, by omega⟩
              have Hk := Lib.hid h2
              have HN := Lib.hid (HI.out.next hlt1 h1 h2)
              clear h1 h2
              go_wp2_with (first
                | (go_at_call 92; refine (rhex_any (s[i].toNat : Int) _ (by omega) (by omega)).mono ?_; rintro e w2 ⟨rfl, h2⟩; have h3 := h2.symm; subst h3; clear h2; rw [Hh.out]; unfold hexV; refine holdL ?_))
              refine Lib.hid ?_
              go_wp2_with (first
                | (go_at_call 92; refine (rhex_any (s[i + 1].toNat : Int) _ (by omega) (by omega)).mono ?_; rintro e w2 ⟨rfl, h2⟩; have h3 := h2.symm; subst h3; clear h2; rw [Hk.out]; unfold hexV)
                | (at_builtin; refine wpList_appLit rfl _ _ _ rfl elt_bytes (n := done.length) rfl hown [_] (m := 1) rfl rfl (by simp [Value.oneCell']) hsz (by omega) (by omega) ?_; intro v6 w6 ho6 hb6 hg6; have Ho6 := Lib.hid ho6; have Hb6 := Lib.hid (Hbw.out.trans hb6); clear ho6 hb6 hg6))
              go_roundw
              case rel => exact ⟨i + 2, by omega, by go_num, _, HN.out, by have h := Ho6.out; rw [byv_mk (n := 16 * n + m) (by omega) (by omega)] at h; simp only [Int.toNat_natCast, List.map_append, List.length_append, List.map_cons, List.map_nil, List.length_cons, List.length_nil]; exact h, Hb6.out⟩
              case measure => (simp [intOf]) <;> omega
        · obtain rfl : i = s.length := by omega
          have HD := Lib.hid HI.out.done_
          have i0 : ¬ (s.length : Int) + 1 < (s.length : Int) := by omega
          by_cases hbig : 65535 < done.length
          · have HE : Hid (datV (datR s) = .tuple #[stv [], .int .i64 3]) := Lib.hid (by rw [datR_some H45.out Hod.out HD.out, if_pos hbig]; rfl)
            have b0 : (65535 : Int) < (done.length : Int) := by omega
            go_wp2
            go_ret2
            exact ⟨by rw [HE.out]; rfl, Hbw.out⟩
          · have HE : Hid (datV (datR s) = .tuple #[stv done, .int .i64 0]) := Lib.hid (by rw [datR_some H45.out Hod.out HD.out, if_neg hbig]; rfl)
            have b0 : ¬ (65535 : Int) < (done.length : Int) := by omega
            have hcv := str_run (Sl.own hown)
            go_wp2
            go_ret2
            exact ⟨by rw [HE.out]; rfl, Hbw.out⟩
end Go.Proofs.YtgebcifkbldfoaaDoor

/- script: the reference's Parse. PRINTED by wip/tools/mk_scg.py. -/
namespace Go.Proofs.YtgebcifkbldfoaaDoor
open Go.RowKit
attribute [local go_sem] ba_get ext_take ext_drop ext_any ba_app

/-- how things stand in the reference's Parse: the result's block g2, the event's block g5, the fields. -/
structure ScW (w2 : World) (g2 g5 b1 off k2 : Nat) (F : List (List UInt8)) (x : Ev) (wk : World) : Prop where
  bel : Below w2.heap.size w2 wk
  res : Bk wk g2 36 (evA ev0)
  ev : Bk wk g5 36 (evA x)
  hg2 : g2 < w2.heap.size
  hg5 : w2.heap.size ≤ g5
  sl : Sl w2 1 (.slice (some ⟨b1, off, none⟩) F.length k2) F.length (F.map stv)
section
variable {w2 wk w' : World} {g2 g5 b1 off k2 : Nat} {F : List (List UInt8)} {x y : Ev}
theorem ScW.call (h : ScW w2 g2 g5 b1 off k2 F x wk) (hb : Below wk.heap.size wk w') : ScW w2 g2 g5 b1 off k2 F x w' :=
  ⟨bel_tr h.bel hb, h.res.bel hb, h.ev.bel hb, h.hg2, h.hg5, h.sl⟩
theorem ScW.put (h : ScW w2 g2 g5 b1 off k2 F x wk) (hB : Bk w' g5 36 (evA y)) (hS : Stays g5 wk w') : ScW w2 g2 g5 b1 off k2 F y w' :=
  ⟨h.bel.trans (hS.below h.hg5), h.res.stays hS (by have := h.hg2; have := h.hg5; omega), hB, h.hg2, h.hg5, h.sl⟩
theorem ScW.far (h : ScW w2 g2 g5 b1 off k2 F x wk) {g : Nat} (hS : Stays g wk w') (hne : g5 ≠ g) (hg : w2.heap.size ≤ g) : ScW w2 g2 g5 b1 off k2 F x w' :=
  ⟨h.bel.trans (hS.below hg), h.res.stays hS (by have := h.hg2; omega), h.ev.stays hS hne, h.hg2, h.hg5, h.sl⟩
theorem ScW.at_ (h : ScW w2 g2 g5 b1 off k2 F x wk) (i : Nat) {f : List UInt8} (hf : F[i]? = some f) : wk.cell? ⟨b1, off + i, none⟩ = some (.string ⟨f.toArray⟩) := by
  have hi : i < F.length := (List.getElem?_eq_some_iff.1 hf).1
  obtain ⟨_, A, c, hv, _, _, hcell⟩ := h.sl
  injection hv with hv1 _ hv2
  subst hv1 hv2
  obtain ⟨h1, _, h3⟩ := hcell _ rfl (by omega)
  have := h3 i (stv f) (by rw [List.getElem?_map, hf]; rfl)
  exact (bel_cells h.bel h1 _).trans this
end
theorem rnum_any (f : List UInt8) (hl : f.length ≤ 1000000) : ∃ n : Int, (∀ m, numR f = .inr m → n = (m : Int)) ∧ ∀ w', Calls Tryd.prog 57 #[.string ⟨f.toArray⟩, .int .i64 65535] w' fun e w'' => e = .returned (.tuple #[.int .i64 n, .int .i64 (codeR (numR f))]) ∧ w' = w'' := by
  obtain ⟨n, hn, hm⟩ := numR_V f
  refine ⟨n, hm, fun w' => ?_⟩
  have h := rnumber_any f ((65535 : Nat) : Int) w' (by omega) (by omega) (by omega)
  rw [hn] at h
  exact h
theorem rnum_err {f : List UInt8} {e0 : Int} (hn : numR f = .inl e0) (hl : f.length ≤ 1000000) : ∃ n : Int, ∀ w', Calls Tryd.prog 57 #[.string ⟨f.toArray⟩, .int .i64 65535] w' fun e w'' => e = .returned (.tuple #[.int .i64 n, .int .i64 e0]) ∧ w' = w'' := by
  obtain ⟨n, _, h⟩ := rnum_any f hl
  rw [hn] at h
  exact ⟨n, h⟩
theorem rnum_ok {f : List UInt8} {m : Nat} (hn : numR f = .inr m) (hl : f.length ≤ 1000000) : ∀ w', Calls Tryd.prog 57 #[.string ⟨f.toArray⟩, .int .i64 65535] w' fun e w'' => e = .returned (.tuple #[.int .i64 (m : Int), .int .i64 0]) ∧ w' = w'' := by
  obtain ⟨n, hm, h⟩ := rnum_any f hl
  obtain rfl := hm m hn
  rw [hn] at h
  exact h
theorem rdat_is {f : List UInt8} {r : Int ⊕ List UInt8} (hd : datR f = r) (hl : f.length ≤ 1000000) : ∀ w', Calls Tryd.prog 58 #[.string ⟨f.toArray⟩] w' fun e w'' => e = .returned (datV r) ∧ Below w'.heap.size w' w'' := fun w' =>
  (scrdata_any f w' hl).mono fun e w'' ⟨he, hb⟩ => ⟨by rw [he, hd], hb⟩
theorem datR_err {s : List UInt8} {e : Int} (h : datR s = .inl e) : (e != 0) = true := by
  unfold datR at h
  split at h
  · cases h
  · split at h
    · cases h; rfl
    · split at h
      · cases h; rfl
      · split at h
        · cases h; rfl
        · cases h
theorem len_lit {F : List (List UInt8)} {n : Nat} (h : F.length ≠ n) : ((F.length : Int) != (n : Int)) = true := by simp; omega
theorem packR_no {F : List (List UInt8)} (h : F.length ≠ 5) : packR F = .inl 5 := by
  match F, h with
  | [], _ => rfl
  | [_], _ => rfl
  | [_, _], _ => rfl
  | [_, _, _], _ => rfl
  | [_, _, _, _], _ => rfl
  | [_, _, _, _, _], h => exact absurd rfl h
  | _ :: _ :: _ :: _ :: _ :: _ :: _, _ => rfl
theorem alonR_no {k : Int} {F : List (List UInt8)} (h : F.length ≠ 2) : alonR k F = .inl 5 := by
  match F, h with
  | [], _ => rfl
  | [_], _ => rfl
  | [_, _], h => exact absurd rfl h
  | _ :: _ :: _ :: _, _ => rfl
theorem byteR_no {F : List (List UInt8)} (h : F.length ≠ 3) : byteR F = .inl 5 := by
  match F, h with
  | [], _ => rfl
  | [_], _ => rfl
  | [_, _], _ => rfl
  | [_, _, _], h => exact absurd rfl h
  | _ :: _ :: _ :: _ :: _, _ => rfl
theorem tickR_no {F : List (List UInt8)} (h : F.length ≠ 1) : tickR F = .inl 5 := by
  match F, h with
  | [], _ => rfl
  | [_], h => exact absurd rfl h
  | _ :: _ :: _, _ => rfl
set_option maxRecDepth 100000 in
set_option maxHeartbeats 4000000 in
theorem rscparse_any (s : List UInt8) (w : World) (hl : s.length ≤ 100000) : Calls Tryd.prog 19 #[.string ⟨s.toArray⟩] w (EvPost w (evP s)) := by
  have HFl := Lib.hid (flds_len s)
  have HFb := Lib.hid (fun f (h : f ∈ flds s) => flds_mem h)
  have HW := Lib.hid (fun w' => rfields_any s w' (by omega))
  have HE : Hid (evP s = evF (flds s)) := Lib.hid rfl
  generalize flds s = F at *
  have hF : F.length ≤ 100000 := by have := HFl.out; omega
  have Hf : Hid (∀ f ∈ F, f.length ≤ 1000000) := Lib.hid (fun f h => by have := HFb.out f h; omega)
  clear HFl HFb
  go_enter Tryd.func19, Tryd.ntmps19
  go_wp2_with (first
    | ((with_reducible show wpList _ _ _ (⟨some 2, _, _, _, _, _⟩ :: _) _ _); refine wpList_allocZ (o := ⟨some 2, _, _, _, _, _⟩) rfl _ rfl ev_zero ?_; intro g2 w1 hg2 hB2 hb2 hs2; have Hg2 := Lib.hid (Nat.le_of_eq hg2.symm); have HB2 := Lib.hid hB2; have Hb1 := Lib.hid hb2; clear hg2 hs2 hB2 hb2)
    | (go_at_call 55; refine (HW.out _).mono ?_; rintro e w2 ⟨v2, rfl, hs2, hb2⟩; obtain ⟨A2, k2, rfl, _⟩ := hs2.any; have Hs2 := Lib.hid hs2; have HB3 := Lib.hid (HB2.out.bel hb2); have Hb2 := Lib.hid (bel_tr Hb1.out hb2); clear hs2 hb2; refine holdL ?_))
  refine Lib.hid ?_
  have hg2w := Hg2.out
  by_cases hF0 : F = []
  · subst hF0
    have HE0 : Hid (evP s = .inl 1) := Lib.hid HE.out
    go_wp2_with (first
      | ((with_reducible show wpList _ _ _ (⟨some 20, _, _, _, _, _⟩ :: _) _ _); refine wpList_buildL (o := ⟨some 20, _, _, _, _, _⟩) rfl _ [] rfl built_ev0 rfl ?_)
      | ((with_reducible show wpList _ _ _ (⟨none, .store _ (.tmp 2) _, _, _, _, _⟩ :: _) _ _); refine wpList_storeB (o := ⟨none, _, _, _, _, _⟩) rfl _ (.tmp 2) _ rfl rfl rfl HB3.out (ev_size' ev0) rfl (evL_one _) ?_; intro w4 hB4 hS4; have HB5 := Lib.hid hB4; have Hb4 := Lib.hid (Hb2.out.trans (hS4.below hg2w)); clear hB4 hS4))
    refine ret_evE rfl rfl rfl HB5.out rfl ?_
    exact ⟨by rw [HE0.out]; rfl, Hb4.out⟩
  obtain ⟨f, R, hFR⟩ : ∃ f R, F = f :: R := by
    match F, hF0 with
    | [], h => exact absurd rfl h
    | f :: R, _ => exact ⟨f, R, rfl⟩
  have hpos : 0 < F.length := by rw [hFR]; simp
  have hne : ((F.length : Int) == 0) = false := by simp; omega
  have hposI : (0 : Int) < (F.length : Int) := by omega
  obtain ⟨b1, off, c1, hv, hc1, hbl, _⟩ := Hs2.out.pos hpos
  injection hv with hv1 _ hv2
  subst hv1 hv2
  have hg2l := HB3.out.lt
  have HFR := Lib.hid hFR
  clear hF0 hFR hc1 hbl
  go_wp2_with (first
    | ((with_reducible show wpList _ _ _ (⟨some 21, _, _, _, _, _⟩ :: _) _ _); refine wpList_buildL (o := ⟨some 21, _, _, _, _, _⟩) rfl _ [] rfl built_ev0 rfl ?_)
    | ((with_reducible show wpList _ _ _ (⟨some 5, _, _, _, _, _⟩ :: _) _ _); refine wpList_allocZ (o := ⟨some 5, _, _, _, _, _⟩) rfl _ rfl ev_zero ?_; intro g5 w4 hg5 hB5 hb5 hs5; have Hg5 := Lib.hid (Nat.le_of_eq hg5.symm); have HB4 := Lib.hid hB5; have Hb4 := Lib.hid hb5; clear hg5 hs5 hB5 hb5)
    | ((with_reducible show wpList _ _ _ (⟨none, .store _ (.tmp 5) _, _, _, _, _⟩ :: _) _ _); refine wpList_storeB (o := ⟨none, _, _, _, _, _⟩) rfl _ (.tmp 5) _ rfl rfl rfl HB4.out (ev_size' ev0) rfl (evL_one _) ?_; intro w5 hB5 hS5; have HS5 := Lib.hid (ScW.mk (F := F) (Hb4.out.trans (hS5.below Hg5.out)) ((HB3.out.bel Hb4.out).stays hS5 (by have := Hg5.out; omega)) hB5 hg2l Hg5.out Hs2.out); clear hB5 hS5; refine holdL ?_))
  refine Lib.hid ?_
  clear HB4 Hb4 HB3 HB2 Hb1 HW Hg2
  have c0 : w5.cell? ⟨b1, off, none⟩ = some (.string ⟨f.toArray⟩) := by
    have h := HS5.out.at_ 0 (f := f) (by rw [HFR.out]; rfl)
    rwa [Nat.add_zero] at h
  by_cases hw0 : f = wTick
  · subst hw0
    have HEF : Hid (evP s = tickR F) := Lib.hid (by rw [HE.out, HFR.out]; simp [evF, wTick])
    unfold wTick at c0
    by_cases hm : F.length = 1
    · obtain rfl : R = [] := by rw [HFR.out] at hm; simpa using hm
      obtain rfl : F = [wTick] := HFR.out
      clear HFR Hf hm
      have HE0 : Hid (evP s = .inr ⟨1, ad0, 0, 0, []⟩) := Lib.hid HEF.out
      go_wp2_with (first
        | ((with_reducible show wpList _ _ _ (⟨none, .store _ (.tmp 28) _, _, _, _, _⟩ :: _) _ _); refine wpList_storeC (o := ⟨none, _, _, _, _, _⟩) (i := 0) (v := .int .i64 1) rfl _ _ _ rfl rfl rfl rfl HS5.out.ev (by rw [evA_size]; decide) scz_int ?_; intro w6 hB hS; rw [evA_k] at hB; have HS6 := Lib.hid (HS5.out.put hB hS); clear hB hS; have ck : w6.cell? ⟨g5, 0, none⟩ = some (.int .i64 1) := HS6.out.ev.cell 0)
        | ((with_reducible show wpList _ _ _ (⟨some 114, _, _, _, _, _⟩ :: _) _ _); refine wpList_loadB (o := ⟨some 114, _, _, _, _, _⟩) rfl _ _ rfl rfl HS6.out.ev ev_under rfl (ev_size' ⟨1, ad0, 0, 0, []⟩) ?_)
        | ((with_reducible show wpList _ _ _ (⟨none, .store _ (.tmp 2) _, _, _, _, _⟩ :: _) _ _); refine wpList_storeB (o := ⟨none, _, _, _, _, _⟩) rfl _ (.tmp 2) _ rfl rfl rfl HS6.out.res (ev_size' ⟨1, ad0, 0, 0, []⟩) ((evA_size ev0).trans (evA_size ⟨1, ad0, 0, 0, []⟩).symm) (evL_one _) ?_; intro w11 hB11 hS11; have HB11 := Lib.hid hB11; have Hb11 := Lib.hid ((bel_tr Hb2.out HS6.out.bel).trans (hS11.below hg2w)); clear hB11 hS11))
      refine ret_evE rfl rfl rfl HB11.out rfl ?_
      exact ⟨by rw [HE0.out]; rfl, Hb11.out⟩
    · have HE0 : Hid (evP s = .inl 5) := Lib.hid (by rw [HEF.out]; exact tickR_no hm)
      have hm1 := len_lit hm
      simp only [Int.cast_ofNat_Int] at hm1
      clear HFR Hf hm
      go_wp2_with (first
        | ((with_reducible show wpList _ _ _ (⟨none, .store _ (.tmp 28) _, _, _, _, _⟩ :: _) _ _); refine wpList_storeC (o := ⟨none, _, _, _, _, _⟩) (i := 0) (v := .int .i64 1) rfl _ _ _ rfl rfl rfl rfl HS5.out.ev (by rw [evA_size]; decide) scz_int ?_; intro w6 hB hS; rw [evA_k] at hB; have HS6 := Lib.hid (HS5.out.put hB hS); clear hB hS)
        | ((with_reducible show wpList _ _ _ (⟨some 45, _, _, _, _, _⟩ :: _) _ _); refine wpList_buildL (o := ⟨some 45, _, _, _, _, _⟩) rfl _ [] rfl built_ev0 rfl ?_)
        | ((with_reducible show wpList _ _ _ (⟨none, .store _ (.tmp 2) _, _, _, _, _⟩ :: _) _ _); refine wpList_storeB (o := ⟨none, _, _, _, _, _⟩) rfl _ (.tmp 2) _ rfl rfl rfl HS6.out.res (ev_size' ev0) ((evA_size ev0).trans (evA_size ev0).symm) (evL_one _) ?_; intro w11 hB11 hS11; have HB11 := Lib.hid hB11; have Hb11 := Lib.hid ((bel_tr Hb2.out HS6.out.bel).trans (hS11.below hg2w)); clear hB11 hS11))
      refine ret_evE rfl rfl rfl HB11.out rfl ?_
      exact ⟨by rw [HE0.out]; rfl, Hb11.out⟩
  by_cases hw1 : f = wPacket
  · subst hw1
    have HEF : Hid (evP s = packR F) := Lib.hid (by rw [HE.out, HFR.out]; simp [evF, wTick, wPacket])
    unfold wPacket at c0
    by_cases hm : F.length = 5
    · obtain ⟨f1, f2, f3, f4, rfl⟩ : ∃ f1 f2 f3 f4, R = [f1, f2, f3, f4] := by
        rw [HFR.out] at hm
        match R, hm with
        | [a, b, c, d], _ => exact ⟨_, _, _, _, rfl⟩
      obtain rfl : F = [wPacket, f1, f2, f3, f4] := HFR.out
      have lf1 : f1.length ≤ 1000000 := Hf.out _ (by simp)
      have lf2 : f2.length ≤ 1000000 := Hf.out _ (by simp)
      have lf3 : f3.length ≤ 1000000 := Hf.out _ (by simp)
      have lf4 : f4.length ≤ 1000000 := Hf.out _ (by simp)
      clear HFR Hf hm
      cases hx : adrP f1 with
      | inl e0 =>
        have hne0 : (e0 != 0) = true := by rcases adrP_err hx with rfl | rfl <;> rfl
        have HA : Hid (∀ w', Calls Tryd.prog 56 #[.string ⟨f1.toArray⟩] w' fun e w'' => e = .returned (.tuple #[.agg (adA ad0), .int .i64 e0]) ∧ Below w'.heap.size w' w'') := Lib.hid (fun w' => (raparse_any f1 w' (by omega)).mono fun e w'' ⟨he, hb⟩ => by rw [hx] at he; exact ⟨he, hb⟩)
        have HE0 : Hid (evP s = .inl 5) := Lib.hid (by rw [HEF.out]; simp only [packR, hx])
        clear hx
        go_wp2_with (first
          | ((with_reducible show wpList _ _ _ (⟨none, .store _ (.tmp 31) _, _, _, _, _⟩ :: _) _ _); refine wpList_storeC (o := ⟨none, _, _, _, _, _⟩) (i := 0) (v := .int .i64 2) rfl _ _ _ rfl rfl rfl rfl HS5.out.ev (by rw [evA_size]; decide) scz_int ?_; intro w6 hB hS; rw [evA_k] at hB; have HS6 := Lib.hid (HS5.out.put hB hS); clear hB hS; clear c0; have ck : w6.cell? ⟨g5, 0, none⟩ = some (.int .i64 2) := HS6.out.ev.cell 0; have cf := HS6.out.at_ 1 (f := f1) rfl)
          | (go_at_call 56; refine (HA.out _).mono ?_; rintro e w7 ⟨rfl, hb⟩; have HS7 := Lib.hid (HS6.out.call hb); clear hb ck cf)
          | ((with_reducible show wpList _ _ _ (⟨some 8, _, _, _, _, _⟩ :: _) _ _); refine wpList_allocAd (o := ⟨some 8, _, _, _, _, _⟩) rfl rfl ?_; intro g8 w8 hg hB8 hb hs; have HS8 := Lib.hid (HS7.out.call hb); have HB8 := Lib.hid hB8; have Hg8 := Lib.hid (Nat.le_of_eq hg.symm); clear hg hs hB8 hb)
          | ((with_reducible refine wpList_storeAd (o := ⟨none, _, _, _, _, _⟩) rfl (.tmp 8) _ rfl rfl rfl HB8.out ?_); intro w9 hB9 hS9; have HS9 := Lib.hid (HS8.out.far hS9 (by have := HS7.out.ev.lt; have := Hg8.out; omega) (by have := HS7.out.bel.size; have := Hg8.out; omega)); have HB9 := Lib.hid hB9; clear hB9 hS9)
          | ((with_reducible show wpList _ _ _ (⟨some 58, _, _, _, _, _⟩ :: _) _ _); refine wpList_buildL (o := ⟨some 58, _, _, _, _, _⟩) rfl _ [] rfl built_ev0 rfl ?_)
          | ((with_reducible show wpList _ _ _ (⟨none, .store _ (.tmp 2) _, _, _, _, _⟩ :: _) _ _); refine wpList_storeB (o := ⟨none, _, _, _, _, _⟩) rfl _ (.tmp 2) _ rfl rfl rfl HS9.out.res (ev_size' ev0) ((evA_size ev0).trans (evA_size ev0).symm) (evL_one _) ?_; intro w11 hB11 hS11; have HB11 := Lib.hid hB11; have Hb11 := Lib.hid ((bel_tr Hb2.out HS9.out.bel).trans (hS11.below hg2w)); clear hB11 hS11))
        refine ret_evE rfl rfl rfl HB11.out rfl ?_
        exact ⟨by rw [HE0.out]; rfl, Hb11.out⟩
      | inr a =>
        have HA : Hid (∀ w', Calls Tryd.prog 56 #[.string ⟨f1.toArray⟩] w' fun e w'' => e = .returned (.tuple #[.agg (adA a), .int .i64 0]) ∧ Below w'.heap.size w' w'') := Lib.hid (fun w' => (raparse_any f1 w' (by omega)).mono fun e w'' ⟨he, hb⟩ => by rw [hx] at he; exact ⟨he, hb⟩)
        have HE1 : Hid (evP s = bindR (numR f2) fun n0 => bindR (numR f3) fun m0 => bindR (datR f4) fun d => .inr ⟨2, a, n0, m0, d⟩) := Lib.hid (by rw [HEF.out]; simp only [packR, hx])
        clear hx
        go_wp2_with (first
          | ((with_reducible show wpList _ _ _ (⟨none, .store _ (.tmp 31) _, _, _, _, _⟩ :: _) _ _); refine wpList_storeC (o := ⟨none, _, _, _, _, _⟩) (i := 0) (v := .int .i64 2) rfl _ _ _ rfl rfl rfl rfl HS5.out.ev (by rw [evA_size]; decide) scz_int ?_; intro w6 hB hS; rw [evA_k] at hB; have HS6 := Lib.hid (HS5.out.put hB hS); clear hB hS; clear c0; have ck : w6.cell? ⟨g5, 0, none⟩ = some (.int .i64 2) := HS6.out.ev.cell 0; have cf := HS6.out.at_ 1 (f := f1) rfl)
          | (go_at_call 56; refine (HA.out _).mono ?_; rintro e w7 ⟨rfl, hb⟩; have HS7 := Lib.hid (HS6.out.call hb); clear hb ck cf)
          | ((with_reducible show wpList _ _ _ (⟨some 8, _, _, _, _, _⟩ :: _) _ _); refine wpList_allocAd (o := ⟨some 8, _, _, _, _, _⟩) rfl rfl ?_; intro g8 w8 hg hB8 hb hs; have HS8 := Lib.hid (HS7.out.call hb); have HB8 := Lib.hid hB8; have Hg8 := Lib.hid (Nat.le_of_eq hg.symm); clear hg hs hB8 hb)
          | ((with_reducible refine wpList_storeAd (o := ⟨none, _, _, _, _, _⟩) rfl (.tmp 8) _ rfl rfl rfl HB8.out ?_); intro w9 hB9 hS9; have HS9 := Lib.hid (HS8.out.far hS9 (by have := HS7.out.ev.lt; have := Hg8.out; omega) (by have := HS7.out.bel.size; have := Hg8.out; omega)); have HB9 := Lib.hid hB9; clear hB9 hS9; have cf := HS9.out.at_ 2 (f := f2) rfl; refine holdL ?_))
        refine Lib.hid ?_
        cases hn : numR f2 with
        | inl e0 =>
          have hne0 : (e0 != 0) = true := by rcases numR_err hn with rfl | rfl <;> rfl
          obtain ⟨n, hN⟩ := rnum_err hn lf2
          have HN := Lib.hid hN
          have HE0 : Hid (evP s = .inl e0) := Lib.hid (by rw [HE1.out, hn]; rfl)
          clear hn hN
          go_wp2_with (first
            | (go_at_call 57; refine (HN.out _).mono ?_; rintro e w9 ⟨rfl, h9⟩; have h10 := h9.symm; subst h10; clear h9)
            | ((with_reducible show wpList _ _ _ (⟨some 68, _, _, _, _, _⟩ :: _) _ _); refine wpList_buildL (o := ⟨some 68, _, _, _, _, _⟩) rfl _ [] rfl built_ev0 rfl ?_)
            | ((with_reducible show wpList _ _ _ (⟨none, .store _ (.tmp 2) _, _, _, _, _⟩ :: _) _ _); refine wpList_storeB (o := ⟨none, _, _, _, _, _⟩) rfl _ (.tmp 2) _ rfl rfl rfl HS9.out.res (ev_size' ev0) ((evA_size ev0).trans (evA_size ev0).symm) (evL_one _) ?_; intro w11 hB11 hS11; have HB11 := Lib.hid hB11; have Hb11 := Lib.hid ((bel_tr Hb2.out HS9.out.bel).trans (hS11.below hg2w)); clear hB11 hS11))
          refine ret_evE rfl rfl rfl HB11.out rfl ?_
          exact ⟨by rw [HE0.out]; rfl, Hb11.out⟩
        | inr n0 =>
          have HN := Lib.hid (rnum_ok hn lf2)
          have HE2 : Hid (evP s = bindR (numR f3) fun m0 => bindR (datR f4) fun d => .inr ⟨2, a, n0, m0, d⟩) := Lib.hid (by rw [HE1.out, hn]; rfl)
          clear hn
          go_wp2_with (first
            | (go_at_call 57; refine (HN.out _).mono ?_; rintro e w9 ⟨rfl, h9⟩; have h10 := h9.symm; subst h10; clear h9)
            | ((with_reducible show wpList _ _ _ (⟨some 70, _, _, _, _, _⟩ :: _) _ _); refine wpList_loadAd (o := ⟨some 70, _, _, _, _, _⟩) rfl _ rfl rfl HB9.out ?_)
            | ((with_reducible show wpList _ _ _ (⟨none, .store _ (.tmp 71) _, _, _, _, _⟩ :: _) _ _); refine wpList_storeM (o := ⟨none, _, _, _, _, _⟩) (off := 1) (cells := adA a) rfl _ _ _ rfl rfl rfl HS9.out.ev (ad_size' a) (by rw [evA_size, adA_size]; decide) (adA_one a) ?_; intro w12 hB hS; rw [show (adA a).toList = adL a from rfl, evA_a] at hB; have HS12 := Lib.hid (HS9.out.put hB hS); clear hB hS cf)
            | ((with_reducible show wpList _ _ _ (⟨none, .store _ (.tmp 73) _, _, _, _, _⟩ :: _) _ _); refine wpList_storeC (o := ⟨none, _, _, _, _, _⟩) (i := 19) (v := .int .i64 (n0 : Int)) rfl _ _ _ rfl rfl rfl rfl HS12.out.ev (by rw [evA_size]; decide) scz_int ?_; intro w13 hB hS; rw [evA_fp] at hB; have HS13 := Lib.hid (HS12.out.put hB hS); clear hB hS; have ck : w13.cell? ⟨g5, 0, none⟩ = some (.int .i64 2) := HS13.out.ev.cell 0; have cf := HS13.out.at_ 3 (f := f3) rfl; refine holdL ?_))
          refine Lib.hid ?_
          cases hn : numR f3 with
          | inl e0 =>
            have hne0 : (e0 != 0) = true := by rcases numR_err hn with rfl | rfl <;> rfl
            obtain ⟨n, hN⟩ := rnum_err hn lf3
            have HN := Lib.hid hN
            have HE0 : Hid (evP s = .inl e0) := Lib.hid (by rw [HE2.out, hn]; rfl)
            clear hn hN
            go_wp2_with (first
              | (go_at_call 57; refine (HN.out _).mono ?_; rintro e w9 ⟨rfl, h9⟩; have h10 := h9.symm; subst h10; clear h9)
              | ((with_reducible show wpList _ _ _ (⟨some 87, _, _, _, _, _⟩ :: _) _ _); refine wpList_buildL (o := ⟨some 87, _, _, _, _, _⟩) rfl _ [] rfl built_ev0 rfl ?_)
              | ((with_reducible show wpList _ _ _ (⟨none, .store _ (.tmp 2) _, _, _, _, _⟩ :: _) _ _); refine wpList_storeB (o := ⟨none, _, _, _, _, _⟩) rfl _ (.tmp 2) _ rfl rfl rfl HS13.out.res (ev_size' ev0) ((evA_size ev0).trans (evA_size ev0).symm) (evL_one _) ?_; intro w11 hB11 hS11; have HB11 := Lib.hid hB11; have Hb11 := Lib.hid ((bel_tr Hb2.out HS13.out.bel).trans (hS11.below hg2w)); clear hB11 hS11))
            refine ret_evE rfl rfl rfl HB11.out rfl ?_
            exact ⟨by rw [HE0.out]; rfl, Hb11.out⟩
          | inr m0 =>
            have HN := Lib.hid (rnum_ok hn lf3)
            have HE3 : Hid (evP s = bindR (datR f4) fun d => .inr ⟨2, a, n0, m0, d⟩) := Lib.hid (by rw [HE2.out, hn]; rfl)
            clear hn
            go_wp2_with (first
              | (go_at_call 57; refine (HN.out _).mono ?_; rintro e w9 ⟨rfl, h9⟩; have h10 := h9.symm; subst h10; clear h9)
              | ((with_reducible show wpList _ _ _ (⟨none, .store _ (.tmp 90) _, _, _, _, _⟩ :: _) _ _); refine wpList_storeC (o := ⟨none, _, _, _, _, _⟩) (i := 20) (v := .int .i64 (m0 : Int)) rfl _ _ _ rfl rfl rfl rfl HS13.out.ev (by rw [evA_size]; decide) scz_int ?_; intro w14 hB hS; rw [evA_p] at hB; have HS14 := Lib.hid (HS13.out.put hB hS); clear hB hS; clear ck cf; have ck : w14.cell? ⟨g5, 0, none⟩ = some (.int .i64 2) := HS14.out.ev.cell 0; have cf := HS14.out.at_ 4 (f := f4) rfl; refine holdL ?_))
            refine Lib.hid ?_
            cases hd : datR f4 with
            | inl e0 =>
              have HD := Lib.hid (rdat_is hd lf4)
              have hne0 := datR_err hd
              have HE0 : Hid (evP s = .inl e0) := Lib.hid (by rw [HE3.out, hd]; rfl)
              clear hd
              go_wp2_with (first
                | (go_at_call 58; refine (HD.out _).mono ?_; rintro e w10 ⟨rfl, hb⟩; have HS15 := Lib.hid (HS14.out.call hb); clear hb; unfold datV)
                | ((with_reducible show wpList _ _ _ (⟨some 110, _, _, _, _, _⟩ :: _) _ _); refine wpList_buildL (o := ⟨some 110, _, _, _, _, _⟩) rfl _ [] rfl built_ev0 rfl ?_)
                | ((with_reducible show wpList _ _ _ (⟨none, .store _ (.tmp 2) _, _, _, _, _⟩ :: _) _ _); refine wpList_storeB (o := ⟨none, _, _, _, _, _⟩) rfl _ (.tmp 2) _ rfl rfl rfl HS15.out.res (ev_size' ev0) ((evA_size ev0).trans (evA_size ev0).symm) (evL_one _) ?_; intro w11 hB11 hS11; have HB11 := Lib.hid hB11; have Hb11 := Lib.hid ((bel_tr Hb2.out HS15.out.bel).trans (hS11.below hg2w)); clear hB11 hS11))
              refine ret_evE rfl rfl rfl HB11.out rfl ?_
              exact ⟨by rw [HE0.out]; rfl, Hb11.out⟩
            | inr d =>
              have HD := Lib.hid (rdat_is hd lf4)
              have HE0 : Hid (evP s = .inr ⟨2, a, n0, m0, d⟩) := Lib.hid (by rw [HE3.out, hd]; rfl)
              clear hd
              go_wp2_with (first
                | (go_at_call 58; refine (HD.out _).mono ?_; rintro e w10 ⟨rfl, hb⟩; have HS15 := Lib.hid (HS14.out.call hb); clear hb; unfold datV)
                | ((with_reducible show wpList _ _ _ (⟨none, .store _ (.tmp 113) _, _, _, _, _⟩ :: _) _ _); refine wpList_storeC (o := ⟨none, _, _, _, _, _⟩) (i := 21) (v := .string ⟨d.toArray⟩) rfl _ _ _ rfl rfl rfl rfl HS15.out.ev (by rw [evA_size]; decide) scz_str ?_; intro w16 hB hS; rw [evA_d] at hB; have HS16 := Lib.hid (HS15.out.put hB hS); clear hB hS)
                | ((with_reducible show wpList _ _ _ (⟨some 114, _, _, _, _, _⟩ :: _) _ _); refine wpList_loadB (o := ⟨some 114, _, _, _, _, _⟩) rfl _ _ rfl rfl HS16.out.ev ev_under rfl (ev_size' ⟨2, a, n0, m0, d⟩) ?_)
                | ((with_reducible show wpList _ _ _ (⟨none, .store _ (.tmp 2) _, _, _, _, _⟩ :: _) _ _); refine wpList_storeB (o := ⟨none, _, _, _, _, _⟩) rfl _ (.tmp 2) _ rfl rfl rfl HS16.out.res (ev_size' ⟨2, a, n0, m0, d⟩) ((evA_size ev0).trans (evA_size ⟨2, a, n0, m0, d⟩).symm) (evL_one _) ?_; intro w11 hB11 hS11; have HB11 := Lib.hid hB11; have Hb11 := Lib.hid ((bel_tr Hb2.out HS16.out.bel).trans (hS11.below hg2w)); clear hB11 hS11))
              refine ret_evE rfl rfl rfl HB11.out rfl ?_
              exact ⟨by rw [HE0.out]; rfl, Hb11.out⟩
    · have HE0 : Hid (evP s = .inl 5) := Lib.hid (by rw [HEF.out]; exact packR_no hm)
      have hm1 := len_lit hm
      simp only [Int.cast_ofNat_Int] at hm1
      clear HFR Hf hm
      go_wp2_with (first
        | ((with_reducible show wpList _ _ _ (⟨none, .store _ (.tmp 31) _, _, _, _, _⟩ :: _) _ _); refine wpList_storeC (o := ⟨none, _, _, _, _, _⟩) (i := 0) (v := .int .i64 2) rfl _ _ _ rfl rfl rfl rfl HS5.out.ev (by rw [evA_size]; decide) scz_int ?_; intro w6 hB hS; rw [evA_k] at hB; have HS6 := Lib.hid (HS5.out.put hB hS); clear hB hS)
        | ((with_reducible show wpList _ _ _ (⟨some 45, _, _, _, _, _⟩ :: _) _ _); refine wpList_buildL (o := ⟨some 45, _, _, _, _, _⟩) rfl _ [] rfl built_ev0 rfl ?_)
        | ((with_reducible show wpList _ _ _ (⟨none, .store _ (.tmp 2) _, _, _, _, _⟩ :: _) _ _); refine wpList_storeB (o := ⟨none, _, _, _, _, _⟩) rfl _ (.tmp 2) _ rfl rfl rfl HS6.out.res (ev_size' ev0) ((evA_size ev0).trans (evA_size ev0).symm) (evL_one _) ?_; intro w11 hB11 hS11; have HB11 := Lib.hid hB11; have Hb11 := Lib.hid ((bel_tr Hb2.out HS6.out.bel).trans (hS11.below hg2w)); clear hB11 hS11))
      refine ret_evE rfl rfl rfl HB11.out rfl ?_
      exact ⟨by rw [HE0.out]; rfl, Hb11.out⟩
  by_cases hw2 : f = wOpen
  · subst hw2
    have HEF : Hid (evP s = alonR 3 F) := Lib.hid (by rw [HE.out, HFR.out]; simp [evF, wTick, wPacket, wOpen])
    unfold wOpen at c0
    by_cases hm : F.length = 2
    · obtain ⟨f1, rfl⟩ : ∃ f1, R = [f1] := by
        rw [HFR.out] at hm
        match R, hm with
        | [a], _ => exact ⟨_, rfl⟩
      obtain rfl : F = [wOpen, f1] := HFR.out
      have lf1 : f1.length ≤ 1000000 := Hf.out _ (by simp)
      clear HFR Hf hm
      cases hn : numR f1 with
      | inl e0 =>
        have hne0 : (e0 != 0) = true := by rcases numR_err hn with rfl | rfl <;> rfl
        obtain ⟨n, hN⟩ := rnum_err hn lf1
        have HN := Lib.hid hN
        have HE0 : Hid (evP s = .inl e0) := Lib.hid (by rw [HEF.out]; simp only [alonR, hn, bindR])
        clear hn hN
        go_wp2_with (first
          | ((with_reducible show wpList _ _ _ (⟨none, .store _ (.tmp 34) _, _, _, _, _⟩ :: _) _ _); refine wpList_storeC (o := ⟨none, _, _, _, _, _⟩) (i := 0) (v := .int .i64 3) rfl _ _ _ rfl rfl rfl rfl HS5.out.ev (by rw [evA_size]; decide) scz_int ?_; intro w6 hB hS; rw [evA_k] at hB; have HS6 := Lib.hid (HS5.out.put hB hS); clear hB hS; clear c0; have ck : w6.cell? ⟨g5, 0, none⟩ = some (.int .i64 3) := HS6.out.ev.cell 0; have cf := HS6.out.at_ 1 (f := f1) rfl)
          | (go_at_call 57; refine (HN.out _).mono ?_; rintro e w9 ⟨rfl, h9⟩; have h10 := h9.symm; subst h10; clear h9)
          | ((with_reducible show wpList _ _ _ (⟨some 87, _, _, _, _, _⟩ :: _) _ _); refine wpList_buildL (o := ⟨some 87, _, _, _, _, _⟩) rfl _ [] rfl built_ev0 rfl ?_)
          | ((with_reducible show wpList _ _ _ (⟨none, .store _ (.tmp 2) _, _, _, _, _⟩ :: _) _ _); refine wpList_storeB (o := ⟨none, _, _, _, _, _⟩) rfl _ (.tmp 2) _ rfl rfl rfl HS6.out.res (ev_size' ev0) ((evA_size ev0).trans (evA_size ev0).symm) (evL_one _) ?_; intro w11 hB11 hS11; have HB11 := Lib.hid hB11; have Hb11 := Lib.hid ((bel_tr Hb2.out HS6.out.bel).trans (hS11.below hg2w)); clear hB11 hS11))
        refine ret_evE rfl rfl rfl HB11.out rfl ?_
        exact ⟨by rw [HE0.out]; rfl, Hb11.out⟩
      | inr m0 =>
        have HN := Lib.hid (rnum_ok hn lf1)
        have HE0 : Hid (evP s = .inr ⟨3, ad0, 0, m0, []⟩) := Lib.hid (by rw [HEF.out]; simp only [alonR, hn, bindR])
        clear hn
        go_wp2_with (first
          | ((with_reducible show wpList _ _ _ (⟨none, .store _ (.tmp 34) _, _, _, _, _⟩ :: _) _ _); refine wpList_storeC (o := ⟨none, _, _, _, _, _⟩) (i := 0) (v := .int .i64 3) rfl _ _ _ rfl rfl rfl rfl HS5.out.ev (by rw [evA_size]; decide) scz_int ?_; intro w6 hB hS; rw [evA_k] at hB; have HS6 := Lib.hid (HS5.out.put hB hS); clear hB hS; clear c0; have ck : w6.cell? ⟨g5, 0, none⟩ = some (.int .i64 3) := HS6.out.ev.cell 0; have cf := HS6.out.at_ 1 (f := f1) rfl)
          | (go_at_call 57; refine (HN.out _).mono ?_; rintro e w9 ⟨rfl, h9⟩; have h10 := h9.symm; subst h10; clear h9)
          | ((with_reducible show wpList _ _ _ (⟨none, .store _ (.tmp 90) _, _, _, _, _⟩ :: _) _ _); refine wpList_storeC (o := ⟨none, _, _, _, _, _⟩) (i := 20) (v := .int .i64 (m0 : Int)) rfl _ _ _ rfl rfl rfl rfl HS6.out.ev (by rw [evA_size]; decide) scz_int ?_; intro w7 hB hS; rw [evA_p] at hB; have HS7 := Lib.hid (HS6.out.put hB hS); clear hB hS; clear ck cf; have ck : w7.cell? ⟨g5, 0, none⟩ = some (.int .i64 3) := HS7.out.ev.cell 0)
          | ((with_reducible show wpList _ _ _ (⟨some 114, _, _, _, _, _⟩ :: _) _ _); refine wpList_loadB (o := ⟨some 114, _, _, _, _, _⟩) rfl _ _ rfl rfl HS7.out.ev ev_under rfl (ev_size' ⟨3, ad0, 0, m0, []⟩) ?_)
          | ((with_reducible show wpList _ _ _ (⟨none, .store _ (.tmp 2) _, _, _, _, _⟩ :: _) _ _); refine wpList_storeB (o := ⟨none, _, _, _, _, _⟩) rfl _ (.tmp 2) _ rfl rfl rfl HS7.out.res (ev_size' ⟨3, ad0, 0, m0, []⟩) ((evA_size ev0).trans (evA_size ⟨3, ad0, 0, m0, []⟩).symm) (evL_one _) ?_; intro w11 hB11 hS11; have HB11 := Lib.hid hB11; have Hb11 := Lib.hid ((bel_tr Hb2.out HS7.out.bel).trans (hS11.below hg2w)); clear hB11 hS11))
        refine ret_evE rfl rfl rfl HB11.out rfl ?_
        exact ⟨by rw [HE0.out]; rfl, Hb11.out⟩
    · have HE0 : Hid (evP s = .inl 5) := Lib.hid (by rw [HEF.out]; exact alonR_no hm)
      have hm1 := len_lit hm
      simp only [Int.cast_ofNat_Int] at hm1
      clear HFR Hf hm
      go_wp2_with (first
        | ((with_reducible show wpList _ _ _ (⟨none, .store _ (.tmp 34) _, _, _, _, _⟩ :: _) _ _); refine wpList_storeC (o := ⟨none, _, _, _, _, _⟩) (i := 0) (v := .int .i64 3) rfl _ _ _ rfl rfl rfl rfl HS5.out.ev (by rw [evA_size]; decide) scz_int ?_; intro w6 hB hS; rw [evA_k] at hB; have HS6 := Lib.hid (HS5.out.put hB hS); clear hB hS)
        | ((with_reducible show wpList _ _ _ (⟨some 45, _, _, _, _, _⟩ :: _) _ _); refine wpList_buildL (o := ⟨some 45, _, _, _, _, _⟩) rfl _ [] rfl built_ev0 rfl ?_)
        | ((with_reducible show wpList _ _ _ (⟨none, .store _ (.tmp 2) _, _, _, _, _⟩ :: _) _ _); refine wpList_storeB (o := ⟨none, _, _, _, _, _⟩) rfl _ (.tmp 2) _ rfl rfl rfl HS6.out.res (ev_size' ev0) ((evA_size ev0).trans (evA_size ev0).symm) (evL_one _) ?_; intro w11 hB11 hS11; have HB11 := Lib.hid hB11; have Hb11 := Lib.hid ((bel_tr Hb2.out HS6.out.bel).trans (hS11.below hg2w)); clear hB11 hS11))
      refine ret_evE rfl rfl rfl HB11.out rfl ?_
      exact ⟨by rw [HE0.out]; rfl, Hb11.out⟩
  by_cases hw3 : f = wBytes
  · subst hw3
    have HEF : Hid (evP s = byteR F) := Lib.hid (by rw [HE.out, HFR.out]; simp [evF, wTick, wPacket, wOpen, wBytes])
    unfold wBytes at c0
    by_cases hm : F.length = 3
    · obtain ⟨f1, f2, rfl⟩ : ∃ f1 f2, R = [f1, f2] := by
        rw [HFR.out] at hm
        match R, hm with
        | [a, b], _ => exact ⟨_, _, rfl⟩
      obtain rfl : F = [wBytes, f1, f2] := HFR.out
      have lf1 : f1.length ≤ 1000000 := Hf.out _ (by simp)
      have lf2 : f2.length ≤ 1000000 := Hf.out _ (by simp)
      clear HFR Hf hm
      cases hn : numR f1 with
      | inl e0 =>
        have hne0 : (e0 != 0) = true := by rcases numR_err hn with rfl | rfl <;> rfl
        obtain ⟨n, hN⟩ := rnum_err hn lf1
        have HN := Lib.hid hN
        have HE0 : Hid (evP s = .inl e0) := Lib.hid (by rw [HEF.out]; simp only [byteR, hn, bindR])
        clear hn hN
        go_wp2_with (first
          | ((with_reducible show wpList _ _ _ (⟨none, .store _ (.tmp 37) _, _, _, _, _⟩ :: _) _ _); refine wpList_storeC (o := ⟨none, _, _, _, _, _⟩) (i := 0) (v := .int .i64 4) rfl _ _ _ rfl rfl rfl rfl HS5.out.ev (by rw [evA_size]; decide) scz_int ?_; intro w6 hB hS; rw [evA_k] at hB; have HS6 := Lib.hid (HS5.out.put hB hS); clear hB hS; clear c0; have ck : w6.cell? ⟨g5, 0, none⟩ = some (.int .i64 4) := HS6.out.ev.cell 0; have cf := HS6.out.at_ 1 (f := f1) rfl)
          | (go_at_call 57; refine (HN.out _).mono ?_; rintro e w9 ⟨rfl, h9⟩; have h10 := h9.symm; subst h10; clear h9)
          | ((with_reducible show wpList _ _ _ (⟨some 87, _, _, _, _, _⟩ :: _) _ _); refine wpList_buildL (o := ⟨some 87, _, _, _, _, _⟩) rfl _ [] rfl built_ev0 rfl ?_)
          | ((with_reducible show wpList _ _ _ (⟨none, .store _ (.tmp 2) _, _, _, _, _⟩ :: _) _ _); refine wpList_storeB (o := ⟨none, _, _, _, _, _⟩) rfl _ (.tmp 2) _ rfl rfl rfl HS6.out.res (ev_size' ev0) ((evA_size ev0).trans (evA_size ev0).symm) (evL_one _) ?_; intro w11 hB11 hS11; have HB11 := Lib.hid hB11; have Hb11 := Lib.hid ((bel_tr Hb2.out HS6.out.bel).trans (hS11.below hg2w)); clear hB11 hS11))
        refine ret_evE rfl rfl rfl HB11.out rfl ?_
        exact ⟨by rw [HE0.out]; rfl, Hb11.out⟩
      | inr m0 =>
        have HN := Lib.hid (rnum_ok hn lf1)
        have HE1 : Hid (evP s = bindR (datR f2) fun d => .inr ⟨4, ad0, 0, m0, d⟩) := Lib.hid (by rw [HEF.out]; simp only [byteR, hn, bindR])
        clear hn
        go_wp2_with (first
          | ((with_reducible show wpList _ _ _ (⟨none, .store _ (.tmp 37) _, _, _, _, _⟩ :: _) _ _); refine wpList_storeC (o := ⟨none, _, _, _, _, _⟩) (i := 0) (v := .int .i64 4) rfl _ _ _ rfl rfl rfl rfl HS5.out.ev (by rw [evA_size]; decide) scz_int ?_; intro w6 hB hS; rw [evA_k] at hB; have HS6 := Lib.hid (HS5.out.put hB hS); clear hB hS; clear c0; have ck : w6.cell? ⟨g5, 0, none⟩ = some (.int .i64 4) := HS6.out.ev.cell 0; have cf := HS6.out.at_ 1 (f := f1) rfl)
          | (go_at_call 57; refine (HN.out _).mono ?_; rintro e w9 ⟨rfl, h9⟩; have h10 := h9.symm; subst h10; clear h9)
          | ((with_reducible show wpList _ _ _ (⟨none, .store _ (.tmp 90) _, _, _, _, _⟩ :: _) _ _); refine wpList_storeC (o := ⟨none, _, _, _, _, _⟩) (i := 20) (v := .int .i64 (m0 : Int)) rfl _ _ _ rfl rfl rfl rfl HS6.out.ev (by rw [evA_size]; decide) scz_int ?_; intro w7 hB hS; rw [evA_p] at hB; have HS7 := Lib.hid (HS6.out.put hB hS); clear hB hS; clear ck cf; have ck : w7.cell? ⟨g5, 0, none⟩ = some (.int .i64 4) := HS7.out.ev.cell 0; have cf := HS7.out.at_ 2 (f := f2) rfl; refine holdL ?_))
        refine Lib.hid ?_
        cases hd : datR f2 with
        | inl e0 =>
          have HD := Lib.hid (rdat_is hd lf2)
          have hne0 := datR_err hd
          have HE0 : Hid (evP s = .inl e0) := Lib.hid (by rw [HE1.out, hd]; rfl)
          clear hd
          go_wp2_with (first
            | (go_at_call 58; refine (HD.out _).mono ?_; rintro e w10 ⟨rfl, hb⟩; have HS8 := Lib.hid (HS7.out.call hb); clear hb; unfold datV)
            | ((with_reducible show wpList _ _ _ (⟨some 110, _, _, _, _, _⟩ :: _) _ _); refine wpList_buildL (o := ⟨some 110, _, _, _, _, _⟩) rfl _ [] rfl built_ev0 rfl ?_)
            | ((with_reducible show wpList _ _ _ (⟨none, .store _ (.tmp 2) _, _, _, _, _⟩ :: _) _ _); refine wpList_storeB (o := ⟨none, _, _, _, _, _⟩) rfl _ (.tmp 2) _ rfl rfl rfl HS8.out.res (ev_size' ev0) ((evA_size ev0).trans (evA_size ev0).symm) (evL_one _) ?_; intro w11 hB11 hS11; have HB11 := Lib.hid hB11; have Hb11 := Lib.hid ((bel_tr Hb2.out HS8.out.bel).trans (hS11.below hg2w)); clear hB11 hS11))
          refine ret_evE rfl rfl rfl HB11.out rfl ?_
          exact ⟨by rw [HE0.out]; rfl, Hb11.out⟩
        | inr d =>
          have HD := Lib.hid (rdat_is hd lf2)
          have HE0 : Hid (evP s = .inr ⟨4, ad0, 0, m0, d⟩) := Lib.hid (by rw [HE1.out, hd]; rfl)
          clear hd
          go_wp2_with (first
            | (go_at_call 58; refine (HD.out _).mono ?_; rintro e w10 ⟨rfl, hb⟩; have HS8 := Lib.hid (HS7.out.call hb); clear hb; unfold datV)
            | ((with_reducible show wpList _ _ _ (⟨none, .store _ (.tmp 113) _, _, _, _, _⟩ :: _) _ _); refine wpList_storeC (o := ⟨none, _, _, _, _, _⟩) (i := 21) (v := .string ⟨d.toArray⟩) rfl _ _ _ rfl rfl rfl rfl HS8.out.ev (by rw [evA_size]; decide) scz_str ?_; intro w12 hB hS; rw [evA_d] at hB; have HS9 := Lib.hid (HS8.out.put hB hS); clear hB hS)
            | ((with_reducible show wpList _ _ _ (⟨some 114, _, _, _, _, _⟩ :: _) _ _); refine wpList_loadB (o := ⟨some 114, _, _, _, _, _⟩) rfl _ _ rfl rfl HS9.out.ev ev_under rfl (ev_size' ⟨4, ad0, 0, m0, d⟩) ?_)
            | ((with_reducible show wpList _ _ _ (⟨none, .store _ (.tmp 2) _, _, _, _, _⟩ :: _) _ _); refine wpList_storeB (o := ⟨none, _, _, _, _, _⟩) rfl _ (.tmp 2) _ rfl rfl rfl HS9.out.res (ev_size' ⟨4, ad0, 0, m0, d⟩) ((evA_size ev0).trans (evA_size ⟨4, ad0, 0, m0, d⟩).symm) (evL_one _) ?_; intro w11 hB11 hS11; have HB11 := Lib.hid hB11; have Hb11 := Lib.hid ((bel_tr Hb2.out HS9.out.bel).trans (hS11.below hg2w)); clear hB11 hS11))
          refine ret_evE rfl rfl rfl HB11.out rfl ?_
          exact ⟨by rw [HE0.out]; rfl, Hb11.out⟩
    · have HE0 : Hid (evP s = .inl 5) := Lib.hid (by rw [HEF.out]; exact byteR_no hm)
      have hm1 := len_lit hm
      simp only [Int.cast_ofNat_Int] at hm1
      clear HFR Hf hm
      go_wp2_with (first
        | ((with_reducible show wpList _ _ _ (⟨none, .store _ (.tmp 37) _, _, _, _, _⟩ :: _) _ _); refine wpList_storeC (o := ⟨none, _, _, _, _, _⟩) (i := 0) (v := .int .i64 4) rfl _ _ _ rfl rfl rfl rfl HS5.out.ev (by rw [evA_size]; decide) scz_int ?_; intro w6 hB hS; rw [evA_k] at hB; have HS6 := Lib.hid (HS5.out.put hB hS); clear hB hS)
        | ((with_reducible show wpList _ _ _ (⟨some 45, _, _, _, _, _⟩ :: _) _ _); refine wpList_buildL (o := ⟨some 45, _, _, _, _, _⟩) rfl _ [] rfl built_ev0 rfl ?_)
        | ((with_reducible show wpList _ _ _ (⟨none, .store _ (.tmp 2) _, _, _, _, _⟩ :: _) _ _); refine wpList_storeB (o := ⟨none, _, _, _, _, _⟩) rfl _ (.tmp 2) _ rfl rfl rfl HS6.out.res (ev_size' ev0) ((evA_size ev0).trans (evA_size ev0).symm) (evL_one _) ?_; intro w11 hB11 hS11; have HB11 := Lib.hid hB11; have Hb11 := Lib.hid ((bel_tr Hb2.out HS6.out.bel).trans (hS11.below hg2w)); clear hB11 hS11))
      refine ret_evE rfl rfl rfl HB11.out rfl ?_
      exact ⟨by rw [HE0.out]; rfl, Hb11.out⟩
  by_cases hw4 : f = wClose
  · subst hw4
    have HEF : Hid (evP s = alonR 5 F) := Lib.hid (by rw [HE.out, HFR.out]; simp [evF, wTick, wPacket, wOpen, wBytes, wClose])
    unfold wClose at c0
    by_cases hm : F.length = 2
    · obtain ⟨f1, rfl⟩ : ∃ f1, R = [f1] := by
        rw [HFR.out] at hm
        match R, hm with
        | [a], _ => exact ⟨_, rfl⟩
      obtain rfl : F = [wClose, f1] := HFR.out
      have lf1 : f1.length ≤ 1000000 := Hf.out _ (by simp)
      clear HFR Hf hm
      cases hn : numR f1 with
      | inl e0 =>
        have hne0 : (e0 != 0) = true := by rcases numR_err hn with rfl | rfl <;> rfl
        obtain ⟨n, hN⟩ := rnum_err hn lf1
        have HN := Lib.hid hN
        have HE0 : Hid (evP s = .inl e0) := Lib.hid (by rw [HEF.out]; simp only [alonR, hn, bindR])
        clear hn hN
        go_wp2_with (first
          | ((with_reducible show wpList _ _ _ (⟨none, .store _ (.tmp 40) _, _, _, _, _⟩ :: _) _ _); refine wpList_storeC (o := ⟨none, _, _, _, _, _⟩) (i := 0) (v := .int .i64 5) rfl _ _ _ rfl rfl rfl rfl HS5.out.ev (by rw [evA_size]; decide) scz_int ?_; intro w6 hB hS; rw [evA_k] at hB; have HS6 := Lib.hid (HS5.out.put hB hS); clear hB hS; clear c0; have ck : w6.cell? ⟨g5, 0, none⟩ = some (.int .i64 5) := HS6.out.ev.cell 0; have cf := HS6.out.at_ 1 (f := f1) rfl)
          | (go_at_call 57; refine (HN.out _).mono ?_; rintro e w9 ⟨rfl, h9⟩; have h10 := h9.symm; subst h10; clear h9)
          | ((with_reducible show wpList _ _ _ (⟨some 87, _, _, _, _, _⟩ :: _) _ _); refine wpList_buildL (o := ⟨some 87, _, _, _, _, _⟩) rfl _ [] rfl built_ev0 rfl ?_)
          | ((with_reducible show wpList _ _ _ (⟨none, .store _ (.tmp 2) _, _, _, _, _⟩ :: _) _ _); refine wpList_storeB (o := ⟨none, _, _, _, _, _⟩) rfl _ (.tmp 2) _ rfl rfl rfl HS6.out.res (ev_size' ev0) ((evA_size ev0).trans (evA_size ev0).symm) (evL_one _) ?_; intro w11 hB11 hS11; have HB11 := Lib.hid hB11; have Hb11 := Lib.hid ((bel_tr Hb2.out HS6.out.bel).trans (hS11.below hg2w)); clear hB11 hS11))
        refine ret_evE rfl rfl rfl HB11.out rfl ?_
        exact ⟨by rw [HE0.out]; rfl, Hb11.out⟩
      | inr m0 =>
        have HN := Lib.hid (rnum_ok hn lf1)
        have HE0 : Hid (evP s = .inr ⟨5, ad0, 0, m0, []⟩) := Lib.hid (by rw [HEF.out]; simp only [alonR, hn, bindR])
        clear hn
        go_wp2_with (first
          | ((with_reducible show wpList _ _ _ (⟨none, .store _ (.tmp 40) _, _, _, _, _⟩ :: _) _ _); refine wpList_storeC (o := ⟨none, _, _, _, _, _⟩) (i := 0) (v := .int .i64 5) rfl _ _ _ rfl rfl rfl rfl HS5.out.ev (by rw [evA_size]; decide) scz_int ?_; intro w6 hB hS; rw [evA_k] at hB; have HS6 := Lib.hid (HS5.out.put hB hS); clear hB hS; clear c0; have ck : w6.cell? ⟨g5, 0, none⟩ = some (.int .i64 5) := HS6.out.ev.cell 0; have cf := HS6.out.at_ 1 (f := f1) rfl)
          | (go_at_call 57; refine (HN.out _).mono ?_; rintro e w9 ⟨rfl, h9⟩; have h10 := h9.symm; subst h10; clear h9)
          | ((with_reducible show wpList _ _ _ (⟨none, .store _ (.tmp 90) _, _, _, _, _⟩ :: _) _ _); refine wpList_storeC (o := ⟨none, _, _, _, _, _⟩) (i := 20) (v := .int .i64 (m0 : Int)) rfl _ _ _ rfl rfl rfl rfl HS6.out.ev (by rw [evA_size]; decide) scz_int ?_; intro w7 hB hS; rw [evA_p] at hB; have HS7 := Lib.hid (HS6.out.put hB hS); clear hB hS; clear ck cf; have ck : w7.cell? ⟨g5, 0, none⟩ = some (.int .i64 5) := HS7.out.ev.cell 0)
          | ((with_reducible show wpList _ _ _ (⟨some 114, _, _, _, _, _⟩ :: _) _ _); refine wpList_loadB (o := ⟨some 114, _, _, _, _, _⟩) rfl _ _ rfl rfl HS7.out.ev ev_under rfl (ev_size' ⟨5, ad0, 0, m0, []⟩) ?_)
          | ((with_reducible show wpList _ _ _ (⟨none, .store _ (.tmp 2) _, _, _, _, _⟩ :: _) _ _); refine wpList_storeB (o := ⟨none, _, _, _, _, _⟩) rfl _ (.tmp 2) _ rfl rfl rfl HS7.out.res (ev_size' ⟨5, ad0, 0, m0, []⟩) ((evA_size ev0).trans (evA_size ⟨5, ad0, 0, m0, []⟩).symm) (evL_one _) ?_; intro w11 hB11 hS11; have HB11 := Lib.hid hB11; have Hb11 := Lib.hid ((bel_tr Hb2.out HS7.out.bel).trans (hS11.below hg2w)); clear hB11 hS11))
        refine ret_evE rfl rfl rfl HB11.out rfl ?_
        exact ⟨by rw [HE0.out]; rfl, Hb11.out⟩
    · have HE0 : Hid (evP s = .inl 5) := Lib.hid (by rw [HEF.out]; exact alonR_no hm)
      have hm1 := len_lit hm
      simp only [Int.cast_ofNat_Int] at hm1
      clear HFR Hf hm
      go_wp2_with (first
        | ((with_reducible show wpList _ _ _ (⟨none, .store _ (.tmp 40) _, _, _, _, _⟩ :: _) _ _); refine wpList_storeC (o := ⟨none, _, _, _, _, _⟩) (i := 0) (v := .int .i64 5) rfl _ _ _ rfl rfl rfl rfl HS5.out.ev (by rw [evA_size]; decide) scz_int ?_; intro w6 hB hS; rw [evA_k] at hB; have HS6 := Lib.hid (HS5.out.put hB hS); clear hB hS)
        | ((with_reducible show wpList _ _ _ (⟨some 45, _, _, _, _, _⟩ :: _) _ _); refine wpList_buildL (o := ⟨some 45, _, _, _, _, _⟩) rfl _ [] rfl built_ev0 rfl ?_)
        | ((with_reducible show wpList _ _ _ (⟨none, .store _ (.tmp 2) _, _, _, _, _⟩ :: _) _ _); refine wpList_storeB (o := ⟨none, _, _, _, _, _⟩) rfl _ (.tmp 2) _ rfl rfl rfl HS6.out.res (ev_size' ev0) ((evA_size ev0).trans (evA_size ev0).symm) (evL_one _) ?_; intro w11 hB11 hS11; have HB11 := Lib.hid hB11; have Hb11 := Lib.hid ((bel_tr Hb2.out HS6.out.bel).trans (hS11.below hg2w)); clear hB11 hS11))
      refine ret_evE rfl rfl rfl HB11.out rfl ?_
      exact ⟨by rw [HE0.out]; rfl, Hb11.out⟩
  have HE0 : Hid (evP s = .inl 10) := Lib.hid (by rw [HE.out, HFR.out]; simp only [evF]; rw [if_neg hw0, if_neg hw1, if_neg hw2, if_neg hw3, if_neg hw4])
  have n0 : (f == wTick) = false := beq_eq_false_iff_ne.2 hw0
  have n1 : (f == wPacket) = false := beq_eq_false_iff_ne.2 hw1
  have n2 : (f == wOpen) = false := beq_eq_false_iff_ne.2 hw2
  have n3 : (f == wBytes) = false := beq_eq_false_iff_ne.2 hw3
  have n4 : (f == wClose) = false := beq_eq_false_iff_ne.2 hw4
  unfold wTick at n0
  unfold wPacket at n1
  unfold wOpen at n2
  unfold wBytes at n3
  unfold wClose at n4
  clear hw0 hw1 hw2 hw3 hw4
  go_wp2_with (first
    | ((with_reducible show wpList _ _ _ (⟨some 25, _, _, _, _, _⟩ :: _) _ _); refine wpList_buildL (o := ⟨some 25, _, _, _, _, _⟩) rfl _ [] rfl built_ev0 rfl ?_)
    | ((with_reducible show wpList _ _ _ (⟨none, .store _ (.tmp 2) _, _, _, _, _⟩ :: _) _ _); refine wpList_storeB (o := ⟨none, _, _, _, _, _⟩) rfl _ (.tmp 2) _ rfl rfl rfl HS5.out.res (ev_size' ev0) ((evA_size ev0).trans (evA_size ev0).symm) (evL_one _) ?_; intro w11 hB11 hS11; have HB11 := Lib.hid hB11; have Hb11 := Lib.hid ((bel_tr Hb2.out HS5.out.bel).trans (hS11.below hg2w)); clear hB11 hS11))
  refine ret_evE rfl rfl rfl HB11.out rfl ?_
  exact ⟨by rw [HE0.out]; rfl, Hb11.out⟩
end Go.Proofs.YtgebcifkbldfoaaDoor

/- script: the events that lines tell; the reference's Read. -/
namespace Go.Proofs.YtgebcifkbldfoaaDoor
open Go.RowKit
attribute [local go_sem] ba_get ext_take ext_drop ext_any ba_app

theorem elt_ev : Elt Tryd.prog 40 36 22 72 := Elt.mk' (z := .agg (evA ev0)) Tryd.underlying40 (by kernel_rfl) (by kernel_rfl) (by decide)
theorem evL_ones (e : Ev) : ∀ u ∈ evL e, u.oneCell' = true := by
  have h := evL_one e
  rw [List.all_toArray] at h
  exact List.all_eq_true.1 h
/-- the events that lines tell. -/
def readL : List (List UInt8) → Int ⊕ List Ev
  | [] => .inr []
  | t :: r => if flds (Lib.trimSuffix t [13]) = [] then readL r else bindR (evP (Lib.trimSuffix t [13])) fun x => bindR (readL r) fun l => .inr (x :: l)
/-- so far: n of the lines have told l. -/
structure RdI (L : List (List UInt8)) (n : Nat) (l : List Ev) : Prop where
  eq : readL L = bindR (readL (L.drop n)) fun r => .inr (l ++ r)
  len : l.length ≤ n
section
variable {L : List (List UInt8)} {n : Nat} {l : List Ev} {t u : List UInt8}
theorem RdI.start (L : List (List UInt8)) : RdI L 0 [] := ⟨by rw [List.drop_zero]; cases readL L <;> rfl, Nat.le_refl _⟩
theorem rd_drop (ht : L[n]? = some t) : L.drop n = t :: L.drop (n + 1) := by
  obtain ⟨h1, h2⟩ := List.getElem?_eq_some_iff.1 ht
  rw [List.drop_eq_getElem_cons h1, h2]
theorem RdI.skip (h : RdI L n l) (ht : L[n]? = some t) (hu : Lib.trimSuffix t [13] = u) (hf : flds u = []) : RdI L (n + 1) l :=
  ⟨by rw [h.eq, rd_drop ht, readL, hu, if_pos hf], Nat.le_succ_of_le h.len⟩
theorem RdI.bad (h : RdI L n l) (ht : L[n]? = some t) (hu : Lib.trimSuffix t [13] = u) (hf : flds u ≠ []) {e : Int} (he : evP u = .inl e) : readL L = .inl e := by
  rw [h.eq, rd_drop ht, readL, hu, if_neg hf, he]; rfl
theorem RdI.next (h : RdI L n l) (ht : L[n]? = some t) (hu : Lib.trimSuffix t [13] = u) (hf : flds u ≠ []) {x : Ev} (he : evP u = .inr x) : RdI L (n + 1) (l ++ [x]) :=
  ⟨by
    rw [h.eq, rd_drop ht, readL, hu, if_neg hf, he]
    show bindR (bindR (readL (L.drop (n + 1))) fun r => .inr (x :: r)) _ = _
    cases readL (L.drop (n + 1)) with
    | inl e => rfl
    | inr r => simp [bindR], by rw [List.length_append]; have := h.len; simp; omega⟩
theorem RdI.done_ (h : RdI L n l) (hn : L.length ≤ n) : readL L = .inr l := by
  rw [h.eq, List.drop_eq_nil_of_le hn]; simp [readL, bindR]
end
theorem evP_err {u : List UInt8} {e : Int} (h : evP u = .inl e) : (e != 0) = true := evF_err h
def RdsPost (w : World) (r : Int ⊕ List Ev) (e : Ending) (w' : World) : Prop := match r with
  | .inl c => e = .returned (.tuple #[.slice none 0 0, .int .i64 c]) ∧ Below w.heap.size w w'
  | .inr l => ∃ v, e = .returned (.tuple #[v, .int .i64 0]) ∧ w'.ownsRow w.heap.size 36 22 v l.length (l.flatMap evL) ∧ Below w.heap.size w w'
theorem RdsPost.bad {w w' : World} {r : Int ⊕ List Ev} {c : Int} {e : Ending} (h : r = .inl c) (he : e = .returned (.tuple #[.slice none 0 0, .int .i64 c])) (hb : Below w.heap.size w w') : RdsPost w r e w' := by subst h; exact ⟨he, hb⟩
theorem RdsPost.good {w w' : World} {r : Int ⊕ List Ev} {l : List Ev} {v : Value} {e : Ending} (h : r = .inr l) (he : e = .returned (.tuple #[v, .int .i64 0])) (ho : w'.ownsRow w.heap.size 36 22 v l.length (l.flatMap evL)) (hb : Below w.heap.size w w') : RdsPost w r e w' := by subst h; exact ⟨v, he, ho, hb⟩
/-- how it stands in the reference's Read. -/
structure RrRel (w : World) (s : List UInt8) (i fr : Nat) (v : Value) (D : List (List UInt8)) (l : List Ev) (wr : World) : Prop where
  own : wr.ownsRow w.heap.size 36 22 v l.length (l.flatMap evL)
  is : RdI (linL s) D.length l
  few : D.length ≤ i
  b : Below w.heap.size w wr
  le : i ≤ s.length + 1
  hfr : fr ≤ i
  at_ : (i ≤ s.length → linL s = D ++ spB 10 ((s.take i).drop fr) (s.drop i))
  fin : (i = s.length + 1 → linL s = D)
theorem RrRel.start (w : World) (s : List UInt8) : RrRel w s 0 0 (.slice none 0 0) [] [] w :=
  ⟨by simpa using World.ownsRow_nil w w.heap.size 36 22, RdI.start _, Nat.le_refl _, Below.refl _ _, Nat.zero_le _, Nat.le_refl _, fun _ => rfl, fun h => by omega⟩
set_option maxRecDepth 100000 in
set_option maxHeartbeats 4000000 in
theorem rscread_any (s : List UInt8) (w : World) (hl : s.length ≤ 100000) : Calls Tryd.prog 21 #[.string ⟨s.toArray⟩] w (RdsPost w (readL (linL s))) := by
  go_enter Tryd.func21, Tryd.ntmps21
  go_wp2
  go_loopw [4, 5, 6] (fun lv fv iv wr => ∃ (i fr : Nat) (D : List (List UInt8)) (l : List Ev), fv = .int .i64 fr ∧ iv = .int .i64 i ∧ RrRel w s i fr lv D l wr) (fun _ _ iv _ => s.length + 1 - (intOf iv).toNat)
  case atStart => exact ⟨0, 0, [], [], rfl, rfl, RrRel.start w s⟩
  case round =>
    obtain ⟨i, fr, D, l, rfl, rfl, rel⟩ := hrel
    obtain ⟨A, cp, rfl⟩ := own_any rel.own
    have hle := rel.le
    have hfi := rel.hfr
    have hfew := rel.few
    have hll := rel.is.len
    have Rel := Lib.hid rel
    clear rel
    by_cases hfin : i = s.length + 1
    · have HR : Hid (readL (linL s) = .inr l) := Lib.hid (Rel.out.is.done_ (Nat.le_of_eq (by rw [← Rel.out.fin hfin])))
      have i0 : ¬ (i : Int) ≤ (s.length : Int) := by omega
      clear hfin
      go_wp2
      go_ret2
      exact RdsPost.good HR.out rfl Rel.out.own Rel.out.b
    · have hile : i ≤ s.length := by omega
      have i0 : (i : Int) ≤ (s.length : Int) := by omega
      clear hfin
      by_cases hgo : ∃ h : i < s.length, s[i] ≠ 10
      · obtain ⟨hlt, h10⟩ := hgo
        have i1 : (i : Int) < (s.length : Int) := by omega
        have i2 : (((s[i].toNat : Nat) : Int) != 10) = true := by
          rw [bne_iff_ne]
          intro h
          exact h10 (UInt8.toNat.inj (by have : (10 : UInt8).toNat = 10 := rfl; omega))
        have H10 := Lib.hid h10
        clear h10
        go_wp2
        go_roundw
        case rel =>
          refine ⟨i + 1, fr, D, l, rfl, by go_num, Rel.out.own, Rel.out.is, by omega, Rel.out.b, by omega, by omega, fun _ => ?_, fun h => by omega⟩
          rw [Rel.out.at_ (by omega), spB_goL hlt hfi H10.out]
        case measure => (simp [intOf]) <;> omega
      · obtain ⟨t, ht⟩ : ∃ t, (s.take i).drop fr = t := ⟨_, rfl⟩
        have htl : t.length ≤ 100000 := by rw [← ht, List.length_drop, List.length_take]; omega
        have hext : (ByteArray.mk s.toArray).extract fr i = ⟨t.toArray⟩ := by rw [ext_any, ht]
        have h6 : (∃ h : i < s.length, s[i] = 10) ∨ i = s.length := by
          by_cases hlt : i < s.length
          · exact .inl ⟨hlt, by
              by_cases h : s[i] = 10
              · exact h
              · exact absurd ⟨hlt, h⟩ hgo⟩
          · exact .inr (by omega)
        have HA : Hid (i + 1 ≤ s.length → linL s = (D ++ [t]) ++ spB 10 ((s.take (i + 1)).drop (i + 1)) (s.drop (i + 1))) := Lib.hid (fun h => by
          rcases h6 with ⟨hlt, h10⟩ | h0
          · rw [Rel.out.at_ (by omega), spB_cutL hlt h10, ht]; simp
          · omega)
        have HZ : Hid (i + 1 = s.length + 1 → linL s = D ++ [t]) := Lib.hid (fun h => by
          rw [Rel.out.at_ (by omega), spB_endL (by omega), ht])
        have HN : Hid ((linL s)[D.length]? = some t) := Lib.hid (by
          rcases h6 with ⟨hlt, h10⟩ | h0
          · rw [HA.out (by omega)]; simp
          · rw [HZ.out (by omega)]; simp)
        have H6 := Lib.hid h6
        obtain ⟨u, hu⟩ : ∃ u, Lib.trimSuffix t [13] = u := ⟨_, rfl⟩
        have hul : u.length ≤ 100000 := by rw [← hu]; exact Nat.le_trans (trS_len t) htl
        have Hu := Lib.hid hu
        clear ht hgo h6 hu
        go_upto_region 6 with (fail)
        go_cut [25] (fun s25 wx => s25 = .bool false ∧ wx = wr)
        case first =>
          rcases H6.out with ⟨hlt, h10⟩ | hz
          · have i1 : (i : Int) < (s.length : Int) := by omega
            have i2 : (((s[i].toNat : Nat) : Int) != 10) = false := by rw [h10] <;> rfl
            clear h10 hext
            go_wp2
            go_meet
            exact ⟨rfl, rfl⟩
          · subst hz
            have i1 : ¬ (s.length : Int) < (s.length : Int) := by omega
            clear hext
            go_wp2
            go_meet
            exact ⟨rfl, rfl⟩
        case rest =>
          obtain ⟨rfl, rfl⟩ := hcut
          clear H6
          go_upto_region 8 with (fail)
          go_cut [40] (fun s40 wx => (∃ b : Bool, s40 = .bool b ∧ (b = true → ∃ m, t.length = m + 1 ∧ u = t.take m) ∧ (b = false → u = t)) ∧ wx = wc)
          case first =>
            clear hext
            rcases Nat.eq_zero_or_pos t.length with h0 | h0
            · have hs : t = [] := List.eq_nil_of_length_eq_zero h0
              subst hs
              have ht2 : Hid (u = []) := Lib.hid (by rw [← Hu.out]; exact trS_nil)
              clear h0
              go_wp2
              go_meet
              exact ⟨⟨_, rfl, (fun h => by cases h), fun _ => ht2.out⟩, rfl⟩
            · obtain ⟨m, hm⟩ : ∃ m, t.length = m + 1 := ⟨t.length - 1, by omega⟩
              have hml : m < t.length := by omega
              have i0 : (0 : Int) < (t.length : Int) := by omega
              have i1 : (t.length : Int) - 1 = (m : Int) := by omega
              have ht2 := trS_at hm
              rw [Hu.out, List.getElem?_eq_getElem hml] at ht2
              clear h0
              by_cases h13 : t[m] = 13
              · have i2 : (((t[m].toNat : Nat) : Int) == 13) = true := by rw [h13]; rfl
                have HT : Hid (u = t.take m) := Lib.hid (by rw [ht2, if_pos (by rw [h13])])
                have Hm := Lib.hid hm
                clear ht2 h13 hm
                go_wp2
                go_meet
                exact ⟨⟨_, rfl, (fun _ => ⟨m, Hm.out, HT.out⟩), fun h => by cases h⟩, rfl⟩
              · have i2 : (((t[m].toNat : Nat) : Int) == 13) = false := by
                  rw [beq_eq_false_iff_ne]
                  intro h
                  exact h13 (UInt8.toNat.inj (by have : (13 : UInt8).toNat = 13 := rfl; omega))
                have HT : Hid (u = t) := Lib.hid (by rw [ht2, if_neg (by intro h; injection h with h; exact h13 h)])
                clear ht2 h13 hm
                go_wp2
                go_meet
                exact ⟨⟨_, rfl, (fun h => by cases h), fun _ => HT.out⟩, rfl⟩
          case rest =>
            obtain ⟨⟨b, rfl, hb1, hb2⟩, rfl⟩ := hcut
            go_upto_if 40 with (fail)
            go_cut [7] (fun s7 wx => s7 = .string ⟨u.toArray⟩ ∧ wx = wc)
            case first =>
              clear hext
              cases b with
              | true =>
                obtain ⟨m, hm, hum⟩ := hb1 rfl
                have hml : m ≤ t.length := by omega
                have i1 : (t.length : Int) - 1 = (m : Int) := by omega
                have Hum := Lib.hid hum
                clear hb1 hb2 hm hum
                go_wp2
                go_meet
                exact ⟨by rw [Hum.out], rfl⟩
              | false =>
                have Hum := Lib.hid (hb2 rfl)
                clear hb1 hb2
                go_wp2
                go_meet
                exact ⟨by rw [Hum.out], rfl⟩
            case rest =>
              obtain ⟨rfl, rfl⟩ := hcut
              clear hb1 hb2 hext
              have HX := Lib.hid (rfields_any u wc (by omega))
              by_cases hE : flds u = []
              · rw [hE] at HX
                have HI := Lib.hid (Rel.out.is.skip HN.out Hu.out hE)
                clear hE
                go_wp2_with (first
                  | (go_at_call 55; refine HX.out.mono ?_; rintro e w3 ⟨v3, rfl, hs3, hb3⟩; obtain ⟨A3, q3, rfl, _⟩ := hs3.any; have Hb3 := Lib.hid hb3; clear hs3 hb3))
                go_roundw
                case rel => exact ⟨i + 1, i + 1, D ++ [t], l, by go_num, by go_num, own_below Rel.out.own Hb3.out, by rw [List.length_append]; exact HI.out, by rw [List.length_append, List.length_singleton]; omega, Rel.out.b.trans (Hb3.out.mono Rel.out.b.size), by omega, Nat.le_refl _, HA.out, HZ.out⟩
                case measure => (simp [intOf]) <;> omega
              · obtain ⟨F, hF⟩ : ∃ F, flds u = F := ⟨_, rfl⟩
                have f0 : (0 : Int) < (F.length : Int) := by have := List.length_pos_iff.2 hE; rw [hF] at this; omega
                have f1 : ((F.length : Int) == 0) = false := beq_eq_false_iff_ne.2 (by omega)
                rw [hF] at HX
                have HP := Lib.hid (fun w' => rscparse_any u w' (by omega))
                cases hx : evP u with
                | inl e0 =>
                  have hne := evP_err hx
                  have HR : Hid (readL (linL s) = .inl e0) := Lib.hid (Rel.out.is.bad HN.out Hu.out hE hx)
                  rw [hx] at HP
                  clear hx hE hF
                  go_wp2_with (first
                    | (go_at_call 55; refine HX.out.mono ?_; rintro e w3 ⟨v3, rfl, hs3, hb3⟩; obtain ⟨A3, q3, rfl, _⟩ := hs3.any; have Hb3 := Lib.hid hb3; clear hs3 hb3)
                    | (go_at_call 19; refine (HP.out _).mono ?_; rintro e w4 ⟨rfl, hb4⟩; have Hb4 := Lib.hid (bel_tr Hb3.out hb4); clear hb4; unfold evR)
                    | ((with_reducible show wpList _ _ _ (⟨some 8, _, _, _, _, _⟩ :: _) _ _); refine wpList_allocZ (o := ⟨some 8, _, _, _, _, _⟩) rfl _ rfl ev_zero ?_; intro g8 w5 hg8 hB8 hb8 hs8; have Hg8 := Lib.hid (Nat.le_of_eq hg8.symm); have HB8 := Lib.hid hB8; have Hb5 := Lib.hid (bel_tr Hb4.out hb8); clear hg8 hs8 hB8 hb8)
                    | ((with_reducible show wpList _ _ _ (⟨none, .store _ (.tmp 8) _, _, _, _, _⟩ :: _) _ _); refine wpList_storeB (o := ⟨none, _, _, _, _, _⟩) rfl _ (.tmp 8) _ rfl rfl rfl HB8.out (ev_size' ev0) rfl (evL_one _) ?_; intro w6 hB6 hS6; have Hb6 := Lib.hid (Hb5.out.trans (hS6.below (Nat.le_trans Hb4.out.size Hg8.out))); clear hB6 hS6))
                  go_ret2
                  exact RdsPost.bad HR.out rfl (Rel.out.b.trans (Hb6.out.mono Rel.out.b.size))
                | inr x =>
                  have HI := Lib.hid (Rel.out.is.next HN.out Hu.out hE hx)
                  rw [hx] at HP
                  clear hx hE hF
                  go_wp2_with (first
                    | (go_at_call 55; refine HX.out.mono ?_; rintro e w3 ⟨v3, rfl, hs3, hb3⟩; obtain ⟨A3, q3, rfl, _⟩ := hs3.any; have Hb3 := Lib.hid hb3; clear hs3 hb3)
                    | (go_at_call 19; refine (HP.out _).mono ?_; rintro e w4 ⟨rfl, hb4⟩; have Hb4 := Lib.hid (bel_tr Hb3.out hb4); clear hb4; unfold evR)
                    | ((with_reducible show wpList _ _ _ (⟨some 8, _, _, _, _, _⟩ :: _) _ _); refine wpList_allocZ (o := ⟨some 8, _, _, _, _, _⟩) rfl _ rfl ev_zero ?_; intro g8 w5 hg8 hB8 hb8 hs8; have Hg8 := Lib.hid (Nat.le_of_eq hg8.symm); have HB8 := Lib.hid hB8; have Hb5 := Lib.hid (bel_tr Hb4.out hb8); clear hg8 hs8 hB8 hb8)
                    | ((with_reducible show wpList _ _ _ (⟨none, .store _ (.tmp 8) _, _, _, _, _⟩ :: _) _ _); refine wpList_storeB (o := ⟨none, _, _, _, _, _⟩) rfl _ (.tmp 8) _ rfl rfl rfl HB8.out (ev_size' x) ((evA_size ev0).trans (evA_size x).symm) (evL_one _) ?_; intro w6 hB6 hS6; have HB6 := Lib.hid hB6; have Hb6 := Lib.hid (Hb5.out.trans (hS6.below (Nat.le_trans Hb4.out.size Hg8.out))); clear hB6 hS6; refine holdL ?_))
                  refine Lib.hid ?_
                  have ho6 := own_below Rel.out.own Hb6.out
                  go_wp2_with (first
                    | ((with_reducible show wpList _ _ _ (⟨some 61, _, _, _, _, _⟩ :: _) _ _); refine wpList_loadB (o := ⟨some 61, _, _, _, _, _⟩) rfl _ _ rfl rfl HB6.out ev_under rfl (ev_size' x) ?_)
                    | ((with_reducible show wpList _ _ _ (⟨some 62, _, _, _, _, _⟩ :: _) _ _); refine wpList_lit (o := ⟨some 62, _, _, _, _, _⟩) rfl _ _ rfl elt_ev [.agg (evA x)] rfl (by decide) (by decide) (fun v hv => by rw [List.mem_singleton.1 hv]; exact evA_size _) rfl ?_; intro w8 hB8 hx8 hb8 hs8; clear hx8 hs8; have hB8 := bk_list (l := evL x) hB8 rfl)
                    | (at_builtin; refine wpList_app rfl (.tmp 60) (.tmp 62) _ rfl elt_ev rfl (own_below ho6 hb8) rfl (hB8.sl (size := 22) (n := 1) (evL_len _) 1 (Nat.le_refl _)) (evL_ones _) (Nat.le_trans Rel.out.b.size (Nat.le_trans Hb6.out.size hb8.size)) (by omega) (by omega) ?_; intro v9 w9 ho9 hb9 hg9))
                  go_roundw
                  case rel => exact ⟨i + 1, i + 1, D ++ [t], l ++ [x], by go_num, by go_num, by rw [List.length_append, List.flatMap_append]; simpa using ho9, by rw [List.length_append]; exact HI.out, by rw [List.length_append, List.length_singleton]; omega, ((Rel.out.b.trans (Hb6.out.mono Rel.out.b.size)).trans (hb8.mono (Nat.le_trans Rel.out.b.size Hb6.out.size))).trans hb9, by omega, Nat.le_refl _, HA.out, HZ.out⟩
                  case measure => (simp [intOf]) <;> omega
end Go.Proofs.YtgebcifkbldfoaaDoor

/- script: Read. -/
namespace Go.Proofs.YtgebcifkbldfoaaDoor
open Go.RowKit
attribute [local go_sem] ba_get ext_take ext_drop ext_any ba_app

theorem load_box {P : Program} {ty : TypeId} {w : World} {g : Nat} {v : Value} (hc : w.cell? ⟨g, 0, none⟩ = some v) {d : TypeDesc} (hu : P.underlying ty = some d) (hd : d.isRow = false) : (loadVar ty ⟨g, 0, none⟩).run P w = .ok v w := by
  have ha : (isAgg ty).run P w = .ok false w := by
    cases d <;> first | (cases hd; done) | simp [isAgg, run_underlying hu]
  simp only [loadVar, Sem.run_bind, ha, Result.andThen_ok, Bool.false_eq_true, if_false]
  simp [load, Sem.run, hc]
theorem results_box2 {P : Program} {fn : Func} {p q : Tmp} {ty tz : TypeId} (h : fn.results = #[.cell p ty, .cell q tz]) (tmps : Array Value) {w : World} {g k : Nat} {v u : Value} (hp : tmps.getD p undef = .pointer (some ⟨g, 0, none⟩)) (hq : tmps.getD q undef = .pointer (some ⟨k, 0, none⟩))
    (hc : w.cell? ⟨g, 0, none⟩ = some v) (hk : w.cell? ⟨k, 0, none⟩ = some u) {d e : TypeDesc} (hu : P.underlying ty = some d) (hd : d.isRow = false) (hv : P.underlying tz = some e) (he : e.isRow = false) : (results fn tmps).run P w = .ok (.tuple #[v, u]) w := by
  have hr := load_box hc hu hd
  have hs := load_box hk hv he
  have hp' : tmps[p]?.getD undef = .pointer (some ⟨g, 0, none⟩) := by simpa using hp
  have hq' : tmps[q]?.getD undef = .pointer (some ⟨k, 0, none⟩) := by simpa using hq
  simp [results, h, hp', hq', asAddr, hr, hs]
/-- how it stands behind i of the lines. -/
structure ScI (w : World) (g : Nat) (s : List UInt8) (i : Nat) (V : World) : Prop where
  l : ∃ v l, Boxed V (g + 2) 40 v ∧ V.ownsRow w.heap.size 36 22 v l.length (l.flatMap evL) ∧ RdI (linL s) i l
  r : Boxed V g 40 (.slice none 0 0)
  e : Boxed V (g + 1) 37 (.int .i64 0)
  b : Below w.heap.size w V
theorem ScI.kept {w : World} {g i : Nat} {s : List UInt8} {W W' : World} {row : Option Nat} (h : ScI w g s i W) (hg : W.grownBy W' row) (hh : Harm [36] w.heap.size W row) (h2 : some (g + 2) ≠ row) (h0 : some g ≠ row) (h1 : some (g + 1) ≠ row) : ScI w g s i W' := by
  obtain ⟨v, l, hv, ho, hi⟩ := h.l
  exact ⟨⟨v, l, (hg.block _ hv.lt h2).trans hv, row_kept ho hg hh, hi⟩, (hg.block _ h.r.lt h0).trans h.r, (hg.block _ h.e.lt h1).trans h.e, Below.kept h.b h.b.size hg hh⟩
theorem ScI.bel {w : World} {g i : Nat} {s : List UInt8} {W W' : World} (h : ScI w g s i W) (hb : Below W.heap.size W W') : ScI w g s i W' :=
  h.kept (gr_none hb) ⟨(fun r e => by cases e), (fun _ _ _ _ _ _ e => by cases e)⟩ (fun e => by cases e) (fun e => by cases e) (fun e => by cases e)
/-- how the loop may be left. -/
structure ScX (w : World) (g : Nat) (s : List UInt8) (c : Code) (V : World) : Prop where
  c : c = .ret
  r : Boxed V g 40 (.slice none 0 0)
  e : ∃ e0, Boxed V (g + 1) 37 (.int .i64 e0) ∧ readL (linL s) = .inl e0
  b : Below w.heap.size w V
theorem ScX.kept {w : World} {g : Nat} {s : List UInt8} {c : Code} {W W' : World} {row : Option Nat} (h : ScX w g s c W) (hg : W.grownBy W' row) (hh : Harm [] w.heap.size W row) (h0 : some g ≠ row) (h1 : some (g + 1) ≠ row) : ScX w g s c W' := by
  obtain ⟨e0, he, hx⟩ := h.e
  exact ⟨h.c, (hg.block _ h.r.lt h0).trans h.r, ⟨e0, (hg.block _ he.lt h1).trans he, hx⟩, Below.kept h.b h.b.size hg hh⟩
theorem KpS.harm {b k : Nat} {W W' : World} {row : Option Nat} (hg : W.grownBy W' row) (hh : Harm [9, 3] k W row) : KpS b W W' :=
  KpS.grown hg (fun r e t u hB => ⟨fun h => hh.ne r _ t _ (show W.heap[r]? = _ from hB) (by simp [h]) e.symm, fun h => hh.ne r _ t _ (show W.heap[r]? = _ from hB) (by simp [h]) e.symm⟩)
attribute [local go_sem] Oper.semAt_some
set_option maxRecDepth 100000 in
set_option maxHeartbeats 4000000 in
theorem scread_any (s : List UInt8) (w : World) (ht : Tab w) (hm : MaxI w) (hl : s.length ≤ 100000) : Calls Tryd.prog 20 #[.string ⟨s.toArray⟩] w (RdsPost w (readL (linL s))) := by
  refine (callsIn_wide (n := 0)).1 ?_
  refine callsIn_of_wp_marks Tryd.func20 rfl trivial ?_ rfl
  simp only [Tryd.ntmps20, List.size_toArray, List.length_cons, List.length_nil, Nat.reduceAdd, Nat.reduceSub, Array.replicate_succ, Array.replicate_zero, List.push_toArray, List.append_toArray, List.nil_append, List.cons_append]
  gi_wp2
  refine ⟨trivial, rfl, ?_⟩
  gi_at_call 59
  refine (callsIn_wide.2 (splitseq_any s _)).mono ?_
  rintro e w2 ⟨rfl, hw2⟩
  obtain ⟨g, hg⟩ : ∃ g, g = w.heap.size := ⟨_, rfl⟩
  simp only [World.size_alloc, ← hg, Nat.add_assoc, Nat.reduceAdd] at hw2 ⊢
  have hsz : ∀ (W : World) (n : Nat), W.heap.size = n → ∀ (ty : TypeId) (v : Value), Boxed (W.alloc (.cells #[v] ty)) n ty v := fun W n h ty v => by rw [← h]; exact Boxed.new W ty v
  have B0 : Boxed w2 g 40 (.slice none 0 0) := by rw [hw2]; exact (((((hsz w g hg.symm _ _).alloc _).alloc _).alloc _).alloc _).alloc _
  have B1 : Boxed w2 (g + 1) 37 (.int .i64 0) := by rw [hw2]; exact ((((hsz _ (g + 1) (by simp [hg]) _ _).alloc _).alloc _).alloc _).alloc _
  have B2 : Boxed w2 (g + 2) 40 (.slice none 0 0) := by rw [hw2]; exact (((hsz _ (g + 2) (by simp [hg]) _ _).alloc _).alloc _).alloc _
  have B3 : Boxed w2 (g + 3) 9 (.string ⟨s.toArray⟩) := by rw [hw2]; exact ((hsz _ (g + 3) (by simp [hg]) _ _).alloc _).alloc _
  have B4 : Boxed w2 (g + 3 + 1) 9 (.string ⟨#[10]⟩) := by rw [hw2]; exact (hsz _ (g + 3 + 1) (by simp [hg]) _ _).alloc _
  have B5 : Boxed w2 (g + 3 + 2) 3 (.int .i64 0) := by rw [hw2]; exact hsz _ (g + 3 + 2) (by simp [hg]) _ _
  have hb02 : Below w.heap.size w w2 := by rw [hw2]; exact ((((((Below.refl _ w).alloc (Nat.le_refl _) _).alloc (by simp) _).alloc (by simp; omega) _).alloc (by simp; omega) _).alloc (by simp; omega) _).alloc (by simp; omega) _
  have hgl : w.heap.size ≤ g := by omega
  have Hb02 := Lib.hid hb02
  have Ht := Lib.hid ht
  have Hm := Lib.hid hm
  have hg5 : g + 5 < w2.heap.size := B5.lt
  clear hw2 hg hb02 ht hm hsz
  gi_wp2
  refine range_seqD (gf := 121) (lb := #[.pointer (some ⟨g + 4, 0, none⟩), .pointer (some ⟨g + 3, 0, none⟩), .pointer (some ⟨g + 5, 0, none⟩)]) rfl (enters_of Tryd.func121 (by kernel_rfl) rfl) (split_seq s (g + 3) w2 B3 B4 B5 (by omega)) (by omega) (Below.refl _ _) (fun h k => KpS.trans h k) (fun W l o o' h hc => KpS.put W l o o' h hc)
    (fun c args V he => by rw [he]; rfl) (fun c args => ownFrom_pure _ _)
    (fun i V => ScI w g s i V)
    (fun c V => ScX w g s c V)
    (fun i X Y row hs hg hr => hs.kept hg (Harm.loop (by omega) hr) (fun e => by have := (hr _ e.symm).1; omega) (fun e => by have := (hr _ e.symm).1; omega) (fun e => by have := (hr _ e.symm).1; omega))
    (fun i X Y v v' hs hg hv hv' => hs.kept hg (Harm.type (by omega) hv (by decide)) (fun e => by injection e with e; omega) (fun e => by injection e with e; omega) (fun e => by injection e with e; omega))
    (fun c _ X Y row hs hg hr => hs.kept hg (Harm.loop (by omega) hr) (fun e => by have := (hr _ e.symm).1; omega) (fun e => by have := (hr _ e.symm).1; omega))
    ⟨⟨_, [], B2, by simpa using World.ownsRow_nil w2 w.heap.size 36 22, RdI.start _⟩, B0, B1, Hb02.out⟩
    (fun args => { tmps := #[.string ⟨s.toArray⟩, undef, .pointer (some ⟨g, 0, none⟩), .pointer (some ⟨g + 1, 0, none⟩), .pointer (some ⟨g + 2, 0, none⟩), args.getD 0 undef, undef, undef, .string ⟨s.toArray⟩, .func (.func 121) #[] #[.pointer (some ⟨g + 4, 0, none⟩), .pointer (some ⟨g + 3, 0, none⟩), .pointer (some ⟨g + 5, 0, none⟩)], args.getD 0 undef, undef, undef, undef, undef, undef, undef, undef, undef, undef, undef, undef, undef, undef, undef, undef, undef, undef, undef, undef], defers := [] }) ?assign ?body ?done ?stop
  case assign =>
    intro l2 c args V K he hK
    obtain rfl := he
    gi_wp2
    exact hK
  case body =>
    rintro l2 i c args V hl2 ⟨r, hr⟩ hI hc he
    obtain rfl := he
    have hcl : c.length ≤ 100000 := by have := spB_mem 10 s [] c (List.mem_of_getElem? hc); simp at this; omega
    obtain ⟨u, hu⟩ : ∃ u, Lib.trimSuffix c [13] = u := ⟨_, rfl⟩
    have hul : u.length ≤ 100000 := by rw [← hu]; exact Nat.le_trans (trS_len c) hcl
    have HTr : Hid (∀ w', Calls Tryd.prog 60 #[.string ⟨c.toArray⟩, .string ⟨#[13]⟩] w' fun e w'' => e = .returned (.string ⟨u.toArray⟩) ∧ Below w'.heap.size w' w'') := Lib.hid (fun w' => by rw [← hu]; exact trim_any c w' (by omega))
    have HX := Lib.hid (fun w' => fields_any u w' (by omega))
    have HI := Lib.hid hI
    have Hc := Lib.hid hc
    have Hu := Lib.hid hu
    have hVs := hI.b.size
    have hlV : i < (linL s).length := (List.getElem?_eq_some_iff.1 hc).1
    have hLl := linL_len 10 s []
    have hiB : i ≤ 100000 := by have : (linL s).length = (spB 10 [] s).length := rfl; omega
    clear hI hc hu hr hLl hlV
    by_cases hE : flds u = []
    · rw [hE] at HX
      have HN : Hid (∀ l, RdI (linL s) i l → RdI (linL s) (i + 1) l) := Lib.hid (fun l h => h.skip Hc.out Hu.out hE)
      clear hE
      gi_wp2
      refine ⟨trivial, rfl, ?_⟩
      gi_at_call 60
      refine (CallsIn.inRound l2 (callsIn_wide.2 (HTr.out _))).mono ?_
      rintro e w5 ⟨rfl, hb5⟩
      have Hb5 := Lib.hid hb5
      clear hb5
      gi_wp2
      refine ⟨trivial, rfl, ?_⟩
      gi_at_call 49
      refine (CallsIn.inRound l2 (callsIn_wide.2 (HX.out _))).mono ?_
      rintro e w6 ⟨v6, rfl, hs6, hb6⟩
      obtain ⟨A6, q6, rfl, _⟩ := hs6.any
      have Hb6 := Lib.hid (bel_tr Hb5.out hb6)
      clear hs6 hb6
      gi_wp2
      obtain ⟨v, l, h1, h2, h3⟩ := HI.out.l
      have h := HI.out.bel Hb6.out
      refine ⟨keeps_below Hb6.out, KpS.below Hb6.out, ⟨?_, h.r, h.e, h.b⟩⟩
      obtain ⟨v, l, h1, h2, h3⟩ := h.l
      exact ⟨v, l, h1, h2, HN.out l h3⟩
    · obtain ⟨F, hF⟩ : ∃ F, flds u = F := ⟨_, rfl⟩
      have f1 : ((F.length : Int) == 0) = false := by have := List.length_pos_iff.2 hE; rw [hF] at this; exact beq_eq_false_iff_ne.2 (by omega)
      rw [hF] at HX
      have HP := Lib.hid (fun w' (h : Below w.heap.size w w') => scparse_any u w' (Ht.out.below h) (Hm.out.below h) (by omega))
      cases hx : evP u with
      | inl e0 =>
        have hne := evP_err hx
        rw [hx] at HP
        have HR : Hid (readL (linL s) = .inl e0) := Lib.hid (by obtain ⟨v, l, h1, h2, h3⟩ := HI.out.l; exact h3.bad Hc.out Hu.out hE hx)
        clear hx hE hF
        gi_wp2
        refine ⟨trivial, rfl, ?_⟩
        gi_at_call 60
        refine (CallsIn.inRound l2 (callsIn_wide.2 (HTr.out _))).mono ?_
        rintro e w5 ⟨rfl, hb5⟩
        have Hb5 := Lib.hid hb5
        clear hb5
        gi_wp2
        refine ⟨trivial, rfl, ?_⟩
        gi_at_call 49
        refine (CallsIn.inRound l2 (callsIn_wide.2 (HX.out _))).mono ?_
        rintro e w6 ⟨v6, rfl, hs6, hb6⟩
        obtain ⟨A6, q6, rfl, _⟩ := hs6.any
        have Hb6 := Lib.hid (bel_tr Hb5.out hb6)
        clear hs6 hb6
        gi_wp2
        refine ⟨trivial, rfl, ?_⟩
        gi_at_call 18
        refine (CallsIn.inRound l2 (callsIn_wide.2 (HP.out _ (bel_tr HI.out.b Hb6.out)))).mono ?_
        rintro e w7 ⟨rfl, hb7⟩
        have Hb7 := Lib.hid (bel_tr Hb6.out hb7)
        clear hb7
        unfold evR
        gi_wp2_with (refine wpListIn_of (fun ⟨_, _, h⟩ => h) _ _ _ rfl ?_)
        go_wp2_with (first
          | ((with_reducible show wpList _ _ _ (⟨some 6, _, _, _, _, _⟩ :: _) _ _); refine wpList_allocZ (o := ⟨some 6, _, _, _, _, _⟩) rfl _ rfl ev_zero ?_; intro g6 w8 hg8 hB8 hb8 hs8; have Hg8 := Lib.hid (Nat.le_of_eq hg8.symm); have HB8 := Lib.hid hB8; have Hb8 := Lib.hid (bel_tr Hb7.out hb8); clear hg8 hs8 hB8 hb8)
          | ((with_reducible show wpList _ _ _ (⟨none, .store _ (.tmp 6) _, _, _, _, _⟩ :: _) _ _); refine wpList_storeB (o := ⟨none, _, _, _, _, _⟩) rfl _ (.tmp 6) _ rfl rfl rfl HB8.out (ev_size' ev0) rfl (evL_one _) ?_; intro w9 hB9 hS9; have Hb9 := Lib.hid (Hb8.out.trans (hS9.below (Nat.le_trans Hb7.out.size Hg8.out))); clear hB9 hS9; have h9 := HI.out.bel Hb9.out; have c9 := h9.r.cell; have d9 := h9.e.cell; have f9 := h9.r.frozen; have k9 := h9.e.frozen; have H9 := Lib.hid h9; clear h9))
        gi_wp2
        have hS1 := Stays.cell w9 g 0 (.slice none 0 0)
        have hS2 := Stays.cell (w9.setCell ⟨g, 0, none⟩ (.slice none 0 0)) (g + 1) 0 (.int .i64 e0)
        have r1 := H9.out.r.set (.slice none 0 0)
        have e1 : Boxed (w9.setCell ⟨g, 0, none⟩ (.slice none 0 0)) (g + 1) 37 (.int .i64 0) := (hS1.block _ (by omega)).trans H9.out.e
        have e2 := e1.set (.int .i64 e0)
        have r2 : Boxed ((w9.setCell ⟨g, 0, none⟩ (.slice none 0 0)).setCell ⟨g + 1, 0, none⟩ (.int .i64 e0)) g 40 (.slice none 0 0) := (hS2.block _ (by omega)).trans r1
        exact ⟨((keeps_below Hb9.out).trans (keeps_cells hS1.grown H9.out.r)).trans (keeps_cells hS2.grown e1), ⟨rfl, r2, ⟨e0, e2, HR.out⟩, (H9.out.b.trans (hS1.below hgl)).trans (hS2.below (by omega))⟩⟩
      | inr x =>
        rw [hx] at HP
        have HN : Hid (∀ l, RdI (linL s) i l → RdI (linL s) (i + 1) (l ++ [x])) := Lib.hid (fun l h => h.next Hc.out Hu.out hE hx)
        clear hx hE hF
        gi_wp2
        refine ⟨trivial, rfl, ?_⟩
        gi_at_call 60
        refine (CallsIn.inRound l2 (callsIn_wide.2 (HTr.out _))).mono ?_
        rintro e w5 ⟨rfl, hb5⟩
        have Hb5 := Lib.hid hb5
        clear hb5
        gi_wp2
        refine ⟨trivial, rfl, ?_⟩
        gi_at_call 49
        refine (CallsIn.inRound l2 (callsIn_wide.2 (HX.out _))).mono ?_
        rintro e w6 ⟨v6, rfl, hs6, hb6⟩
        obtain ⟨A6, q6, rfl, _⟩ := hs6.any
        have Hb6 := Lib.hid (bel_tr Hb5.out hb6)
        clear hs6 hb6
        gi_wp2
        refine ⟨trivial, rfl, ?_⟩
        gi_at_call 18
        refine (CallsIn.inRound l2 (callsIn_wide.2 (HP.out _ (bel_tr HI.out.b Hb6.out)))).mono ?_
        rintro e w7 ⟨rfl, hb7⟩
        have Hb7 := Lib.hid (bel_tr Hb6.out hb7)
        clear hb7
        unfold evR
        gi_wp2_with (refine wpListIn_of (fun ⟨_, _, h⟩ => h) _ _ _ rfl ?_)
        go_wp2_with (first
          | ((with_reducible show wpList _ _ _ (⟨some 6, _, _, _, _, _⟩ :: _) _ _); refine wpList_allocZ (o := ⟨some 6, _, _, _, _, _⟩) rfl _ rfl ev_zero ?_; intro g6 w8 hg8 hB8 hb8 hs8; have Hg8 := Lib.hid (Nat.le_of_eq hg8.symm); have HB8 := Lib.hid hB8; have Hb8 := Lib.hid (bel_tr Hb7.out hb8); clear hg8 hs8 hB8 hb8)
          | ((with_reducible show wpList _ _ _ (⟨none, .store _ (.tmp 6) _, _, _, _, _⟩ :: _) _ _); refine wpList_storeB (o := ⟨none, _, _, _, _, _⟩) rfl _ (.tmp 6) _ rfl rfl rfl HB8.out (ev_size' x) ((evA_size ev0).trans (evA_size x).symm) (evL_one _) ?_; intro w9 hB9 hS9; have HB9 := Lib.hid hB9; have Hb9 := Lib.hid (Hb8.out.trans (hS9.below (Nat.le_trans Hb7.out.size Hg8.out))); clear hB9 hS9; have H9 := Lib.hid (HI.out.bel Hb9.out)))
        obtain ⟨v, l, bx9, ho9, hi9⟩ := H9.out.l
        obtain ⟨A, cp, rfl⟩ := own_any ho9
        have hll := hi9.len
        have c9 := bx9.cell
        have HI9 := Lib.hid hi9
        have Bx9 := Lib.hid bx9
        have hV9 := Hb9.out.size
        clear bx9 hi9
        gi_wp2_with (((with_reducible show wpListIn _ _ _ _ _ (⟨some 25, _, _, _, _, _⟩ :: _) _ _); refine wpListIn_of (fun ⟨_, _, h⟩ => h) _ _ _ rfl ?_))
        go_wp2_with (first
          | ((with_reducible show wpList _ _ _ (⟨some 26, _, _, _, _, _⟩ :: _) _ _); refine wpList_loadB (o := ⟨some 26, _, _, _, _, _⟩) rfl _ _ rfl rfl HB9.out ev_under rfl (ev_size' x) ?_)
          | ((with_reducible show wpList _ _ _ (⟨some 27, _, _, _, _, _⟩ :: _) _ _); refine wpList_lit (o := ⟨some 27, _, _, _, _, _⟩) rfl _ _ rfl elt_ev [.agg (evA x)] rfl (by decide) (by decide) (fun v hv => by rw [List.mem_singleton.1 hv]; exact evA_size _) rfl ?_; intro w10 hB10 hx10 hb10 hs10; clear hx10 hs10; have hB10 := bk_list (l := evL x) hB10 rfl)
          | (at_builtin; refine wpList_app rfl (.tmp 25) (.tmp 27) _ rfl elt_ev rfl (own_below ho9 hb10) rfl (hB10.sl (size := 22) (n := 1) (evL_len _) 1 (Nat.le_refl _)) (evL_ones _) (Nat.le_trans hVs (Nat.le_trans hV9 hb10.size)) (by omega) (by omega) ?_; intro v11 w11 ho11 hb11 hg11; obtain ⟨A11, q11, rfl⟩ := own_any ho11
             have B11 : Bk w11 (g + 2) 40 #[.slice A l.length cp] := (Bk.bel Bx9.out hb10).grown hg11 (own_neBk (own_below ho9 hb10) (Bk.bel Bx9.out hb10) (by decide))
             have c11 : w11.cell? ⟨g + 2, 0, none⟩ = some (.slice A l.length cp) := B11.cell 0
             have f11 := B11.free 0
             have HB11 := Lib.hid B11
             clear B11 c9))
        have o10 := own_below ho9 hb10
        have hS := Stays.cell w11 (g + 2) 0 (.slice A11 (l.length + 1) q11)
        have hr11 : Boxed w11 g 40 (.slice none 0 0) := (Bk.bel (show Bk w9 g _ _ from H9.out.r) hb10).grown hg11 (own_neBk o10 (Bk.bel (show Bk w9 g _ _ from H9.out.r) hb10) (by decide))
        have he11 : Boxed w11 (g + 1) 37 (.int .i64 0) := (Bk.bel (show Bk w9 (g + 1) _ _ from H9.out.e) hb10).grown hg11 (own_neBk o10 (Bk.bel (show Bk w9 (g + 1) _ _ from H9.out.e) hb10) (by decide))
        have hb011 : Below w.heap.size w w11 := (H9.out.b.trans (hb10.mono (Nat.le_trans hVs hV9))).trans hb11
        refine ⟨(((keeps_below Hb9.out).trans (keeps_below hb10)).trans (keeps_row o10 hg11)).trans (keeps_cells hS.grown HB11.out), (((KpS.below Hb9.out).trans (KpS.below hb10)).trans (KpS.harm hg11 (Harm.own (Nat.le_refl _) o10 (by decide)))).trans (KpS.harm hS.grown (Harm.type (Nat.le_refl _) HB11.out (by decide))), ⟨⟨_, l ++ [x], HB11.out.set_ 0 _, ?_, HN.out _ HI9.out⟩, (hS.block _ (by omega)).trans hr11, (hS.block _ (by omega)).trans he11, hb011.trans (hS.below (by omega))⟩⟩
        have o11 := row_kept ho11 hS.grown (Harm.type (by omega : w.heap.size ≤ g + 2) HB11.out (by decide))
        rw [List.length_append, List.flatMap_append]
        simpa using o11
  case done =>
    rintro D V hD hI hK
    obtain ⟨v, l, hbx, hown, hi⟩ := hI.l
    have HR : Hid (readL (linL s) = .inr l) := Lib.hid (hi.done_ (Nat.le_refl _))
    obtain ⟨A, cp, rfl⟩ := own_any hown
    have hc4 := hbx.cell
    have hc2 := hI.r.cell
    have hc3 := hI.e.cell
    have f2 := hI.r.frozen
    have f3 := hI.e.frozen
    have HI := Lib.hid hI
    have HK := Lib.hid hK
    have Hown := Lib.hid hown
    clear hI hK hown hbx hi
    gi_wp2
    have hS1 := Stays.cell V g 0 (.slice A l.length cp)
    have hS2 := Stays.cell (V.setCell ⟨g, 0, none⟩ (.slice A l.length cp)) (g + 1) 0 (.int .i64 0)
    have r1 := HI.out.r.set (.slice A l.length cp)
    have e1 : Boxed (V.setCell ⟨g, 0, none⟩ (.slice A l.length cp)) (g + 1) 37 (.int .i64 0) := (hS1.block _ (by omega)).trans HI.out.e
    have e2 := e1.set (.int .i64 0)
    have r2 : Boxed ((V.setCell ⟨g, 0, none⟩ (.slice A l.length cp)).setCell ⟨g + 1, 0, none⟩ (.int .i64 0)) g 40 (.slice A l.length cp) := (hS2.block _ (by omega)).trans r1
    have hK2 : ((V.setCell ⟨g, 0, none⟩ (.slice A l.length cp)).setCell ⟨g + 1, 0, none⟩ (.int .i64 0)).heap[D]? = some (.deferred (some [])) := (hS2.block D (by intro e; omega)).trans ((hS1.block D (by intro e; omega)).trans HK.out)
    have o2 := row_kept (row_kept Hown.out hS1.grown (Harm.type hgl HI.out.r (by decide))) hS2.grown (Harm.type (by omega : w.heap.size ≤ g + 1) e1 (by decide))
    have hb2 := (HI.out.b.trans (hS1.below hgl)).trans (hS2.below (by omega))
    generalize (V.setCell ⟨g, 0, none⟩ (.slice A l.length cp)).setCell ⟨g + 1, 0, none⟩ (.int .i64 0) = V2 at *
    refine ⟨by simp, .inl ⟨_, _, rfl, run_takeDeferred hK2, ?_⟩⟩
    have hg := grownBy_putObj' V2 D (.deferred none)
    have hh : ∀ T, Harm T w.heap.size V2 (some D) := fun T => Harm.loop (B := w.heap.size) (Nat.le_refl _) (fun r e => by cases e; exact ⟨by omega, _, hK2, rfl⟩)
    have r3 : Boxed (V2.putObj D (.deferred none)) g 40 (.slice A l.length cp) := (hg.block g r2.lt (by intro e; cases e; omega)).trans r2
    have e3 : Boxed (V2.putObj D (.deferred none)) (g + 1) 37 (.int .i64 0) := (hg.block (g + 1) e2.lt (by intro e; cases e; omega)).trans e2
    refine ⟨_, results_box2 rfl _ rfl rfl r3.cell e3.cell Tryd.underlying40 rfl Tryd.underlying37 rfl, ?_⟩
    exact RdsPost.good HR.out rfl (row_kept o2 hg (hh _)) (Below.kept hb2 hb2.size hg (hh []))
  case stop =>
    rintro D c V hD hx hK
    obtain ⟨rfl, r2, ⟨e0, e2, hR⟩, hb⟩ := hx
    have HR := Lib.hid hR
    have Hb := Lib.hid hb
    clear hR hb
    gi_wp2
    refine ⟨by simp, .inl ⟨_, _, rfl, run_takeDeferred hK, ?_⟩⟩
    have hg := grownBy_putObj' V D (.deferred none)
    have hh : ∀ T, Harm T w.heap.size V (some D) := fun T => Harm.loop (B := w.heap.size) (Nat.le_refl _) (fun r e => by cases e; exact ⟨by omega, _, hK, rfl⟩)
    have r3 : Boxed (V.putObj D (.deferred none)) g 40 (.slice none 0 0) := (hg.block g r2.lt (by intro e; cases e; omega)).trans r2
    have e3 : Boxed (V.putObj D (.deferred none)) (g + 1) 37 (.int .i64 e0) := (hg.block (g + 1) e2.lt (by intro e; cases e; omega)).trans e2
    refine ⟨_, results_box2 rfl _ rfl rfl r3.cell e3.cell Tryd.underlying40 rfl Tryd.underlying37 rfl, ?_⟩
    exact RdsPost.bad HR.out rfl (Below.kept Hb.out Hb.out.size hg (hh []))
end Go.Proofs.YtgebcifkbldfoaaDoor
