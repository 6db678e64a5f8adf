/- Contracts and plain lemmas of our own, merged. -/
import Derived.Test.YtgebcifkbldfoaaDoorZHP11
import Derived.Test.YtgebcifkbldfoaaDoorZHP29
import Derived.Test.YtgebcifkbldfoaaDoorZHP31
/- slices.Clone of a name; hosts.Find: plain words. -/
namespace Go.Proofs.YtgebcifkbldfoaaDoor
open Go.RowKit
attribute [local go_sem] ba_get ext_take ext_drop ext_any ba_app

theorem wpList_litN {P : Program} {ops : Array Oper} {rest : List Oper} {o : Oper} {a : Act} {w : World} {Q : Exit → Act → World → Prop} (hg : o.guard = none) (t : TypeId) (ho : o.op = .buildSlice t 0 #[])
    {e : TypeId} {size bytes : Nat} (el : Elt P t e size bytes)
    (h : ∀ w', w'.ownsRow w.heap.size e size (.slice (some ⟨w.heap.size, 0, none⟩) 0 0) 0 [] → Below w.heap.size w w' → w'.heap.size = w.heap.size + 1 → wpList P ops Q rest (a.put o.dst (.slice (some ⟨w.heap.size, 0, none⟩) 0 0)) w') : wpList P ops Q (o :: rest) a w := by
  obtain ⟨i, z, hi, hz, hz1, hz2, hz3⟩ := el.info
  refine wpList_plain hg fun _ hK => ?_
  have hr : (Instr.buildSlice t 0 #[]).run P w = .ok (.slice (some ⟨w.heap.size, 0, none⟩) 0 0) (w.alloc (.cells #[] e)) := by
    simp [Instr.buildSlice, run_underlying el.under, sizeOf, typeInfo, hi, Instr.fill, newRow]
    rw [show Array.range 0 = #[] by first | rfl | decide | simp, Array.map_empty]
  unfold Oper.wp
  simp only [execOp, ho, List.map_toArray, List.map_nil, hr, Sem.run_bind, Result.andThen_ok]
  exact hK _ _ (h _ (World.ownsRow_made w #[] 0 (Nat.le_refl _) (by decide) (by simp)) ((Below.refl _ _).alloc (Nat.le_refl _) _) (by simp))
theorem nm_nil (w : World) (A : Option Addr) (n c : Nat) : (binOp .eql 51 (.slice A n c) (.slice none 0 0)).run Tryd.prog w = .ok (.bool A.isNone) w := by
  have he : (Op.equal 51 (.slice A n c) (.slice none 0 0)).run Tryd.prog w = .ok A.isNone w := by
    unfold Op.equal
    show (Op.equalIn (9999 + 1) 51 (.slice A n c) (.slice none 0 0)).run Tryd.prog w = _
    unfold Op.equalIn
    rw [Sem.run_bind, run_underlying Tryd.underlying51]
    cases A <;> rfl
  show (do pure (Value.bool (← Op.equal 51 (.slice A n c) (.slice none 0 0))) : Sem Value).run Tryd.prog w = _
  rw [Sem.run_bind, he]
  rfl
attribute [local go_sem] nm_nil
def NamePost (w : World) (n : NmL) (e : Ending) (w' : World) : Prop := ∃ v, e = .returned v ∧ w'.ownsRow w.heap.size 9 1 v n.length (n.map stv) ∧ Below w.heap.size w w'
set_option maxRecDepth 100000 in
theorem nclone_any (v : Value) (l : NmL) (w : World) (h : Sl w 1 v l.length (l.map stv)) (hl : l.length ≤ 1000000) :
    Calls Tryd.prog 65 #[v] w (NamePost w l) := by
  obtain ⟨A, c, rfl, hc⟩ := h.any
  have H := Lib.hid h
  cases A with
  | none =>
    have hn : l.length = 0 := by
      obtain ⟨_, A, c', hv, hcl, hA, _⟩ := h
      injection hv with h1
      have := hA h1.symm
      omega
    have hnil : l = [] := List.eq_nil_of_length_eq_zero hn
    subst hnil
    clear h
    go_enter Tryd.func65, Tryd.ntmps65
    go_wp2
    go_ret
    exact ⟨_, rfl, World.ownsRow_nil _ _ _ _, Below.refl _ _⟩
  | some p =>
    clear h
    generalize hn : l.length = n at *
    go_enter Tryd.func65, Tryd.ntmps65
    go_wp2_with (first
      | ((with_reducible show wpList _ _ _ (⟨some 5, _, _, _, _, _⟩ :: _) _ _); refine wpList_litN (o := ⟨some 5, _, _, _, _, _⟩) rfl _ rfl elt_name ?_; intro w1 ho1 hb1 hs1)
      | (at_builtin; refine wpList_app rfl (.tmp 5) (.tmp 6) _ rfl elt_name rfl ho1 rfl (H.out.below hb1) (stv_one _) hb1.size (by omega) (by omega) ?_; intro v7 w7 ho7 hb7 hg7))
    go_ret
    refine ⟨_, rfl, ?_, hb1.trans hb7⟩
    rw [hn]
    simpa using ho7
/-- one host more. -/
def fdStep (n : NmL) (fam : Int) (acc : List Ad × NmL) (h : Ad × List NmL) : List Ad × NmL :=
  if ((fam != 0 && h.1.fam != fam) || !hasN h.2 n) = true then acc else (if h.1 ∈ acc.1 then acc.1 else acc.1 ++ [h.1], if acc.1 = [] then h.2.headD [] else acc.2)
/-- the addresses of a name, and the name that is its own. -/
def findP (S : List (Ad × List NmL)) (n : NmL) (fam : Int) : List Ad × NmL := S.foldl (fdStep n fam) ([], [])
theorem fold_next {H : List Ho} {k : Nat} (n : NmL) (fam : Int) (h : k < H.length) : ((H.take (k + 1)).map hoP).foldl (fdStep n fam) ([], []) = fdStep n fam (((H.take k).map hoP).foldl (fdStep n fam) ([], [])) (hoP H[k]) := by
  rw [map_hoP_next h, List.foldl_append]
  rfl
theorem fd_len {H : List Ho} (n : NmL) (fam : Int) : ∀ k, (((H.take k).map hoP).foldl (fdStep n fam) ([], [])).1.length ≤ k := by
  intro k
  induction k with
  | zero => simp
  | succ k ih =>
    by_cases h : k < H.length
    · rw [fold_next n fam h]
      generalize ((H.take k).map hoP).foldl (fdStep n fam) ([], []) = acc at *
      unfold fdStep
      split
      · omega
      · dsimp only
        split
        · omega
        · rw [List.length_append, List.length_singleton]; omega
    · rw [List.take_of_length_le (by omega)] at ih ⊢
      omega
theorem hasN_ne {S : List NmL} {n : NmL} (h : hasN S n = true) : S ≠ [] := by
  intro e
  subst e
  cases h
theorem mapAd_under : Tryd.prog.underlying 109 = some (.map 34 3) := by kernel_rfl
theorem zero_int (w : World) : (zeroValue 3).run Tryd.prog w = .ok (.int .i64 0) w := by
  have h : (Tryd.prog.info? 3).map (fun i => i.zero) = some (some (.int .i64 0)) := by kernel_rfl
  cases hi : Tryd.prog.info? 3 with
  | none => rw [hi] at h; cases h
  | some i =>
    rw [hi, Option.map_some] at h
    have h := Option.some.inj h
    simp [zeroValue, typeInfo, hi, h]
end Go.Proofs.YtgebcifkbldfoaaDoor
