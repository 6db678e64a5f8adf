/- Contracts and plain lemmas of our own, merged. -/
import Derived.Test.YtgebcifkbldfoaaGreatDoorZSB3
import Derived.Test.YtgebcifkbldfoaaGreatDoorZSB6
import Derived.Handed
import Derived.Shelf.Vars
/- The wrap of a law over tables that are laid, with the world's shape; addresses among a law's arguments. -/
namespace Go.Proofs.YtgebcifkbldfoaaGreatDoor
open Go.ChangeShapes Go.WideShapes Go.ChangeAt Go.RowKit

theorem handed_and_shaped {H : Type} {enc : TypeId × Value → H} {a : Assume} {C : Checked} {os : Os} {f : FuncId} {fn : Func} {s : ChangeSpec} {conds : List PathCond} {apart fresh handsOn again : Bool} {X : World → Array Value → Prop}
    (hX : ∀ (w w' : World) (args : Array Value), w.heap = w'.heap → X w args → X w' args)
    (own : ownKnob C.prog.godebug = none) (started : os.Started) (noInit : C.prog.inits.idxOf? f = none) (hfn : C.prog.funcs[f]? = some fn)
    (witness : ∃ (w : World) (tape : Tape) (i : Input), w.os = os ∧ (w.forCall tape i).Shaped C.prog ∧ i.vars = [] ∧ Input.okWide C.prog (w.forCall tape i) .any w.heap.size f i ∧
      ((s.pre enc C.prog fn conds apart (w.forCall tape i).memory i.args ∧ X (w.forCall tape i).memory i.args) ∧ sizedMet enc C.prog fn (OpenSpec.ofChange s) apart (w.forCall tape i).memory i.args) ∧ a.holds C.prog (lone (Frame.enter C.prog f i.args .normal) [] (w.forCall tape i)))
    (contract : ∀ (W : World) (base : Nat) (args : Array Value) (ds gs : List (DataW H)) (before : List MemPlace),
      (∀ (j : Nat) t v, fn.params[j]? = some t → args[j]? = some v → Value.okWide C.prog W .any base t v) →
      DataW.Whole enc C.prog fn.params.toList s.vars apart W args.toList ds gs before →
      conds.all (PathCond.test C.prog ⟨fn.params.toList, ds, s.plain.varTypes C.prog, gs⟩) = true →
      (DataW.weightsEach C.prog (fn.params.toList ++ s.plain.varTypes C.prog) (ds ++ gs)).all (· ≤ reachBytes) = true → X W args → W.ShapedOpen C.prog →
      Calls C.prog f args W fun e W' => ∃ v, e = .returned v ∧ s.post enc C.prog fn apart fresh handsOn again W args v W') :
    ReturnsInHanded a C os f .any (fun w args => (s.pre enc C.prog fn conds apart w args ∧ X w args) ∧ sizedMet enc C.prog fn (OpenSpec.ofChange s) apart w args) (s.post enc C.prog fn apart fresh handsOn again) := by
  refine returnsInHanded_of_calls own started noInit witness ?_
  intro w tape i _ hsh _ hok hpre _
  obtain ⟨_, _, _, fn', hfn', _, _, _, _, hval⟩ := hok
  have e : fn' = fn := Option.some.inj (hfn'.symm.trans hfn)
  subst e
  obtain ⟨⟨⟨ds, gs, before, hw, hc⟩, hx⟩, hz⟩ := hpre
  have hw' := DataW.Whole.of_heap (w' := w.forCall tape i) (by rfl) hw
  refine (contract (w.forCall tape i) w.heap.size i.args ds gs before hval hw' hc (hz.weights hw) (hX _ _ _ (by rfl) hx) hsh).mono fun e W' ⟨v, he, hp⟩ => ?_
  subst he
  exact ChangeSpec.post_blind hp

def cellsD1 (d : DataW Unit) : List Value := match d with
  | .lit (.int k z) => [.int k z]
  | .agg ps => ps.filterMap fun d => match d with | .lit (.int k z) => some (Value.int k z) | _ => none
  | _ => []
def cellsD : DataW Unit → Array Value
  | .agg ps => (ps.flatMap cellsD1).toArray
  | _ => #[]
def put (d : DataW Unit) : Obj → Obj
  | .cells _ t frozen => .cells (cellsD d) t frozen
  | o => o

theorem u8_cells : ∀ (l : List Value), (∀ i, i < l.length → ∃ n, l[i]? = some (.int .u8 n) ∧ (Lit.int .u8 n).wf = true) → ∃ b : List UInt8, l = b.map byv
  | [], _ => ⟨[], rfl⟩
  | v :: l, h => by
    obtain ⟨b, hb⟩ := u8_cells l (fun i hi => by
      obtain ⟨n, h1, h2⟩ := h (i + 1) (by simp; omega)
      exact ⟨n, by simpa using h1, h2⟩)
    obtain ⟨n, h1, h2⟩ := h 0 (by simp)
    have hn : 0 ≤ n ∧ n ≤ 255 := by
      simp [Lit.wf, IntKind.min, IntKind.max, IntKind.signed, IntKind.bits] at h2
      omega
    refine ⟨UInt8.ofNat n.toNat :: b, ?_⟩
    rw [List.map_cons, ← hb]
    congr 1
    have : v = .int .u8 n := by simpa using h1
    rw [this]
    exact byv_mk (n := n.toNat) (by omega) (by omega)
section
variable {H : Type} {enc : TypeId × Value → H} {w : World} {base b0 : Nat} {spare : Nat → Bool} {held : Bool} {r : Reach}
theorem wf64 {n : Int} (h : (Lit.int .i64 n).wf = true) : -9223372036854775808 ≤ n ∧ n ≤ 9223372036854775807 := by
  simp [Lit.wf, IntKind.min, IntKind.max, IntKind.signed, IntKind.bits] at h
  omega
theorem some_of_len {α : Type} {l : List α} {i : Nat} (h : i < l.length) : ∃ y, l[i]? = some y := ⟨l[i], List.getElem?_eq_getElem h⟩
theorem ad_cells18 : Tryz.prog.cellsOf 31 = 18 := by kernel_rfl
theorem ad_cells16 : Tryz.prog.cellsOf 29 = 16 := by kernel_rfl
theorem ad_cells1 : Tryz.prog.cellsOf 3 = 1 := by kernel_rfl
theorem ad_cellsb : Tryz.prog.cellsOf 5 = 1 := by kernel_rfl
theorem field_of {fs : Array Field} {i : Nat} {t : TypeId} {o : Nat} (h : fs[i]?.map (fun f => (f.type, f.offset)) = some (t, o)) : ∃ f, fs[i]? = some f ∧ f.type = t ∧ f.offset = o := by
  rw [Option.map_eq_some_iff] at h
  obtain ⟨f, h1, h2⟩ := h
  injection h2 with h2 h3
  exact ⟨f, h1, h2, h3⟩
/-- the cells of an address. -/
theorem open_adL {fuel : Nat} {cs : List Value} {x : DataW H × List MemPlace} (h : DataW.trod enc Tryz.prog w base spare held fuel 31 cs = some x) : ∃ a : Ad, cs = adL a := by
  obtain ⟨xs, n, rfl, _, hlen, hxl, hf⟩ := DataW.trod_struct ad_under h
  rw [ad_cells18] at hlen
  have hsz : (Tryz.prog.fieldsOf 31).size = 3 := by kernel_rfl
  rw [hsz] at hxl
  obtain ⟨f0, g0, t0, o0⟩ := field_of (fs := Tryz.prog.fieldsOf 31) (i := 0) (t := 3) (o := 0) (by kernel_rfl)
  obtain ⟨f1, g1, t1, o1⟩ := field_of (fs := Tryz.prog.fieldsOf 31) (i := 1) (t := 29) (o := 1) (by kernel_rfl)
  obtain ⟨f2, g2, t2, o2⟩ := field_of (fs := Tryz.prog.fieldsOf 31) (i := 2) (t := 3) (o := 17) (by kernel_rfl)
  have e0 := hf 0 f0 g0
  have e1 := hf 1 f1 g1
  have e2 := hf 2 f2 g2
  rw [t0, o0, ad_cells1] at e0
  rw [t1, o1, ad_cells16] at e1
  rw [t2, o2, ad_cells1] at e2
  obtain ⟨y0, hy0⟩ := some_of_len (l := xs) (i := 0) (by omega)
  obtain ⟨y1, hy1⟩ := some_of_len (l := xs) (i := 1) (by omega)
  obtain ⟨y2, hy2⟩ := some_of_len (l := xs) (i := 2) (by omega)
  obtain ⟨fam, c0, _, w0⟩ := DataW.trod_int Tryz.underlying3 (e0.trans hy0)
  obtain ⟨zone, c2, _, w2⟩ := DataW.trod_int Tryz.underlying3 (e2.trans hy2)
  obtain ⟨zs, m, rfl, _, hlen1, hzl, hfz⟩ := DataW.trod_array Tryz.underlying29 (e1.trans hy1)
  rw [ad_cells16] at hlen1
  obtain ⟨ip, hip⟩ := u8_cells ((cs.drop 1).take 16) (fun i hi => by
    rw [hlen1] at hi
    have h1 := hfz i hi
    rw [ad_cellsb, Nat.mul_one] at h1
    obtain ⟨y, hy⟩ := some_of_len (l := zs) (i := i) (by omega)
    obtain ⟨z, hc, _, wz⟩ := DataW.trod_int Tryz.underlying5 (h1.trans hy)
    refine ⟨z, ?_, wz⟩
    have := congrArg (fun l => l[0]?) hc
    simpa [List.getElem?_take, List.getElem?_drop] using this)
  have hl16 : ip.length = 16 := by
    have := congrArg List.length hip
    rw [hlen1, List.length_map] at this
    exact this.symm
  refine ⟨⟨fam, ip, zone, hl16, wf64 w0, wf64 w2⟩, ?_⟩
  unfold adL
  simp only
  rw [← hip]
  have s1 : cs = cs.take 1 ++ ((cs.drop 1).take 16 ++ cs.drop 17) := by
    have a1 := List.take_append_drop 1 cs
    have a2 := List.take_append_drop 16 (cs.drop 1)
    rw [List.drop_drop] at a2
    rw [a2, a1]
  have s2 : cs.drop 17 = [.int .i64 zone] := by
    rw [← c2, List.take_of_length_le (by rw [List.length_drop]; omega)]
  have s0 : cs.take 1 = [.int .i64 fam] := by simpa using c0
  rw [s2, s0] at s1
  exact s1
end
end Go.Proofs.YtgebcifkbldfoaaGreatDoor
