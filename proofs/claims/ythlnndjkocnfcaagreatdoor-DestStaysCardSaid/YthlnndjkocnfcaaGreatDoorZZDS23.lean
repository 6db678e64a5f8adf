/- Contracts and plain lemmas of our own, merged. -/
import Derived.Test.YthlnndjkocnfcaaGreatDoorZZDS10
import Derived.Test.YthlnndjkocnfcaaGreatDoorZZDS22
import Derived.Test.YthlnndjkocnfcaaGreatDoorZZDS9
/- Laws for operations, one by one: in lists and in regions that draw their order. -/
namespace Go.Proofs.YthlnndjkocnfcaaGreatDoor
open Go.RowKit

/-- what follows one operation of a region, as a post. -/
def Qk (K : Act → World → Prop) (Q : Exit → Act → World → Prop) : Exit → Act → World → Prop
  | .normal, a, w => K a w
  | e, a, w => Q e a w
theorem wpOp_of_list {P : Program} {ops : Array Oper} {Q : Exit → Act → World → Prop} {i : Nat} {K : Act → World → Prop} {a : Act} {w : World} {o : Oper} (hi : ops[i]? = some o) (h : wpList P ops (Qk K Q) [o] a w) : wpOp P ops Q i K a w := by
  unfold wpOp
  simp only [hi]
  unfold wpList at h
  split
  · next hw =>
    rw [if_pos hw] at h
    rcases h with h | ⟨h1, h2⟩
    · refine .inl ?_
      unfold Oper.wp at h ⊢
      generalize (execOp a.eval o).run P w = r at h ⊢
      unfold Oper.upon at h ⊢
      cases r with
      | ok n w' => cases n <;> first | exact h | (refine Calls.mono h ?_; intro e w'' he; cases e <;> exact he)
      | halt x w' => cases x <;> first | exact h | exact h.elim
    · exact .inr ⟨h1, h2⟩
  · next hw =>
    rw [if_neg hw] at h
    exact h
theorem yieldsIf_fieldOne {P : Program} {ops : Array Oper} {S : World → Prop} {o : Oper} {a : Act} (hw : Region.wanted o (yielded ops a.tmps) = true) (t : TypeId) (x : Operand) (i : Nat) (ho : o.op = .field t x i) {cs : Array Value} (hx : a.eval x = .agg cs)
    {fs : Array Field} (hu : P.underlying t = some (.struct fs)) {ty : TypeId} {off : Nat} (hf : fs[i]?.map (fun f => (f.type, f.offset)) = some (ty, off)) {d : TypeDesc} (hu2 : P.underlying ty = some d) (hd : d.isRow = false) {v : Value} (he : cs[off]? = some v) : YieldsIf P ops S o v a :=
  .inl ⟨hw, fun w _ => by
    obtain ⟨f, hf1, hf2⟩ := Option.map_eq_some_iff.1 hf
    injection hf2 with hf2 hf3
    have ha : (isAgg ty).run P w = .ok false w := by cases d <;> first | (cases hd; done) | simp [isAgg, run_underlying hu2]
    have hr : (Instr.field t (.agg cs) i).run P w = .ok v w := by
      subst hf2 hf3
      simp only [Instr.field, Sem.run_bind, run_underlying hu, Result.andThen_ok, hf1, asAgg, Sem.run_pure, part, ha, if_false, Bool.false_eq_true, he]
    unfold execOp
    simp only [ho, hx, Sem.run_bind, hr, Result.andThen_ok, Sem.run_pure]⟩
theorem yieldsIf_loadC {P : Program} {ops : Array Oper} {S : World → Prop} {o : Oper} {a : Act} (hw : Region.wanted o (yielded ops a.tmps) = true) (ty : TypeId) (x : Operand) (ho : o.op = .load ty x) {g i : Nat} {v : Value} (hx : a.eval x = .pointer (some ⟨g, i, none⟩))
    (hc : ∀ w', S w' → w'.cell? ⟨g, i, none⟩ = some v) {d : TypeDesc} (hu : P.underlying ty = some d) (hd : d.isRow = false) : YieldsIf P ops S o v a := by
  refine Or.inl ⟨hw, fun w' hS => ?_⟩
  have hc' := hc w' hS
  have ha : (isAgg ty).run P w' = .ok false w' := by cases d <;> first | (cases hd; done) | simp [isAgg, run_underlying hu]
  have hr : (loadVar ty ⟨g, i, none⟩).run P w' = .ok v w' := by
    simp only [loadVar, Sem.run_bind, ha, Result.andThen_ok, Bool.false_eq_true, if_false]
    simp [load, Sem.run, hc']
  unfold execOp
  simp only [ho, hx, Instr.loadAt, Instr.sureAddr, Sem.run_bind, Sem.run_pure, Result.andThen_ok, hr]
theorem yieldsIf_loadAd {ops : Array Oper} {S : World → Prop} {o : Oper} {a : Act} (hw : Region.wanted o (yielded ops a.tmps) = true) (x : Operand) (ho : o.op = .load 29 x) {g off : Nat} (hx : a.eval x = .pointer (some ⟨g, off, none⟩)) {b : Ad}
    (h : ∀ w', S w' → w'.rangeAt g off (adL b)) : YieldsIf Tryz.prog ops S o (.agg (adA b)) a := yieldsIf_load_mid hw _ _ ho _ _ hx (adL b) _ h ad_under rfl (by rw [adL_len]; exact ad_size)
theorem wpOp_callM {P : Program} {ops : Array Oper} {Q : Exit → Act → World → Prop} {i : Nat} {o : Oper} {K : Act → World → Prop} {a : Act} {w : World} {f : FuncId} {args : Array Value} {Post : Ending → World → Prop} (hi : ops[i]? = some o)
    (hw : Region.wanted o (yielded ops a.tmps) = true) (hrun : (execOp a.eval o).run P w = .ok (.enter f args) w) (hc : Calls P f args w Post)
    (h : ∀ e w', Post e w' → ∃ v, e = .returned v ∧ K (a.put o.dst v) w') : wpOp P ops Q i K a w := by
  unfold wpOp
  simp only [hi]
  rw [if_pos hw]
  refine .inl ?_
  unfold Oper.wp
  rw [hrun, Oper.upon_enter]
  refine hc.mono fun e w'' hh => ?_
  obtain ⟨v, rfl, hk⟩ := h e w'' hh
  exact hk
end Go.Proofs.YthlnndjkocnfcaaGreatDoor

/- Regions that draw their order and make variables: the quiet head once, the makings wherever they come, then a tail in one forced order. -/
namespace Go.Proofs.YthlnndjkocnfcaaGreatDoor
open Go Go.RowKit

section
variable {P : Program} {ops : Array Oper} {md : Region.Mode} {C : World → Prop}
/-- the head of a region, in whatever order, each operation at its own value; then L. -/
def wpLV (P : Program) (md : Region.Mode) (ops : Array Oper) (C : World → Prop) (V : Nat → Value) (n : Nat) (L : Array Bool → Act → Prop) : Nat → Array Bool → Act → Prop
  | 0, listed, a => L listed a
  | f + 1, listed, a =>
    Region.ready md ops listed ≠ [] ∧ ∀ i ∈ Region.ready md ops listed, i < n ∧ ∃ oi, ops[i]? = some oi ∧ YieldsIn P ops C oi (V i) a ∧ wpLV P md ops C V n L f (listed.setIfInBounds i true) (a.put oi.dst (V i))
theorem wpLV_first {V : Nat → Value} {n i : Nat} {oi : Oper} {L : Array Bool → Act → Prop} (hi : ops[i]? = some oi) (hsel : ∀ (j : Nat) (o : Oper) cs b, ops[j]? = some o → o.op ≠ .select cs b)
    (hs : Region.sinkB md ops n = true) (hc : Region.chainB md ops n = true) (hn : n < ops.size) (hin : i < n)
    (hdone : ∀ listed a, L listed a → ∀ j ∈ Region.ready md ops listed, n ≤ j) :
    ∀ (f : Nat) (listed : Array Bool) (a : Act), HeadInv md ops n listed →
      (∀ j oj, ops[j]? = some oj → j ≠ i → listed.getD j true = false → (∀ e ∈ oj.after, Region.binds md e = true → e.on ≠ i) → oi.apart ops oj = true) →
      i ∈ Region.ready md ops listed → YieldsIn P ops C oi (V i) a →
      wpLV P md ops C V n L f (listed.setIfInBounds i true) (a.put oi.dst (V i)) → wpLV P md ops C V n L (f + 1) listed a := by
  intro f
  induction f with
  | zero =>
    intro listed a inv _ hr hy H
    have hun := (mem_ready.1 hr).1
    refine ⟨fun h => (by rw [h] at hr; cases hr), fun j hj => ?_⟩
    have hjn : j < n := by
      rcases Nat.lt_or_ge j n with h | h
      · exact h
      · exact absurd hj (tail_waits hs hc hn inv _ i rfl hin hun j h)
    refine ⟨hjn, ?_⟩
    by_cases hji : j = i
    · subst hji; exact ⟨oi, hi, hy, H⟩
    · have := hdone _ _ H j (ready_mono hj hji)
      omega
  | succ f ih =>
    intro listed a inv hfree hr hy H
    have hun := (mem_ready.1 hr).1
    refine ⟨fun h => (by rw [h] at hr; cases hr), fun j hj => ?_⟩
    have hjn : j < n := by
      rcases Nat.lt_or_ge j n with h | h
      · exact h
      · exact absurd hj (tail_waits hs hc hn inv _ i rfl hin hun j h)
    refine ⟨hjn, ?_⟩
    by_cases hji : j = i
    · subst hji; exact ⟨oi, hi, hy, H⟩
    · obtain ⟨_, oj', hoj', hyj, hrest⟩ := H.2 j (ready_mono hj hji)
      obtain ⟨hjun, oj, hoj, hall⟩ := mem_ready.1 hj
      obtain rfl : oj = oj' := Option.some.inj (hoj.symm.trans hoj')
      have hnot : ∀ e ∈ oj.after, Region.binds md e = true → e.on ≠ i := fun e he hb heq => by
        have h1 := hall e he hb
        rw [heq, getD_both hun] at h1
        cases h1
      obtain ⟨h1, h2, h3⟩ := Oper.apart_spec (hfree j oj hoj hji hjun hnot)
      have hyj2 : YieldsIn P ops C oj (V j) a := hyj.of_same (execOp_put oj (fun cs b => hsel j oj cs b hoj) a oi.dst (V i) h1).symm (wanted_put oj a oi.dst (V i) h1).symm
      have hyi2 : YieldsIn P ops C oi (V i) (a.put oj.dst (V j)) := hy.of_same (execOp_put oi (fun cs b => hsel i oi cs b hi) a oj.dst (V j) h3) (wanted_put oi a oj.dst (V j) h3)
      have hfree' : ∀ k ok, ops[k]? = some ok → k ≠ i → (listed.setIfInBounds j true).getD k true = false →
          (∀ e ∈ ok.after, Region.binds md e = true → e.on ≠ i) → oi.apart ops ok = true := fun k ok hk hki hun hno => by
        refine hfree k ok hk hki ?_ hno
        by_cases hjk : j = k
        · subst hjk; exact hjun
        · rw [getD_set_ne true hjk] at hun; exact hun
      refine ⟨oj, hoj, hyj2, ih (listed.setIfInBounds j true) (a.put oj.dst (V j)) (inv.set hj hjn) hfree' (ready_mono hr (Ne.symm hji)) hyi2 ?_⟩
      rw [Array.setIfInBounds_comm _ _ hji, ← Act.put_comm a (V i) (V j) h2]
      exact hrest
/-- one operation behind the other, at these values. -/
def seqV (P : Program) (ops : Array Oper) (C : World → Prop) (V : Nat → Value) : Nat → List Oper → Act → Prop
  | _, [], _ => True
  | k, o :: rest, a => YieldsIn P ops C o (V k) a ∧ seqV P ops C V (k + 1) rest (a.put o.dst (V k))
def finV (V : Nat → Value) : Nat → List Oper → Act → Act
  | _, [], a => a
  | k, o :: rest, a => finV V (k + 1) rest (a.put o.dst (V k))
theorem wpLV_lex {V : Nat → Value} {n g : Nat} {B : Act} (hsel : Region.noSelect ops = true) (hs : Region.sinkB md ops n = true) (hc : Region.chainB md ops n = true) (hn : n < ops.size) :
    ∀ (l : List Oper) (k : Nat) (listed : Array Bool) (a : Act), (∀ j, j < l.length → l[j]? = ops[k + j]?) → k + l.length = n → HeadInv md ops n listed →
    Region.lexHead md ops g l.length k listed = true → seqV P ops C V k l a → finV V k l a = B → (∀ j, j < k → listed.getD j false = true) →
    wpLV P md ops C V n (fun listed' a' => Region.seqB md ops g n listed' = true ∧ a' = B ∧ ∀ j, j < n → listed'.getD j false = true) l.length listed a
  | [], k, listed, a, _, hk, _, hB, _, hf, hL => by
    have : k = n := by simpa using hk
    subst this
    exact ⟨by simpa [Region.lexHead] using hB, hf, hL⟩
  | o :: l, k, listed, a, hl, hk, inv, hB, h, hf, hL => by
    have h0 : ops[k]? = some o := by simpa using (hl 0 (by simp)).symm
    simp only [List.length_cons, Region.lexHead, Bool.and_eq_true] at hB
    obtain ⟨⟨hr, hfr⟩, hB'⟩ := hB
    have hkn : k < n := by simp only [List.length_cons] at hk; omega
    have hr' : k ∈ Region.ready md ops listed := by simpa using hr
    exact wpLV_first h0 (Region.noSelect_spec hsel) hs hc hn hkn (fun listed' a' hL => seqB_ready hL.1) l.length listed a inv (Region.free_spec h0 hfr) hr' h.1
      (wpLV_lex hsel hs hc hn l (k + 1) _ _ (fun j hj => by have := hl (j + 1) (by simp; omega); simpa [Nat.add_assoc, Nat.add_comm 1 j] using this) (by simp only [List.length_cons] at hk; omega) (inv.set hr' hkn) hB' h.2 hf (fun j hj => by
        by_cases hjk : k = j
        · subst hjk
          have hks : k < listed.size := by rw [inv.size]; omega
          simp [hks]
        · rw [getD_set_ne false hjk]; exact hL j (by omega)))
/-- what no later operation writes stays. -/
theorem quiet_keeps {A : Act} (d : Tmp) : ∀ (l : List Oper) (a : Act), (∀ o ∈ l, o.dst ≠ some d) → wpQuiet P ops C (fun a' => a' = A) l a → A.tmps[d]? = a.tmps[d]?
  | [], a, _, h => by rw [← (show a = A from h)]
  | o :: l, a, hd, h => by
    have ho : ∀ v, (a.put o.dst v).tmps[d]? = a.tmps[d]? := fun v => by
      cases h1 : o.dst with
      | none => rfl
      | some e =>
        have hne : e ≠ d := fun k => hd o (by simp) (by rw [h1, k])
        simp [Act.put, Array.getElem?_setIfInBounds_ne hne]
    unfold wpQuiet at h
    split at h
    · obtain ⟨v, _, h2⟩ := h
      rw [quiet_keeps d l _ (fun o' ho' => hd o' (by simp [ho'])) h2, ho]
    · rw [quiet_keeps d l _ (fun o' ho' => hd o' (by simp [ho'])) h, ho]
/-- each operation's value is what stands in the frame at the end. -/
def valA (A : Act) (o : Oper) : Value := match o.dst with
  | some d => A.tmps.getD d undef
  | none => undef
def dstsB : List Oper → Nat → Bool
  | [], _ => true
  | o :: l, sz => (match o.dst with | some d => decide (d < sz) && l.all (fun o' => o'.dst != some d) | none => false) && dstsB l sz
theorem quiet_vals {A : Act} {V : Nat → Value} : ∀ (l : List Oper) (k : Nat) (a : Act), (∀ j (hj : j < l.length), V (k + j) = valA A l[j]) → dstsB l a.tmps.size = true → wpQuiet P ops C (fun a' => a' = A) l a →
    seqV P ops C V k l a ∧ finV V k l a = A
  | [], _, _, _, _, h => ⟨trivial, h⟩
  | o :: l, k, a, hV, hd, h => by
    have hV0 := hV 0 (by simp)
    rw [Nat.add_zero, List.getElem_cons_zero] at hV0
    unfold dstsB at hd
    rw [Bool.and_eq_true] at hd
    obtain ⟨hd1, hd2⟩ := hd
    cases hdst : o.dst with
    | none => rw [hdst] at hd1; cases hd1
    | some d =>
      rw [hdst] at hd1
      rw [Bool.and_eq_true, decide_eq_true_eq, List.all_eq_true] at hd1
      obtain ⟨hlt, hno⟩ := hd1
      have hno' : ∀ o' ∈ l, o'.dst ≠ some d := fun o' ho' => by have := hno o' ho'; simpa using this
      have hval : ∀ v, A.tmps[d]? = (a.put o.dst v).tmps[d]? → V k = v := fun v hv => by
        rw [hV0]
        unfold valA
        rw [hdst]
        rw [hdst] at hv
        simp only [Array.getD_eq_getD_getElem?]
        rw [hv]
        simp [Act.put, hlt]
      have hsz : ∀ v, (a.put o.dst v).tmps.size = a.tmps.size := fun v => by rw [hdst]; simp [Act.put]
      unfold wpQuiet at h
      split at h
      · next hw =>
        obtain ⟨v, h1, h2⟩ := h
        have hv := hval v (quiet_keeps d l _ hno' h2)
        have hr := quiet_vals (V := V) l (k + 1) (a.put o.dst v) (fun j hj => by have := hV (j + 1) (by simp; omega); rw [show k + 1 + j = k + (j + 1) by omega, this]; rfl) (by rw [hsz]; exact hd2) h2
        rw [← hv] at h1 hr
        exact ⟨⟨.inl ⟨hw, h1⟩, hr.1⟩, hr.2⟩
      · next hw =>
        have hv := hval undef (quiet_keeps d l _ hno' h)
        have hr := quiet_vals (V := V) l (k + 1) (a.put o.dst undef) (fun j hj => by have := hV (j + 1) (by simp; omega); rw [show k + 1 + j = k + (j + 1) by omega, this]; rfl) (by rw [hsz]; exact hd2) h
        rw [← hv] at hr
        exact ⟨⟨.inr ⟨by simpa using hw, hv⟩, hr.1⟩, hr.2⟩
end

/-! ### the makings stand in as constants -/
def standF (n m : Nat) (G : Nat → Nat) (i : Nat) (o : Oper) : Oper := if n ≤ i ∧ i < n + m then { o with op := .move (.const (.pointer (some ⟨G i, 0, none⟩))) } else o
def standL (l : List Oper) (n m : Nat) (G : Nat → Nat) : List Oper := l.mapIdx (standF n m G)
theorem standF_after (n m : Nat) (G : Nat → Nat) (i : Nat) (o : Oper) : (standF n m G i o).after = o.after := by unfold standF; split <;> rfl
theorem standF_dst (n m : Nat) (G : Nat → Nat) (i : Nat) (o : Oper) : (standF n m G i o).dst = o.dst := by unfold standF; split <;> rfl
theorem stand_get (l : List Oper) (n m : Nat) (G : Nat → Nat) (i : Nat) : (standL l n m G).toArray[i]? = (l.toArray[i]?).map (standF n m G i) := by
  unfold standL
  simp [List.getElem?_mapIdx]
theorem stand_size (l : List Oper) (n m : Nat) (G : Nat → Nat) : (standL l n m G).toArray.size = l.toArray.size := by simp [standL]
theorem stand_ready (md : Region.Mode) (l : List Oper) (n m : Nat) (G : Nat → Nat) (listed : Array Bool) : Region.ready md (standL l n m G).toArray listed = Region.ready md l.toArray listed := by
  unfold Region.ready
  rw [stand_size]
  congr 1
  funext i
  rw [stand_get]
  cases l.toArray[i]? with
  | none => rfl
  | some o => simp only [Option.map_some, standF_after]
theorem stand_seqB (md : Region.Mode) (l : List Oper) (n m : Nat) (G : Nat → Nat) : ∀ (g k : Nat) (listed : Array Bool), Region.seqB md (standL l n m G).toArray g k listed = Region.seqB md l.toArray g k listed
  | 0, k, listed => by unfold Region.seqB; rw [stand_ready]
  | g + 1, k, listed => by unfold Region.seqB; rw [stand_ready, stand_seqB md l n m G g]
theorem stand_yielded (l : List Oper) (n m : Nat) (G : Nat → Nat) : yielded (standL l n m G).toArray = yielded l.toArray := by
  funext tmps j
  unfold yielded
  rw [stand_get]
  cases l.toArray[j]? with
  | none => rfl
  | some o => simp only [Option.map_some, Option.bind_some, standF_dst]
theorem stand_yieldsIn {P : Program} {C : World → Prop} (l : List Oper) (n m : Nat) (G : Nat → Nat) (o : Oper) (v : Value) (a : Act) : YieldsIn P (standL l n m G).toArray C o v a ↔ YieldsIn P l.toArray C o v a := by
  unfold YieldsIn
  rw [stand_yielded]

/-- the value of each operation, the makings' given. -/
def newV (l : List Oper) (A : Act) (n m : Nat) (G : Nat → Nat) (i : Nat) : Value := if n ≤ i ∧ i < n + m then .pointer (some ⟨G i, 0, none⟩) else match l[i]? with
  | some o => valA A o
  | none => undef
structure MadeB (w w' : World) (mk : Nat → TypeId × Array Value) (G : Nat → Nat) (D : Nat → Prop) : Prop where
  b : ∀ i, D i → w.heap.size ≤ G i ∧ Bk w' (G i) (mk i).1 (mk i).2
  ne : ∀ i j, D i → D j → i ≠ j → G i ≠ G j
theorem MadeB.bel {w w' w'' : World} {mk : Nat → TypeId × Array Value} {G : Nat → Nat} {D : Nat → Prop} (h : MadeB w w' mk G D) (k : Below w'.heap.size w' w'') : MadeB w w'' mk G D :=
  ⟨fun i hi => ⟨(h.b i hi).1, (h.b i hi).2.bel k⟩, h.ne⟩
theorem yields_wpOp {P : Program} {ops : Array Oper} {C : World → Prop} {Q : Exit → Act → World → Prop} {i : Nat} {o : Oper} {v : Value} {a : Act} {w : World} {K : Act → World → Prop} (hi : ops[i]? = some o) (hw : C w) (hy : YieldsIn P ops C o v a) (h : ∀ w', C w' → K (a.put o.dst v) w') :
    wpOp P ops Q i K a w :=
  wpOp_of_qOp (K := fun a' => a' = a.put o.dst v) hw (fun a' w' hw' ha => by rw [ha]; exact h w' hw') (hy.qOp hi rfl)
section
variable {P : Program} {Q : Exit → Act → World → Prop} {w : World} {l : List Oper} {A : Act} {n m : Nat} {mk : Nat → TypeId × Array Value}
def finB (l : List Oper) (A : Act) (n m : Nat) (G : Nat → Nat) : Act := finV (newV l A n m G) n ((l.drop n).take m) A
theorem new_main (hmk : ∀ i, n ≤ i → i < n + m → ∃ o, l[i]? = some o ∧ o.guard = none ∧ o.op = .alloc (mk i).1 ∧ ZeroIs P (mk i).1 (mk i).2)
    (hT : ∀ G w', MadeB w w' mk G (fun i => n ≤ i ∧ i < n + m) → Below w.heap.size w w' → wpList P l.toArray Q (l.drop (n + m)) (finB l A n m G) w') :
    ∀ (f : Nat) (listed : Array Bool) (a : Act) (w0 w' : World) (G : Nat → Nat), Below w.heap.size w w0 → (∃ x : BelT w0, w' = x.at_) →
      MadeB w w0 mk G (fun i => (n ≤ i ∧ i < n + m) ∧ listed.getD i false = true) → listed.size = l.length →
      (∀ (G' : Nat → Nat) (w1 : World), (∀ i, (n ≤ i ∧ i < n + m) → listed.getD i false = true → G' i = G i) → Below w0.heap.size w0 w1 →
        wpLV P .any (standL l n m G').toArray (fun w' => ∃ x : BelT w1, w' = x.at_) (newV l A n m G') (n + m) (fun listed' a' => Region.seqB .any (standL l n m G').toArray (l.length - (n + m)) (n + m) listed' = true ∧ a' = finB l A n m G' ∧ ∀ j, j < n + m → listed'.getD j false = true) f listed a) →
      wpAny P .any l.toArray Q (f + (l.length - (n + m))) listed a w' := by
  intro f
  induction f with
  | zero =>
    intro listed a w0 w' G hb0 hx hM hsz H
    obtain ⟨hs, rfl, hl⟩ := H G w0 (fun _ _ _ => rfl) (Below.refl _ _)
    rw [stand_seqB] at hs
    obtain ⟨x, rfl⟩ := hx
    have h1 := hT G x.at_ ⟨fun i hi => ((hM.bel x.bel).b i ⟨hi, hl i hi.2⟩), fun i j hi hj => hM.ne i j ⟨hi, hl i hi.2⟩ ⟨hj, hl j hj.2⟩⟩ (bel_tr hb0 x.bel)
    have hdl : (l.drop (n + m)).length = l.length - (n + m) := by simp
    rw [Nat.zero_add, ← hdl]
    exact wpAny_of_seq _ (n + m) listed _ _ (fun j => by simp [List.getElem?_drop]) (by rw [hdl]; exact hs) h1
  | succ f ih =>
    intro listed a w0 w' G hb0 hx hM hsz H
    rw [show f + 1 + (l.length - (n + m)) = (f + (l.length - (n + m))) + 1 by omega]
    have H0 := H G w0 (fun _ _ _ => rfl) (Below.refl _ _)
    have hne := H0.1
    rw [stand_ready] at hne
    refine ⟨fun h0 => absurd h0 hne, fun i hi => ?_⟩
    have hi' : i ∈ Region.ready .any (standL l n m G).toArray listed := by rw [stand_ready]; exact hi
    obtain ⟨hin, oi, hoi, hyi, _⟩ := H0.2 i hi'
    have hun : listed.getD i true = false := (mem_ready.1 hi).1
    by_cases hni : n ≤ i
    · obtain ⟨o, ho, hgd, hop, hz⟩ := hmk i hni hin
      have hoA : l.toArray[i]? = some o := by simpa using ho
      refine wpOp_of_list hoA ?_
      refine wpList_allocZ hgd _ hop hz ?_
      intro g w2 hg hBk hb2 _
      show wpAny P .any l.toArray Q (f + (l.length - (n + m))) (listed.setIfInBounds i true) (a.put o.dst (.pointer (some ⟨g, 0, none⟩))) w2
      obtain ⟨x, rfl⟩ := hx
      have hb02 : Below w0.heap.size w0 w2 := bel_tr x.bel hb2
      have hil : i < l.length := (List.getElem?_eq_some_iff.1 ho).1
      refine ih (listed.setIfInBounds i true) _ w2 w2 (fun j => if j = i then g else G j) (bel_tr hb0 hb02) ⟨⟨w2, Below.refl _ _⟩, rfl⟩ ⟨fun j hj => ?_, fun j k hj hk hjk => ?_⟩ (by simpa using hsz) (fun G' w1 hG' hb1 => ?_)
      · by_cases hji : j = i
        · subst hji
          simp only [if_true]
          exact ⟨by have := hb0.size; have := x.bel.size; omega, hBk⟩
        · simp only [hji, if_false]
          have hj2 : listed.getD j false = true := by have := hj.2; rwa [getD_set_ne false (Ne.symm hji)] at this
          exact (hM.bel hb02).b j ⟨hj.1, hj2⟩
      · have old : ∀ t, t ≠ i → (listed.setIfInBounds i true).getD t false = true → (n ≤ t ∧ t < n + m) → listed.getD t false = true ∧ G t < g := fun t ht h1 h2 => by
          rw [getD_set_ne false (Ne.symm ht)] at h1
          refine ⟨h1, ?_⟩
          rw [hg]
          exact ((hM.bel x.bel).b t ⟨h2, h1⟩).2.lt
        by_cases hji : j = i
        · subst hji
          have hkj : ¬ k = j := fun h => hjk h.symm
          simp only [if_true, hkj, if_false]
          have := (old k hkj hk.2 hk.1).2
          omega
        · by_cases hki : k = i
          · subst hki
            simp only [if_true, hji, if_false]
            have := (old j hji hj.2 hj.1).2
            omega
          · simp only [hji, hki, if_false]
            exact hM.ne j k ⟨hj.1, (old j hji hj.2 hj.1).1⟩ ⟨hk.1, (old k hki hk.2 hk.1).1⟩ hjk
      · have hag : ∀ t, (n ≤ t ∧ t < n + m) → listed.getD t false = true → G' t = G t := fun t ht hl => by
          have hti : t ≠ i := fun h => by subst h; rw [getD_both hun] at hl; cases hl
          have := hG' t ht (by rw [getD_set_ne false (Ne.symm hti)]; exact hl)
          simpa [hti] using this
        have hgi : G' i = g := by
          have := hG' i ⟨hni, hin⟩ (by have : i < listed.size := by rw [hsz]; exact hil
                                       simp [this])
          simpa using this
        have H1 := H G' w1 hag (bel_tr hb02 hb1)
        have hi2 : i ∈ Region.ready .any (standL l n m G').toArray listed := by rw [stand_ready]; exact hi
        obtain ⟨_, o2, ho2, _, hr⟩ := H1.2 i hi2
        rw [stand_get, hoA] at ho2
        injection ho2 with ho2
        subst ho2
        rw [standF_dst, show newV l A n m G' i = .pointer (some ⟨g, 0, none⟩) by unfold newV; rw [if_pos ⟨hni, hin⟩, hgi]] at hr
        exact hr
    · have hoA : ∃ o, l.toArray[i]? = some o ∧ oi = o := by
        rw [stand_get] at hoi
        obtain ⟨o, ho, he⟩ := Option.map_eq_some_iff.1 hoi
        exact ⟨o, ho, by rw [← he]; unfold standF; rw [if_neg (by omega)]⟩
      obtain ⟨o, ho, rfl⟩ := hoA
      rw [stand_yieldsIn] at hyi
      refine yields_wpOp ho hx hyi fun w2 hx2 => ?_
      have hset : ∀ t, (n ≤ t ∧ t < n + m) → (listed.setIfInBounds i true).getD t false = listed.getD t false := fun t ht => getD_set_ne false (by omega)
      refine ih (listed.setIfInBounds i true) _ w0 w2 G hb0 hx2 ⟨fun j hj => hM.b j ⟨hj.1, by have := hj.2; rwa [hset j hj.1] at this⟩, fun j k hj hk => hM.ne j k ⟨hj.1, by have := hj.2; rwa [hset j hj.1] at this⟩ ⟨hk.1, by have := hk.2; rwa [hset k hk.1] at this⟩⟩ (by simpa using hsz) (fun G' w1 hG' hb1 => ?_)
      have H1 := H G' w1 (fun t ht hl => hG' t ht (by rw [hset t ht]; exact hl)) hb1
      have hi2 : i ∈ Region.ready .any (standL l n m G').toArray listed := by rw [stand_ready]; exact hi
      obtain ⟨_, o2, ho2, _, hr⟩ := H1.2 i hi2
      rw [stand_get, ho] at ho2
      injection ho2 with ho2
      subst ho2
      have hv : newV l A n m G' i = newV l A n m G i := by unfold newV; rw [if_neg (by omega), if_neg (by omega)]
      rw [standF_dst, hv] at hr
      exact hr
end
/-- a region that draws its order: a quiet head of n operations (calls that make memory among them), then m makings of variables, then a tail in one forced order. -/
theorem wp_region_bel_new {P : Program} {id : Nat} {Q : Exit → Act → World → Prop} {a A : Act} {w : World} {l : List Oper} (n m : Nat) (mk : Nat → TypeId × Array Value) (hm : P.follows .mixedOrders = true)
    (hmk : ∀ i, n ≤ i → i < n + m → ∃ o, l[i]? = some o ∧ o.guard = none ∧ o.op = .alloc (mk i).1 ∧ ZeroIs P (mk i).1 (mk i).2)
    (hB : ∀ G, Region.lexTailB .any (standL l n m G).toArray (n + m) = true) (hds : dstsB (l.take n) a.tmps.size = true)
    (hH : ∀ w0, Below w.heap.size w w0 → wpQuiet P l.toArray (fun w' => ∃ x : BelT w0, w' = x.at_) (fun a' => a' = A) (l.take n) a)
    (hT : ∀ G w', MadeB w w' mk G (fun i => n ≤ i ∧ i < n + m) → Below w.heap.size w w' → wpList P l.toArray Q (l.drop (n + m)) (finB l A n m G) w') :
    (Code.region id l.toArray true).wp P Q a w := by
  have hlen : n + m < l.length := by
    have := hB (fun _ => 0)
    simp only [Region.lexTailB, Bool.and_eq_true, decide_eq_true_eq, stand_size] at this
    simpa using this.1.1.1.2
  refine wp_region_any hm ?_
  have hw0 : Below w.heap.size w { w with drawn := w.drawn + 1 } := (Below.refl _ _).drew
  have key : ∀ (G' : Nat → Nat) (w1 : World), Below w.heap.size w w1 →
      wpLV P .any (standL l n m G').toArray (fun w' => ∃ x : BelT w1, w' = x.at_) (newV l A n m G') (n + m) (fun listed' a' => Region.seqB .any (standL l n m G').toArray (l.length - (n + m)) (n + m) listed' = true ∧ a' = finB l A n m G' ∧ ∀ j, j < n + m → listed'.getD j false = true) (n + m) (Array.replicate l.length false) a := by
    intro G' w1 hb1
    have hB' := hB G'
    simp only [Region.lexTailB, Bool.and_eq_true, decide_eq_true_eq, stand_size] at hB'
    obtain ⟨⟨⟨⟨hsel, hn⟩, hs⟩, hc⟩, hlex⟩ := hB'
    have hsl : l.toArray.size = l.length := by simp
    rw [hsl] at hlex hn
    have inv0 : HeadInv .any (standL l n m G').toArray (n + m) (Array.replicate l.length false) :=
      ⟨by simp [standL], fun j oj _ hl => (by rw [getD_replicate_false] at hl; cases hl), fun t _ ht => getD_in (by simpa [standL] using ht) (getD_replicate_false _ _)⟩
    have htl : ((standL l n m G').take (n + m)).length = n + m := by simp [standL]; omega
    have hq := quiet_vals (P := P) (ops := l.toArray) (C := fun w' => ∃ x : BelT w1, w' = x.at_) (A := A) (V := newV l A n m G') (l.take n) 0 a (fun j hj => by
      have hjn : j < n := by rw [List.length_take] at hj; omega
      have hjl : j < l.length := by omega
      unfold newV
      rw [if_neg (by omega), Nat.zero_add, List.getElem?_eq_getElem hjl, List.getElem_take]) hds (hH w1 hb1)
    have hseq : seqV P (standL l n m G').toArray (fun w' => ∃ x : BelT w1, w' = x.at_) (newV l A n m G') 0 ((standL l n m G').take (n + m)) a ∧ finV (newV l A n m G') 0 ((standL l n m G').take (n + m)) a = finB l A n m G' := by
      have split : (standL l n m G').take (n + m) = l.take n ++ ((l.drop n).take m).mapIdx (fun j o => standF n m G' (n + j) o) := by
        refine List.ext_getElem? fun i => ?_
        by_cases hi : i < n + m
        · rw [List.getElem?_take_of_lt hi]
          unfold standL
          rw [List.getElem?_mapIdx]
          by_cases hin : i < n
          · rw [List.getElem?_append_left (by rw [List.length_take]; omega), List.getElem?_take_of_lt hin]
            cases l[i]? with
            | none => rfl
            | some o => simp [standF]; omega
          · rw [List.getElem?_append_right (by rw [List.length_take]; omega), List.length_take, Nat.min_eq_left (by omega), List.getElem?_mapIdx, List.getElem?_take_of_lt (by omega), List.getElem?_drop, show n + (i - n) = i by omega]
        · rw [List.getElem?_eq_none (by simp [standL]; omega), List.getElem?_eq_none (by simp; omega)]
      have seqApp : ∀ (l1 l2 : List Oper) (k : Nat) (a : Act), seqV P (standL l n m G').toArray (fun w' => ∃ x : BelT w1, w' = x.at_) (newV l A n m G') k l1 a → seqV P (standL l n m G').toArray (fun w' => ∃ x : BelT w1, w' = x.at_) (newV l A n m G') (k + l1.length) l2 (finV (newV l A n m G') k l1 a) →
          seqV P (standL l n m G').toArray (fun w' => ∃ x : BelT w1, w' = x.at_) (newV l A n m G') k (l1 ++ l2) a := by
        intro l1
        induction l1 with
        | nil => intro l2 k a _ h; simpa [finV] using h
        | cons o l1 ih => intro l2 k a h h2; exact ⟨h.1, ih l2 (k + 1) _ h.2 (by rw [show k + 1 + l1.length = k + (o :: l1).length by simp; omega]; exact h2)⟩
      have finApp : ∀ (l1 l2 : List Oper) (k : Nat) (a : Act), finV (newV l A n m G') k (l1 ++ l2) a = finV (newV l A n m G') (k + l1.length) l2 (finV (newV l A n m G') k l1 a) := by
        intro l1
        induction l1 with
        | nil => intro l2 k a; rfl
        | cons o l1 ih => intro l2 k a; show finV _ (k + 1) (l1 ++ l2) _ = _; rw [ih, show k + 1 + l1.length = k + (o :: l1).length by simp; omega]; rfl
      have seqSt : ∀ (l1 : List Oper) (k : Nat) (a : Act), seqV P l.toArray (fun w' => ∃ x : BelT w1, w' = x.at_) (newV l A n m G') k l1 a → seqV P (standL l n m G').toArray (fun w' => ∃ x : BelT w1, w' = x.at_) (newV l A n m G') k l1 a := by
        intro l1
        induction l1 with
        | nil => intro k a _; trivial
        | cons o l1 ih => intro k a h; exact ⟨(stand_yieldsIn l n m G' o _ a).2 h.1, ih _ _ h.2⟩
      have htn : (l.take n).length = n := by rw [List.length_take]; omega
      -- the makings
      have mks : ∀ (d : Nat) (j : Nat) (a : Act), j + d = m →
          seqV P (standL l n m G').toArray (fun w' => ∃ x : BelT w1, w' = x.at_) (newV l A n m G') (n + j) ((((l.drop n).take m).mapIdx (fun j o => standF n m G' (n + j) o)).drop j) a ∧
          finV (newV l A n m G') (n + j) ((((l.drop n).take m).mapIdx (fun j o => standF n m G' (n + j) o)).drop j) a = finV (newV l A n m G') (n + j) (((l.drop n).take m).drop j) a := by
        intro d
        induction d with
        | zero =>
          intro j a hj
          rw [List.drop_eq_nil_of_le (by simp; omega), List.drop_eq_nil_of_le (by simp; omega)]
          exact ⟨trivial, rfl⟩
        | succ d ih =>
          intro j a hj
          have hjl : n + j < l.length := by omega
          have h1 : j < (((l.drop n).take m).mapIdx (fun j o => standF n m G' (n + j) o)).length := by simp; omega
          have h2 : j < ((l.drop n).take m).length := by simp; omega
          rw [List.drop_eq_getElem_cons h1, List.drop_eq_getElem_cons h2]
          obtain ⟨o, ho, hgd, hop, hz⟩ := hmk (n + j) (by omega) (by omega)
          have e2 : ((l.drop n).take m)[j] = o := by
            rw [List.getElem_take, List.getElem_drop]
            rw [List.getElem?_eq_getElem hjl] at ho
            injection ho
          have e1 : (((l.drop n).take m).mapIdx (fun j o => standF n m G' (n + j) o))[j] = standF n m G' (n + j) o := by rw [List.getElem_mapIdx, e2]
          rw [e1, e2]
          have hst : standF n m G' (n + j) o = { o with op := .move (.const (.pointer (some ⟨G' (n + j), 0, none⟩))) } := by unfold standF; rw [if_pos (by omega)]
          have hnv : newV l A n m G' (n + j) = .pointer (some ⟨G' (n + j), 0, none⟩) := by unfold newV; rw [if_pos (by omega)]
          have hr := ih (j + 1) (a.put o.dst (newV l A n m G' (n + j))) (by omega)
          refine ⟨⟨?_, ?_⟩, ?_⟩
          · rw [hst, hnv]
            refine .inl ⟨?_, fun w' _ => ?_⟩
            · unfold Region.wanted
              simp [hgd]
            · unfold Oper.quietAt
              rw [BigFrame.run_move (.const (.pointer (some ⟨G' (n + j), 0, none⟩))) rfl]
              exact ⟨rfl, rfl⟩
          · rw [standF_dst]; exact hr.1
          · show finV _ (n + j + 1) _ (a.put (standF n m G' (n + j) o).dst _) = finV _ (n + j + 1) _ _
            rw [standF_dst]; exact hr.2
      have hmks := mks m 0 (finV (newV l A n m G') 0 (l.take n) a) (by omega)
      rw [List.drop_zero, List.drop_zero, Nat.add_zero] at hmks
      rw [split]
      refine ⟨seqApp _ _ _ _ (seqSt _ _ _ hq.1) (by rw [htn, Nat.zero_add]; exact hmks.1), ?_⟩
      rw [finApp, htn, Nat.zero_add, hmks.2, hq.2]
      rfl
    have := wpLV_lex (md := .any) (P := P) (ops := (standL l n m G').toArray) (C := fun w' => ∃ x : BelT w1, w' = x.at_) (V := newV l A n m G') (g := l.length - (n + m)) hsel hs hc (by rw [stand_size]; simpa using hlen) ((standL l n m G').take (n + m)) 0 _ a (fun j hj => by
      have hj' : j < n + m := by rw [htl] at hj; exact hj
      simp [hj']) (by simpa using htl) inv0 (by rw [htl]; exact hlex) hseq.1 hseq.2 (fun j hj => by omega)
    rw [htl] at this
    exact this
  have := new_main (P := P) (Q := Q) (w := w) (l := l) (A := A) (n := n) (m := m) (mk := mk) hmk hT (n + m) (Array.replicate l.length false) a { w with drawn := w.drawn + 1 } { w with drawn := w.drawn + 1 } (fun _ => 0) hw0 ⟨⟨_, Below.refl _ _⟩, rfl⟩ ⟨fun i hi => (by have h2 := hi.2; rw [getD_replicate_false] at h2; cases h2), fun i j hi => (by have h2 := hi.2; rw [getD_replicate_false] at h2; cases h2)⟩ (by simp) (fun G' w1 _ hb1 => key G' w1 (bel_tr hw0 hb1))
  rw [show n + m + (l.length - (n + m)) = l.toArray.size by simp; omega] at this
  simpa using this
end Go.Proofs.YthlnndjkocnfcaaGreatDoor

/- Regions that draw their order and make one variable or two: the law of XRh, its frame written out. -/
namespace Go.Proofs.YthlnndjkocnfcaaGreatDoor
open Go Go.RowKit

section
variable {P : Program} {id : Nat} {Q : Exit → Act → World → Prop} {a A : Act} {w : World} {l : List Oper}
theorem wp_region_bel_new1 (n : Nat) {o1 : Oper} {t1 : TypeId} {z1 : Array Value} (hm : P.follows .mixedOrders = true) (h1 : l[n]? = some o1) (g1 : o1.guard = none) (e1 : o1.op = .alloc t1) (hz1 : ZeroIs P t1 z1)
    (hB : ∀ G, Region.lexTailB .any (standL l n 1 G).toArray (n + 1) = true) (hds : dstsB (l.take n) a.tmps.size = true)
    (hH : ∀ w0, Below w.heap.size w w0 → wpQuiet P l.toArray (fun w' => ∃ x : BelT w0, w' = x.at_) (fun a' => a' = A) (l.take n) a)
    (hT : ∀ ga w', w.heap.size ≤ ga → Bk w' ga t1 z1 → Below w.heap.size w w' → wpList P l.toArray Q (l.drop (n + 1)) (A.put o1.dst (.pointer (some ⟨ga, 0, none⟩))) w') :
    (Code.region id l.toArray true).wp P Q a w := by
  refine wp_region_bel_new n 1 (fun _ => (t1, z1)) hm (fun i hi hi2 => ?_) hB hds hH (fun G w' hM hb => ?_)
  · obtain rfl : i = n := by omega
    exact ⟨o1, h1, g1, e1, hz1⟩
  · have hb1 := hM.b n ⟨Nat.le_refl _, by omega⟩
    have := hT (G n) w' hb1.1 hb1.2 hb
    have hl := List.getElem?_eq_some_iff.1 h1
    obtain ⟨hlt, hl⟩ := hl
    unfold finB
    rw [List.drop_eq_getElem_cons hlt, List.take_succ_cons, List.take_zero, hl]
    unfold finV newV
    rw [if_pos ⟨Nat.le_refl _, by omega⟩]
    exact this
theorem wp_region_bel_new2 (n : Nat) {o1 o2 : Oper} {t1 t2 : TypeId} {z1 z2 : Array Value} (hm : P.follows .mixedOrders = true) (h1 : l[n]? = some o1) (g1 : o1.guard = none) (e1 : o1.op = .alloc t1) (hz1 : ZeroIs P t1 z1)
    (h2 : l[n + 1]? = some o2) (g2 : o2.guard = none) (e2 : o2.op = .alloc t2) (hz2 : ZeroIs P t2 z2)
    (hB : ∀ G, Region.lexTailB .any (standL l n 2 G).toArray (n + 2) = true) (hds : dstsB (l.take n) a.tmps.size = true)
    (hH : ∀ w0, Below w.heap.size w w0 → wpQuiet P l.toArray (fun w' => ∃ x : BelT w0, w' = x.at_) (fun a' => a' = A) (l.take n) a)
    (hT : ∀ ga gb w', w.heap.size ≤ ga → w.heap.size ≤ gb → ga ≠ gb → Bk w' ga t1 z1 → Bk w' gb t2 z2 → Below w.heap.size w w' → wpList P l.toArray Q (l.drop (n + 2)) ((A.put o1.dst (.pointer (some ⟨ga, 0, none⟩))).put o2.dst (.pointer (some ⟨gb, 0, none⟩))) w') :
    (Code.region id l.toArray true).wp P Q a w := by
  refine wp_region_bel_new n 2 (fun i => if i = n then (t1, z1) else (t2, z2)) hm (fun i hi hi2 => ?_) hB hds hH (fun G w' hM hb => ?_)
  · by_cases h : i = n
    · subst h
      exact ⟨o1, h1, g1, by rw [if_pos rfl]; exact e1, by rw [if_pos rfl]; exact hz1⟩
    · obtain rfl : i = n + 1 := by omega
      exact ⟨o2, h2, g2, by rw [if_neg h]; exact e2, by rw [if_neg h]; exact hz2⟩
  · have hb1 := hM.b n ⟨Nat.le_refl _, by omega⟩
    have hb2 := hM.b (n + 1) ⟨by omega, by omega⟩
    have hne := hM.ne n (n + 1) ⟨Nat.le_refl _, by omega⟩ ⟨by omega, by omega⟩ (by omega)
    simp only [if_true, show ¬ n + 1 = n by omega, if_false] at hb1 hb2
    have := hT (G n) (G (n + 1)) w' hb1.1 hb2.1 hne hb1.2 hb2.2 hb
    obtain ⟨hlt, hl⟩ := List.getElem?_eq_some_iff.1 h1
    obtain ⟨hlt2, hl2⟩ := List.getElem?_eq_some_iff.1 h2
    unfold finB
    rw [List.drop_eq_getElem_cons hlt, List.drop_eq_getElem_cons hlt2, List.take_succ_cons, List.take_succ_cons, List.take_zero, hl, hl2]
    unfold finV finV newV
    rw [if_pos ⟨Nat.le_refl _, by omega⟩, if_pos ⟨by omega, by omega⟩]
    exact this
end
end Go.Proofs.YthlnndjkocnfcaaGreatDoor

/- A region of a function, found by its number; the reference's Better (39): the order of its great region, checked once. -/
namespace Go.Proofs.YthlnndjkocnfcaaGreatDoor
open Go Go.RowKit

/-- the operations of a region. -/
def opsAt : Code → Nat → Option (Array Oper)
  | .region id ops _, k => if id == k then some ops else none
  | .seq a b, k => match opsAt a k with | some x => some x | none => opsAt b k
  | .cond _ a b, k => match opsAt a k with | some x => some x | none => opsAt b k
  | .block _ b, k => opsAt b k
  | .loop b, k => opsAt b k
  | .scope b, k => opsAt b k
  | _, _ => none
def regL (f : Func) (k : Nat) : List Oper := ((f.body.bind fun c => opsAt c k).getD #[]).toList
theorem hB39 (G : Nat → Nat) : Region.lexTailB .any (standL (regL Tryz.f9 7) 81 1 G).toArray (81 + 1) = true := by kernel_rfl
end Go.Proofs.YthlnndjkocnfcaaGreatDoor
