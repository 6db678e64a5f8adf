/- Contracts and plain lemmas of our own, merged. -/
import Derived.RangeFuncNested
import Derived.RangeFuncBound
import Derived.RangeFuncLeaves
/- A range over a function whose elements lie in memory: the iterator's contract, the caller's law. -/
namespace Go.Proofs.YtgebcifkbldfoaaGreatDoor
open Go Go.RowKit

/-- WHAT AN ITERATOR PROMISES: it hands on just cs, in order, each as arguments of which enc tells (in the world of that call); J i: what the caller knows when i have come. -/
def SeqC {β : Type} (P : Program) (g : Nat) (lb : Array Value) (enc : β → Array Value → World → Prop) (Kp : World → World → Prop) (cs : List β) (w : World) : Prop :=
  ∀ (l : Nat) (J : Nat → World → Prop) (Jx : World → Prop) (W : World), Below w.heap.size w W → OwnFrom W.heap.size J → OwnFrom W.heap.size (fun (_ : Unit) V => Jx V) →
    (∀ i c args W1, J i W1 → cs[i]? = some c → enc c args W1 → YieldAt Fence.wide 0 P l args W1 fun e W' =>
      (e = .returned (.bool true) ∧ J (i + 1) W' ∧ KeepsFrom W.heap.size W1 W' ∧ Kp W1 W') ∨ (e = .returned (.bool false) ∧ Jx W' ∧ KeepsFrom W.heap.size W1 W')) →
    J 0 W →
    CallsIn Fence.wide 0 P g (#[.func (.yield l) #[] #[]] ++ lb) W fun e W' => (∃ v, e = .returned v) ∧ (J cs.length W' ∨ Jx W')
theorem SeqC.later {β : Type} {P : Program} {g : Nat} {lb : Array Value} {enc : β → Array Value → World → Prop} {Kp : World → World → Prop} {cs : List β} {w w' : World} (h : SeqC P g lb enc Kp cs w) (hb : Below w.heap.size w w') : SeqC P g lb enc Kp cs w' :=
  fun l J Jx W hW => h l J Jx W (hb.trans (hW.mono hb.size))
theorem keepsFrom_mono {B B' : Nat} {W W' : World} (h : KeepsFrom B W W') (hB : B ≤ B') : KeepsFrom B' W W' := ⟨h.size, fun k o hk => h.same k o (Nat.le_trans hB hk)⟩
theorem keepsFrom_put {B : Nat} {W : World} {l : Nat} (o : Obj) (hl : l < B) : KeepsFrom B W (W.putObj l o) :=
  KeepsFrom.of_grownBy (grownBy_putObj' W l o) (fun j e => by cases e; exact hl)
/-- how a round's body may be left. -/
def postC (B : Nat) (Kp : World → World → Prop) (I : World → Prop) (Ix : Code → World → Prop) (W : World) : Exit → Act → World → Prop
  | .normal, _, W' => KeepsFrom B W W' ∧ Kp W W' ∧ I W'
  | .ret, _, W' => KeepsFrom B W W' ∧ Ix .ret W'
  | .exit id, _, W' => KeepsFrom B W W' ∧ Ix (.exit id) W'
  | .goto t, _, W' => KeepsFrom B W W' ∧ Ix (.goto t) W'
  | .panic _, _, _ => False
  | .outgrown, _, _ => False
section
variable {P : Program} {w : World}
/-- the end of a round: the loop's record r ready again, or done with a jump. -/
theorem round_end {B l : Nat} (hB : B ≤ l) {rec : LoopState → Option Code → Loop} (hrec : ∀ s p s' p', { rec s p with state := s', pending := p' } = rec s' p') {W W3 : World} (hl : (W.putObj l (.loop (rec .busy none))).heap[l]? = some (.loop (rec .busy none)))
    (hk : KeepsFrom B (W.putObj l (.loop (rec .busy none))) W3) (jump : Option Code) :
    (Instr.endRound l jump).run P W3 = .ok (.bool jump.isNone) (W3.putObj l (.loop (rec (if jump.isNone then .ready else .done) jump))) ∧ W3.heap[l]? = some (.loop (rec .busy none)) ∧
      (W3.putObj l (.loop (rec (if jump.isNone then .ready else .done) jump))).heap[l]? = some (.loop (rec (if jump.isNone then .ready else .done) jump)) := by
  have h3 := hk.same _ _ hB hl rfl
  have h := run_endRound (P := P) jump h3
  rw [hrec] at h
  exact ⟨h, h3, World.putObj_heap_same (Array.getElem?_eq_some_iff.1 h3).1⟩
end
end Go.Proofs.YtgebcifkbldfoaaGreatDoor

/- A range over a function that keeps a variable of its own: the iterator's contract, the caller's law. -/
namespace Go.Proofs.YtgebcifkbldfoaaGreatDoor
open Go Go.RowKit

/-- what is known stands however the variable in block bs (of the type st) turns. -/
def OwnX {β : Type} (bs : Nat) (st : TypeId) (I : β → World → Prop) : Prop :=
  ∀ s W W' v v', I s W → W.grownBy W' (some bs) → W.heap[bs]? = some (.cells #[v] st (0, 0)) → W'.heap[bs]? = some (.cells #[v'] st (0, 0)) → I s W'
/-- as SeqC, of an iterator that turns the variable in block bs. -/
def SeqD {β : Type} (P : Program) (g : Nat) (lb : Array Value) (enc : β → Array Value → World → Prop) (Kp : World → World → Prop) (bs : Nat) (st : TypeId) (cs : List β) (w : World) : Prop :=
  ∀ (l : Nat) (J : Nat → World → Prop) (Jx : World → Prop) (W : World), Below w.heap.size w W → OwnFrom W.heap.size J → OwnFrom W.heap.size (fun (_ : Unit) V => Jx V) → OwnX bs st J →
    (∀ i c args W1, J i W1 → cs[i]? = some c → enc c args W1 → YieldAt Fence.wide 0 P l args W1 fun e W' =>
      (e = .returned (.bool true) ∧ J (i + 1) W' ∧ KeepsFrom W.heap.size W1 W' ∧ Kp W1 W') ∨ (e = .returned (.bool false) ∧ Jx W' ∧ KeepsFrom W.heap.size W1 W')) →
    J 0 W →
    CallsIn Fence.wide 0 P g (#[.func (.yield l) #[] #[]] ++ lb) W fun e W' => (∃ v, e = .returned v) ∧ (J cs.length W' ∨ Jx W')
section
variable {P : Program} {w : World}
/-- **'for .. := range g', g an iterator of which SeqD tells.** -/
theorem range_seqD {β : Type} {g : Operand} {ps : Array Tmp} {assign body : Code} {Q : Exit → Act → World → Prop} {a : Act} {gf : Nat} {lb : Array Value}
    (hg : a.eval g = .func (.func gf) #[] lb) (eg : ∀ args w, (callFunc gf args).run P w = .ok (.enter gf args) w)
    {enc : β → Array Value → World → Prop} {Kp : World → World → Prop} {cs : List β} {w0 : World} {bs : Nat} {st : TypeId} (hseq : SeqD P gf lb enc Kp bs st cs w0) (hbs : bs < w.heap.size) (hb0 : Below w0.heap.size w0 w)
    (hKt : ∀ {A B C : World}, Kp A B → Kp B C → Kp A C) (hKb : ∀ (W : World) (l : Nat) (o o' : Obj), W.heap[l]? = some o → o.isCells = false → Kp W (W.putObj l o'))
    (hps : ∀ c args W, enc c args W → args.size = ps.size) (hen : ∀ c args, OwnFrom w.heap.size (fun (_ : Unit) W => enc c args W))
    (I : Nat → World → Prop) (Ix : Code → World → Prop) (hI : OwnFrom w.heap.size I) (hX : OwnX bs st I) (hIx : ∀ c, OwnFrom w.heap.size (fun (_ : Unit) W => Ix c W)) (h0 : I 0 w) (a₁ : Array Value → Act)
    (hassign : ∀ (l : Nat) (c : β) (args : Array Value) (W : World) (K : Act → World → Prop), enc c args W → K (a₁ args) W →
      assign.wpIn (Fence.wide.inRound l) 0 P (Exit.then K (fun _ _ _ => False)) { tmps := (ps.zip args).foldl (fun t (p, v) => t.setIfInBounds p v) a.tmps, defers := [] } W)
    (hbody : ∀ (l i : Nat) (c : β) (args : Array Value) (W : World), w.heap.size ≤ l → (∃ r, W.heap[l]? = some (.loop r)) → I i W → cs[i]? = some c → enc c args W →
      body.wpIn (Fence.wide.inRound l) 0 P (postC w.heap.size Kp (I (i + 1)) Ix W) (a₁ args) W)
    (hdone : ∀ (D : Nat) (W : World), w.heap.size ≤ D → I cs.length W → W.heap[D]? = some (.deferred (some [])) → Q .normal { a with defers := { target := .collected D, args := #[] } :: a.defers } W)
    (hstop : ∀ (D : Nat) (c : Code) (W : World), w.heap.size ≤ D → Ix c W → W.heap[D]? = some (.deferred (some [])) → c.wpIn Fence.wide 0 P Q { a with defers := { target := .collected D, args := #[] } :: a.defers } W) :
    (Code.rangeFunc g ps assign body).wpIn Fence.wide 0 P Q a w := by
  obtain ⟨B, hB⟩ : ∃ B, B = w.heap.size := ⟨_, rfl⟩
  rw [← hB] at hen hI hIx hbody hdone hstop hbs
  refine wpIn_rangeFunc fun fn hfn => ?_
  obtain ⟨rec, hrec⟩ : ∃ rec : LoopState → Option Code → Loop, rec = fun st pe => { state := st, pending := pe, fn, tmps := a.tmps, params := ps, assign, body, defers := B } := ⟨_, rfl⟩
  have hre : ∀ s p s' p', { rec s p with state := s', pending := p' } = rec s' p' := by rw [hrec]; exact fun _ _ _ _ => rfl
  have hst : ∀ s p, (rec s p).state = s := by rw [hrec]; exact fun _ _ => rfl
  obtain ⟨W1, hW1⟩ : ∃ W1, W1 = (w.alloc (.deferred (some []))).alloc (.loop (rec .ready none)) := ⟨_, rfl⟩
  have hs1 : W1.heap.size = B + 2 := by rw [hW1, hB]; simp
  have hL1 : W1.heap[B + 1]? = some (.loop (rec .ready none)) := by
    rw [hW1, hB, ← World.size_alloc w (.deferred (some []))]
    exact World.alloc_heap_new _ _
  have hD1 : W1.heap[B]? = some (.deferred (some [])) := by
    rw [hW1, hB]
    exact (Below.heap_alloc _ _ _ (by simp)).trans (World.alloc_heap_new w _)
  have hI1 : I 0 W1 := by rw [hW1]; exact hI.alloc _ (hI.alloc _ h0)
  have hb1 : Below w0.heap.size w0 W1 := by
    rw [hW1]
    exact hb0.trans ((((Below.refl _ w).alloc (Nat.le_refl _) _).alloc (by simp) _).mono hb0.size)
  refine ⟨B + 1, [{ target := .collected B, args := #[] }], W1, { target := .fn (.func gf) lb, args := #[.func (.yield (B + 1)) #[] #[]] }, W1, gf, #[.func (.yield (B + 1)) #[] #[]] ++ lb, W1, ?_, ?_, fun _ _ => trivial, ?_, (fun h => by cases h), ?_⟩
  · rw [hW1, hrec, hB]
    exact run_enterLoop_outer _ _ _ _ _
  · simp only [resolve, hg]
    simp [go_sem]
  · simp [invoke, go_sem, eg]
  · have hkeep : ∀ {X Y : World} {row : Option Nat} {k : Nat} {o : Obj}, X.grownBy Y row → (∀ r, row = some r → W1.heap.size ≤ r ∧ ∃ o : Obj, X.heap[r]? = some o ∧ o.isCells = false) → k < B + 2 → X.heap[k]? = some o → Y.heap[k]? = some o :=
      fun hgr hr hk ho => (hgr.block _ (Array.getElem?_eq_some_iff.1 ho).1 (fun e => by have := (hr _ e.symm).1; omega)).trans ho
    have hto : ∀ {X : World} {row : Option Nat}, (∀ r, row = some r → W1.heap.size ≤ r ∧ ∃ o : Obj, X.heap[r]? = some o ∧ o.isCells = false) → (∀ r, row = some r → B ≤ r ∧ ∃ o : Obj, X.heap[r]? = some o ∧ o.isCells = false) :=
      fun hr r e => ⟨by have := (hr r e).1; omega, (hr r e).2⟩
    refine (hseq (B + 1)
      (fun i W => I i W ∧ W.heap[B + 1]? = some (.loop (rec .ready none)) ∧ W.heap[B]? = some (.deferred (some [])))
      (fun W => ∃ c, Ix c W ∧ W.heap[B + 1]? = some (.loop (rec .done (some c))) ∧ W.heap[B]? = some (.deferred (some [])))
      W1 hb1
      (fun s X Y row hx hgr hr => ⟨hI s X Y row hx.1 hgr (hto hr), hkeep hgr hr (by omega) hx.2.1, hkeep hgr hr (by omega) hx.2.2⟩)
      (fun s X Y row hx hgr hr => by
        obtain ⟨c, h1, h2, h3⟩ := hx
        exact ⟨c, hIx c s X Y row h1 hgr (hto hr), hkeep hgr hr (by omega) h2, hkeep hgr hr (by omega) h3⟩)
      (fun s X Y v v' hx hgr hv hv' => ⟨hX s X Y v v' hx.1 hgr hv hv', (hgr.block _ (Array.getElem?_eq_some_iff.1 hx.2.1).1 (fun e => by cases e; omega)).trans hx.2.1, (hgr.block _ (Array.getElem?_eq_some_iff.1 hx.2.2).1 (fun e => by cases e; omega)).trans hx.2.2⟩)
      ?_ ⟨hI1, hL1, hD1⟩).mono ?_
    · rintro i c args W ⟨hi, hl, hd⟩ hc he
      have hy := run_yield (P := P) (args := args) hl (by rw [hps c args W he, hrec])
      rw [hrec] at hy
      refine ⟨fn, _, assign, body, hy, roundIn_of_wpIn hfn (hassign _ c args W _ he ?_)⟩
      have hlt : B + 1 < W.heap.size := (Array.getElem?_eq_some_iff.1 hl).1
      have hbr := run_beginRound (P := P) hl (hst _ _)
      refine ⟨_, hbr, ?_⟩
      rw [show ({ rec LoopState.ready none with state := LoopState.busy } : Loop) = rec .busy none by have := hre .ready none .busy none; rw [← this, hrec]]
      have hl2 : (W.putObj (B + 1) (.loop (rec .busy none))).heap[B + 1]? = some (.loop (rec .busy none)) := World.putObj_heap_same hlt
      have hd2 : (W.putObj (B + 1) (.loop (rec .busy none))).heap[B]? = some (.deferred (some [])) := (World.putObj_heap_other (by omega)).trans hd
      have hKw : Kp W (W.putObj (B + 1) (.loop (rec .busy none))) := hKb _ _ _ _ hl rfl
      have hFw : KeepsFrom W1.heap.size W (W.putObj (B + 1) (.loop (rec .busy none))) := keepsFrom_put _ (by omega)
      refine wpIn_mono (hbody _ i c args _ (by omega) ⟨_, hl2⟩ (hI.putObj _ hi (by omega) hl rfl) hc ((hen c args).putObj (s := ()) _ he (by omega) hl rfl)) ?_
      have fin : ∀ (jump : Option Code) (W3 : World), KeepsFrom B (W.putObj (B + 1) (.loop (rec .busy none))) W3 →
          (Instr.endRound (B + 1) jump).run P W3 = .ok (.bool jump.isNone) (W3.putObj (B + 1) (.loop (rec (if jump.isNone then .ready else .done) jump))) ∧ W3.heap[B + 1]? = some (.loop (rec .busy none)) ∧
          (W3.putObj (B + 1) (.loop (rec (if jump.isNone then .ready else .done) jump))).heap[B + 1]? = some (.loop (rec (if jump.isNone then .ready else .done) jump)) ∧
          (W3.putObj (B + 1) (.loop (rec (if jump.isNone then .ready else .done) jump))).heap[B]? = some (.deferred (some [])) := fun jump W3 hk => by
        obtain ⟨h1, h2, h3⟩ := round_end (P := P) (l := B + 1) (by omega) hre hl2 hk jump
        exact ⟨h1, h2, h3, (World.putObj_heap_other (by omega)).trans (hk.same _ _ (Nat.le_refl _) hd2 rfl)⟩
      rintro e a3 W3 hp
      cases e with
      | normal =>
        obtain ⟨hk, hkp, hi3⟩ := hp
        obtain ⟨hr, h2, h3, h4⟩ := fin none W3 hk
        exact ⟨_, _, hr, .inl ⟨rfl, ⟨hI.putObj _ hi3 (by omega) h2 rfl, h3, h4⟩, (hFw.trans (keepsFrom_mono hk (by omega))).trans (keepsFrom_put _ (by omega)), hKt (hKt hKw hkp) (hKb _ _ _ _ h2 rfl)⟩⟩
      | ret =>
        obtain ⟨hk, hi3⟩ := hp
        obtain ⟨hr, h2, h3, h4⟩ := fin (some .ret) W3 hk
        exact ⟨_, _, hr, .inr ⟨rfl, ⟨.ret, (hIx _).putObj (s := ()) _ hi3 (by omega) h2 rfl, h3, h4⟩, (hFw.trans (keepsFrom_mono hk (by omega))).trans (keepsFrom_put _ (by omega))⟩⟩
      | exit id =>
        obtain ⟨hk, hi3⟩ := hp
        obtain ⟨hr, h2, h3, h4⟩ := fin (some (.exit id)) W3 hk
        exact ⟨_, _, hr, .inr ⟨rfl, ⟨.exit id, (hIx _).putObj (s := ()) _ hi3 (by omega) h2 rfl, h3, h4⟩, (hFw.trans (keepsFrom_mono hk (by omega))).trans (keepsFrom_put _ (by omega))⟩⟩
      | goto t =>
        obtain ⟨hk, hi3⟩ := hp
        obtain ⟨hr, h2, h3, h4⟩ := fin (some (.goto t)) W3 hk
        exact ⟨_, _, hr, .inr ⟨rfl, ⟨.goto t, (hIx _).putObj (s := ()) _ hi3 (by omega) h2 rfl, h3, h4⟩, (hFw.trans (keepsFrom_mono hk (by omega))).trans (keepsFrom_put _ (by omega))⟩⟩
      | panic ch => exact hp.elim
      | outgrown => exact hp.elim
    · rintro e W2 ⟨⟨v, rfl⟩, (⟨hi, hl, hd⟩ | ⟨c, hi, hl, hd⟩)⟩
      · exact ⟨none, _, by have := run_endLoop (P := P) hl (by rw [hst]; simp); rw [hrec] at this; exact this, hdone B _ (Nat.le_refl _) (hI.putObj _ hi (by omega) hl rfl) ((World.putObj_heap_other (by omega)).trans hd)⟩
      · exact ⟨some c, _, by have := run_endLoop (P := P) hl (by rw [hst]; simp); rw [hrec] at this; exact this, hstop B c _ (Nat.le_refl _) ((hIx c).putObj (s := ()) _ hi (by omega) hl rfl) ((World.putObj_heap_other (by omega)).trans hd)⟩
end
end Go.Proofs.YtgebcifkbldfoaaGreatDoor
