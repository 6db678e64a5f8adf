/- Contracts and plain lemmas of our own, merged. -/
import Derived.Test.YtgebcifkbldfoaaGreatDoorZSB10
import Derived.Test.YtgebcifkbldfoaaGreatDoorZSB5
import Derived.Test.YtgebcifkbldfoaaGreatDoorZSB9
import Derived.Great.BuildSlice
/- Rows of structs: reading a member, a literal of one member; setup.left at addresses. -/
namespace Go.Proofs.YtgebcifkbldfoaaGreatDoor
open Go.RowKit

/-- members of one size, side by side. -/
theorem flat_at {α β : Type} {f : α → List β} {s : Nat} (hs : ∀ a, (f a).length = s) : ∀ (L : List α) (k : Nat) (hk : k < L.length) (j : Nat), j < s → (L.flatMap f)[k * s + j]? = (f L[k])[j]?
  | x :: L, 0, _, j, hj => by
    rw [List.flatMap_cons, List.getElem?_append_left (by rw [hs]; omega)]
    simp
  | x :: L, k + 1, hk, j, hj => by
    have e : (k + 1) * s + j = s + (k * s + j) := by rw [Nat.add_mul]; omega
    rw [List.flatMap_cons, e, List.getElem?_append_right (by rw [hs]; omega), hs]
    have e2 : s + (k * s + j) - s = k * s + j := by omega
    rw [e2, flat_at hs L k (by simpa using hk) j hj]
    simp
theorem flat_len {α β : Type} {f : α → List β} {s : Nat} (hs : ∀ a, (f a).length = s) (L : List α) : (L.flatMap f).length = L.length * s := by
  induction L with
  | nil => simp
  | cons x L ih => rw [List.flatMap_cons, List.length_append, hs, ih, List.length_cons, Nat.add_mul]; omega
theorem range_of {w : World} {α : Type} {f : α → List Value} {s : Nat} (hs : ∀ a, (f a).length = s) {L : List α} {b off : Nat} (hc : ∀ j u, (L.flatMap f)[j]? = some u → w.cell? ⟨b, off + j, none⟩ = some u) {k : Nat} (hk : k < L.length) : w.rangeAt b (off + k * s) (f L[k]) := fun j v hv => by
  have hj : j < s := by have := (List.getElem?_eq_some_iff.1 hv).1; rw [hs] at this; exact this
  have := hc (k * s + j) v ((flat_at hs L k hk j hj).trans hv)
  rwa [← Nat.add_assoc] at this
/-- a slice literal of members that are aggregates of one size. -/
theorem wpList_lit {P : Program} {ops : Array Oper} {rest : List Oper} {o : Oper} {a : Act} {w : World} {Q : Exit → Act → World → Prop} (hg : o.guard = none) (t : TypeId) (parts : Array (Nat × Operand)) {len : Nat} (ho : o.op = .buildSlice t len parts)
    {e : TypeId} {size bytes : Nat} (el : Elt P t e size bytes) (vs : List Value) (hlen : vs.length = len) (hpos : 0 < len) (hsm : len * size ≤ 16777216) (hv : ∀ v ∈ vs, v.cells.size = size)
    (hp : parts.toList.map (fun p => (p.1, a.eval p.2)) = (vs.zipIdx 0).map fun x => (x.2, x.1))
    (h : ∀ w', Bk w' w.heap.size e (vs.flatMap fun v => v.cells.toList).toArray → w'.ownsRow w.heap.size e size (.slice (some ⟨w.heap.size, 0, none⟩) len len) len (vs.flatMap fun v => v.cells.toList) → Below w.heap.size w w' → w'.heap.size = w.heap.size + 1 →
      wpList P ops Q rest (a.put o.dst (.slice (some ⟨w.heap.size, 0, none⟩) len len)) w') : wpList P ops Q (o :: rest) a w := by
  obtain ⟨i, z, hi, hz, hz1, hz2, hz3⟩ := el.info
  have hps := Nat.mul_pos hpos el.pos
  have hfl : (vs.flatMap fun v => v.cells.toList).length = len * size := by
    rw [← hlen]
    clear hp h hsm hps hlen
    induction vs with
    | nil => simp
    | cons x l ih =>
      rw [List.flatMap_cons, List.length_append, ih (fun v hv' => hv v (List.mem_cons_of_mem _ hv')), List.length_cons, Nat.add_mul, Array.length_toList, hv x (by simp)]
      omega
  refine wpList_buildSlice hg t e len parts ho (vs.flatMap fun v => v.cells.toList).toArray i z el.under hi hz (by rw [hz1]; omega) (by rw [hz1]; omega) ?_ (h _ (Bk.new _ _ _) ?_ ((Below.refl _ _).alloc (Nat.le_refl _) _) (by simp))
  · rw [hz1, Array.toList_map]
    have e2 : (parts.toList.map fun x => match x with | (i, x) => (i, a.eval x)) = (vs.zipIdx 0).map fun x => (x.2, x.1) := hp
    rw [e2]
    exact Great.fill_whole el.pos vs _ hv (by simp [hlen])
  · have := World.ownsRow_lit (base := w.heap.size) (e := e) (size := size) w (vs.flatMap fun v => v.cells.toList).toArray len (Nat.le_refl _) (by have := Nat.le_mul_of_pos_right len el.pos; unfold maxLen; omega) (by rw [List.size_toArray]; exact hfl)
    simpa using this
theorem bk_list {w : World} {g : Nat} {e : TypeId} {l : List Value} {cs : Array Value} (h : Bk w g e ([Value.agg cs].flatMap fun v => v.cells.toList).toArray) (hc : cs.toList = l) : Bk w g e l.toArray := by
  subst hc
  simpa [Value.cells] using h

end Go.Proofs.YtgebcifkbldfoaaGreatDoor

/- setup.left at addresses, prefixes and names, with the functions that it is handed. -/
namespace Go.Proofs.YtgebcifkbldfoaaGreatDoor
open Go.RowKit

theorem own_any {w : World} {base : Nat} {e : TypeId} {size n : Nat} {v : Value} {xs : List Value} (h : w.ownsRow base e size v n xs) : ∃ A c, v = .slice A n c := by
  obtain ⟨A, c, hv, _⟩ := (Sl.own h).any
  exact ⟨A, c, hv⟩

end Go.Proofs.YtgebcifkbldfoaaGreatDoor

/- setup.left at prefixes and at names. -/
namespace Go.Proofs.YtgebcifkbldfoaaGreatDoor
open Go.RowKit

/-- names in a row: each with its slice. -/
structure NmOk (w : World) (p : Value × List (List UInt8)) : Prop where
  sl : Sl w 1 p.1 p.2.length (p.2.map stv)
  few : p.2.length ≤ 1000000000
  len : ∀ l ∈ p.2, l.length ≤ 140737488351232
theorem NmOk.bel {w w' : World} {p : Value × List (List UInt8)} (h : NmOk w p) (hb : Below w.heap.size w w') : NmOk w' p := ⟨h.sl.below hb, h.few, h.len⟩
def nmF (p : Value × List (List UInt8)) : List Value := [p.1]
end Go.Proofs.YtgebcifkbldfoaaGreatDoor

/- Rows of rows: which blocks the members of a row of names lie in; domain.Cat with its row its own. -/
namespace Go.Proofs.YtgebcifkbldfoaaGreatDoor
open Go.RowKit

/-- what reads so lies below b, or in a block of element type t. -/
structure SlB (b : Nat) (t : TypeId) (w : World) (size : Nat) (v : Value) (n : Nat) (xs : List Value) : Prop where
  sl : Sl w size v n xs
  far : ∀ g off c, v = .slice (some ⟨g, off, none⟩) n c → 0 < n → g < b ∨ ∃ cur fr, w.heap[g]? = some (.cells cur t fr)
section
variable {b b' size n : Nat} {t : TypeId} {w w' : World} {v : Value} {xs : List Value}
theorem SlB.own (h : w.ownsRow b' t size v n xs) : SlB b t w size v n xs := by
  refine ⟨Sl.own h, fun g off c hv hn => .inr ?_⟩
  rcases h.2 with ⟨rfl, _⟩ | ⟨g', cap, cur, rfl, _, hg, _⟩
  · cases hv
  · injection hv with hv _ _
    injection hv with hv
    injection hv with hv _
    subst hv
    exact ⟨cur, _, hg⟩
theorem SlB.old (h : Sl w size v n xs) (hb : w.heap.size ≤ b) : SlB b t w size v n xs := by
  refine ⟨h, fun g off c hv hn => .inl ?_⟩
  obtain ⟨b2, off2, c2, hv2, _, hl, _⟩ := h.pos hn
  rw [hv2] at hv
  injection hv with hv _ _
  injection hv with hv
  injection hv with hv _
  omega
theorem SlB.bel (h : SlB b t w size v n xs) (hb : Below w.heap.size w w') : SlB b t w' size v n xs := by
  refine ⟨h.sl.below hb, fun g off c hv hn => ?_⟩
  rcases h.far g off c hv hn with hl | ⟨cur, fr, hg⟩
  · exact .inl hl
  · refine .inr ⟨cur, fr, (hb.block g ?_).trans hg⟩
    rcases Nat.lt_or_ge g w.heap.size with hlt | hge
    · exact hlt
    · rw [Array.getElem?_eq_none hge] at hg; cases hg
/-- an append to a row of another element type leaves it as it was. -/
theorem SlB.grown (h : SlB b t w size v n xs) {e : TypeId} {vo : Value} {so no : Nat} {xo : List Value} (ho : w.ownsRow b e so vo no xo) (he : t ≠ e) (hg : w.grownBy w' vo.ownBlock) : SlB b t w' size v n xs := by
  have key : ∀ g off c, v = .slice (some ⟨g, off, none⟩) n c → 0 < n → some g ≠ vo.ownBlock := by
    intro g off c hv hn hgo
    rcases ho.2 with ⟨rfl, _⟩ | ⟨g', cap, cur, rfl, hb', hg', _⟩
    · cases hgo
    · have hgg : g = g' := by simpa [Value.ownBlock] using hgo
      subst hgg
      rcases h.far g off c hv hn with hl | ⟨cur2, fr, h2⟩
      · omega
      · rw [hg'] at h2
        injection h2 with h2
        injection h2 with _ h2 _
        exact he h2.symm
  refine ⟨?_, fun g off c hv hn => ?_⟩
  · obtain ⟨h0, A, c, rfl, hc, hA, hcell⟩ := h.sl
    refine ⟨h0, A, c, rfl, hc, hA, fun ad had hn => ?_⟩
    obtain ⟨h1, h2, h3⟩ := hcell ad had hn
    obtain ⟨g, off, sp⟩ := ad
    dsimp only at h1 h2 h3
    subst had h2
    exact ⟨Nat.lt_of_lt_of_le h1 hg.size, rfl, fun j u hu => hg.cell (h3 j u hu) (key g off c rfl hn)⟩
  · rcases h.far g off c hv hn with hl | ⟨cur, fr, hh⟩
    · exact .inl hl
    · refine .inr ⟨cur, fr, (hg.block g ?_ (key g off c hv hn)).trans hh⟩
      rcases Nat.lt_or_ge g w.heap.size with hlt | hge
      · exact hlt
      · rw [Array.getElem?_eq_none hge] at hh; cases hh
end
/-- a name that is a member of a row. -/
structure NmB (b : Nat) (w : World) (q : Value × List (List UInt8)) : Prop where
  sl : SlB b 9 w 1 q.1 q.2.length (q.2.map stv)
  few : q.2.length ≤ 1000000000
  len : ∀ l ∈ q.2, l.length ≤ 140737488351232
theorem NmB.ok {b : Nat} {w : World} {q : Value × List (List UInt8)} (h : NmB b w q) : NmOk w q := ⟨h.sl.sl, h.few, h.len⟩
theorem NmB.bel {b : Nat} {w w' : World} {q : Value × List (List UInt8)} (h : NmB b w q) (hb : Below w.heap.size w w') : NmB b w' q := ⟨h.sl.bel hb, h.few, h.len⟩
theorem NmB.old {b : Nat} {w : World} {q : Value × List (List UInt8)} (h : NmOk w q) (hb : w.heap.size ≤ b) : NmB b w q := ⟨.old h.sl hb, h.few, h.len⟩
/-- both together, the row being of the call's own. -/
def CatOwn (w : World) (A B : List (List UInt8)) (e : Ending) (w' : World) : Prop :=
  ∃ v, e = .returned (.tuple #[v, .int .i64 (chk (A ++ B))]) ∧ (∃ C : List (List UInt8), C = (if chk (A ++ B) = 0 then A ++ B else []) ∧ w'.ownsRow w.heap.size 9 1 v C.length (C.map stv)) ∧ Below w.heap.size w w'
theorem CatOwn.ok {w w' : World} {A B : List (List UInt8)} {v : Value} (h : chk (A ++ B) = 0) (hs : w'.ownsRow w.heap.size 9 1 v (A ++ B).length ((A ++ B).map stv)) (hb : Below w.heap.size w w') : CatOwn w A B (.returned (.tuple #[v, .int .i64 0])) w' :=
  ⟨v, by rw [h], ⟨_, rfl, by rw [if_pos h]; exact hs⟩, hb⟩
theorem CatOwn.no {w w' : World} {A B : List (List UInt8)} (h : chk (A ++ B) ≠ 0) (hb : Below w.heap.size w w') : CatOwn w A B (.returned (.tuple #[.slice none 0 0, .int .i64 (chk (A ++ B))])) w' :=
  ⟨_, rfl, ⟨_, rfl, by rw [if_neg h]; simpa using World.ownsRow_nil w' w.heap.size 9 1⟩, hb⟩

end Go.Proofs.YtgebcifkbldfoaaGreatDoor

/- Rows of names (what XSeQ has, for seats without resolv). -/
namespace Go.Proofs.YtgebcifkbldfoaaGreatDoor
open Go.RowKit

abbrev NmL := List (List UInt8)
/-- a row of names that is read. -/
structure NmsAt (w : World) (v : Value) (C : List NmL) (N : List (Value × NmL)) : Prop where
  sl : Sl w 1 v N.length (N.flatMap nmF)
  ok : ∀ q ∈ N, NmOk w q
  is : N.map (·.2) = C
theorem NmsAt.bel {w w' : World} {v : Value} {C : List NmL} {N : List (Value × NmL)} (h : NmsAt w v C N) (hb : Below w.heap.size w w') : NmsAt w' v C N := ⟨h.sl.below hb, fun q hq => (h.ok q hq).bel hb, h.is⟩
end Go.Proofs.YtgebcifkbldfoaaGreatDoor

/- Sources (nss): a number and four flags, with their laws. -/
namespace Go.Proofs.YtgebcifkbldfoaaGreatDoor
open Go.RowKit

/-- a source: its kind, and whether one stops at each status. -/
structure So where
  k : Int
  st : List Bool
  ok : st.length = 4
theorem So.same {a b : So} (h1 : a.k = b.k) (h2 : a.st = b.st) : a = b := by cases a; cases b; simp only at h1 h2; subst h1 h2; rfl
theorem So.same_iff {a b : So} : (a.k = b.k ∧ a.st = b.st) ↔ a = b := ⟨fun ⟨h1, h2⟩ => So.same h1 h2, fun h => by rw [h]; exact ⟨rfl, rfl⟩⟩
instance : DecidableEq So := fun _ _ => decidable_of_iff _ So.same_iff
theorem So.len (s : So) : s.st.length = 4 := s.ok
/-! ### equality -/
end Go.Proofs.YtgebcifkbldfoaaGreatDoor
