/- Contracts and plain lemmas of our own, merged. -/
import Derived.Test.YtgebcifkbldfoaaDoorZRj22
import Derived.Test.YtgebcifkbldfoaaDoorZRj27
import Derived.Test.YtgebcifkbldfoaaDoorZRj28
import Derived.Test.YtgebcifkbldfoaaDoorZRj4
/- hosts.Parse: what a file of hosts says. -/
namespace Go.Proofs.YtgebcifkbldfoaaDoor
open Go.RowKit
attribute [local go_sem] ba_get ext_take ext_drop ext_any ba_app

theorem heap_lt {W : World} {o : Obj} {g : Nat} (h : W.heap[g]? = some o) : g < W.heap.size := by
  rcases Nat.lt_or_ge g W.heap.size with hlt | hge
  · exact hlt
  · rw [Array.getElem?_eq_none hge] at h; cases h
/-- a block (if any) at or above b, none of these types' cells. -/
structure Harm (T : List TypeId) (b : Nat) (W : World) (row : Option Nat) : Prop where
  ge : ∀ r, row = some r → b ≤ r
  ne : ∀ g cur t fr, W.heap[g]? = some (.cells cur t fr) → t ∈ T → some g ≠ row
theorem Harm.loop {T : List TypeId} {B b : Nat} {W : World} {row : Option Nat} (hb : b ≤ B) (hr : ∀ r, row = some r → B ≤ r ∧ ∃ o : Obj, W.heap[r]? = some o ∧ o.isCells = false) : Harm T b W row := by
  refine ⟨fun r e => Nat.le_trans hb (hr r e).1, fun g cur t fr hg _ e => ?_⟩
  obtain ⟨_, o, h1, h2⟩ := hr g e.symm
  rw [hg] at h1
  cases h1
  cases h2
theorem Harm.type {T : List TypeId} {b g : Nat} {W : World} {cs : Array Value} {t' : TypeId} {fr' : Nat × Nat} (hb : b ≤ g) (hB : W.heap[g]? = some (.cells cs t' fr')) (hT : t' ∉ T) : Harm T b W (some g) := by
  refine ⟨fun r e => by cases e; exact hb, fun k cur t fr hk ht e => ?_⟩
  cases e
  rw [hk] at hB
  cases hB
  exact hT ht
theorem Harm.own {T : List TypeId} {b b' size n : Nat} {e : TypeId} {W : World} {v : Value} {xs : List Value} (hb : b ≤ b') (h : W.ownsRow b' e size v n xs) (hT : e ∉ T) : Harm T b W v.ownBlock := by
  rcases h.2 with ⟨rfl, _⟩ | ⟨g', cap, cur, rfl, hb', hg', _⟩
  · exact ⟨(fun r e => by cases e), (fun g cur t fr hg _ e => by cases e)⟩
  · exact Harm.type (Nat.le_trans hb hb') hg' hT
theorem Harm.mono {T T' : List TypeId} {b b' : Nat} {W : World} {row : Option Nat} (h : Harm T b W row) (hT : ∀ t ∈ T', t ∈ T) (hb : b' ≤ b) : Harm T' b' W row := ⟨fun r e => Nat.le_trans hb (h.ge r e), fun g cur t fr hg ht => h.ne g cur t fr hg (hT t ht)⟩
theorem Stays.grown {g : Nat} {w w' : World} (h : Stays g w w') : w.grownBy w' (some g) := ⟨h.os, h.tape, h.output, Nat.le_of_eq h.size.symm, fun k _ hne => h.block k (fun e => hne (by rw [e]))⟩
section
variable {b size n : Nat} {t e : TypeId} {W W' : World} {v : Value} {xs : List Value} {row : Option Nat}
theorem SlB.kept (hs : SlB b t W size v n xs) (hg : W.grownBy W' row) (hh : Harm [t] b W row) : SlB b t W' size v n xs := by
  have key : ∀ g off c, v = .slice (some ⟨g, off, none⟩) n c → 0 < n → some g ≠ row := by
    intro g off c hv hn hgo
    rcases hs.far g off c hv hn with hl | ⟨cur2, fr, h2⟩
    · have := hh.ge g hgo.symm; omega
    · exact hh.ne g cur2 t fr h2 (by simp) hgo
  refine ⟨?_, fun g off c hv hn => ?_⟩
  · obtain ⟨h0, A, c, rfl, hc, hA, hcell⟩ := hs.sl
    refine ⟨h0, A, c, rfl, hc, hA, fun ad had hn => ?_⟩
    obtain ⟨h1, h2, h3⟩ := hcell ad had hn
    obtain ⟨g, off, sp⟩ := ad
    dsimp only at h1 h2 h3
    subst had h2
    exact ⟨Nat.lt_of_lt_of_le h1 hg.size, rfl, fun j u hu => hg.cell (h3 j u hu) (key g off c rfl hn)⟩
  · rcases hs.far g off c hv hn with hl | ⟨cur, fr, hh2⟩
    · exact .inl hl
    · exact .inr ⟨cur, fr, (hg.block g (heap_lt hh2) (key g off c hv hn)).trans hh2⟩
theorem NmB.kept {q : Value × NmL} (hs : NmB b W q) (hg : W.grownBy W' row) (hh : Harm [9] b W row) : NmB b W' q := ⟨hs.sl.kept hg hh, hs.few, hs.len⟩
theorem HoB.kept {h : Ho} (hs : HoB b W h) (hg : W.grownBy W' row) (hh : Harm [51, 9] b W row) : HoB b W' h :=
  ⟨hs.sl.kept hg (hh.mono (by simp) (Nat.le_refl _)), fun q hq => (hs.nm q hq).kept hg (hh.mono (by simp) (Nat.le_refl _)), hs.few⟩
theorem row_kept (hs : W.ownsRow b e size v n xs) (hg : W.grownBy W' row) (hh : Harm [e] b W row) : W'.ownsRow b e size v n xs := by
  refine hs.kept hg ?_
  rcases hs.2 with ⟨rfl, _⟩ | ⟨g', cap, cur, rfl, hb', hg', _⟩
  · exact .inl rfl
  · refine .inr ?_
    have := hh.ne _ _ _ _ hg' (by simp)
    simpa [Value.ownBlock] using this
theorem HosOwn.kept {H : List Ho} (hs : HosOwn b W v H) (hg : W.grownBy W' row) (hh : Harm [106, 51, 9] b W row) : HosOwn b W' v H :=
  ⟨row_kept hs.own hg (hh.mono (by simp) (Nat.le_refl _)), fun q hq => (hs.ok q hq).kept hg (hh.mono (by simp) (Nat.le_refl _))⟩
theorem Below.kept {w : World} (hs : Below b w W) (hw : b ≤ W.heap.size) (hg : W.grownBy W' row) {T : List TypeId} (hh : Harm T b W row) : Below b w W' := hs.grown hg hw (fun k hk => hh.ge k hk)
end
attribute [local go_sem] Oper.semAt_some
/-- behind i of the lines. -/
def HosI (w : World) (g3 : Nat) (S : List (Nat × List (List UInt8))) (i : Nat) (V : World) : Prop :=
  ∃ v H, Boxed V g3 45 v ∧ HosOwn w.heap.size V v H ∧ H.map hoP = (S.take i).filterMap (fun c => hostP c.2) ∧ Below w.heap.size w V ∧ ∀ h ∈ H, HoB 0 V h
theorem HosI.kept {w : World} {g3 i : Nat} {S : List (Nat × List (List UInt8))} {W W' : World} {row : Option Nat} (h : HosI w g3 S i W) (hg : W.grownBy W' row) (hh : Harm [106, 51, 9] w.heap.size W row) (hne : some g3 ≠ row) : HosI w g3 S i W' := by
  obtain ⟨v, H, h1, h2, h3, h4, h5⟩ := h
  exact ⟨v, H, (hg.block g3 h1.lt hne).trans h1, h2.kept hg hh, h3, Below.kept h4 h4.size hg hh, fun q hq => (h5 q hq).kept hg (hh.mono (by simp) (Nat.zero_le _))⟩
end Go.Proofs.YtgebcifkbldfoaaDoor

/- What resolv.conf says, in plain words. -/
namespace Go.Proofs.YtgebcifkbldfoaaDoor
open Go.RowKit

/-- how many bits an address of this first byte has. -/
def clsB (b : UInt8) : Nat := if b.toNat < 128 then 8 else if b.toNat < 192 then 16 else if b.toNat < 224 then 24 else 32
theorem clsB_le (b : UInt8) : clsB b ≤ 32 := by
  unfold clsB
  split
  · decide
  · split
    · decide
    · split <;> decide
/-- the first k bytes of an address as a number. -/
def mskV (a : Ad) : Nat → Nat
  | 0 => 0
  | k + 1 => mskV a k * 256 + (a.b k).toNat
theorem mskV_lt (a : Ad) : ∀ k, mskV a k < 256 ^ k
  | 0 => by simp [mskV]
  | k + 1 => by
    have h := mskV_lt a k
    have hb := (a.b k).toNat_lt
    rw [mskV, Nat.pow_succ]
    omega
/-- how many ones stand ahead. -/
def mskN (a : Ad) : Nat := 32 - Lib.bitLen (4294967295 - mskV a 4)
theorem mskN_le (a : Ad) : mskN a ≤ 32 := Nat.sub_le _ _
def mskB (a : Ad) : Option Nat := if (mskV a 4 * 2 ^ mskN a) % 4294967296 = 0 then some (mskN a) else none
/-- an address with so many bits. -/
def pfN (a : Ad) (n : Nat) : Pf := ⟨a, (min n 32 : Nat), by omega⟩
def numO (s : List UInt8) (most : Nat) : Option Nat := if s ≠ [] ∧ s.all dgB = true then (if val s ≤ most then some (val s) else none) else none
def bitsO (s : List UInt8) : Option Nat := match numO s 32 with
  | some n => some n
  | none => match qpA s with
    | none => none
    | some m => mskB m
theorem numO_le {s : List UInt8} {m n : Nat} (h : numO s m = some n) : n ≤ m := by
  unfold numO at h
  split at h
  · split at h
    · injection h with h; omega
    · cases h
  · cases h
/-- the prefix that a text is. -/
def pairP (s : List UInt8) : Option Pf := match idx 47 s with
  | none => (qpA s).map fun a => pfN a (clsB (a.b 0))
  | some k => match qpA (s.take k) with
    | none => none
    | some a => (bitsO (s.drop (k + 1))).map (pfN a)
def pairsP (F : List (List UInt8)) : Option (List Pf) := if F.all (fun x => (pairP x).isSome) = true then some (F.filterMap pairP) else none
structure Rv where
  S : List Ad
  N : List NmL
  P : List Pf
  nd : Int
  tm : Int
  tr : Int
  rot : Bool
  vc : Bool
  sg : Bool
  ed : Bool
def rv0 : Rv := ⟨[], [], [], 1, 5, 2, false, false, false, false⟩
def wNs : List UInt8 := [110, 97, 109, 101, 115, 101, 114, 118, 101, 114]
def wDo : List UInt8 := [100, 111, 109, 97, 105, 110]
def wSe : List UInt8 := [115, 101, 97, 114, 99, 104]
def wSo : List UInt8 := [115, 111, 114, 116, 108, 105, 115, 116]
def wOp : List UInt8 := [111, 112, 116, 105, 111, 110, 115]
def addS (S : List Ad) : List (List UInt8) → List Ad
  | [f] => if S.length < 3 then (match adrP f with | .inr a => S ++ [a] | .inl _ => S) else S
  | _ => S
def newN : List (List UInt8) → Option (List NmL)
  | [] => none
  | f :: F => (namesP (f :: F)).map (·.take 6)
def domN : List (List UInt8) → Option (List NmL)
  | [f] => newN [f]
  | _ => none
def newP : List (List UInt8) → Option (List Pf)
  | [] => none
  | f :: F => (pairsP (f :: F)).map (·.take 10)
/-- a number that is told. -/
def setV (old : Int) (s : List UInt8) (least most : Nat) : Int := if s ≠ [] ∧ s.all dgB = true then (if val s ≤ most then max (val s : Int) least else most) else old
def optN (p : List UInt8) (old : Int) (least most : Nat) (s : List UInt8) : Int := if Lib.hasPrefix s p = true then setV old (Lib.trimPrefix s p) least most else old
def pNd : List UInt8 := [110, 100, 111, 116, 115, 58]
def pTm : List UInt8 := [116, 105, 109, 101, 111, 117, 116, 58]
def pTr : List UInt8 := [97, 116, 116, 101, 109, 112, 116, 115, 58]
def wRot : List UInt8 := [114, 111, 116, 97, 116, 101]
def wVc : List UInt8 := [117, 115, 101, 45, 118, 99]
def wSg : List UInt8 := [115, 105, 110, 103, 108, 101, 45, 114, 101, 113, 117, 101, 115, 116]
def wEd : List UInt8 := [101, 100, 110, 115, 48]
def optF (R : Rv) (s : List UInt8) : Rv := { R with rot := R.rot || decide (s = wRot), vc := R.vc || decide (s = wVc), sg := R.sg || decide (s = wSg), ed := R.ed || decide (s = wEd) }
def optS (R : Rv) (s : List UInt8) : Rv :=
  { optF R s with nd := optN pNd R.nd 0 15 s, tm := optN pTm R.tm 1 30 s, tr := optN pTr R.tr 1 5 s }
/-- what a line makes of what was said. -/
def sayS (R : Rv) (f : List UInt8) (F : List (List UInt8)) : Rv :=
  if f = wNs then { R with S := addS R.S F }
  else if f = wDo then { R with N := (domN F).getD R.N }
  else if f = wSe then { R with N := (newN F).getD R.N }
  else if f = wSo then { R with P := (newP F).getD R.P }
  else if f = wOp then F.foldl optS R
  else R
def lnR (R : Rv) : List (List UInt8) → Rv
  | [] => R
  | f :: F => sayS R f F
/-- what a file says. -/
def rvP (s : List UInt8) : Rv := (alL false s).foldl (fun R c => lnR R c.2) rv0
end Go.Proofs.YtgebcifkbldfoaaDoor

/- What resolv.conf says, in memory; resolv.set. -/
namespace Go.Proofs.YtgebcifkbldfoaaDoor
open Go.RowKit
attribute [local go_sem] ba_get ext_take ext_drop ext_any ba_app

def rvL (vs vn vp : Value) (R : Rv) : List Value := [vs, vn, vp, .int .i64 R.nd, .int .i64 R.tm, .int .i64 R.tr, .bool R.rot, .bool R.vc, .bool R.sg, .bool R.ed]
def rvA (vs vn vp : Value) (R : Rv) : Array Value := (rvL vs vn vp R).toArray
structure RvOwn (b : Nat) (w : World) (vs vn vp : Value) (R : Rv) : Prop where
  s : w.ownsRow b 34 18 vs R.S.length (R.S.flatMap adL)
  n : ∃ N, NmsOwn b w vn R.N N ∧ ∀ q ∈ N, NmB 0 w q
  p : w.ownsRow b 72 19 vp R.P.length (R.P.flatMap pfL)
abbrev tyR : List TypeId := [34, 51, 72, 9]
theorem harm_none (T : List TypeId) (b : Nat) (W : World) : Harm T b W none := ⟨(fun r e => by cases e), (fun _ _ _ _ _ _ e => by cases e)⟩
theorem NmsOwn.kept {b : Nat} {W W' : World} {v : Value} {C : List NmL} {N : List (Value × NmL)} {row : Option Nat} (h : NmsOwn b W v C N) (hg : W.grownBy W' row) (hh : Harm [51, 9] b W row) : NmsOwn b W' v C N :=
  ⟨row_kept h.own hg (hh.mono (by simp) (Nat.le_refl _)), fun q hq => (h.ok q hq).kept hg (hh.mono (by simp) (Nat.le_refl _)), h.is⟩
theorem RvOwn.kept {b : Nat} {W W' : World} {vs vn vp : Value} {R : Rv} {row : Option Nat} (h : RvOwn b W vs vn vp R) (hg : W.grownBy W' row) (hh : Harm tyR b W row) : RvOwn b W' vs vn vp R := by
  obtain ⟨N, h1, h2⟩ := h.n
  exact ⟨row_kept h.s hg (hh.mono (by simp) (Nat.le_refl _)), ⟨N, h1.kept hg (hh.mono (by simp) (Nat.le_refl _)), fun q hq => (h2 q hq).kept hg (hh.mono (by simp) (Nat.zero_le _))⟩, row_kept h.p hg (hh.mono (by simp) (Nat.le_refl _))⟩
theorem RvOwn.bel {b : Nat} {W W' : World} {vs vn vp : Value} {R : Rv} (h : RvOwn b W vs vn vp R) (hb : Below W.heap.size W W') : RvOwn b W' vs vn vp R := h.kept (gr_none hb) (harm_none _ _ _)
/-- all that stood stands, but for blocks at or above b of these types. -/
structure Chg (b : Nat) (T : List TypeId) (V W : World) : Prop where
  os : W.os = V.os
  tape : W.tape = V.tape
  output : W.output = V.output
  size : V.heap.size ≤ W.heap.size
  block : ∀ k, k < V.heap.size → (k < b ∨ ∀ cur t fr, V.heap[k]? = some (.cells cur t fr) → t ∉ T) → W.heap[k]? = V.heap[k]?
section
variable {b : Nat} {T : List TypeId} {U V W : World}
theorem Chg.refl (b : Nat) (T : List TypeId) (V : World) : Chg b T V V := ⟨rfl, rfl, rfl, Nat.le_refl _, fun _ _ _ => rfl⟩
theorem Chg.trans (h : Chg b T U V) (k : Chg b T V W) : Chg b T U W :=
  ⟨k.os.trans h.os, k.tape.trans h.tape, k.output.trans h.output, Nat.le_trans h.size k.size, fun i hi hc => by
    have h1 := h.block i hi hc
    exact (k.block i (Nat.lt_of_lt_of_le hi h.size) (by rw [h1]; exact hc)).trans h1⟩
theorem Chg.of_bel (h : Below V.heap.size V W) : Chg b T V W := ⟨h.os, h.tape, h.output, h.size, fun k hk _ => h.block k hk⟩
theorem Chg.of_grown {row : Option Nat} (h : V.grownBy W row) (hr : ∀ r, row = some r → b ≤ r ∧ ∃ cur t fr, V.heap[r]? = some (.cells cur t fr) ∧ t ∈ T) : Chg b T V W :=
  ⟨h.os, h.tape, h.output, h.size, fun k hk hc => h.block k hk (fun e => by
    obtain ⟨h1, cur, t, fr, h2, h3⟩ := hr k e.symm
    rcases hc with hc | hc
    · omega
    · exact hc cur t fr h2 h3)⟩
theorem Chg.of_stays {g : Nat} {t : TypeId} {cs : Array Value} (h : Stays g V W) (hB : Bk V g t cs) (hg : b ≤ g) (ht : t ∈ T) : Chg b T V W :=
  Chg.of_grown h.grown (fun r e => by cases e; exact ⟨hg, _, _, _, hB, ht⟩)
theorem Chg.of_own {e : TypeId} {size n : Nat} {v : Value} {xs : List Value} (ho : V.ownsRow b e size v n xs) (h : V.grownBy W v.ownBlock) (ht : e ∈ T) : Chg b T V W :=
  Chg.of_grown h (fun r hr => by
    rcases ho.2 with ⟨rfl, _⟩ | ⟨g', cap, cur, rfl, hb', hg', _⟩
    · cases hr
    · cases hr
      exact ⟨hb', _, _, _, hg', ht⟩)
theorem Chg.bk (h : Chg b T V W) {k : Nat} {t : TypeId} {cs : Array Value} (hB : Bk V k t cs) (ht : t ∉ T) : Bk W k t cs :=
  (h.block k (heap_lt hB) (.inr fun cur t' fr he => by rw [show V.heap[k]? = _ from hB] at he; cases he; exact ht)).trans hB
theorem Chg.bel (h : Chg b T V W) (hb : b ≤ V.heap.size) : Below b V W := ⟨h.os, h.tape, h.output, h.size, fun k hk => h.block k (by omega) (.inl hk)⟩
theorem Chg.other (h : Chg b T V W) {k : Nat} {o : Obj} (ho : V.heap[k]? = some o) (hc : o.isCells = false) : W.heap[k]? = some o :=
  (h.block k (heap_lt ho) (.inr fun cur t fr he => by rw [ho] at he; cases he; cases hc)).trans ho
theorem Chg.keeps (h : Chg b T V W) (B : Nat) : KeepsFrom B V W := ⟨h.size, fun _ _ _ ho hc => h.other ho hc⟩
theorem Chg.kpA (h : Chg b T V W) (h1 : 4 ∉ T) (h2 : 121 ∉ T) : KpA V W := fun _ _ => ⟨fun x => h.bk x h1, fun x => h.bk x h2⟩
end
/-- what was said so far lies in the block g. -/
def RvAt (b : Nat) (w : World) (g : Nat) (R : Rv) : Prop := ∃ vs vn vp, Bk w g 116 (rvA vs vn vp R) ∧ RvOwn b w vs vn vp R
abbrev tyC : List TypeId := [34, 116]
theorem RvAt.bel {b : Nat} {w w' : World} {g : Nat} {R : Rv} (h : RvAt b w g R) (hb : Below w.heap.size w w') : RvAt b w' g R := by
  obtain ⟨vs, vn, vp, h1, h2⟩ := h
  exact ⟨vs, vn, vp, h1.bel hb, h2.bel hb⟩
theorem RvOwn.stays {b g : Nat} {w w' : World} {vs vn vp vs' vn' vp' : Value} {R R' : Rv} (h : RvOwn b w vs vn vp R) (hs : Stays g w w') (hB : Bk w g 116 (rvA vs' vn' vp' R')) (hg : b ≤ g) : RvOwn b w' vs vn vp R :=
  h.kept hs.grown (Harm.type hg (show w.heap[g]? = _ from hB) (by decide))
def RslPost (b g : Nat) (w : World) (R : Rv) (e : Ending) (w' : World) : Prop := e = .returned (.tuple #[]) ∧ RvAt b w' g R ∧ Chg b tyC w w'
theorem numV_cases (s : List UInt8) (old : Int) (least most : Nat) : (numV s most = .tuple #[.int .i64 0, .int .i64 5] ∧ setV old s least most = old) ∨ (numV s most = .tuple #[.int .i64 0, .int .i64 4] ∧ setV old s least most = most) ∨ (numV s most = .tuple #[.int .i64 (val s), .int .i64 0] ∧ val s ≤ most ∧ setV old s least most = max (val s : Int) least) := by
  unfold numV setV
  by_cases h : s ≠ [] ∧ s.all dgB = true
  · rw [if_pos h, if_pos h]
    by_cases h2 : val s ≤ most
    · rw [if_pos (by omega), if_pos h2]
      exact .inr (.inr ⟨rfl, h2, rfl⟩)
    · rw [if_neg (by omega), if_neg h2]
      exact .inr (.inl ⟨rfl, rfl⟩)
  · rw [if_neg h, if_neg h]
    exact .inl ⟨rfl, rfl⟩
theorem Bk.set_same {w : World} {g i : Nat} {t : TypeId} {cs : Array Value} {v : Value} (h : Bk w g t cs) (hc : cs[i]? = some v) : Bk w g t (cs.setIfInBounds i v) := by
  rw [show cs.setIfInBounds i v = cs from by
    apply Array.ext'
    rw [Array.toList_setIfInBounds]
    obtain ⟨hi, he⟩ := Array.getElem?_eq_some_iff.1 hc
    rw [← he, ← Array.getElem_toList]
    exact List.set_getElem_self _]
  exact h
set_option maxRecDepth 100000 in
set_option maxHeartbeats 1000000 in
theorem rset_any (s : List UInt8) (least most : Nat) (old : Int) (g i : Nat) (t : TypeId) (cs : Array Value) (w : World) (hB : Bk w g t cs) (hc : cs[i]? = some (.int .i64 old)) (hl : s.length ≤ 1000000000) (hm : most ≤ 1000000) :
    Calls Tryd.prog 136 #[.pointer (some ⟨g, i, none⟩), .string ⟨s.toArray⟩, .int .i64 least, .int .i64 most] w
      fun e w' => e = .returned (.tuple #[]) ∧ Bk w' g t (cs.setIfInBounds i (.int .i64 (setV old s least most))) ∧ Stays g w w' := by
  have HX := Lib.hid (number_any s most w (by omega) (by omega) (by omega))
  have cg := (hB.cell i).trans hc
  have fg := hB.free i
  have HB := Lib.hid hB
  have HS := Lib.hid (Stays.cell w g i)
  rcases numV_cases s old least most with ⟨h1, h2⟩ | ⟨h1, h2⟩ | ⟨h1, hle, h2⟩
  · rw [h1] at HX
    rw [h2]
    have HC := Lib.hid (hB.set_same hc)
    clear h1 h2 hB hc
    go_enter Tryd.func136, Tryd.ntmps136
    go_wp2_with (first
      | (go_at_call 115; refine HX.out.mono ?_; rintro e w2 ⟨rfl, hw⟩; subst hw))
    go_end0
    exact ⟨rfl, HC.out, ⟨rfl, rfl, rfl, rfl, fun _ _ => rfl⟩⟩
  · rw [h1] at HX
    rw [h2]
    clear h1 h2 hB hc
    go_enter Tryd.func136, Tryd.ntmps136
    go_wp2_with (first
      | (go_at_call 115; refine HX.out.mono ?_; rintro e w2 ⟨rfl, hw⟩; subst hw))
    go_end0
    exact ⟨rfl, HB.out.set_ i _, HS.out _⟩
  · rw [h1] at HX
    rw [h2]
    clear h1 h2 hB hc
    generalize val s = n at *
    go_enter Tryd.func136, Tryd.ntmps136
    go_wp2_with (first
      | (go_at_call 115; refine HX.out.mono ?_; rintro e w2 ⟨rfl, hw⟩; subst hw))
    go_end0
    exact ⟨rfl, HB.out.set_ i _, HS.out _⟩
end Go.Proofs.YtgebcifkbldfoaaDoor
