/- Contracts and plain lemmas of our own, merged. -/
import Derived.Test.YtgebcifkbldfoaaDoorZRj25
import Derived.Test.YtgebcifkbldfoaaDoorZRj30
import Derived.Test.YtgebcifkbldfoaaDoorShelf
import Derived.Deep.CutBlock
import Derived.Deep.DeepCutAuto
/- resolv: an option. -/
namespace Go.Proofs.YtgebcifkbldfoaaDoor
open Go.RowKit
attribute [local go_sem] ba_get ext_take ext_drop ext_any ba_app

/-- one cell of a block is stored into. -/
theorem wpList_storeR {P : Program} {w : World} {ops : Array Oper} {rest : List Oper} {o : Oper} {a : Act} {Q : Exit → Act → World → Prop} (hgd : o.guard = none) (ty : TypeId) (x y : Operand) (ho : o.op = .store ty x y) {g i : Nat} {v : Value} (hx : a.eval x = .pointer (some ⟨g, i, none⟩)) (hy : a.eval y = v) (h1 : v.oneCell' = true)
    {t : TypeId} {cs : Array Value} (hB : Bk w g t cs) (hi : i < cs.size) (hsz : (P.info? ty).map (·.size) = some 1)
    (h : ∀ w', Bk w' g t (cs.setIfInBounds i v) → Stays g w w' → wpList P ops Q rest (a.put o.dst undef) w') : wpList P ops Q (o :: rest) a w := by
  refine wpList_plain hgd fun _ hK => ?_
  have hr : (storeVar ty ⟨g, i, none⟩ v).run P w = .ok () (w.setCell ⟨g, i, none⟩ v) := by
    have := run_storeCells_cells (P := P) g i [v] 0 w (fun j hj => by
      have hj0 : j = 0 := by simpa using hj
      subst hj0
      rw [hB.cell, Array.getElem?_eq_getElem (by simpa using hi)]; rfl) (fun j _ => hB.free _) (fun u hu => by rw [List.mem_singleton.1 hu]; exact h1)
    have hc : v.cells = #[v] := by cases v <;> first | rfl | cases h1
    cases hq : P.info? ty with
    | none => simp [hq] at hsz
    | some ie =>
      have hs : ie.size = 1 := by simpa [hq] using hsz
      simp [storeVar, sizeOf, typeInfo, hq, hc, hs, this, World.setCells]
  unfold Oper.wp execOp
  simp only [ho, hx, hy, Instr.storeAt, Instr.sureAddr, Sem.run_bind, Sem.run_pure, Result.andThen_ok, hr]
  exact hK _ _ (h _ (hB.set_ i v) (Stays.cell w g i v))
theorem sz_bool : (Tryd.prog.info? 4).map (·.size) = some 1 := by kernel_rfl
theorem sz_adsR : (Tryd.prog.info? 54).map (·.size) = some 1 := by kernel_rfl
theorem sz_nmsR : (Tryd.prog.info? 62).map (·.size) = some 1 := by kernel_rfl
theorem sz_pfsR : (Tryd.prog.info? 66).map (·.size) = some 1 := by kernel_rfl
theorem cutp_any (s p : List UInt8) (w : World) : Calls Tryd.prog 135 #[.string ⟨s.toArray⟩, .string ⟨p.toArray⟩] w fun e w' => e = .returned (.tuple #[.string ⟨(Lib.trimPrefix s p).toArray⟩, .bool (Lib.hasPrefix s p)]) ∧ w = w' :=
  (Tryd.strings_CutPrefix ⟨s.toArray⟩ ⟨p.toArray⟩ w).mono fun _ _ ⟨he, hw⟩ => ⟨he, hw.symm⟩
theorem trimP_len (s p : List UInt8) : (Lib.trimPrefix s p).length ≤ s.length := by
  unfold Lib.trimPrefix
  split
  · rw [List.length_drop]; omega
  · exact Nat.le_refl _
theorem optF_rot (R : Rv) : optF R wRot = { R with rot := true } := by
  obtain ⟨S, N, P, nd, tm, tr, rot, vc, sg, ed⟩ := R
  cases rot <;> cases vc <;> cases sg <;> cases ed <;> rfl
theorem optF_vc (R : Rv) : optF R wVc = { R with vc := true } := by
  obtain ⟨S, N, P, nd, tm, tr, rot, vc, sg, ed⟩ := R
  cases rot <;> cases vc <;> cases sg <;> cases ed <;> rfl
theorem optF_sg (R : Rv) : optF R wSg = { R with sg := true } := by
  obtain ⟨S, N, P, nd, tm, tr, rot, vc, sg, ed⟩ := R
  cases rot <;> cases vc <;> cases sg <;> cases ed <;> rfl
theorem optF_ed (R : Rv) : optF R wEd = { R with ed := true } := by
  obtain ⟨S, N, P, nd, tm, tr, rot, vc, sg, ed⟩ := R
  cases rot <;> cases vc <;> cases sg <;> cases ed <;> rfl
theorem optF_no {R : Rv} {s : List UInt8} (h1 : s ≠ wRot) (h2 : s ≠ wVc) (h3 : s ≠ wSg) (h4 : s ≠ wEd) : optF R s = R := by
  unfold optF
  rw [decide_eq_false h1, decide_eq_false h2, decide_eq_false h3, decide_eq_false h4]
  simp
theorem Stays.same (g : Nat) (w : World) : Stays g w w := ⟨rfl, rfl, rfl, rfl, fun _ _ => rfl⟩
theorem RvAt.chg {b g : Nat} {w : World} {R : Rv} (h : RvAt b w g R) : RvAt b w g R ∧ Stays g w w := ⟨h, Stays.same _ _⟩
/-- a store into the block of what was said. -/
theorem RvAt.put {b g : Nat} {w w' : World} {vs vn vp : Value} {R R' : Rv} {cs : Array Value} (hB : Bk w g 116 (rvA vs vn vp R)) (hO : RvOwn b w vs vn vp R) (hg : b ≤ g) (hs : Stays g w w') (hB' : Bk w' g 116 cs) (hc : cs = rvA vs vn vp R') (h1 : R'.S = R.S) (h2 : R'.N = R.N) (h3 : R'.P = R.P) : RvAt b w' g R' ∧ Stays g w w' := by
  have h := hO.stays hs hB hg
  refine ⟨⟨vs, vn, vp, by rw [← hc]; exact hB', by rw [h1]; exact h.s, by rw [h2]; exact h.n, by rw [h3]; exact h.p⟩, hs⟩
set_option maxRecDepth 100000 in
set_option maxHeartbeats 2000000 in
theorem opt_any (b g : Nat) (R : Rv) (s : List UInt8) (w : World) (h : RvAt b w g R) (hg : b ≤ g) (hl : s.length ≤ 1000000) :
    Calls Tryd.prog 101 #[.pointer (some ⟨g, 0, none⟩), .string ⟨s.toArray⟩] w (fun e w' => e = .returned (.tuple #[]) ∧ RvAt b w' g (optS R s) ∧ Stays g w w') := by
  have H := Lib.hid h
  clear h
  go_enter Tryd.func101, Tryd.ntmps101
  go_upto_block 0 with (fail)
  go_cut [11] (fun _ wx => RvAt b wx g (optF R s) ∧ Stays g w wx)
  case first =>
    by_cases h1 : s = wRot
    · subst h1
      unfold wRot
      obtain ⟨vs, vn, vp, hB, hO⟩ := H.out
      have HB := Lib.hid hB
      have HO := Lib.hid hO
      have e2 := Lib.hid (optF_rot R)
      clear hB hO
      go_wp2_with (first
        | ((with_reducible refine wpList_storeR (o := ⟨none, .store 4 (.tmp 16) _, _, _, _, _⟩) rfl _ _ _ rfl rfl rfl rfl HB.out (show 6 < 10 from by decide) sz_bool ?_); intro w2 hB2 hS2; have HB2 := Lib.hid hB2; have HS2 := Lib.hid hS2; clear hB2 hS2))
      go_meet
      rw [e2.out]
      exact RvAt.put HB.out HO.out hg HS2.out HB2.out rfl rfl rfl rfl
    by_cases h2 : s = wVc
    · subst h2
      unfold wVc
      obtain ⟨vs, vn, vp, hB, hO⟩ := H.out
      have HB := Lib.hid hB
      have HO := Lib.hid hO
      have e2 := Lib.hid (optF_vc R)
      clear hB hO
      go_wp2_with (first
        | ((with_reducible refine wpList_storeR (o := ⟨none, .store 4 (.tmp 22) _, _, _, _, _⟩) rfl _ _ _ rfl rfl rfl rfl HB.out (show 7 < 10 from by decide) sz_bool ?_); intro w2 hB2 hS2; have HB2 := Lib.hid hB2; have HS2 := Lib.hid hS2; clear hB2 hS2))
      go_meet
      rw [e2.out]
      exact RvAt.put HB.out HO.out hg HS2.out HB2.out rfl rfl rfl rfl
    by_cases h3 : s = wSg
    · subst h3
      unfold wSg
      obtain ⟨vs, vn, vp, hB, hO⟩ := H.out
      have HB := Lib.hid hB
      have HO := Lib.hid hO
      have e2 := Lib.hid (optF_sg R)
      clear hB hO
      go_wp2_with (first
        | ((with_reducible refine wpList_storeR (o := ⟨none, .store 4 (.tmp 28) _, _, _, _, _⟩) rfl _ _ _ rfl rfl rfl rfl HB.out (show 8 < 10 from by decide) sz_bool ?_); intro w2 hB2 hS2; have HB2 := Lib.hid hB2; have HS2 := Lib.hid hS2; clear hB2 hS2))
      go_meet
      rw [e2.out]
      exact RvAt.put HB.out HO.out hg HS2.out HB2.out rfl rfl rfl rfl
    by_cases h4 : s = wEd
    · subst h4
      unfold wEd
      obtain ⟨vs, vn, vp, hB, hO⟩ := H.out
      have HB := Lib.hid hB
      have HO := Lib.hid hO
      have e2 := Lib.hid (optF_ed R)
      clear hB hO
      go_wp2_with (first
        | ((with_reducible refine wpList_storeR (o := ⟨none, .store 4 (.tmp 34) _, _, _, _, _⟩) rfl _ _ _ rfl rfl rfl rfl HB.out (show 9 < 10 from by decide) sz_bool ?_); intro w2 hB2 hS2; have HB2 := Lib.hid hB2; have HS2 := Lib.hid hS2; clear hB2 hS2))
      go_meet
      rw [e2.out]
      exact RvAt.put HB.out HO.out hg HS2.out HB2.out rfl rfl rfl rfl
    have b1 : (s == [114, 111, 116, 97, 116, 101]) = false := beq_eq_false_iff_ne.2 h1
    have b2 : (s == [117, 115, 101, 45, 118, 99]) = false := beq_eq_false_iff_ne.2 h2
    have b3 : (s == [115, 105, 110, 103, 108, 101, 45, 114, 101, 113, 117, 101, 115, 116]) = false := beq_eq_false_iff_ne.2 h3
    have b4 : (s == [101, 100, 110, 115, 48]) = false := beq_eq_false_iff_ne.2 h4
    have e2 := Lib.hid (optF_no (R := R) h1 h2 h3 h4)
    clear h1 h2 h3 h4
    go_wp2
    go_meet
    rw [e2.out]
    exact H.out.chg
  case rest =>
    obtain ⟨R1, hR1⟩ : ∃ R1, R1 = optF R s := ⟨_, rfl⟩
    have HR1 : Hid (∀ x1 x2 x3, x1 = optN pNd R1.nd 0 15 s → x2 = optN pTm R1.tm 1 30 s → x3 = optN pTr R1.tr 1 5 s → optS R s = { R1 with nd := x1, tm := x2, tr := x3 }) := Lib.hid (fun x1 x2 x3 h1 h2 h3 => by rw [h1, h2, h3, hR1]; rfl)
    rw [← hR1] at hcut
    clear hR1 H
    obtain ⟨HA1, HC1⟩ : Hid (RvAt b wc g R1) ∧ Hid (Stays g w wc) := ⟨Lib.hid hcut.1, Lib.hid hcut.2⟩
    clear hcut
    obtain ⟨p1, t1, hp1, ht1, HX1⟩ : ∃ (p : Bool) (t1 : List UInt8), p = Lib.hasPrefix s pNd ∧ t1 = Lib.trimPrefix s pNd ∧ Hid (∀ w', Calls Tryd.prog 135 #[.string ⟨s.toArray⟩, .string ⟨[110, 100, 111, 116, 115, 58].toArray⟩] w' fun e w'' => e = .returned (.tuple #[.string ⟨t1.toArray⟩, .bool p]) ∧ w' = w'') := ⟨_, _, rfl, rfl, Lib.hid (fun w' => cutp_any s pNd w')⟩
    have htl : t1.length ≤ 1000000 := by rw [ht1]; exact Nat.le_trans (trimP_len s pNd) hl
    obtain ⟨x1, hx1, HO1⟩ : ∃ x : Int, x = optN pNd R1.nd 0 15 s ∧ Hid (x = if p1 = true then setV R1.nd t1 0 15 else R1.nd) := ⟨_, rfl, Lib.hid (by rw [hp1, ht1]; rfl)⟩
    have HZ1 := Lib.hid hx1
    clear hx1
    clear hp1 ht1
    go_upto_if 40 with (first
      | (go_at_call 135; refine (HX1.out _).mono ?_; rintro e w2 ⟨rfl, hw⟩; subst hw))
    go_cut [40] (fun _ wx => RvAt b wx g { R1 with nd := x1 } ∧ Stays g w wx)
    case first =>
      cases p1 with
      | false =>
        rw [if_neg (by decide)] at HO1
        go_wp2
        go_meet
        rw [HO1.out]
        exact ⟨HA1.out, HC1.out⟩
      | true =>
        rw [if_pos rfl] at HO1
        obtain ⟨vs, vn, vp, hB, hO⟩ := HA1.out
        have HB := Lib.hid hB
        have HO := Lib.hid hO
        have hst := rset_any t1 0 15 R1.nd g 3 _ _ wc hB rfl (by omega) (by decide)
        rw [show ((0 : Nat) : Int) = 0 from rfl, show ((15 : Nat) : Int) = 15 from rfl] at hst
        have HST := Lib.hid hst
        clear hB hO hst HA1
        go_wp2_with (first
          | (go_at_call 136; refine HST.out.mono ?_; rintro e w2 ⟨rfl, hB2, hS2⟩; have HB2 := Lib.hid hB2; have HS2 := Lib.hid hS2; clear hB2 hS2))
        go_meet
        rw [HO1.out]
        have h := RvAt.put (R' := { R1 with nd := (setV R1.nd t1 0 15) }) HB.out HO.out hg HS2.out HB2.out rfl rfl rfl rfl
        exact ⟨h.1, HC1.out.trans h.2⟩
    case rest =>
      obtain ⟨HA2, HC2⟩ : Hid (RvAt b wc g { R1 with nd := x1 }) ∧ Hid (Stays g w wc) := ⟨Lib.hid hcut.1, Lib.hid hcut.2⟩
      clear hcut
      obtain ⟨p2, t2, hp2, ht2, HX2⟩ : ∃ (p : Bool) (t1 : List UInt8), p = Lib.hasPrefix s pTm ∧ t1 = Lib.trimPrefix s pTm ∧ Hid (∀ w', Calls Tryd.prog 135 #[.string ⟨s.toArray⟩, .string ⟨[116, 105, 109, 101, 111, 117, 116, 58].toArray⟩] w' fun e w'' => e = .returned (.tuple #[.string ⟨t1.toArray⟩, .bool p]) ∧ w' = w'') := ⟨_, _, rfl, rfl, Lib.hid (fun w' => cutp_any s pTm w')⟩
      have htl : t2.length ≤ 1000000 := by rw [ht2]; exact Nat.le_trans (trimP_len s pTm) hl
      obtain ⟨x2, hx2, HO2⟩ : ∃ x : Int, x = optN pTm R1.tm 1 30 s ∧ Hid (x = if p2 = true then setV R1.tm t2 1 30 else R1.tm) := ⟨_, rfl, Lib.hid (by rw [hp2, ht2]; rfl)⟩
      have HZ2 := Lib.hid hx2
      clear hx2
      clear hp2 ht2
      go_upto_if 52 with (first
        | (go_at_call 135; refine (HX2.out _).mono ?_; rintro e w2 ⟨rfl, hw⟩; subst hw))
      go_cut [52] (fun _ wx => RvAt b wx g { R1 with nd := x1, tm := x2 } ∧ Stays g w wx)
      case first =>
        cases p2 with
        | false =>
          rw [if_neg (by decide)] at HO2
          go_wp2
          go_meet
          rw [HO2.out]
          exact ⟨HA2.out, HC2.out⟩
        | true =>
          rw [if_pos rfl] at HO2
          obtain ⟨vs, vn, vp, hB, hO⟩ := HA2.out
          have HB := Lib.hid hB
          have HO := Lib.hid hO
          have hst := rset_any t2 1 30 R1.tm g 4 _ _ wc hB rfl (by omega) (by decide)
          rw [show ((1 : Nat) : Int) = 1 from rfl, show ((30 : Nat) : Int) = 30 from rfl] at hst
          have HST := Lib.hid hst
          clear hB hO hst HA2
          go_wp2_with (first
            | (go_at_call 136; refine HST.out.mono ?_; rintro e w2 ⟨rfl, hB2, hS2⟩; have HB2 := Lib.hid hB2; have HS2 := Lib.hid hS2; clear hB2 hS2))
          go_meet
          rw [HO2.out]
          have h := RvAt.put (R' := { R1 with nd := x1, tm := (setV R1.tm t2 1 30) }) HB.out HO.out hg HS2.out HB2.out rfl rfl rfl rfl
          exact ⟨h.1, HC2.out.trans h.2⟩
      case rest =>
        obtain ⟨HA3, HC3⟩ : Hid (RvAt b wc g { R1 with nd := x1, tm := x2 }) ∧ Hid (Stays g w wc) := ⟨Lib.hid hcut.1, Lib.hid hcut.2⟩
        clear hcut
        obtain ⟨p3, t3, hp3, ht3, HX3⟩ : ∃ (p : Bool) (t1 : List UInt8), p = Lib.hasPrefix s pTr ∧ t1 = Lib.trimPrefix s pTr ∧ Hid (∀ w', Calls Tryd.prog 135 #[.string ⟨s.toArray⟩, .string ⟨[97, 116, 116, 101, 109, 112, 116, 115, 58].toArray⟩] w' fun e w'' => e = .returned (.tuple #[.string ⟨t1.toArray⟩, .bool p]) ∧ w' = w'') := ⟨_, _, rfl, rfl, Lib.hid (fun w' => cutp_any s pTr w')⟩
        have htl : t3.length ≤ 1000000 := by rw [ht3]; exact Nat.le_trans (trimP_len s pTr) hl
        obtain ⟨x3, hx3, HO3⟩ : ∃ x : Int, x = optN pTr R1.tr 1 5 s ∧ Hid (x = if p3 = true then setV R1.tr t3 1 5 else R1.tr) := ⟨_, rfl, Lib.hid (by rw [hp3, ht3]; rfl)⟩
        have HZ3 := Lib.hid hx3
        clear hx3
        clear hp3 ht3
        cases p3 with
        | false =>
          rw [if_neg (by decide)] at HO3
          go_wp2_with (first
            | (go_at_call 135; refine (HX3.out _).mono ?_; rintro e w2 ⟨rfl, hw⟩; subst hw))
          go_end0
          refine ⟨rfl, ?_, HC3.out⟩
          rw [HR1.out x1 x2 x3 HZ1.out HZ2.out HZ3.out, HO3.out]
          exact HA3.out
        | true =>
          rw [if_pos rfl] at HO3
          obtain ⟨vs, vn, vp, hB, hO⟩ := HA3.out
          have HB := Lib.hid hB
          have HO := Lib.hid hO
          have hst := rset_any t3 1 5 R1.tr g 5 _ _ wc hB rfl (by omega) (by decide)
          rw [show ((1 : Nat) : Int) = 1 from rfl, show ((5 : Nat) : Int) = 5 from rfl] at hst
          have HST := Lib.hid hst
          clear hB hO hst HA3
          go_wp2_with (first
            | (go_at_call 135; refine (HX3.out _).mono ?_; rintro e w2 ⟨rfl, hw⟩; subst hw)
            | (go_at_call 136; refine HST.out.mono ?_; rintro e w2 ⟨rfl, hB2, hS2⟩; have HB2 := Lib.hid hB2; have HS2 := Lib.hid hS2; clear hB2 hS2))
          go_end0
          have h := RvAt.put (R' := { R1 with nd := x1, tm := x2, tr := (setV R1.tr t3 1 5) }) HB.out HO.out hg HS2.out HB2.out rfl rfl rfl rfl
          refine ⟨rfl, ?_, HC3.out.trans h.2⟩
          rw [HR1.out x1 x2 x3 HZ1.out HZ2.out HZ3.out, HO3.out]
          exact h.1
end Go.Proofs.YtgebcifkbldfoaaDoor

/- resolv: options, domain, search, sortlist. -/
namespace Go.Proofs.YtgebcifkbldfoaaDoor
open Go.RowKit
attribute [local go_sem] ba_get ext_take ext_drop ext_any ba_app

theorem RvAt.chg_of {b g : Nat} {w w' : World} {R : Rv} (h : RvAt b w g R) (hg : b ≤ g) (hs : Stays g w w') : Chg b tyC w w' := by
  obtain ⟨vs, vn, vp, hB, _⟩ := h
  exact Chg.of_stays hs hB hg (by decide)
/-- texts that are read lie in no block of what was said. -/
theorem text_apart {b g k off : Nat} {w : World} {R : Rv} {x : List UInt8} (h : RvAt b w g R) (hc : w.cell? ⟨k, off, none⟩ = some (stv x)) : k ≠ g := by
  obtain ⟨vs, vn, vp, hB, hO⟩ := h
  intro e
  subst e
  rw [hB.cell off] at hc
  obtain ⟨N, hN, _⟩ := hO.n
  obtain ⟨_, _, e1⟩ := own_any hO.s
  obtain ⟨_, _, e2⟩ := own_any hN.own
  obtain ⟨_, _, e3⟩ := own_any hO.p
  subst e1 e2 e3
  unfold rvA rvL at hc
  match off with
  | 0 | 1 | 2 | 3 | 4 | 5 | 6 | 7 | 8 | 9 => cases hc
  | n + 10 => cases hc
theorem text_stays {b g k off : Nat} {w w' : World} {R : Rv} {x : List UInt8} (h : RvAt b w g R) (hs : Stays g w w') (hc : w.cell? ⟨k, off, none⟩ = some (stv x)) : w'.cell? ⟨k, off, none⟩ = some (stv x) :=
  (World.cell?_of_block (a := ⟨k, off, none⟩) (hs.block k (text_apart h hc))).trans hc
set_option maxRecDepth 100000 in
set_option maxHeartbeats 1000000 in
theorem opts_any (b g : Nat) (R : Rv) (v : Value) (F : List (List UInt8)) (w : World) (h : RvAt b w g R) (hg : b ≤ g) (hs : Sl w 1 v F.length (F.map stv)) (h2 : F.length ≤ 100000) (hb : ∀ x ∈ F, x.length ≤ 1000000) :
    Calls Tryd.prog 74 #[.pointer (some ⟨g, 0, none⟩), v] w (fun e w' => e = .returned (.tuple #[]) ∧ RvAt b w' g (F.foldl optS R) ∧ Stays g w w') := by
  obtain ⟨A, c, rfl, hc⟩ := hs.any
  have Hs := Lib.hid hs
  have H := Lib.hid h
  have Hb := Lib.hid hb
  clear hs h hb
  go_enter Tryd.func74, Tryd.ntmps74
  go_wp2
  go_loopw [5, 8] (fun _ iv wr => ∃ k : Nat, k ≤ F.length ∧ iv = .int .i64 k ∧ RvAt b wr g ((F.take k).foldl optS R) ∧ Stays g w wr) (fun _ iv _ => F.length - (intOf iv).toNat)
  case atStart => exact ⟨0, Nat.zero_le _, rfl, H.out, Stays.same _ _⟩
  case round =>
    obtain ⟨k, hk, rfl, hR, hS⟩ := hrel
    have HR := Lib.hid hR
    have HS := Lib.hid hS
    clear hR hS
    by_cases hlt : k < F.length
    · have hltI : (k : Int) < (F.length : Int) := by omega
      have hk0 : (0 : Int) ≤ (k : Int) := by omega
      obtain ⟨bb, off, c', hv, hc', hbl, hcell⟩ := Hs.out.pos (by omega)
      injection hv with hv1 _ hv2
      subst hv1 hv2
      have hx := text_stays H.out HS.out (sl_at hcell hlt)
      have hxl := Hb.out _ (List.getElem_mem hlt)
      have Hnx : Hid ((F.take (k + 1)).foldl optS R = optS ((F.take k).foldl optS R) F[k]) := Lib.hid (by rw [List.take_succ_eq_append_getElem hlt, List.foldl_append]; rfl)
      clear hcell
      generalize F[k] = x at *
      have HX := Lib.hid (opt_any b g _ x wr HR.out hg hxl)
      unfold stv at hx
      clear hxl
      go_wp2_with (first
        | (go_at_call 101; refine HX.out.mono ?_; rintro e w2 ⟨rfl, hR2, hS2⟩; have HR2 := Lib.hid hR2; have HS2 := Lib.hid hS2; clear hR2 hS2))
      go_roundw
      case rel => exact ⟨k + 1, by omega, by go_num, by rw [Hnx.out]; exact HR2.out, HS.out.trans HS2.out⟩
      case measure => (simp [intOf]) <;> omega
    · obtain rfl : k = F.length := by omega
      have hltI : ¬ (F.length : Int) < (F.length : Int) := by omega
      go_wp2
      go_end0
      have h := HR.out
      rw [List.take_length] at h
      exact ⟨rfl, h, HS.out⟩
end Go.Proofs.YtgebcifkbldfoaaDoor

/- resolv: search and domain. -/
namespace Go.Proofs.YtgebcifkbldfoaaDoor
open Go.RowKit
attribute [local go_sem] ba_get ext_take ext_drop ext_any ba_app

theorem take_lt {α : Type} {l : List α} {m : Nat} (x : α) (h : l.length < m) : (l ++ [x]).take m = l.take m ++ [x] := by
  rw [List.take_of_length_le (l := l) (by omega), List.take_of_length_le (by rw [List.length_append, List.length_singleton]; omega)]
theorem take_ge {α : Type} {l : List α} {m : Nat} (x : α) (h : m ≤ l.length) : (l ++ [x]).take m = l.take m := by
  rw [List.take_append_of_le_length h]
structure SeRel (w : World) (F : List (List UInt8)) (k : Nat) (v : Value) (wr : World) : Prop where
  all : (F.take k).all (fun x => (oneN x).isSome) = true
  nms : ∃ N, NmsOwn w.heap.size wr v (((F.take k).filterMap oneN).take 6) N ∧ ∀ q ∈ N, NmB 0 wr q
  b : Below w.heap.size w wr
theorem RvAt.putN {b g : Nat} {w w' : World} {vs vn vp vn' : Value} {R : Rv} {cs : Array Value} {C : List NmL} {N : List (Value × NmL)} (hB : Bk w g 116 (rvA vs vn vp R)) (hO : RvOwn b w vs vn vp R) (hg : b ≤ g) (hs : Stays g w w') (hB' : Bk w' g 116 cs) (hc : cs = rvA vs vn' vp { R with N := C })
    (hN : NmsOwn b w vn' C N) (hN0 : ∀ q ∈ N, NmB 0 w q) : RvAt b w' g { R with N := C } := by
  have h := hO.stays hs hB hg
  have hh : ∀ T, 116 ∉ T → ∀ b', b' ≤ g → Harm T b' w (some g) := fun T hT b' hb' => Harm.type hb' (show w.heap[g]? = _ from hB) hT
  exact ⟨vs, vn', vp, by rw [← hc]; exact hB', h.s, ⟨N, hN.kept hs.grown (hh _ (by decide) _ hg), fun q hq => (hN0 q hq).kept hs.grown (hh _ (by decide) _ (Nat.zero_le _))⟩, h.p⟩
set_option maxRecDepth 100000 in
set_option maxHeartbeats 4000000 in
theorem search_any (b g : Nat) (R : Rv) (v : Value) (F : List (List UInt8)) (w : World) (h : RvAt b w g R) (hg : b ≤ g) (hbw : b ≤ w.heap.size) (hs : Sl w 1 v F.length (F.map stv)) (h2 : F.length ≤ 100000) (hb : ∀ x ∈ F, x.length ≤ 1000000) :
    Calls Tryd.prog 72 #[.pointer (some ⟨g, 0, none⟩), v] w (RslPost b g w { R with N := (newN F).getD R.N }) := by
  obtain ⟨A, c, rfl, hc⟩ := hs.any
  have Hs := Lib.hid hs
  have H := Lib.hid h
  have HRl := Lib.hid hb
  clear hs h hb
  by_cases h0 : F = []
  · subst h0
    go_enter Tryd.func72, Tryd.ntmps72
    go_wp2
    go_end0
    exact ⟨rfl, H.out, Chg.refl _ _ _⟩
  have hz : ((F.length : Int) == 0) = false := by
    rw [beq_eq_false_iff_ne]
    have := List.length_pos_iff.2 h0
    omega
  have HNew : Hid (newN F = (namesP F).map (·.take 6)) := Lib.hid (by cases F with | nil => exact absurd rfl h0 | cons f F => rfl)
  clear h0
  go_enter Tryd.func72, Tryd.ntmps72
  go_wp2
  go_loopw [4, 6, 7, 8, 9, 15] (fun nv _ _ _ _ iv wr => ∃ k : Nat, k ≤ F.length ∧ iv = .int .i64 k ∧ SeRel w F k nv wr) (fun _ _ _ _ _ iv _ => F.length - (intOf iv).toNat)
  case atStart => exact ⟨0, by omega, rfl, rfl, ⟨[], ⟨by simpa using World.ownsRow_nil w w.heap.size 51 1, fun _ h => (by cases h), rfl⟩, fun _ h => (by cases h)⟩, Below.refl _ _⟩
  case round =>
    obtain ⟨k, hk, rfl, rel⟩ := hrel
    obtain ⟨wo, rfl⟩ : ∃ wo, wo = wr := ⟨_, rfl⟩
    have Rel := Lib.hid rel
    obtain ⟨N, hN, hN0⟩ := rel.nms
    have HN0 := Lib.hid hN0
    clear hN0
    obtain ⟨ao, co, rfl⟩ := own_any hN.own
    have hNl : N.length ≤ 6 ∧ (N.length < 6 ↔ ((F.take k).filterMap oneN).length < 6) := by
      have h := congrArg List.length hN.is
      rw [List.length_map, List.length_take] at h
      omega
    have HN := Lib.hid hN
    clear rel hN
    by_cases hlt : k < F.length
    · have j0 : (k : Int) < (F.length : Int) := by omega
      have hk0 : (0 : Int) ≤ (k : Int) := by omega
      obtain ⟨b1, off, c, hv, hc, hbl, hcell⟩ := Hs.out.pos (by omega)
      injection hv with hv1 _ hv2
      subst hv1 hv2
      have hfx : wo.cell? ⟨b1, off + k, none⟩ = some (.string ⟨F[k].toArray⟩) := (Rel.out.b.cell (p := ⟨b1, off + k, none⟩) hbl).trans (sl_at hcell hlt)
      have hxl := HRl.out F[k] (List.getElem_mem hlt)
      clear hcell
      cases hpx : prs F[k] with
      | inl c0 =>
        have hc0 : (c0 != 0) = true := by
          rw [bne_iff_ne]
          intro h
          subst h
          exact prs_ne hpx
        have HNn : Hid (namesP F = none) := Lib.hid (namesP_none hlt (oneN_err hpx))
        have HX : Hid (∀ w', Calls Tryd.prog 97 #[.string ⟨F[k].toArray⟩] w' fun e w'' => ∃ A q, e = .returned (.tuple #[.slice A 0 q, .bool false, .int .i64 c0]) ∧ Below w'.heap.size w' w'') := Lib.hid (fun w' => prs_bad hpx w' hxl)
        clear hpx hxl HN
        generalize F[k] = x at *
        go_wp2_with (first
          | (go_at_call 97; refine (HX.out _).mono ?_; rintro e w6 ⟨A9, q9, rfl, hb6⟩; have Hb6 := Lib.hid (Rel.out.b.trans (hb6.mono Rel.out.b.size)); clear hb6 hfx))
        go_end0
        rw [HNew.out, HNn.out]
        exact ⟨rfl, H.out.bel Hb6.out, Chg.of_bel Hb6.out⟩
      | inr nd =>
        obtain ⟨n, d⟩ := nd
        have HX : Hid (∀ w', Calls Tryd.prog 97 #[.string ⟨F[k].toArray⟩] w' fun e w'' => ∃ A q, e = .returned (.tuple #[.slice A n.length q, .bool d, .int .i64 0]) ∧ w''.ownsRow w'.heap.size 9 1 (.slice A n.length q) n.length (n.map stv) ∧ Below w'.heap.size w' w'') := Lib.hid (fun w' => prs_good hpx w' hxl)
        by_cases hn : n = []
        · subst hn
          have HNn : Hid (namesP F = none) := Lib.hid (namesP_none hlt (oneN_nil hpx))
          clear hpx hxl HN
          generalize F[k] = x at *
          go_wp2_with (first
            | (go_at_call 97; refine (HX.out _).mono ?_; rintro e w6 ⟨A9, q9, rfl, ho9, hb6⟩; have Hb6 := Lib.hid (Rel.out.b.trans (hb6.mono Rel.out.b.size)); clear hb6 hfx ho9))
          go_end0
          rw [HNew.out, HNn.out]
          exact ⟨rfl, H.out.bel Hb6.out, Chg.of_bel Hb6.out⟩
        · have hck := (prs_ok hpx).1
          have hnl : n.length ≤ 1000000 := Nat.le_trans (chk_few hck) (by omega)
          have hnb := chk_len hck
          have Hall := Lib.hid (all_nextH hlt Rel.out.all (oneN_ok hpx hn))
          have n0 : ((n.length : Int) == 0) = false := by
            rw [beq_eq_false_iff_ne]
            have := List.length_pos_iff.2 hn
            omega
          have Hnl := Lib.hid hnl
          have Hnb := Lib.hid hnb
          clear hpx hxl hck hnl hnb hn
          generalize F[k] = x at *
          by_cases h6 : N.length < 6
          · have h6I : (N.length : Int) < 6 := by omega
            have H6 := Lib.hid (hNl.2.1 h6)
            go_wp2_with (first
              | (go_at_call 97; refine (HX.out _).mono ?_; rintro e w6 ⟨A9, q9, rfl, ho9, hb6⟩; have HO9 := Lib.hid ho9; have Hb6 := Lib.hid hb6; clear hb6 hfx ho9; refine holdL ?_))
            refine Lib.hid ?_
            have hN6 := HN.out.bel Hb6.out
            go_wp2_with (first
              | ((with_reducible show wpList _ _ _ (⟨some 37, _, _, _, _, _⟩ :: _) _ _); refine wpList_lit (o := ⟨some 37, _, _, _, _, _⟩) rfl _ _ rfl elt_nms [.slice A9 n.length q9] rfl (by decide) (by decide) (fun v hv => by rw [List.mem_singleton.1 hv]; rfl) rfl ?_; intro w53 hB53 hx53 hb53 hs53; clear hs53 hB53; have hN7 := hN6.bel hb53)
              | (at_builtin; refine wpList_app rfl (.tmp 35) (.tmp 37) _ rfl elt_nms rfl hN7.own rfl (Sl.own hx53) (fun u hu => by rw [List.mem_singleton.1 hu]; rfl) (Nat.le_trans Rel.out.b.size (Nat.le_trans Hb6.out.size hb53.size)) (by omega) (by omega) ?_; intro v54 w54 o54 b54 g54))
            have hb65 : Below wo.heap.size wo w53 := bel_tr Hb6.out hb53
            have o70 := own_base hN7.own (Nat.zero_le _)
            go_roundw
            case rel =>
              refine ⟨k + 1, by omega, by go_num, Hall.out.1, ⟨N ++ [(Value.slice A9 n.length q9, n)], ?_, fun q hq => ?_⟩, (Rel.out.b.trans (hb65.mono Rel.out.b.size)).trans b54⟩
              · rw [Hall.out.2, take_lt n H6.out]
                refine hN7.add o54 (fun q hq => (hN7.ok q hq).grown hN7.own g54) ?_
                exact (⟨(SlB.own HO9.out).bel hb53, by have h := Hnl.out; show n.length ≤ _; omega, Hnb.out⟩ : NmB w.heap.size w53 (Value.slice A9 n.length q9, n)).grown hN7.own g54
              · rcases List.mem_append.1 hq with hq | hq
                · exact (((HN0.out q hq).bel Hb6.out).bel hb53).grown o70 g54
                · rw [List.mem_singleton.1 hq]
                  exact (⟨(SlB.own HO9.out).bel hb53, by have h := Hnl.out; show n.length ≤ _; omega, Hnb.out⟩ : NmB 0 w53 (Value.slice A9 n.length q9, n)).grown o70 g54
            case measure => (simp [intOf]) <;> omega
          · have h6I : ¬ (N.length : Int) < 6 := by omega
            have H6 : Hid (6 ≤ ((F.take k).filterMap oneN).length) := Lib.hid (by have := hNl.2; omega)
            go_wp2_with (first
              | (go_at_call 97; refine (HX.out _).mono ?_; rintro e w6 ⟨A9, q9, rfl, ho9, hb6⟩; have Hb6 := Lib.hid hb6; clear hb6 hfx ho9))
            go_roundw
            case rel =>
              refine ⟨k + 1, by omega, by go_num, Hall.out.1, ⟨N, ?_, fun q hq => (HN0.out q hq).bel Hb6.out⟩, Rel.out.b.trans (Hb6.out.mono Rel.out.b.size)⟩
              rw [Hall.out.2, take_ge n H6.out]
              exact HN.out.bel Hb6.out
            case measure => (simp [intOf]) <;> omega
    · have hkn : k = F.length := by omega
      subst hkn
      have hfin : (F.take F.length).all (fun x => (oneN x).isSome) = true := Rel.out.all
      rw [List.take_length] at hfin
      have HNn : Hid (namesP F = some (F.filterMap oneN)) := Lib.hid (namesP_all hfin)
      have j0 : ¬ (F.length : Int) < (F.length : Int) := by omega
      clear hfin
      obtain ⟨vs, vn, vp, hB, hO⟩ := H.out.bel Rel.out.b
      have HB := Lib.hid hB
      have HO := Lib.hid hO
      clear hB hO
      go_wp2_with (first
        | ((with_reducible refine wpList_storeR (o := ⟨none, .store 62 (.tmp 44) _, _, _, _, _⟩) rfl _ _ _ rfl rfl rfl rfl HB.out (show 1 < 10 from by decide) sz_nmsR ?_); intro w2 hB2 hS2; have HB2 := Lib.hid hB2; have HS2 := Lib.hid hS2; clear hB2 hS2))
      go_end0
      have hN := HN.out
      rw [List.take_length] at hN
      rw [HNew.out, HNn.out]
      refine ⟨rfl, ?_, (Chg.of_bel Rel.out.b).trans (Chg.of_stays HS2.out HB.out hg (by decide))⟩
      exact RvAt.putN HB.out HO.out hg HS2.out HB2.out rfl ⟨own_base hN.own hbw, fun q hq => (HN0.out q hq).any b, hN.is⟩ HN0.out
set_option maxRecDepth 100000 in
theorem domain_any (b g : Nat) (R : Rv) (v : Value) (F : List (List UInt8)) (w : World) (h : RvAt b w g R) (hg : b ≤ g) (hbw : b ≤ w.heap.size) (hs : Sl w 1 v F.length (F.map stv)) (h2 : F.length ≤ 100000) (hb : ∀ x ∈ F, x.length ≤ 1000000) :
    Calls Tryd.prog 71 #[.pointer (some ⟨g, 0, none⟩), v] w (RslPost b g w { R with N := (domN F).getD R.N }) := by
  have HX := Lib.hid (search_any b g R v F w h hg hbw hs h2 hb)
  obtain ⟨A, c, rfl, hc⟩ := hs.any
  have H := Lib.hid h
  clear hs h hb
  by_cases h1 : F.length = 1
  · have hF : domN F = newN F := by
      match F, h1 with
      | [f], _ => rfl
    have i1 : ((F.length : Int) == 1) = true := by rw [beq_iff_eq]; omega
    rw [hF]
    clear hF h1
    go_enter Tryd.func71, Tryd.ntmps71
    go_wp2_with (first
      | (go_at_call 72; refine HX.out.mono ?_; rintro e w2 ⟨rfl, hR2, hS2⟩; have HR2 := Lib.hid hR2; have HS2 := Lib.hid hS2; clear hR2 hS2))
    go_end0
    exact ⟨rfl, HR2.out, HS2.out⟩
  · have hF : domN F = none := by
      match F, h1 with
      | [], _ => rfl
      | _ :: _ :: _, _ => rfl
    have i1 : ((F.length : Int) == 1) = false := by rw [beq_eq_false_iff_ne]; omega
    rw [hF]
    clear hF h1
    go_enter Tryd.func71, Tryd.ntmps71
    go_wp2
    go_end0
    exact ⟨rfl, H.out, Chg.refl _ _ _⟩
end Go.Proofs.YtgebcifkbldfoaaDoor

/- resolv: sortlist. -/
namespace Go.Proofs.YtgebcifkbldfoaaDoor
open Go.RowKit
attribute [local go_sem] ba_get ext_take ext_drop ext_any ba_app

theorem pairsP_none {F : List (List UInt8)} {k : Nat} (h : k < F.length) (hn : pairP F[k] = none) : pairsP F = none := by
  unfold pairsP
  rw [if_neg]
  intro ha
  have := List.all_eq_true.1 ha F[k] (List.getElem_mem h)
  rw [hn] at this
  cases this
theorem pairsP_all {F : List (List UInt8)} (h : F.all (fun x => (pairP x).isSome) = true) : pairsP F = some (F.filterMap pairP) := if_pos h
theorem all_nextP {F : List (List UInt8)} {k : Nat} {n : Pf} (h : k < F.length) (ha : (F.take k).all (fun x => (pairP x).isSome) = true) (hn : pairP F[k] = some n) : (F.take (k + 1)).all (fun x => (pairP x).isSome) = true ∧ (F.take (k + 1)).filterMap pairP = (F.take k).filterMap pairP ++ [n] := by
  rw [List.take_succ_eq_append_getElem h, List.all_append, ha, List.filterMap_append]
  constructor
  · simp [hn]
  · rw [List.filterMap_cons_some hn, List.filterMap_nil]
structure SoRel (w : World) (F : List (List UInt8)) (k : Nat) (v : Value) (P : List Pf) (wr : World) : Prop where
  all : (F.take k).all (fun x => (pairP x).isSome) = true
  is : P = ((F.take k).filterMap pairP).take 10
  own : wr.ownsRow w.heap.size 72 19 v P.length (P.flatMap pfL)
  b : Below w.heap.size w wr
theorem RvAt.putP {b g : Nat} {w w' : World} {vs vn vp vp' : Value} {R : Rv} {cs : Array Value} {P : List Pf} (hB : Bk w g 116 (rvA vs vn vp R)) (hO : RvOwn b w vs vn vp R) (hg : b ≤ g) (hs : Stays g w w') (hB' : Bk w' g 116 cs) (hc : cs = rvA vs vn vp' { R with P := P })
    (hP : w.ownsRow b 72 19 vp' P.length (P.flatMap pfL)) : RvAt b w' g { R with P := P } := by
  have h := hO.stays hs hB hg
  exact ⟨vs, vn, vp', by rw [← hc]; exact hB', h.s, h.n, row_kept hP hs.grown (Harm.type hg (show w.heap[g]? = _ from hB) (by decide))⟩
set_option maxRecDepth 100000 in
set_option maxHeartbeats 4000000 in
theorem sort_any (b g : Nat) (R : Rv) (v : Value) (F : List (List UInt8)) (w : World) (ht : Tab w) (h : RvAt b w g R) (hg : b ≤ g) (hbw : b ≤ w.heap.size) (hs : Sl w 1 v F.length (F.map stv)) (h2 : F.length ≤ 100000) (hb : ∀ x ∈ F, x.length ≤ 1000000) :
    Calls Tryd.prog 73 #[.pointer (some ⟨g, 0, none⟩), v] w (RslPost b g w { R with P := (newP F).getD R.P }) := by
  obtain ⟨A, c, rfl, hc⟩ := hs.any
  have Hs := Lib.hid hs
  have H := Lib.hid h
  have HRl := Lib.hid hb
  have Ht := Lib.hid ht
  clear hs h hb ht
  by_cases h0 : F = []
  · subst h0
    go_enter Tryd.func73, Tryd.ntmps73
    go_wp2
    go_end0
    exact ⟨rfl, H.out, Chg.refl _ _ _⟩
  have hz : ((F.length : Int) == 0) = false := by
    rw [beq_eq_false_iff_ne]
    have := List.length_pos_iff.2 h0
    omega
  have HNew : Hid (newP F = (pairsP F).map (·.take 10)) := Lib.hid (by cases F with | nil => exact absurd rfl h0 | cons f F => rfl)
  clear h0
  go_enter Tryd.func73, Tryd.ntmps73
  go_wp2
  go_loopw [4, 6, 7, 8, 14] (fun nv _ _ _ iv wr => ∃ (k : Nat) (P : List Pf), k ≤ F.length ∧ iv = .int .i64 k ∧ SoRel w F k nv P wr) (fun _ _ _ _ iv _ => F.length - (intOf iv).toNat)
  case atStart => exact ⟨0, [], by omega, rfl, rfl, rfl, by simpa using World.ownsRow_nil w w.heap.size 72 19, Below.refl _ _⟩
  case round =>
    obtain ⟨k, P, hk, rfl, rel⟩ := hrel
    obtain ⟨wo, rfl⟩ : ∃ wo, wo = wr := ⟨_, rfl⟩
    have hPl : P.length ≤ 10 ∧ (P.length < 10 ↔ ((F.take k).filterMap pairP).length < 10) := by
      have h := congrArg List.length rel.is
      rw [List.length_take] at h
      omega
    obtain ⟨ao, co, rfl⟩ := own_any rel.own
    have Rel := Lib.hid rel
    clear rel
    by_cases hlt : k < F.length
    · have j0 : (k : Int) < (F.length : Int) := by omega
      have hk0 : (0 : Int) ≤ (k : Int) := by omega
      obtain ⟨b1, off, c, hv, hc, hbl, hcell⟩ := Hs.out.pos (by omega)
      injection hv with hv1 _ hv2
      subst hv1 hv2
      have hfx : wo.cell? ⟨b1, off + k, none⟩ = some (.string ⟨F[k].toArray⟩) := (Rel.out.b.cell (p := ⟨b1, off + k, none⟩) hbl).trans (sl_at hcell hlt)
      have hxl := HRl.out F[k] (List.getElem_mem hlt)
      have HX := Lib.hid (pair_any F[k] wo (Ht.out.below Rel.out.b) hxl)
      clear hcell hxl
      cases hpx : pairP F[k] with
      | none =>
        have HNn : Hid (pairsP F = none) := Lib.hid (pairsP_none hlt hpx)
        rw [hpx] at HX
        clear hpx
        generalize F[k] = x at *
        go_wp2_with (first
          | (go_at_call 100; refine HX.out.mono ?_; rintro e w6 ⟨rfl, hb6⟩; unfold pfE; have Hb6 := Lib.hid (Rel.out.b.trans (hb6.mono Rel.out.b.size)); clear hb6 hfx)
          | ((with_reducible show wpList _ _ _ (⟨some 7, _, _, _, _, _⟩ :: _) _ _); refine wpList_allocPf (o := ⟨some 7, _, _, _, _, _⟩) rfl rfl ?_; intro g7 w7 hg7 hB7 hb7 hs7; have Hg7 := Lib.hid hg7; clear hg7 hs7)
          | ((with_reducible refine wpList_storePf (o := ⟨none, _, _, _, _, _⟩) rfl (.tmp 7) _ rfl rfl rfl hB7 ?_); intro w8 hB8 hS8; have Hb8 := Lib.hid (Hb6.out.trans ((hb7.trans (hS8.below (Nat.le_of_eq Hg7.out.symm))).mono Hb6.out.size)); clear hB8 hS8 hb7 hB7))
        go_end0
        rw [HNew.out, HNn.out]
        exact ⟨rfl, H.out.bel Hb8.out, Chg.of_bel Hb8.out⟩
      | some p =>
        have Hall := Lib.hid (all_nextP hlt Rel.out.all hpx)
        rw [hpx] at HX
        clear hpx
        generalize F[k] = x at *
        by_cases h10 : P.length < 10
        · have h10I : (P.length : Int) < 10 := by omega
          have H10 := Lib.hid (hPl.2.1 h10)
          go_wp2_with (first
            | (go_at_call 100; refine HX.out.mono ?_; rintro e w6 ⟨rfl, hb6⟩; unfold pfE; have Hb6 := Lib.hid hb6; clear hb6 hfx)
            | ((with_reducible show wpList _ _ _ (⟨some 7, _, _, _, _, _⟩ :: _) _ _); refine wpList_allocPf (o := ⟨some 7, _, _, _, _, _⟩) rfl rfl ?_; intro g7 w7 hg7 hB7 hb7 hs7; have Hg7 := Lib.hid hg7; clear hg7 hs7)
            | ((with_reducible refine wpList_storePf (o := ⟨none, _, _, _, _, _⟩) rfl (.tmp 7) _ rfl rfl rfl hB7 ?_); intro w8 hB8 hS8; have hb8 := bel_tr Hb6.out (hb7.trans (hS8.below (Nat.le_of_eq Hg7.out.symm))); have own8 := own_below Rel.out.own hb8; have Hb8 := Lib.hid hb8; clear hS8 hb7 hB7 hb8; refine holdL ?_))
          refine Lib.hid ?_
          go_wp2_with (first
            | ((with_reducible show wpList _ _ _ (⟨some 29, _, _, _, _, _⟩ :: _) _ _); refine wpList_loadPf (o := ⟨some 29, _, _, _, _, _⟩) rfl _ rfl rfl hB8 ?_)
            | ((with_reducible show wpList _ _ _ (⟨some 30, _, _, _, _, _⟩ :: _) _ _); refine wpList_lit (o := ⟨some 30, _, _, _, _, _⟩) rfl _ _ rfl elt_pfs [.agg (pfA p)] rfl (by decide) (by decide) (fun v hv => by rw [List.mem_singleton.1 hv]; exact pfA_size _) rfl ?_; intro w9 hB9 hx9 hb9 hs9; clear hx9 hs9; have hB9 := bk_list (l := pfL p) hB9 rfl; have own9 := own_below own8 hb9; have Hb9 := Lib.hid (bel_tr Hb8.out hb9); clear hb9)
            | (at_builtin; refine wpList_app rfl (.tmp 28) (.tmp 30) _ rfl elt_pfs rfl own9 rfl (hB9.sl (size := 19) (n := 1) (pfL_len _) 1 (Nat.le_refl _)) (pfL_one _) (Nat.le_trans Rel.out.b.size Hb9.out.size) (by omega) (by omega) ?_; intro v10 w10 ho10 hb10 hg10))
          go_roundw
          case rel =>
            refine ⟨k + 1, P ++ [p], by omega, by go_num, Hall.out.1, by rw [Hall.out.2, take_lt p H10.out, Rel.out.is], ?_, (Rel.out.b.trans (Hb9.out.mono Rel.out.b.size)).trans hb10⟩
            rw [List.length_append, List.flatMap_append]
            simpa using ho10
          case measure => (simp [intOf]) <;> omega
        · have h10I : ¬ (P.length : Int) < 10 := by omega
          have H10 : Hid (10 ≤ ((F.take k).filterMap pairP).length) := Lib.hid (by have := hPl.2; omega)
          go_wp2_with (first
            | (go_at_call 100; refine HX.out.mono ?_; rintro e w6 ⟨rfl, hb6⟩; unfold pfE; have Hb6 := Lib.hid hb6; clear hb6 hfx)
            | ((with_reducible show wpList _ _ _ (⟨some 7, _, _, _, _, _⟩ :: _) _ _); refine wpList_allocPf (o := ⟨some 7, _, _, _, _, _⟩) rfl rfl ?_; intro g7 w7 hg7 hB7 hb7 hs7; have Hg7 := Lib.hid hg7; clear hg7 hs7)
            | ((with_reducible refine wpList_storePf (o := ⟨none, _, _, _, _, _⟩) rfl (.tmp 7) _ rfl rfl rfl hB7 ?_); intro w8 hB8 hS8; have hb8 := bel_tr Hb6.out (hb7.trans (hS8.below (Nat.le_of_eq Hg7.out.symm))); have own8 := own_below Rel.out.own hb8; have Hb8 := Lib.hid hb8; clear hS8 hb7 hB7 hb8))
          go_roundw
          case rel => exact ⟨k + 1, P, by omega, by go_num, Hall.out.1, by rw [Hall.out.2, take_ge p H10.out, Rel.out.is], own8, Rel.out.b.trans (Hb8.out.mono Rel.out.b.size)⟩
          case measure => (simp [intOf]) <;> omega
    · have hkn : k = F.length := by omega
      subst hkn
      have hfin : (F.take F.length).all (fun x => (pairP x).isSome) = true := Rel.out.all
      rw [List.take_length] at hfin
      have HNn : Hid (pairsP F = some (F.filterMap pairP)) := Lib.hid (pairsP_all hfin)
      have j0 : ¬ (F.length : Int) < (F.length : Int) := by omega
      clear hfin
      obtain ⟨vs, vn, vp, hB, hO⟩ := H.out.bel Rel.out.b
      have HB := Lib.hid hB
      have HO := Lib.hid hO
      clear hB hO
      go_wp2_with (first
        | ((with_reducible refine wpList_storeR (o := ⟨none, .store 66 (.tmp 37) _, _, _, _, _⟩) rfl _ _ _ rfl rfl rfl rfl HB.out (show 2 < 10 from by decide) sz_pfsR ?_); intro w2 hB2 hS2; have HB2 := Lib.hid hB2; have HS2 := Lib.hid hS2; clear hB2 hS2))
      go_end0
      have hP := Rel.out.is
      rw [List.take_length] at hP
      rw [HNew.out, HNn.out, show ((some (F.filterMap pairP)).map (·.take 10)).getD R.P = P from hP.symm]
      refine ⟨rfl, ?_, (Chg.of_bel Rel.out.b).trans (Chg.of_stays HS2.out HB.out hg (by decide))⟩
      exact RvAt.putP HB.out HO.out hg HS2.out HB2.out rfl (own_base Rel.out.own hbw)
end Go.Proofs.YtgebcifkbldfoaaDoor

/- resolv: nameserver. -/
namespace Go.Proofs.YtgebcifkbldfoaaDoor
open Go.RowKit
attribute [local go_sem] ba_get ext_take ext_drop ext_any ba_app

theorem addS_ne {S : List Ad} {F : List (List UInt8)} (h : F.length ≠ 1) : addS S F = S := by
  match F, h with
  | [], _ => rfl
  | [_], h => exact absurd rfl h
  | _ :: _ :: _, _ => rfl
set_option maxRecDepth 100000 in
set_option maxHeartbeats 4000000 in
theorem name_any (b g : Nat) (R : Rv) (v : Value) (F : List (List UInt8)) (w : World) (ht : Tab w) (hm : MaxI w) (h : RvAt b w g R) (hg : b ≤ g) (hbw : b ≤ w.heap.size) (hs : Sl w 1 v F.length (F.map stv)) (h2 : F.length ≤ 100000) (hb : ∀ x ∈ F, x.length ≤ 1000000) (hS : R.S.length ≤ 3) :
    Calls Tryd.prog 70 #[.pointer (some ⟨g, 0, none⟩), v] w (RslPost b g w { R with S := addS R.S F }) := by
  obtain ⟨A, c, rfl, hc⟩ := hs.any
  have Hs := Lib.hid hs
  have H := Lib.hid h
  have HRl := Lib.hid hb
  have Ht := Lib.hid ht
  have Hm := Lib.hid hm
  clear hs h hb ht hm
  by_cases h1 : F.length = 1
  · obtain ⟨f, rfl⟩ : ∃ f, F = [f] := List.length_eq_one_iff.1 h1
    clear h1
    obtain ⟨vs, vn, vp, hB, hO⟩ := H.out
    obtain ⟨sa, sc, rfl⟩ := own_any hO.s
    have c0 : w.cell? ⟨g, 0, none⟩ = some (.slice sa R.S.length sc) := hB.cell 0
    have HB := Lib.hid hB
    have HO := Lib.hid hO
    clear hB hO
    by_cases h3 : R.S.length < 3
    · have h3I : ¬ (3 : Int) ≤ (R.S.length : Int) := by omega
      have hfl := HRl.out f (by simp)
      have HX := Lib.hid (aparse_any f w Ht.out Hm.out (by omega))
      obtain ⟨b1, off, c1, hv, hc1, hbl, hcell⟩ := Hs.out.pos (by simp)
      injection hv with hv1 _ hv2
      subst hv1 hv2
      have hfx : w.cell? ⟨b1, off, none⟩ = some (.string ⟨f.toArray⟩) := by
        have := hcell 0 (stv f) rfl
        rwa [Nat.add_zero] at this
      clear hcell hfl
      cases hx : adrP f with
      | inl e0 =>
        have he0 : (e0 == 0) = false := by rcases adrP_err hx with rfl | rfl <;> rfl
        have HE : Hid (addS R.S [f] = R.S) := Lib.hid (by rw [addS, if_pos h3, hx])
        have HX2 : Hid (Calls Tryd.prog 96 #[.string ⟨f.toArray⟩] w fun e w' => e = .returned (.tuple #[.agg (adA ad0), .int .i64 e0]) ∧ Below w.heap.size w w') := Lib.hid (HX.out.mono fun e w' ⟨he, hb⟩ => ⟨by rw [he, hx]; rfl, hb⟩)
        clear hx HX
        go_enter Tryd.func70, Tryd.ntmps70
        go_wp2_with (first
          | (go_at_call 96; refine HX2.out.mono ?_; rintro e w2 ⟨rfl, hb2⟩; have Hb2 := Lib.hid hb2; clear hb2)
          | ((with_reducible show wpList _ _ _ (⟨some 4, _, _, _, _, _⟩ :: _) _ _); refine wpList_allocAd (o := ⟨some 4, _, _, _, _, _⟩) rfl rfl ?_; intro g4 w4 hg4 hB4 hb4 hs4; have Hg4 := Lib.hid hg4; clear hg4 hs4)
          | ((with_reducible refine wpList_storeAd (o := ⟨none, _, _, _, _, _⟩) rfl (.tmp 4) _ rfl rfl rfl hB4 ?_); intro w5 hB5 hS5; have Hb5 := Lib.hid (bel_tr Hb2.out (hb4.trans (hS5.below (Nat.le_of_eq Hg4.out.symm)))); clear hB5 hS5 hb4 hB4))
        go_end0
        rw [HE.out]
        exact ⟨rfl, H.out.bel Hb5.out, Chg.of_bel Hb5.out⟩
      | inr a =>
        have HE : Hid (addS R.S [f] = R.S ++ [a]) := Lib.hid (by rw [addS, if_pos h3, hx])
        have HX2 : Hid (Calls Tryd.prog 96 #[.string ⟨f.toArray⟩] w fun e w' => e = .returned (.tuple #[.agg (adA a), .int .i64 0]) ∧ Below w.heap.size w w') := Lib.hid (HX.out.mono fun e w' ⟨he, hb⟩ => ⟨by rw [he, hx]; rfl, hb⟩)
        clear hx HX
        go_enter Tryd.func70, Tryd.ntmps70
        go_upto_region 3 with (first
          | (go_at_call 96; refine HX2.out.mono ?_; rintro e w2 ⟨rfl, hb2⟩; have Hb2 := Lib.hid hb2; clear hb2)
          | ((with_reducible show wpList _ _ _ (⟨some 4, _, _, _, _, _⟩ :: _) _ _); refine wpList_allocAd (o := ⟨some 4, _, _, _, _, _⟩) rfl rfl ?_; intro g4 w4 hg4 hB4 hb4 hs4; have Hg4 := Lib.hid hg4; clear hg4 hs4)
          | ((with_reducible refine wpList_storeAd (o := ⟨none, _, _, _, _, _⟩) rfl (.tmp 4) _ rfl rfl rfl hB4 ?_); intro w5 hB5 hS5; have Hb5 := Lib.hid (bel_tr Hb2.out (hb4.trans (hS5.below (Nat.le_of_eq Hg4.out.symm)))); have HB5 := Lib.hid hB5; clear hB5 hS5 hb4 hB4; refine holdL ?_))
        refine Lib.hid ?_
        go_upto_region 3 with (fail)
        try simp only [Act.put, List.setIfInBounds_toArray, List.set_cons_zero, List.set_cons_succ]
        have B5 := Lib.hid (HB.out.bel Hb5.out)
        have O5 := Lib.hid (HO.out.bel Hb5.out)
        have hg4 : w.heap.size ≤ g4 := by have h1 := Hg4.out; have h2 := Hb2.out.size; omega
        have hne : g4 ≠ g := by have := HB.out.lt; omega
        have hrow : ∀ k, (Value.slice sa R.S.length sc).ownBlock = some k → k < w.heap.size := fun k hk => (HO.out.s.lt k hk).2
        have e0 : w5.cell? ⟨g, 0, none⟩ = some (.slice sa R.S.length sc) := B5.out.cell 0
        have hR5 := HB5.out.rangeAd
        clear c0 hfx
        have HS0 : w5.drew.cell? ⟨g, 0, none⟩ = some (.slice sa R.S.length sc) ∧ w5.drew.rangeAt g4 0 (adL a) := ⟨e0, hR5⟩
        refine wp_region_k 12 (fun w' => w'.cell? ⟨g, 0, none⟩ = some (.slice sa R.S.length sc) ∧ w'.rangeAt g4 0 (adL a)) (by kernel_rfl) ?_
        refine wpAnyK_take (i := 0) (oi := ⟨some 27, .move (.tmp 0), _, _, _, none⟩) (v := .pointer (some ⟨g, 0, none⟩)) [9, 10, 11, 12] rfl (by kernel_rfl) (by kernel_rfl) (by kernel_rfl) (by kernel_rfl) (fun _ _ _ h => h) (Or.inl ⟨by rfl, fun w' hS' => by go_simp⟩) HS0 ?_
        simp only [Act.put, List.setIfInBounds_toArray, List.set_cons_zero, List.set_cons_succ]
        refine wpAnyK_take (i := 1) (oi := ⟨some 28, .move (.tmp 0), _, _, _, none⟩) (v := .pointer (some ⟨g, 0, none⟩)) [2, 3, 4, 5, 8, 12] rfl (by kernel_rfl) (by kernel_rfl) (by kernel_rfl) (by kernel_rfl) (fun _ _ _ h => h) (Or.inl ⟨by rfl, fun w' hS' => by go_simp⟩) HS0 ?_
        simp only [Act.put, List.setIfInBounds_toArray, List.set_cons_zero, List.set_cons_succ]
        refine wpAnyK_take (i := 2) (oi := ⟨some 29, .nilCheck (.tmp 28), _, _, _, none⟩) (v := .pointer (some ⟨g, 0, none⟩)) [3, 4, 5, 8, 12] rfl (by kernel_rfl) (by kernel_rfl) (by kernel_rfl) (by kernel_rfl) (fun _ _ _ h => h) (Or.inl ⟨by rfl, fun w' hS' => by go_simp⟩) HS0 ?_
        simp only [Act.put, List.setIfInBounds_toArray, List.set_cons_zero, List.set_cons_succ]
        refine wpAnyK_take (i := 3) (oi := ⟨some 30, .fieldAddr 116 (.tmp 29) 0, _, _, _, none⟩) (v := .pointer (some ⟨g, 0, none⟩)) [4, 5, 8, 12] rfl (by kernel_rfl) (by kernel_rfl) (by kernel_rfl) (by kernel_rfl) (fun _ _ _ h => h) (Or.inl ⟨by rfl, fun w' hS' => by go_simp⟩) HS0 ?_
        simp only [Act.put, List.setIfInBounds_toArray, List.set_cons_zero, List.set_cons_succ]
        refine wpAnyK_take (i := 4) (oi := ⟨some 31, .fieldAddr 68 (.tmp 30) 0, _, _, _, none⟩) (v := .pointer (some ⟨g, 0, none⟩)) [5, 8, 12] rfl (by kernel_rfl) (by kernel_rfl) (by kernel_rfl) (by kernel_rfl) (fun _ _ _ h => h) (Or.inl ⟨by rfl, fun w' hS' => by go_simp⟩) HS0 ?_
        simp only [Act.put, List.setIfInBounds_toArray, List.set_cons_zero, List.set_cons_succ]
        refine wpAnyK_take (i := 5) (oi := ⟨some 32, .load 54 (.tmp 31), _, _, _, none⟩) (v := .slice sa R.S.length sc) [8, 12] rfl (by kernel_rfl) (by kernel_rfl) (by kernel_rfl) (by kernel_rfl) (fun _ _ _ h => h) (yieldsIf_loadC (by rfl) _ _ rfl rfl (fun w' hS' => hS'.1) Tryd.underlying54 rfl) HS0 ?_
        simp only [Act.put, List.setIfInBounds_toArray, List.set_cons_zero, List.set_cons_succ]
        refine wpAnyK_take (i := 6) (oi := ⟨some 33, .load 34 (.tmp 4), _, _, _, none⟩) (v := .agg (adA a)) [7, 8, 12] rfl (by kernel_rfl) (by kernel_rfl) (by kernel_rfl) (by kernel_rfl) (fun _ _ _ h => h) (yieldsIf_loadAd (by rfl) _ rfl rfl (fun w' hS' => hS'.2)) HS0 ?_
        simp only [Act.put, List.setIfInBounds_toArray, List.set_cons_zero, List.set_cons_succ]
        refine wpAnyK_one (i := 7) (by kernel_rfl) ?_
        refine wpOp_of_list (o := ⟨some 34, .buildSlice 54 1 #[(0, .tmp 33)], _, _, _, none⟩) rfl ?_
        refine wpList_lit rfl _ _ rfl elt_ads [.agg (adA a)] rfl (by decide) (by decide) (fun v hv => by rw [List.mem_singleton.1 hv]; exact adA_size _) rfl ?_
        intro w8 hB8' hx8 hb8 hs8
        clear hx8 hs8
        have hB8 := bk_list (l := adL a) hB8' rfl
        have hb58 := bel_drew hb8
        have Hb58 := Lib.hid hb58
        have HB8 := Lib.hid hB8
        have hS8 : w8.cell? ⟨g, 0, none⟩ = some (.slice sa R.S.length sc) ∧ w8.rangeAt g4 0 (adL a) := ⟨(B5.out.bel hb58).cell 0, (HB5.out.bel hb58).rangeAd⟩
        clear hB8' hB8 hb8 hb58
        show _ ∧ _
        refine ⟨fun _ => hS8, ?_⟩
        simp only [Act.put, List.setIfInBounds_toArray, List.set_cons_zero, List.set_cons_succ]
        refine wpAnyK_one (i := 8) (by kernel_rfl) ?_
        refine wpOp_of_list (o := ⟨some 35, .call { callee := .builtin .append, args := #[.tmp 32, .tmp 34], argTypes := #[54, 54] }, _, _, _, none⟩) rfl ?_
        have O8 := Lib.hid (O5.out.bel Hb58.out)
        refine wpList_app rfl (.tmp 32) (.tmp 34) _ rfl elt_ads rfl O8.out.s rfl (HB8.out.sl (size := 18) (n := 1) (adL_len _) 1 (Nat.le_refl _)) (adL_one _) (Nat.le_trans hbw (Nat.le_trans Hb5.out.size Hb58.out.size)) (by omega) (by omega) ?_
        intro v9 w9 ho9 hb9 hg9
        obtain ⟨a9, k9, rfl⟩ := own_any ho9
        have HB9 := Lib.hid ((B5.out.bel Hb58.out).grown hg9 (own_neBk O8.out.s (B5.out.bel Hb58.out) (by decide)))
        have HA9 := Lib.hid ((HB5.out.bel Hb58.out).grown hg9 (fun e => by have := hrow g4 e.symm; omega))
        have HC9 := Lib.hid (Chg.of_own (T := tyC) O8.out.s hg9 (by decide))
        obtain ⟨N, hN, hN0⟩ := O8.out.n
        have HN9 := Lib.hid (hN.kept hg9 (Harm.own (T := [51, 9]) (Nat.le_refl _) O8.out.s (by decide)))
        have HZ9 : Hid (∀ q ∈ N, NmB 0 w9 q) := Lib.hid (fun q hq => (hN0 q hq).kept hg9 (Harm.own (Nat.zero_le _) O8.out.s (by decide)))
        have HP9 := Lib.hid (row_kept O8.out.p hg9 (Harm.own (Nat.le_refl _) O8.out.s (by decide)))
        have HO9 := Lib.hid ho9
        have HS0 : w9.cell? ⟨g, 0, none⟩ = some (.slice sa R.S.length sc) ∧ w9.rangeAt g4 0 (adL a) := ⟨HB9.out.cell 0, HA9.out.rangeAd⟩
        clear ho9 hb9 hg9 hN hN0
        show _ ∧ _
        refine ⟨fun _ => HS0, ?_⟩
        simp only [Act.put, List.setIfInBounds_toArray, List.set_cons_zero, List.set_cons_succ]
        refine wpAnyK_take (i := 9) (oi := ⟨some 36, .nilCheck (.tmp 27), _, _, _, none⟩) (v := .pointer (some ⟨g, 0, none⟩)) [10, 11, 12] rfl (by kernel_rfl) (by kernel_rfl) (by kernel_rfl) (by kernel_rfl) (fun _ _ _ h => h) (Or.inl ⟨by rfl, fun w' hS' => by go_simp⟩) HS0 ?_
        simp only [Act.put, List.setIfInBounds_toArray, List.set_cons_zero, List.set_cons_succ]
        refine wpAnyK_take (i := 10) (oi := ⟨some 37, .fieldAddr 116 (.tmp 36) 0, _, _, _, none⟩) (v := .pointer (some ⟨g, 0, none⟩)) [11, 12] rfl (by kernel_rfl) (by kernel_rfl) (by kernel_rfl) (by kernel_rfl) (fun _ _ _ h => h) (Or.inl ⟨by rfl, fun w' hS' => by go_simp⟩) HS0 ?_
        simp only [Act.put, List.setIfInBounds_toArray, List.set_cons_zero, List.set_cons_succ]
        refine wpAnyK_take (i := 11) (oi := ⟨some 38, .fieldAddr 68 (.tmp 37) 0, _, _, _, none⟩) (v := .pointer (some ⟨g, 0, none⟩)) [12] rfl (by kernel_rfl) (by kernel_rfl) (by kernel_rfl) (by kernel_rfl) (fun _ _ _ h => h) (Or.inl ⟨by rfl, fun w' hS' => by go_simp⟩) HS0 ?_
        simp only [Act.put, List.setIfInBounds_toArray, List.set_cons_zero, List.set_cons_succ]
        refine wpAnyK_one (i := 12) (by kernel_rfl) ?_
        refine wpOp_of_list (o := ⟨none, .store 54 (.tmp 38) (.tmp 35), _, _, _, none⟩) rfl ?_
        refine wpList_storeR rfl _ _ _ rfl rfl rfl rfl HB9.out (show 0 < 10 from by decide) sz_adsR ?_
        intro w10 hB10 hS10
        have HB10 := Lib.hid hB10
        have HS10 := Lib.hid hS10
        clear hB10 hS10
        show _ ∧ _
        refine ⟨fun h => (by cases (show true = false from h)), ?_⟩
        dsimp only [Act.put]
        refine wpAnyK_done (by kernel_rfl) ?_ _
        go_wp2
        go_end0
        rw [HE.out]
        have hh : ∀ T, 116 ∉ T → ∀ b', b' ≤ g → Harm T b' w9 (some g) := fun T hT b' hb' => Harm.type hb' (show w9.heap[g]? = _ from HB9.out) hT
        refine ⟨rfl, ⟨.slice a9 (R.S.length + 1) k9, vn, vp, HB10.out, ?_, ⟨N, HN9.out.kept HS10.out.grown (hh _ (by decide) _ hg), fun q hq => (HZ9.out q hq).kept HS10.out.grown (hh _ (by decide) _ (Nat.zero_le _))⟩, row_kept HP9.out HS10.out.grown (hh _ (by decide) _ hg)⟩, ?_⟩
        · have h := row_kept HO9.out HS10.out.grown (hh _ (by decide) _ hg)
          show w10.ownsRow b 34 18 _ (R.S ++ [a]).length ((R.S ++ [a]).flatMap adL)
          rw [List.length_append, List.flatMap_append]
          simpa using h
        · exact ((Chg.of_bel Hb5.out).trans (Chg.of_bel Hb58.out)).trans (HC9.out.trans (Chg.of_stays HS10.out HB9.out hg (by decide)))
    · have h3I : (3 : Int) ≤ (R.S.length : Int) := by omega
      have HE : Hid (addS R.S [f] = R.S) := Lib.hid (by rw [addS, if_neg h3])
      go_enter Tryd.func70, Tryd.ntmps70
      go_wp2
      go_end0
      rw [HE.out]
      exact ⟨rfl, H.out, Chg.refl _ _ _⟩
  · have i1 : ((F.length : Int) != 1) = true := by rw [bne_iff_ne]; omega
    rw [addS_ne h1]
    clear h1
    go_enter Tryd.func70, Tryd.ntmps70
    go_wp2
    go_end0
    exact ⟨rfl, H.out, Chg.refl _ _ _⟩
end Go.Proofs.YtgebcifkbldfoaaDoor
