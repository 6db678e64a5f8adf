/- The walk of PunyLong. -/
import Derived.Test.YtnelaegjcpkmdaaPunN
import Derived.OwnWalk
namespace Go.Proofs.Ytnelaegjcpkmdaa
open Go.RowKit
attribute [local go_sem] ba_get ba_app

theorem pass_rep (p basic m : Nat) : ∀ (b : List UInt8) (bias done : Nat), ∃ bias', Pu.pass p basic ⟨b, 0, bias, done⟩ (List.replicate m p) = some ⟨b ++ List.replicate m 97, 0, bias', done + m⟩ := by
  induction m with
  | zero => intro b bias done; exact ⟨bias, by simp [Pu.pass]⟩
  | succ m ih =>
    intro b bias done
    obtain ⟨bias', h⟩ := ih (b ++ [97]) (Pu.beh 0 (done + 1) (decide (done = basic))) (done + 1)
    refine ⟨bias', ?_⟩
    unfold Pu.pass at h ⊢
    rw [List.replicate_succ, List.foldlM_cons, Pu.pstep_eq rfl]
    dsimp only
    rw [Pu.figs_zero]
    show List.foldlM _ _ _ = _
    rw [h]
    congr 2
    · rw [List.append_assoc, List.replicate_succ]; rfl
    · omega
theorem enc_rep {p m : Nat} (hp : 128 ≤ p) (hp2 : p < 1114112) (hm : 0 < m) : Pu.enc (List.replicate m p) = some (Pu.figs (p - 128) 72 1 ++ List.replicate (m - 1) 97) ∨ 4294967295 < p - 128 := by
  by_cases hbig : 4294967295 < p - 128
  · exact Or.inr hbig
  left
  have hb : Pu.bas1 (List.replicate m p) = [] := by
    unfold Pu.bas1
    rw [List.filter_replicate, if_neg (by simp; omega)]; rfl
  have hbel : Pu.bel (List.replicate m p) 128 = [] := by
    unfold Pu.bel
    rw [List.filter_replicate, if_neg (by simp; omega)]
  obtain ⟨h1, h2, h3⟩ := Pu.least_spec (l := List.replicate m p) (n := 128) (fun c hc => by rw [List.eq_of_mem_replicate hc]; exact hp2) (by rw [hbel]; simpa using hm)
  have hle : Pu.least (List.replicate m p) 128 = p := List.eq_of_mem_replicate h1
  obtain ⟨k, rfl⟩ : ∃ k, m = k + 1 := ⟨m - 1, by omega⟩
  unfold Pu.enc
  have hh : Pu.head (List.replicate (k + 1) p) = [] := by unfold Pu.head; rw [if_pos hb]
  rw [hb, hh, List.length_replicate]
  obtain ⟨bias', hpass⟩ := pass_rep p 0 k (Pu.figs (p - 128) 72 1) (Pu.beh (p - 128) 1 true) 1
  have hp1 : Pu.pass p ([] : List UInt8).length ⟨[], 0 + (p - 128) * (([] : List UInt8).length + 1), 72, ([] : List UInt8).length⟩ (List.replicate (k + 1) p) = some ⟨Pu.figs (p - 128) 72 1 ++ List.replicate k 97, 0, bias', 1 + k⟩ := by
    rw [← hpass]
    unfold Pu.pass
    rw [List.replicate_succ, List.foldlM_cons, Pu.pstep_eq rfl]
    simp
  rw [Pu.encF_some (s' := ⟨Pu.figs (p - 128) 72 1 ++ List.replicate k 97, 0, bias', 1 + k⟩) (by simp) (by rw [hle]; simp; omega) (by rw [hle]; exact hp1), Pu.encF_done (by simp; omega)]
  simp
theorem enc_rep97 (m : Nat) (hm : 0 < m) : Pu.enc (List.replicate m 97) = some (List.replicate m 97 ++ [45]) := by
  have hb : Pu.bas1 (List.replicate m 97) = List.replicate m 97 := by
    unfold Pu.bas1
    rw [List.filter_replicate, if_pos (by simp), List.map_replicate]; rfl
  have hh : Pu.head (List.replicate m 97) = List.replicate m 97 ++ [45] := by
    unfold Pu.head
    rw [hb, if_neg (by simp; omega)]
  unfold Pu.enc
  rw [hh, hb, Pu.encF_done (by simp)]
/-- like points: what is written, and that it is read. -/
theorem rep_back {p m : Nat} (hp : p = 97 ∨ (128 ≤ p ∧ p < 50128)) (hm : 0 < m) (hm2 : m ≤ 4096) : ∃ T : List UInt8, encR (List.replicate m (p : Int)) = .inr T ∧ T.length ≤ 32768 ∧ Pu.dec T = .inr (List.replicate m p) := by
  have hn : nats (List.replicate m (p : Int)) = List.replicate m p := by unfold nats; rw [List.map_replicate]; simp
  have hok : (List.replicate m (p : Int)).all okp = true := by
    rw [List.all_eq_true]
    intro x hx
    rw [List.eq_of_mem_replicate hx]
    unfold okp
    simp
    omega
  obtain ⟨em, k, h1, h2, h3, h4, h5, h6⟩ := Pu.enc_dec (l := List.replicate m p) (N := p + 1) (fun c hc => by rw [List.eq_of_mem_replicate hc]; omega) (by
    rw [List.length_replicate]
    have : (p + 1) * (m + 1) ≤ 50128 * 4097 := Nat.mul_le_mul (by omega) (by omega)
    omega) (by omega) (by simpa using hm2)
  have hlen : (Pu.head (List.replicate m p) ++ em).length ≤ 32768 := by
    rcases hp with rfl | ⟨g1, g2⟩
    · rw [enc_rep97 m hm] at h1
      injection h1 with h1
      rw [← h1]
      simp
      omega
    · rcases enc_rep g1 (by omega) hm with e | e
      · rw [e] at h1
        injection h1 with h1
        rw [← h1, List.length_append, List.length_replicate]
        have := Pu.figs_len 9 (p - 128) 72 1 (by simp; omega)
        omega
      · omega
  refine ⟨Pu.head (List.replicate m p) ++ em, ?_, hlen, Pu.dec_enc (by simpa using hm2) h5 h2 h6 hlen⟩
  unfold encR
  rw [if_neg (by simp; omega), if_pos hok, hn, h1]

theorem wpList_mkrn {w : World} {ops : Array Oper} {rest : List Oper} {o : Oper} {a : Act} {Q : Exit → Act → World → Prop} (hg : o.guard = none) (l c : Operand) (hop : o.op = Op.makeSlice 46 l c)
    {base : Nat} {kl kc : IntKind} {L C : Int} (n : Nat) (hl : a.eval l = .int kl L) (hc : a.eval c = .int kc C) (hL : L = (n : Int)) (hC : C = (n : Int)) (b3 : n ≤ 1000000) (b4 : base ≤ w.heap.size)
    (hK : ∀ w', w'.ownsRow base 21 1 (.slice (some ⟨w.heap.size, 0, none⟩) n n) n (List.replicate n (.int .i32 0)) → Below base w w' → wpList Try.prog ops Q rest (a.put o.dst (.slice (some ⟨w.heap.size, 0, none⟩) n n)) w') : wpList Try.prog ops Q (o :: rest) a w := by
  obtain ⟨i, h1, h2, h3, h4⟩ := info_parts (show (Try.prog.info? 21).map (fun i => (i.zero, i.size, i.bytes)) = some (some (.int .i32 0), 1, 4) by kernel_rfl)
  refine wpList_make_full w hg l c 46 hop base 21 i (.int .i32 0) 1 Try.underlying46 h1 h2 h3 kl kc L C n hl hc hL hC (by rw [h4]; omega) (by unfold maxLen; omega) b4 ?_
  intro w' r1 r2
  refine hK w' ?_ ((Below.refl _ _).grown r2 b4 (fun k hk => by cases hk))
  have e : (madeCells (Value.int .i32 0).cells (n * 1)).toList = List.replicate n (.int .i32 0) := by
    rw [Nat.mul_one]; exact toList_madeCells_one _ _
  rw [e] at r1
  exact r1
/-- the first k places hold p, the others nothing. -/
def rowP (p M k : Nat) : List Value := List.replicate k (rnv p) ++ List.replicate (M - k) (.int .i32 0)
theorem rowP_len {p M k : Nat} (h : k ≤ M) : (rowP p M k).length = M := by unfold rowP; simp; omega
theorem rowP_set {p M k : Nat} (h : k < M) : (rowP p M k).set k (rnv p) = rowP p M (k + 1) := by
  unfold rowP
  rw [List.set_append_right _ _ (by simp), List.length_replicate, Nat.sub_self]
  obtain ⟨j, hj⟩ : ∃ j, M - k = j + 1 := ⟨M - k - 1, by omega⟩
  rw [hj, List.replicate_succ, List.set_cons_zero, show M - (k + 1) = j by omega, List.replicate_succ', List.append_assoc]
  rfl
theorem rowP_all (p M : Nat) : rowP p M M = (List.replicate M (p : Int)).map (Value.int .i32) := by
  unfold rowP
  rw [List.map_replicate, Nat.sub_self]
  simp [rnv]
theorem rowP_at {p M k : Nat} (h : k < M) : ∃ u, (rowP p M k)[k]? = some u := by
  refine ⟨(rowP p M k)[k]'(by rw [rowP_len (by omega)]; exact h), List.getElem?_eq_getElem _⟩

set_option maxRecDepth 100000 in
set_option maxHeartbeats 2000000 in
theorem punyLong_main (w : World) (M p : Nat) (n c : Int) (b : Bool) (hn0 : 0 ≤ n) (hn1 : n ≤ 255) (hc0 : 0 ≤ c) (hc1 : c ≤ 65535) (hM : 4090 + n % 10 = (M : Int)) (hp : if b = true then p = 97 else 128 + c % 50000 = (p : Int)) :
    Calls Try.prog 8 #[.int .u8 n, .int .u16 c, .bool b] w (Good w) := by
  have hM1 : 4090 ≤ M ∧ M ≤ 4099 := by omega
  have hp1 : p = 97 ∨ (128 ≤ p ∧ p < 50128) := by
    cases b
    · simp at hp; omega
    · simp at hp; omega
  have hp2 : p < 50128 := by omega
  obtain ⟨hM2, hM3⟩ := hM1
  cases b
  case' false =>
    have hpz : 128 + c % 50000 = (p : Int) := by simpa using hp
    have Hp1 := Lib.hid hp1
    clear hp hp1
    go_enter Try.func8, Try.ntmps8
    go_wp2_with fail
    refine (works03_any _).mono ?_
    rintro e w0 ⟨rfl, hb0⟩
    have hsz0 := hb0.size
    go_wp2_with (at_make; refine wpList_mkrn rfl _ _ rfl (base := w.heap.size) M rfl rfl rfl rfl (by omega) hsz0 ?_; intro w1 ho1 hbw1)
  case' true =>
    have Hpz : Hid (Value.int .i32 97 = .int .i32 ((p : Nat) : Int)) := Lib.hid (by rw [show p = 97 by simp at hp; omega]; rfl)
    have Hp1 := Lib.hid hp1
    clear hp hp1
    go_enter Try.func8, Try.ntmps8
    go_wp2_with fail
    refine (works03_any _).mono ?_
    rintro e w0 ⟨rfl, hb0⟩
    have hsz0 := hb0.size
    go_wp2_with (at_make; refine wpList_mkrn rfl _ _ rfl (base := w.heap.size) M rfl rfl rfl rfl (by omega) hsz0 ?_; intro w1 ho1 hbw1)
    rw [Hpz.out]
    have hpz := trivial
  all_goals
    have Hb := Lib.hid (rep_back (p := p) (m := M) Hp1.out (by omega))
    have Hl : Hid (4096 < M → encR (List.replicate M (p : Int)) = .inl 3) := Lib.hid (fun h => by unfold encR; rw [if_pos (by simpa using h)])
    clear hpz hM
    have hb01 := hb0.trans hbw1
    have ho1' : w1.ownsRow w.heap.size 21 1 (.slice (some ⟨w0.heap.size, 0, none⟩) M M) M (rowP p M 0) := by unfold rowP; simpa using ho1
    clear ho1
    have hg : w.heap.size ≤ w0.heap.size := hsz0
    generalize w0.heap.size = g at *
    go_loopw [10] (fun i wr => ∃ k : Nat, k ≤ M ∧ i = .int .i64 (k : Int) ∧ wr.ownsRow w.heap.size 21 1 (.slice (some ⟨g, 0, none⟩) M M) M (rowP p M k) ∧ Below w.heap.size w wr) (fun i _ => M - (intOf i).toNat)
    case atStart => exact ⟨0, Nat.zero_le _, rfl, ho1', hb01⟩
    case round =>
      obtain ⟨k, hk, rfl, h3, h4⟩ := hrel
      clear ho1' hb01
      by_cases hlt : k < M
      · have i1 : (k : Int) < (M : Int) := by omega
        obtain ⟨u, hu⟩ := rowP_at (p := p) hlt
        have q1 : wr.cell? ⟨g, k, none⟩ = some u := (h3.cellAt k (by omega)).trans hu
        have q2 := h3.frozenAt k
        have hS := (h3.stored k (rnv p)).1
        rw [rowP_set hlt] at hS
        have HS : Hid ((wr.setCell ⟨g, k, none⟩ (.int .i32 (p : Int))).ownsRow w.heap.size 21 1 (.slice (some ⟨g, 0, none⟩) M M) M (rowP p M (k + 1))) := Lib.hid hS
        clear hS hu
        go_wp2
        go_roundw
        case rel => exact ⟨k + 1, by omega, by go_num, HS.out, h4.setCell hg _⟩
        case measure => simp [intOf]; omega
      · have i1 : ¬ (k : Int) < (M : Int) := by omega
        obtain rfl : k = M := by omega
        rw [rowP_all] at h3
        have hs : Sl wr 1 (.slice (some ⟨g, 0, none⟩) k k) (List.replicate k (p : Int)).length ((List.replicate k (p : Int)).map (Value.int .i32)) := by rw [List.length_replicate]; exact Sl.own h3
        go_wp2_with fail
        refine (encode_any _ _ _ hs (by rw [List.length_replicate]; unfold maxLen; omega) (fun x hx => by rw [List.eq_of_mem_replicate hx]; omega)).mono ?_
        rintro e w2 ⟨rfl, hb2⟩
        have hb02 := h4.trans (hb2.mono h4.size)
        by_cases hbig : 4096 < k
        · rw [Hl.out hbig]
          unfold encT
          have i2 : (4096 : Int) < (k : Int) := by omega
          go_wp2
          go_ret
          exact ⟨rfl, hb02⟩
        · obtain ⟨T, t1, t2, t3⟩ := Hb.out (by omega)
          rw [t1]
          unfold encT
          have T3 := Lib.hid t3
          clear t1 t3
          have i2 : ¬ (4096 : Int) < (k : Int) := by omega
          go_wp2_with fail
          refine (decode_any _ _ (by unfold maxLen; omega)).mono ?_
          intro e w3 h3
          obtain ⟨v3, rfl, hs3, hb3⟩ := dec_open h3 T3.out
          clear h3
          have hb03 := bel_tr hb02 hb3
          rw [zs_len, List.length_replicate] at hs3
          obtain ⟨bb, oo, cc, rfl, hcc, _, hcell⟩ := hs3.pos (by omega)
          have q1 : w3.cell? ⟨bb, oo, none⟩ = some (.int .i32 (p : Int)) := by
            have := hcell 0 (.int .i32 (p : Int)) (by rw [List.getElem?_map]; unfold zs; rw [List.getElem?_map, List.getElem?_replicate, if_pos (by omega)]; rfl)
            simpa using this
          have q2 : w3.cell? ⟨bb, oo + (k - 1), none⟩ = some (.int .i32 (p : Int)) := hcell (k - 1) (.int .i32 (p : Int)) (by rw [List.getElem?_map]; unfold zs; rw [List.getElem?_map, List.getElem?_replicate, if_pos (by omega)]; rfl)
          have e1 : ((k : Int) - 1).toNat = k - 1 := by omega
          have i3 : (k : Int) - 1 < (k : Int) := by omega
          have i4 : (0 : Int) ≤ (k : Int) - 1 := by omega
          have i5 : (0 : Int) < (k : Int) := by omega
          have i6 : 0 < k := by omega
          have i7 : (1 : Int) ≤ (k : Int) := by omega
          clear hcell hs3
          go_wp2
          go_ret
          exact ⟨by simp, hb03⟩

theorem punyLong_walk (w : World) (n : Int) (hn : (Lit.int .u8 n).wf = true) (c : Int) (hc : (Lit.int .u16 c).wf = true) (b : Bool) : Calls Try.prog 8 #[.int .u8 n, .int .u16 c, .bool b] w (Good w) := by
  obtain ⟨hn0, hn1⟩ := Go.bounds_u8 hn
  obtain ⟨hc0, hc1⟩ := Go.bounds_u16 hc
  refine punyLong_main w (4090 + n % 10).toNat (if b = true then 97 else (128 + c % 50000).toNat) n c b hn0 hn1 hc0 hc1 (by omega) ?_
  cases b
  · simp; omega
  · simp
end Go.Proofs.Ytnelaegjcpkmdaa
