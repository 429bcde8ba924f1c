/- Layer 05: the document's bytes of a flat value. -/
import Derived.Test.YtakliplkabgmbaaV14
import Derived.Deep.CutBlock
set_option maxRecDepth 20000
namespace Go.Proofs.Ytakliplkabgmbaa
open Go.RowKit Go.Hd
attribute [local go_sem ↓] h_ldV h_stV h_alV
attribute [local go_sem] r_ldV r_stV r_alV

theorem putO_len {l m x : List UInt8} (h : putO (some l) m = some x) : x = l ++ m ∧ x.length ≤ 65536 := by
  rw [putO_some] at h
  split at h
  · cases h
  · cases h; exact ⟨rfl, by simp; omega⟩
theorem startO_ne {l0 lead : List UInt8} (h : lead ≠ []) : startO l0 lead = if 65536 < (l0 ++ lead).length then none else some (l0 ++ lead) := by
  unfold startO; rw [if_neg h, putO_some, List.length_append]
theorem len0 {α : Type} {l : List α} (h : l = []) : ((l.length : Int) == 0) = true := by subst h; rfl
theorem len1 {α : Type} {l : List α} (h : l ≠ []) : ((l.length : Int) == 0) = false := by
  have : l.length ≠ 0 := by simpa using h
  simp; omega
set_option maxHeartbeats 2000000 in
theorem rbytes_flat {w0 w : World} {k n : Int} {b t : List UInt8} {ks : List (List UInt8)} {l : List PV} {cs : List Value} (h : VAt w0 cs (.mk k n b t ks l)) (hk0 : 0 ≤ k) (hk6 : k < 6) (d : Nat) {base : Nat} {a0 : Option Addr} {c0 : Nat} {l0 : List UInt8}
    (hown : Own 5 w base (.slice a0 l0.length c0) l0) (h0 : l0.length ≤ 65536) (hbw : Below w0.heap.size w0 w) (hob : w0.heap.size ≤ base) (hbs : base ≤ w.heap.size) :
    Calls Try.prog 57 #[.slice a0 l0.length c0, .agg cs.toArray] w fun e w' => ∃ u r, e = .returned (.tuple #[u, .bool r]) ∧ RbR base w w' (.slice a0 l0.length c0) u r (encO (d + 1) (some l0) (.mk k n b t ks l)) := by
  cases h with
  | @mk _ _ _ _ _ _ ab ak al cb ck cl css hk hn hb hbc ht hks hkc hkt hl hlc hcs h6 sub =>
  have HE := Lib.hid (enc_flat (d := d) (n := n) (b := b) (t := t) (ks := ks) (l := l) h0 hk0 hk6)
  have hv0 : ∀ q, (Value.slice a0 l0.length c0).ownBlock = some q → base ≤ q ∧ q < w.heap.size := fun q hq => hown.lt q hq
  have hb0 : Below w.heap.size w (w.alloc (.cells (List.toArray (α := Value) [.int .i64 k, .int .i64 n, .slice ab b.length cb, .string (str t), .slice ak ks.length ck, .slice al l.length cl]) 63)) := (Below.refl _ _).alloc (Nat.le_refl _) _
  have B0 : Blk (w.alloc (.cells (List.toArray (α := Value) [.int .i64 k, .int .i64 n, .slice ab b.length cb, .string (str t), .slice ak ks.length ck, .slice al l.length cl]) 63)) w.heap.size 63 [.int .i64 k, .int .i64 n, .slice ab b.length cb, .string (str t), .slice ak ks.length ck, .slice al l.length cl] := Blk.new _ _ _
  show Calls _ _ #[_, .agg (List.toArray (α := Value) [.int .i64 k, .int .i64 n, .slice ab b.length cb, .string (str t), .slice ak ks.length ck, .slice al l.length cl])] _ _
  go_enter Try.func57, Try.ntmps57
  go_upto_region 1 with (fail)
  generalize w.alloc (.cells (List.toArray (α := Value) [.int .i64 k, .int .i64 n, .slice ab b.length cb, .string (str t), .slice ak ks.length ck, .slice al l.length cl]) 63) = W at *
  have k0 : W.cell? ⟨w.heap.size, 0, none⟩ = some (.int .i64 k) := B0.cell rfl
  have k1 : W.cell? ⟨w.heap.size, 1, none⟩ = some (.int .i64 n) := B0.cell rfl
  have k2 : W.cell? ⟨w.heap.size, 2, none⟩ = some (.slice ab b.length cb) := B0.cell rfl
  have k3 : W.cell? ⟨w.heap.size, 3, none⟩ = some (.string (str t)) := B0.cell rfl
  have hsz : (str t).size = t.length := str_size t
  generalize hL : leadF k n b t l = L at *
  have hL9 : L.length ≤ 9 := by rw [← hL]; exact leadF_len k n b t l
  have HL := Lib.hid hL
  clear hL
  have htm : t.length ≤ maxLen := ht
  have hbm : b.length ≤ maxLen := Nat.le_trans hbc.1 hbc.2
  go_upto_block 0 with (fail)
  go_cut [6] (fun u wx => ∃ a c, u = .slice a L.length c ∧ Row wx a (L.map b8) ∧ Below w.heap.size w wx ∧ Blk wx w.heap.size 63 [.int .i64 k, .int .i64 n, .slice ab b.length cb, .string (str t), .slice ak ks.length ck, .slice al l.length cl])
  case first =>
    rcases (by omega : k = 0 ∨ k = 1 ∨ k = 2 ∨ k = 3 ∨ k = 4 ∨ k = 5) with rfl | rfl | rfl | rfl | rfl | rfl
    · have HL1 : L = [0xc0] := HL.out.symm
      subst HL1
      go_wp2
      go_meet
      exact ⟨_, _, rfl, (Blk.new W 5 #[b8 0xc0]).row, hb0.alloc (Nat.le_trans hb0.size (Nat.le_refl _)) _, B0.alloc _⟩
    · have HL1 : L = [0xc2] := HL.out.symm
      subst HL1
      go_wp2
      go_meet
      exact ⟨_, _, rfl, (Blk.new W 5 #[b8 0xc2]).row, hb0.alloc (Nat.le_trans hb0.size (Nat.le_refl _)) _, B0.alloc _⟩
    · have HL1 : L = [0xc3] := HL.out.symm
      subst HL1
      go_wp2
      go_meet
      exact ⟨_, _, rfl, (Blk.new W 5 #[b8 0xc3]).row, hb0.alloc (Nat.le_trans hb0.size (Nat.le_refl _)) _, B0.alloc _⟩
    · go_wp2_with fail
      refine (rinteger_any hn).mono ?_
      rintro e w1 ⟨v1, rfl, hF⟩
      rw [show intB n = L from HL.out] at hF
      obtain ⟨a1, c1, rfl, hr1, hb1, _, _⟩ := hF.open
      go_wp2
      go_meet
      exact ⟨_, _, rfl, hr1, Gr.trans hb0 hb1, B0.below hb1⟩
    · go_wp2_with fail
      refine (rcounted_any (few := 0) (one := 0xc4) (two := 0xc5) (most := -1) hbm (by decide) (by decide) (by decide)).mono ?_
      rintro e w1 ⟨v1, rfl, hF⟩
      rw [show cntB b.length 0 (-1) 0xc4 0xc5 = L from HL.out] at hF
      obtain ⟨a1, c1, rfl, hr1, hb1, _, _⟩ := hF.open
      go_wp2
      go_meet
      exact ⟨_, _, rfl, hr1, Gr.trans hb0 hb1, B0.below hb1⟩
    · go_wp2_with fail
      refine (rcounted_any (few := 0xa0) (one := 0xd9) (two := 0xda) (most := 31) htm (by decide) (by decide) (by decide)).mono ?_
      rintro e w1 ⟨v1, rfl, hF⟩
      rw [show cntB t.length 0xa0 31 0xd9 0xda = L from HL.out] at hF
      obtain ⟨a1, c1, rfl, hr1, hb1, _, _⟩ := hF.open
      go_wp2
      go_meet
      exact ⟨_, _, rfl, hr1, Gr.trans hb0 hb1, B0.below hb1⟩
  case rest =>
    obtain ⟨aL, cL, rfl, hrL, hbc1, BC⟩ := hcut
    clear B0 k0 k1 k2 k3 hb0
    have HN := Lib.hid (fun h : L ≠ [] => startO_ne (l0 := l0) h)
    obtain ⟨a2, c2, w2, hrun, hO2, hG1⟩ := lead_step (c := cL) hown hbs hbc1 hrL rfl h0 hL9
    have hq : (Value.slice a0 l0.length c0).ownBlock ≠ some w.heap.size := fun e => by have := (hv0 _ e).2; omega
    obtain ⟨B2, hq2⟩ := hG1.blk BC hq
    have hG2 := (Gro.ofBelow (v := (Value.slice a0 l0.length c0)) hbc1).trans hG1
    have hbw2 := hbw.trans (hG2.below (fun q hq => (hv0 q hq).1) hob hbw.size)
    have hbs2 := Nat.le_trans hbs hG2.size
    have ll : (l0 ++ L).length ≤ 65545 := by simp; omega
    clear hown hbc1 hrL hG1 BC hq hv0
    generalize l0 ++ L = l2 at *
    by_cases hLe : L = []
    · have e0 := len0 hLe
      have HN2 : Hid (encO (d + 1) (some l0) (.mk k n b t ks l) = none) := by show _ = _; rw [HE.out, hLe]; rfl
      clear hLe
      go_wp2_with (at_builtin; refine wpList_append_run hrun rfl rfl rfl rfl ?_)
      go_ret2
      rw [HN2.out]
      exact ⟨_, _, rfl, ⟨_, hO2, (by simp)⟩, fun _ => rfl, hG2⟩
    · have e0 := len1 hLe
      have HS := Lib.hid (HN.out hLe)
      have HNE := Lib.hid hLe
      clear hLe
      by_cases hbig : 65536 < l2.length
      · have i1 : 65536 < (l2.length : Int) := by omega
        have HN2 : Hid (encO (d + 1) (some l0) (.mk k n b t ks l) = none) := by show _ = _; rw [HE.out, HS.out, if_pos hbig]; rfl
        go_wp2_with (at_builtin; refine wpList_append_run hrun rfl rfl rfl rfl ?_)
        go_ret2
        rw [HN2.out]
        exact ⟨_, _, rfl, ⟨_, hO2, (by simp)⟩, fun _ => rfl, hG2⟩
      · have i1 : ¬ 65536 < (l2.length : Int) := by omega
        have HS2 : Hid (encO (d + 1) (some l0) (.mk k n b t ks l) = putO (some l2) (restF k b t)) := by show _ = _; rw [HE.out, HS.out, if_neg hbig]
        have hl2 : l2.length ≤ 65536 := by omega
        clear HE HS HN hbig ll
        have k0 : w2.cell? ⟨w.heap.size, 0, none⟩ = some (.int .i64 k) := B2.cell rfl
        have k2 : w2.cell? ⟨w.heap.size, 2, none⟩ = some (.slice ab b.length cb) := B2.cell rfl
        have k3 : w2.cell? ⟨w.heap.size, 3, none⟩ = some (.string (str t)) := B2.cell rfl
        have hmx : l2.length + 65535 ≤ 140737488355328 := by omega
        rcases (by omega : k = 4 ∨ k = 5 ∨ (k ≠ 4 ∧ k ≠ 5)) with e | e | e
        case' neg.inl =>
          subst e
          have hb65 : b.length < 65536 := by
            rcases cntB_ne (n := b.length) (few := 0) (most := -1) (one := 0xc4) (two := 0xc5) (by rw [show cntB b.length 0 (-1) 0xc4 0xc5 = L from HL.out]; exact HNE.out) with h | h <;> omega
          obtain ⟨v3, w3, hrun3, hO3, g1, g2, _⟩ := Own.append (ty := 35) hO2 eB (n := b.length) (c := cb) (hb.below hbw2) rfl (by omega) hbs2
          have HS3 : Hid (encO (d + 1) (some l0) (.mk 4 n b t ks l) = if 65536 < (l2 ++ b).length then none else some (l2 ++ b)) := by show _ = _; rw [HS2.out, List.length_append]; rfl
          obtain ⟨a3, c3, rfl, _⟩ := Own.at (E := 5) hO3
          have hG3' : Gro w2 w3 (.slice a2 l2.length c2) (.slice a3 (l2 ++ b).length c3) := ⟨g1, g2⟩
          have hO3' := hO3
          obtain ⟨B3, hq3⟩ := hG3'.blk B2 hq2
          have hG3 := hG2.trans hG3'
          clear g1 g2 hb65 hO3
          generalize l2 ++ b = l3 at *
          have p0 : w3.cell? ⟨w.heap.size, 0, none⟩ = some (.int .i64 4) := B3.cell rfl
          have p5 : w3.cell? ⟨w.heap.size, 5, none⟩ = some (.slice al l.length cl) := B3.cell rfl
          go_upto_region 18 with (at_builtin; refine wpList_append_run hrun rfl rfl rfl rfl ?_)
          go_upto_region 24 with (at_builtin; refine wpList_append_run hrun3 rfl rfl rfl rfl ?_)
        case' neg.inr.inl =>
          subst e
          have hb65 : t.length < 65536 := by
            rcases cntB_ne (n := t.length) (few := 0xa0) (most := 31) (one := 0xd9) (two := 0xda) (by rw [show cntB t.length 0xa0 31 0xd9 0xda = L from HL.out]; exact HNE.out) with h | h <;> omega
          obtain ⟨v3, w3, hrun3, hO3, g1, g2, _⟩ := Own.appendT (ty := 35) (tx := 9) (m := t) hO2 eB Try.underlying9 (by omega) hbs2
          have HS3 : Hid (encO (d + 1) (some l0) (.mk 5 n b t ks l) = if 65536 < (l2 ++ t).length then none else some (l2 ++ t)) := by show _ = _; rw [HS2.out, List.length_append]; rfl
          obtain ⟨a3, c3, rfl, _⟩ := Own.at (E := 5) hO3
          have hG3' : Gro w2 w3 (.slice a2 l2.length c2) (.slice a3 (l2 ++ t).length c3) := ⟨g1, g2⟩
          have hO3' := hO3
          obtain ⟨B3, hq3⟩ := hG3'.blk B2 hq2
          have hG3 := hG2.trans hG3'
          clear g1 g2 hb65 hO3
          generalize l2 ++ t = l3 at *
          have p0 : w3.cell? ⟨w.heap.size, 0, none⟩ = some (.int .i64 5) := B3.cell rfl
          have p5 : w3.cell? ⟨w.heap.size, 5, none⟩ = some (.slice al l.length cl) := B3.cell rfl
          go_upto_region 18 with (at_builtin; refine wpList_append_run hrun rfl rfl rfl rfl ?_)
          go_upto_region 24 with (at_builtin; refine wpList_append_run hrun3 rfl rfl rfl rfl ?_)
        case' neg.inr.inr =>
          obtain ⟨e4, e5⟩ := e
          have HS3 : Hid (encO (d + 1) (some l0) (.mk k n b t ks l) = if 65536 < l2.length then none else some l2) := by
            show _ = _
            rw [HS2.out]
            unfold restF
            rw [if_neg e4, if_neg e5, putO_some, List.length_nil, Nat.add_zero, List.append_nil]
          have p0 : w2.cell? ⟨w.heap.size, 0, none⟩ = some (.int .i64 k) := B2.cell rfl
          have p5 : w2.cell? ⟨w.heap.size, 5, none⟩ = some (.slice al l.length cl) := B2.cell rfl
          have t4 : (k == 4) = false := beq_eq_false_iff_ne.2 e4
          have t5 : (k == 5) = false := beq_eq_false_iff_ne.2 e5
          have hO3' := hO2
          have B3 := B2
          have hG3 := hG2
          clear hO2 B2 hG2
          go_upto_region 24 with (first | (at_builtin; refine wpList_append_run hrun rfl rfl rfl rfl ?_))
          generalize l2 = l3 at *
          generalize w2 = w3 at *
          generalize a2 = a3 at *
          generalize c2 = c3 at *
        all_goals
          clear k0 k2 k3 HS2
          have j0 : (0 : Int) ≤ 0 := by omega
          have HF : Hid (RbR base w w3 (.slice a0 l0.length c0) (.slice a3 l3.length c3) (decide (l3.length ≤ 65536)) (if 65536 < l3.length then none else some l3)) := by
            show RbR _ _ _ _ _ _ _
            by_cases hb : l3.length ≤ 65536
            · rw [if_neg (by omega)]
              exact ⟨⟨_, hO3', fun _ => ⟨rfl, hb⟩⟩, fun h => (by simp at h; omega), hG3⟩
            · rw [if_pos (by omega)]
              exact ⟨⟨_, hO3', fun h => (by simp at h; omega)⟩, fun _ => rfl, hG3⟩
          have HD : Hid (decide ((l3.length : Int) ≤ 65536) = decide (l3.length ≤ 65536)) := by
            show _ = _
            rw [Bool.eq_iff_iff, decide_eq_true_iff, decide_eq_true_iff]; omega
          clear hO3' hG3 B3
          by_cases hl0 : (0 : Int) < (l.length : Int)
        all_goals
          go_wp2
          go_loopw [0, 7, 8] (fun u o i wr => u = .slice a3 l3.length c3 ∧ i = .int .i64 0 ∧ wr = w3) (fun _ _ _ _ => 0)
          case atStart => exact ⟨rfl, rfl, rfl⟩
          case round =>
            obtain ⟨rfl, rfl, rfl⟩ := hrel
            go_wp2
            go_ret2
            rw [HS3.out]
            refine ⟨_, _, rfl, ?_⟩
            first
              | (rw [HD.out]; exact HF.out)
              | (have h := HF.out; rw [decide_eq_true (by omega : l3.length ≤ 65536)] at h; exact h)
end Go.Proofs.Ytakliplkabgmbaa
