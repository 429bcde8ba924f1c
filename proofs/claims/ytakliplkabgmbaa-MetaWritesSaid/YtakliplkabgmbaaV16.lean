/- Layer 05: the document's bytes of any value, its Encode. -/
import Derived.Test.YtakliplkabgmbaaV15
set_option maxRecDepth 20000
namespace Go.Proofs.Ytakliplkabgmbaa
open Go.RowKit Go.Hd
attribute [local go_sem ↓] h_ldV h_stV h_alV
attribute [local go_sem] r_ldV r_stV r_alV

theorem VAt.txt (w : World) {t : List UInt8} (h : t.length ≤ maxLen) : VAt w [.int .i64 5, .int .i64 0, .slice none 0 0, strV t, .slice none 0 0, .slice none 0 0] (.mk 5 0 [] t [] []) :=
  .mk (b := []) (ks := []) (l := []) [] (by unfold in64; omega) (by unfold in64; omega) (Row.nil _ _) ⟨Nat.le_refl _, Nat.zero_le _⟩ h (Row.nil _ _) ⟨Nat.le_refl _, Nat.zero_le _⟩ (by simp) (Row.nil _ _) ⟨Nat.le_refl _, Nat.zero_le _⟩ rfl (by simp) (by simp)
/-- What the document's bytes answers (a name of its own: the walk's simp takes an 'exists' over a Boolean apart). -/
def RbP (base : Nat) (w : World) (v : Value) (o : Option (List UInt8)) (e : Ending) (w' : World) : Prop := ∃ u r, e = .returned (.tuple #[u, .bool r]) ∧ RbR base w w' v u r o
/-- The state of the document's loop. -/
structure RbL (base q : Nat) (w wr : World) (v0 u : Value) (box : List Value) (l3 : List UInt8) : Prop where
  own : Own 5 wr base u l3
  small : l3.length ≤ 65536
  gro : Gro w wr v0 u
  blk : Blk wr q 63 box
  far : u.ownBlock ≠ some q
theorem RbL.step {base q : Nat} {w wr w2 : World} {v0 u u2 : Value} {box : List Value} {l3 l4 : List UInt8} (h : RbL base q w wr v0 u box l3) (ho : Own 5 w2 base u2 l4) (hs : l4.length ≤ 65536) (hg : Gro wr w2 u u2) : RbL base q w w2 v0 u2 box l4 :=
  ⟨ho, hs, h.gro.trans hg, (hg.blk h.blk h.far).1, (hg.blk h.blk h.far).2⟩
theorem fold_text_none {d : Nat} (l : List (List UInt8 × PV)) : l.foldl (fun o x => encO d (textO o x.1) x.2) none = none :=
  foldl_none _ (fun x => by rw [textO_none]; exact encO_none d x.2) l
theorem fold_enc_none {d : Nat} (l : List PV) : l.foldl (encO d) none = none := foldl_none _ (encO_none d) l
theorem foldl_cut {α β : Type} (f : β → α → β) (o : β) (l : List α) (j : Nat) : l.foldl f o = (l.drop j).foldl f ((l.take j).foldl f o) := by
  conv => lhs; rw [← List.take_append_drop j l, List.foldl_append]
theorem RbR.mk' {base : Nat} {w w' : World} {v u : Value} {r : Bool} {o : Option (List UInt8)} {x : List UInt8} (h : Own 5 w' base u x) (h1 : r = true → o = some x ∧ x.length ≤ 65536) (h2 : r = false → o = none) (hg : Gro w w' v u) : RbR base w w' v u r o := ⟨⟨x, h, h1⟩, h2, hg⟩

set_option maxHeartbeats 4000000 in
theorem rbytes_any {w0 : World} {cs : List Value} {v : PV} (h : VAt w0 cs v) : ∀ (d : Nat) (base : Nat) (w : World) (a0 : Option Addr) (c0 : Nat) (l0 : List UInt8), canF d v = true →
    Own 5 w base (.slice a0 l0.length c0) l0 → l0.length ≤ 65536 → Below w0.heap.size w0 w → w0.heap.size ≤ base → base ≤ w.heap.size →
    Calls Try.prog 57 #[.slice a0 l0.length c0, .agg cs.toArray] w (RbP base w (.slice a0 l0.length c0) (encO d (some l0) v)) := by
  induction h with
  | @mk k n b t ks l ab ak al cb ck cl css hk hn hb hbc ht hks hkc hkt hl hlc hcs h6 sub ih =>
  intro d base w a0 c0 l0 hcan hown h0 hbw hob hbs
  cases d with
  | zero => cases hcan
  | succ d =>
  obtain ⟨k0', k7', hall, hmap⟩ := canF_list hcan
  by_cases hk6 : k < 6
  · exact rbytes_flat (VAt.mk css hk hn hb hbc ht hks hkc hkt hl hlc hcs h6 sub) k0' hk6 d hown h0 hbw hob hbs
  have hel := hall (by omega)
  have HM := Lib.hid hmap
  clear hall hmap
  have hv0 : ∀ q, (Value.slice a0 l0.length c0).ownBlock = some q → base ≤ q ∧ q < w.heap.size := fun q hq => hown.lt q hq
  have hb0 : Below w.heap.size w (w.alloc (.cells (List.toArray (α := Value) [.int .i64 k, .int .i64 n, .slice ab b.length cb, .string (str t), .slice ak ks.length ck, .slice al l.length cl]) 63)) := (Below.refl _ _).alloc (Nat.le_refl _) _
  have B0 : Blk (w.alloc (.cells (List.toArray (α := Value) [.int .i64 k, .int .i64 n, .slice ab b.length cb, .string (str t), .slice ak ks.length ck, .slice al l.length cl]) 63)) w.heap.size 63 [.int .i64 k, .int .i64 n, .slice ab b.length cb, .string (str t), .slice ak ks.length ck, .slice al l.length cl] := Blk.new _ _ _
  show Calls _ _ #[_, .agg (List.toArray (α := Value) [.int .i64 k, .int .i64 n, .slice ab b.length cb, .string (str t), .slice ak ks.length ck, .slice al l.length cl])] _ _
  go_enter Try.func57, Try.ntmps57
  go_upto_region 1 with (fail)
  generalize w.alloc (.cells (List.toArray (α := Value) [.int .i64 k, .int .i64 n, .slice ab b.length cb, .string (str t), .slice ak ks.length ck, .slice al l.length cl]) 63) = W at *
  have k0 : W.cell? ⟨w.heap.size, 0, none⟩ = some (.int .i64 k) := B0.cell rfl
  have k5 : W.cell? ⟨w.heap.size, 5, none⟩ = some (.slice al l.length cl) := B0.cell rfl
  generalize hL : leadF k n b t l = L at *
  have hL9 : L.length ≤ 9 := by rw [← hL]; exact leadF_len k n b t l
  have HL := Lib.hid hL
  clear hL
  have hlm : l.length ≤ maxLen := Nat.le_trans hlc.1 hlc.2
  have HE : Hid (encO (d + 1) (some l0) (.mk k n b t ks l) = if k = 6 then l.foldl (encO d) (startO l0 L) else (ks.zip l).foldl (fun o x => encO d (textO o x.1) x.2) (startO l0 L)) := by
    show _ = _
    rcases (by omega : k = 6 ∨ k = 7) with rfl | rfl
    · rw [if_pos rfl, ← HL.out]
      show l.foldl (encO d) (manyO 0x90 0xdc (some l0) l.length) = _
      rw [enc_list]; rfl
    · rw [if_neg (by decide), ← HL.out]
      show (ks.zip l).foldl (fun o x => encO d (textO o x.1) x.2) (manyO 0x80 0xde (some l0) l.length) = _
      rw [enc_map]; rfl
  have t4 : (k == 4) = false := beq_eq_false_iff_ne.2 (by omega)
  have t5 : (k == 5) = false := beq_eq_false_iff_ne.2 (by omega)
  go_upto_block 0 with (fail)
  go_cut [6] (fun u wx => ∃ a c, u = .slice a L.length c ∧ Row wx a (L.map b8) ∧ Below w.heap.size w wx ∧ Blk wx w.heap.size 63 [.int .i64 k, .int .i64 n, .slice ab b.length cb, .string (str t), .slice ak ks.length ck, .slice al l.length cl])
  case first =>
    have t0 : (k == 0) = false := beq_eq_false_iff_ne.2 (by omega)
    have t1 : (k == 1) = false := beq_eq_false_iff_ne.2 (by omega)
    have t2 : (k == 2) = false := beq_eq_false_iff_ne.2 (by omega)
    have t3 : (k == 3) = false := beq_eq_false_iff_ne.2 (by omega)
    clear hcs hkt
    rcases (by omega : k = 6 ∨ k = 7) with rfl | rfl
    · go_wp2_with fail
      refine (rcounted_any (few := 0x90) (one := 0) (two := 0xdc) (most := 15) hlm (by decide) (by decide) (by decide)).mono ?_
      rintro e w1 ⟨v1, rfl, hF⟩
      rw [show cntB l.length 0x90 15 0 0xdc = L from HL.out] at hF
      obtain ⟨a1, c1, rfl, hr1, hb1, _, _⟩ := hF.open
      go_wp2
      go_meet
      exact ⟨_, _, rfl, hr1, Gr.trans hb0 hb1, B0.below hb1⟩
    · go_wp2_with fail
      refine (rcounted_any (few := 0x80) (one := 0) (two := 0xde) (most := 15) hlm (by decide) (by decide) (by decide)).mono ?_
      rintro e w1 ⟨v1, rfl, hF⟩
      rw [show cntB l.length 0x80 15 0 0xde = L from HL.out] at hF
      obtain ⟨a1, c1, rfl, hr1, hb1, _, _⟩ := hF.open
      go_wp2
      go_meet
      exact ⟨_, _, rfl, hr1, Gr.trans hb0 hb1, B0.below hb1⟩
  case rest =>
    obtain ⟨aL, cL, rfl, hrL, hbc1, BC⟩ := hcut
    clear B0 k0 k5 hb0
    have HN := Lib.hid (fun h : L ≠ [] => startO_ne (l0 := l0) h)
    obtain ⟨a2, c2, w2, hrun, hO2, hG1⟩ := lead_step (c := cL) hown hbs hbc1 hrL rfl h0 hL9
    have hq : (Value.slice a0 l0.length c0).ownBlock ≠ some w.heap.size := fun e => by have := (hv0 _ e).2; omega
    obtain ⟨B2, hq2⟩ := hG1.blk BC hq
    have hG2 := (Gro.ofBelow (v := (Value.slice a0 l0.length c0)) hbc1).trans hG1
    clear hbc1 hrL hG1 BC hq
    have HE2 : L = [] ∨ 65536 < (l0 ++ L).length → encO (d + 1) (some l0) (.mk k n b t ks l) = none := by
      intro h
      have hs : startO l0 L = none := by
        rcases h with h | h
        · rw [h]; rfl
        · by_cases h2 : L = []
          · rw [h2]; rfl
          · rw [HN.out h2, if_pos h]
      rw [HE.out, hs]
      split
      · exact fold_enc_none l
      · exact fold_text_none _
    have HE3 : L ≠ [] → ¬ 65536 < (l0 ++ L).length → startO l0 L = some (l0 ++ L) := fun h1 h2 => by rw [HN.out h1, if_neg h2]
    have ll : (l0 ++ L).length ≤ 65545 := by simp; omega
    have HE2 := Lib.hid HE2
    have HE3 := Lib.hid HE3
    generalize l0 ++ L = l2 at *
    by_cases hLe : L = []
    · have e0 := len0 hLe
      have HN2 : Hid (encO (d + 1) (some l0) (.mk k n b t ks l) = none) := HE2.out (.inl hLe)
      clear hLe
      go_wp2_with (at_builtin; refine wpList_append_run hrun rfl rfl rfl rfl ?_)
      go_ret2
      try rw [HN2.out]
      exact ⟨_, _, rfl, ⟨_, hO2, (by simp)⟩, fun _ => rfl, hG2⟩
    · have e0 := len1 hLe
      have HNE := Lib.hid hLe
      clear hLe
      by_cases hbig : 65536 < l2.length
      · have i1 : 65536 < (l2.length : Int) := by omega
        have HN2 : Hid (encO (d + 1) (some l0) (.mk k n b t ks l) = none) := HE2.out (.inr hbig)
        go_wp2_with (at_builtin; refine wpList_append_run hrun rfl rfl rfl rfl ?_)
        go_ret2
        try rw [HN2.out]
        exact ⟨_, _, rfl, ⟨_, hO2, (by simp)⟩, fun _ => rfl, hG2⟩
      · have i1 : ¬ 65536 < (l2.length : Int) := by omega
        have hl2 : l2.length ≤ 65536 := by omega
        have HST := Lib.hid (HE3.out HNE.out hbig)
        have HRB : Hid (RbL base w.heap.size w w2 (.slice a0 l0.length c0) (.slice a2 l2.length c2) [.int .i64 k, .int .i64 n, .slice ab b.length cb, .string (str t), .slice ak ks.length ck, .slice al l.length cl] l2) := ⟨hO2, hl2, hG2, B2, hq2⟩
        have k0 : w2.cell? ⟨w.heap.size, 0, none⟩ = some (.int .i64 k) := B2.cell rfl
        have k5 : w2.cell? ⟨w.heap.size, 5, none⟩ = some (.slice al l.length cl) := B2.cell rfl
        clear HE2 HE3 HN hbig ll HNE B2 hq2 hG2 hO2
        go_upto_region 24 with (at_builtin; refine wpList_append_run hrun rfl rfl rfl rfl ?_)
        clear hrun i1 k0 k5
        rcases (by omega : k = 6 ∨ k = 7) with rfl | rfl
        · have HE4 : Hid (encO (d + 1) (some l0) (.mk 6 n b t ks l) = l.foldl (encO d) (some l2)) := by show _ = _; rw [HE.out, HST.out, if_pos rfl]
          clear HE HST
          go_wp2
          go_loopw [0, 7, 8] (fun u o i wr => ∃ (j : Nat) (a3 : Option Addr) (c3 : Nat) (l3 : List UInt8), u = .slice a3 l3.length c3 ∧ o = .bool true ∧ j ≤ l.length ∧ i = .int .i64 j ∧ (l.take j).foldl (encO d) (some l2) = some l3 ∧ RbL base w.heap.size w wr (.slice a0 l0.length c0) (.slice a3 l3.length c3) [.int .i64 6, .int .i64 n, .slice ab b.length cb, .string (str t), .slice ak ks.length ck, .slice al l.length cl] l3) (fun _ _ i _ => l.length - (intOf i).toNat)
          case atStart => exact ⟨0, a2, c2, l2, rfl, rfl, Nat.zero_le _, rfl, by rw [List.take_zero]; rfl, HRB.out⟩
          case round =>
            obtain ⟨j, a3, c3, l3, rfl, rfl, hj, rfl, hfo, hR⟩ := hrel
            have k0 : wr.cell? ⟨w.heap.size, 0, none⟩ = some (.int .i64 6) := hR.blk.cell rfl
            have k5 : wr.cell? ⟨w.heap.size, 5, none⟩ = some (.slice al l.length cl) := hR.blk.cell rfl
            by_cases hlt : j < l.length
            · have hcj : css[j]? = some (css[j]'(by omega)) := by simp
              have hvj : l[j]? = some l[j] := by simp [hlt]
              have hbr : Below w0.heap.size w0 wr := hbw.trans (hR.gro.below (fun q hq => (hv0 q hq).1) hob hbw.size)
              have IH := ih j _ _ hcj hvj d base wr a3 c3 l3 (hel _ (List.getElem_mem hlt)) hR.own hR.small hbr hob (Nat.le_trans hbs hR.gro.size)
              have hrow := hl.below hbr
              have s1 := hrow.elemSome (s := 6) h6 (by decide) (i := j) (by omega)
              have q1 := ldOp_at (P := Try.prog) (ty := 63) (hrow.elem (s := 6) h6 hcj) Try.underlying63 rfl (by rw [h6 _ (List.getElem_mem _)]; exact sizeV)
              have HA : Hid ((l.take (j + 1)).foldl (encO d) (some l2) = encO d (some l3) l[j]) := by
                show _ = _
                rw [List.take_succ_eq_append_getElem hlt, List.foldl_append, hfo]; rfl
              have HZ : Hid ((l.take (j + 1)).foldl (encO d) (some l2) = none → encO (d + 1) (some l0) (.mk 6 n b t ks l) = none) := by
                intro hz
                rw [HE4.out, foldl_cut _ _ _ (j + 1), hz]
                exact fold_enc_none _
              have j0 : (0 : Int) ≤ (j : Int) := by omega
              have j1 : (j : Int) < (l.length : Int) := by omega
              have jb : (j : Int) + 1 ≤ 9223372036854775807 := by unfold maxLen at hlc; omega
              have ew2 : IntKind.i64.wrap ((j : Int) + 1) = (j : Int) + 1 := IntWalk.i64_in _ (by omega)
              generalize css[j]'(by omega) = c at *
              generalize l[j] = v at *
              clear hcj hvj hrow hfo
              go_wp2_with fail
              refine IH.mono ?_
              rintro e w5 ⟨u5', r5, rfl, hRR⟩
              obtain ⟨⟨x5, hO5, hyes⟩, hno, hg5⟩ := hRR
              obtain ⟨a5, c5, rfl, _⟩ := Own.at (E := 5) hO5
              cases r5 with
              | true =>
                obtain ⟨hx, hxs⟩ := hyes rfl
                have HF : Hid ((l.take (j + 1)).foldl (encO d) (some l2) = some x5) := by show _ = _; rw [HA.out, hx]
                have hR5 := hR.step hO5 hxs hg5
                clear hyes hno hx hR hO5 hg5
                go_wp2
                first
                  | exact ⟨⟨j + 1, a5, c5, x5, rfl, rfl, by omega, (by first | rfl | go_num | (congr 1; omega)), HF.out, hR5⟩, by simp [intOf] <;> omega⟩
                  | (refine ⟨?_, by simp [intOf] <;> omega⟩; (repeat apply Exists.intro); exact ⟨⟨j + 1, a5, c5, x5, rfl, rfl, by omega, (by first | rfl | go_num | (congr 1; omega)), HF.out, hR5⟩, rfl⟩)
              | false =>
                have HF : Hid (encO (d + 1) (some l0) (.mk 6 n b t ks l) = none) := HZ.out (by rw [HA.out]; exact hno rfl)
                have hgg := hR.gro.trans hg5
                clear hyes hno hR hg5
                go_wp2
                go_ret2
                try rw [HF.out]
                exact ⟨_, _, rfl, RbR.mk' hO5 (by simp) (fun _ => rfl) hgg⟩
            · obtain rfl : j = l.length := by omega
              rw [List.take_length] at hfo
              have hs3 := hR.small
              have i3 : (l3.length : Int) ≤ 65536 := by omega
              have HF : Hid (encO (d + 1) (some l0) (.mk 6 n b t ks l) = some l3) := by show _ = _; rw [HE4.out, hfo]
              clear hfo
              go_wp2
              go_ret2
              try rw [HF.out]
              exact ⟨_, _, rfl, RbR.mk' hR.own (fun _ => ⟨rfl, hR.small⟩) (by simp) hR.gro⟩
        · have HE4 : Hid (encO (d + 1) (some l0) (.mk 7 n b t ks l) = (ks.zip l).foldl (fun o x => encO d (textO o x.1) x.2) (some l2)) := by show _ = _; rw [HE.out, HST.out, if_neg (by decide)]
          clear HE HST
          go_wp2
          go_loopw [0, 7, 8] (fun u o i wr => ∃ (j : Nat) (a3 : Option Addr) (c3 : Nat) (l3 : List UInt8), u = .slice a3 l3.length c3 ∧ o = .bool true ∧ j ≤ l.length ∧ i = .int .i64 j ∧ ((ks.zip l).take j).foldl (fun o x => encO d (textO o x.1) x.2) (some l2) = some l3 ∧ RbL base w.heap.size w wr (.slice a0 l0.length c0) (.slice a3 l3.length c3) [.int .i64 7, .int .i64 n, .slice ab b.length cb, .string (str t), .slice ak ks.length ck, .slice al l.length cl] l3) (fun _ _ i _ => l.length - (intOf i).toNat)
          case atStart => exact ⟨0, a2, c2, l2, rfl, rfl, Nat.zero_le _, rfl, by rw [List.take_zero]; rfl, HRB.out⟩
          case round =>
            obtain ⟨j, a3, c3, l3, rfl, rfl, hj, rfl, hfo, hR⟩ := hrel
            have hkl : ks.length = l.length := (HM.out (by trivial)).1
            have k0 : wr.cell? ⟨w.heap.size, 0, none⟩ = some (.int .i64 7) := hR.blk.cell rfl
            have k4 : wr.cell? ⟨w.heap.size, 4, none⟩ = some (.slice ak ks.length ck) := hR.blk.cell rfl
            have k5 : wr.cell? ⟨w.heap.size, 5, none⟩ = some (.slice al l.length cl) := hR.blk.cell rfl
            by_cases hlt : j < l.length
            · have hcj : css[j]? = some (css[j]'(by omega)) := by simp
              have hvj : l[j]? = some l[j] := by simp [hlt]
              have hjk : j < ks.length := by omega
              have hbr : Below w0.heap.size w0 wr := hbw.trans (hR.gro.below (fun q hq => (hv0 q hq).1) hob hbw.size)
              have IH := fun (w5 : World) (a5 : Option Addr) (c5 : Nat) (x5 : List UInt8) (h1 : Own 5 w5 base (.slice a5 x5.length c5) x5) (h2 : x5.length ≤ 65536) (h3 : Below w0.heap.size w0 w5) (h4 : base ≤ w5.heap.size) => ih j _ _ hcj hvj d base w5 a5 c5 x5 (hel _ (List.getElem_mem hlt)) h1 h2 h3 hob h4
              have hRq := fun (w5 : World) (h3 : Below w0.heap.size w0 w5) => ldOp_at (P := Try.prog) (ty := 63) ((hl.below h3).elem (s := 6) h6 hcj) Try.underlying63 rfl (by rw [h6 _ (List.getElem_mem _)]; exact sizeV)
              have s1 := (hl.below hbr).elemSome (s := 6) h6 (by decide) (i := j) (by omega)
              have hrowk := hks.below hbr
              have p1 : wr.cell? ((hd ak).add j) = some (strV (ks[j]'hjk)) := hrowk.cell (by simp [hjk])
              have s2 : ak.isSome = true := hrowk.isSome (i := j) (by simpa using hjk)
              have htl : (ks[j]'hjk).length ≤ maxLen := hkt _ (List.getElem_mem _)
              unfold strV at p1
              have HA : Hid (((ks.zip l).take (j + 1)).foldl (fun o x => encO d (textO o x.1) x.2) (some l2) = encO d (textO (some l3) (ks[j]'hjk)) l[j]) := by
                show _ = _
                rw [List.take_succ_eq_append_getElem (by rw [List.length_zip]; omega), List.foldl_append, hfo]
                simp
              have HZ : Hid (((ks.zip l).take (j + 1)).foldl (fun o x => encO d (textO o x.1) x.2) (some l2) = none → encO (d + 1) (some l0) (.mk 7 n b t ks l) = none) := by
                intro hz
                rw [HE4.out, foldl_cut _ _ _ (j + 1), hz]
                exact fold_text_none _
              have j0 : (0 : Int) ≤ (j : Int) := by omega
              have j1 : (j : Int) < (l.length : Int) := by omega
              have j2 : (j : Int) < (ks.length : Int) := by omega
              have jb : (j : Int) + 1 ≤ 9223372036854775807 := by unfold maxLen at hlc; omega
              have ew2 : IntKind.i64.wrap ((j : Int) + 1) = (j : Int) + 1 := IntWalk.i64_in _ (by omega)
              generalize css[j]'(by omega) = c at *
              generalize l[j] = v at *
              generalize ks[j]'hjk = key at *
              have hbsr := Nat.le_trans hbs hR.gro.size
              have TX := rbytes_flat (VAt.txt w0 htl) (by decide) (by decide) 0 hR.own hR.small hbr hob hbsr
              rw [show encO (0 + 1) (some l3) (.mk 5 0 [] key [] []) = textO (some l3) key from rfl] at TX
              have HKL := Lib.hid hkl
              clear hcj hvj hrowk hfo hkl hjk
              go_wp2_with fail
              refine TX.mono ?_
              rintro e w4 ⟨u4', r4, rfl, hRR⟩
              obtain ⟨⟨x4, hO4, hyes⟩, hno, hg4⟩ := hRR
              obtain ⟨a4, c4, rfl, _⟩ := Own.at (E := 5) hO4
              cases r4 with
              | false =>
                have HF : Hid (encO (d + 1) (some l0) (.mk 7 n b t ks l) = none) := HZ.out (by rw [HA.out, hno rfl]; exact encO_none d v)
                have hgg := hR.gro.trans hg4
                clear hyes hno hR hg4
                go_wp2
                go_ret2
                try rw [HF.out]
                exact ⟨_, _, rfl, RbR.mk' hO4 (by simp) (fun _ => rfl) hgg⟩
              | true =>
                obtain ⟨hx4, hxs4⟩ := hyes rfl
                have HX4 := Lib.hid hx4
                have hR4 := hR.step hO4 hxs4 hg4
                have hbr4 : Below w0.heap.size w0 w4 := hbw.trans (hR4.gro.below (fun q hq => (hv0 q hq).1) hob hbw.size)
                have IH4 := IH w4 a4 c4 x4 hO4 hxs4 hbr4 (Nat.le_trans hbs hR4.gro.size)
                have q1 := hRq w4 hbr4
                have k5 : w4.cell? ⟨w.heap.size, 5, none⟩ = some (.slice al l.length cl) := hR4.blk.cell rfl
                have k0 : w4.cell? ⟨w.heap.size, 0, none⟩ = some (.int .i64 7) := hR4.blk.cell rfl
                clear hyes hno hx4 hR IH TX hRq hg4
                go_wp2_with fail
                refine IH4.mono ?_
                rintro e w5 ⟨u5', r5, rfl, hRR⟩
                obtain ⟨⟨x5, hO5, hyes⟩, hno, hg5⟩ := hRR
                obtain ⟨a5, c5, rfl, _⟩ := Own.at (E := 5) hO5
                cases r5 with
                | true =>
                  obtain ⟨hx, hxs⟩ := hyes rfl
                  have HF : Hid (((ks.zip l).take (j + 1)).foldl (fun o x => encO d (textO o x.1) x.2) (some l2) = some x5) := by show _ = _; rw [HA.out, HX4.out, hx]
                  have hR5 := hR4.step hO5 hxs hg5
                  clear hyes hno hx hR4 hO5 hg5
                  go_wp2
                  first
                    | exact ⟨⟨j + 1, a5, c5, x5, rfl, rfl, by omega, (by first | rfl | go_num | (congr 1; omega)), HF.out, hR5⟩, by simp [intOf] <;> omega⟩
                    | (refine ⟨?_, by simp [intOf] <;> omega⟩; (repeat apply Exists.intro); exact ⟨⟨j + 1, a5, c5, x5, rfl, rfl, by omega, (by first | rfl | go_num | (congr 1; omega)), HF.out, hR5⟩, rfl⟩)
                | false =>
                  have HF : Hid (encO (d + 1) (some l0) (.mk 7 n b t ks l) = none) := HZ.out (by rw [HA.out, HX4.out]; exact hno rfl)
                  have hgg := hR4.gro.trans hg5
                  clear hyes hno hR4 hg5
                  go_wp2
                  go_ret2
                  try rw [HF.out]
                  exact ⟨_, _, rfl, RbR.mk' hO5 (by simp) (fun _ => rfl) hgg⟩
            · obtain rfl : j = l.length := by omega
              rw [List.take_of_length_le (by rw [List.length_zip]; omega)] at hfo
              have hs3 := hR.small
              have i3 : (l3.length : Int) ≤ 65536 := by omega
              have HF : Hid (encO (d + 1) (some l0) (.mk 7 n b t ks l) = some l3) := by show _ = _; rw [HE4.out, hfo]
              clear hfo hkl
              go_wp2
              go_ret2
              try rw [HF.out]
              exact ⟨_, _, rfl, RbR.mk' hR.own (fun _ => ⟨rfl, hR.small⟩) (by simp) hR.gro⟩

/-- The document's Encode. -/
theorem renc_any {w0 w : World} {cs : List Value} {v : PV} (h : VAt w0 cs v) (hbw : Below w0.heap.size w0 w) :
    Calls Try.prog 32 #[.agg cs.toArray] w fun e w' => ∃ u, e = .returned (.tuple #[u, .int .i64 (encF v).2]) ∧ BRd w' u (encF v).1 ∧ Below w.heap.size w w' := by
  have hsz := hbw.size
  have hb0 : Below w.heap.size w (w.alloc (.cells cs.toArray 63)) := (Below.refl _ _).alloc (Nat.le_refl _) _
  have B0 : Blk (w.alloc (.cells cs.toArray 63)) w.heap.size 63 cs.toArray.toList := Blk.new _ _ _
  have x6 : cs.toArray.size = 6 := by simpa using h.len
  have hcan := rcan_any h 16 1 (w.alloc (.cells cs.toArray 63)) (by decide) (hbw.trans (hb0.mono hsz))
  go_enter Try.func32, Try.ntmps32
  go_wp2_with fail
  refine hcan.mono ?_
  rintro e w1 ⟨rfl, hb1⟩
  have B1 := B0.below hb1
  have hbw1 : Below w.heap.size w w1 := Gr.trans hb0 hb1
  cases hc : canF 16 v with
  | false =>
    have HE : Hid (encF v = ([], 4)) := by show _ = _; unfold encF; rw [if_pos hc]
    clear hc hcan
    go_wp2
    go_ret2
    try rw [HE.out]
    exact ⟨_, rfl, BRd.nil _, hbw1⟩
  | true =>
    have q2 : (ldOp 63 (.pointer (some ⟨w.heap.size, 0, none⟩))).run Try.prog w1 = .ok (.agg cs.toArray) w1 := by
      have := ldOp_all (P := Try.prog) (ty := 63) B1 Try.underlying63 rfl (by rw [Array.length_toList, x6]; exact sizeV)
      simpa using this
    have hv := rbytes_any h 16 w1.heap.size w1 none 0 [] hc (Own.nil 5 w1 w1.heap.size) (by decide) (hbw.trans (hbw1.mono hsz)) (Nat.le_trans hsz hbw1.size) (Nat.le_refl _)
    have hce := hc
    clear hc hcan
    go_wp2_with fail
    refine hv.mono ?_
    rintro e w3 ⟨u, r, rfl, ⟨⟨x, hO, hyes⟩, hno, hg⟩⟩
    have hb3 : Below w.heap.size w w3 := hbw1.trans (hg.below (fun q hq => by cases hq) hbw1.size hbw1.size)
    obtain ⟨a, c, rfl, hlc, hcm, hrow, _⟩ := Own.at (E := 5) hO
    cases r with
    | false =>
      have HE : Hid (encF v = ([], 5)) := by show _ = _; unfold encF; rw [if_neg (by rw [hce]; decide), hno rfl]
      clear hce hv hyes hno hO
      go_wp2
      go_ret2
      try rw [HE.out]
      exact ⟨_, rfl, BRd.nil _, hb3⟩
    | true =>
      obtain ⟨hx, _⟩ := hyes rfl
      have HE : Hid (encF v = (x, 0)) := by show _ = _; unfold encF; rw [if_neg (by rw [hce]; decide), hx]
      clear hce hv hyes hno hO hx
      go_wp2
      go_ret2
      rw [HE.out]
      exact ⟨_, rfl, ⟨a, c, rfl, hlc, hcm, hrow⟩, hb3⟩
end Go.Proofs.Ytakliplkabgmbaa
