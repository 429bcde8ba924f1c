/- Joined: what one statement of this layer stands on, part 6 of 15; nothing is assumed. -/
import Derived.Test.YtpchogicdnfggaaDoorRows
import Derived.Deep.RegionLaw
import Derived.StillTailTactics
import Derived.Test.YtpchogicdnfggaaDoorKV1
import Derived.Test.YtpchogicdnfggaaDoorKV5
set_option maxRecDepth 20000
namespace Go.Proofs.YtpchogicdnfggaaDoor
open Go.RowKit Go.Hd
attribute [local go_sem ↓] h_ldV h_stV h_alV
attribute [local go_sem] r_ldV r_stV r_alV

theorem VAt.txt (w : World) {t : List UInt8} (h : t.length ≤ maxLen) : VAt w [.int .i64 5, .int .i64 0, .slice none 0 0, strV t, .slice none 0 0, .slice none 0 0] (.mk 5 0 [] t [] []) :=
  .mk (b := []) (ks := []) (l := []) [] (by unfold in64; omega) (by unfold in64; omega) (Row.nil _ _) ⟨Nat.le_refl _, Nat.zero_le _⟩ h (Row.nil _ _) ⟨Nat.le_refl _, Nat.zero_le _⟩ (by simp) (Row.nil _ _) ⟨Nat.le_refl _, Nat.zero_le _⟩ rfl (by simp) (by simp)
/-- What the document's bytes answers (a name of its own: the walk's simp takes an 'exists' over a Boolean apart). -/
def RbP (base : Nat) (w : World) (v : Value) (o : Option (List UInt8)) (e : Ending) (w' : World) : Prop := ∃ u r, e = .returned (.tuple #[u, .bool r]) ∧ RbR base w w' v u r o
/-- The state of the document's loop. -/
structure RbL (base q : Nat) (w wr : World) (v0 u : Value) (box : List Value) (l3 : List UInt8) : Prop where
  own : Own 5 wr base u l3
  small : l3.length ≤ 65536
  gro : Gro w wr v0 u
  blk : Blk wr q 30 box
  far : u.ownBlock ≠ some q
theorem RbL.step {base q : Nat} {w wr w2 : World} {v0 u u2 : Value} {box : List Value} {l3 l4 : List UInt8} (h : RbL base q w wr v0 u box l3) (ho : Own 5 w2 base u2 l4) (hs : l4.length ≤ 65536) (hg : Gro wr w2 u u2) : RbL base q w w2 v0 u2 box l4 :=
  ⟨ho, hs, h.gro.trans hg, (hg.blk h.blk h.far).1, (hg.blk h.blk h.far).2⟩
theorem fold_text_none {d : Nat} (l : List (List UInt8 × PV)) : l.foldl (fun o x => encO d (textO o x.1) x.2) none = none :=
  foldl_none _ (fun x => by rw [textO_none]; exact encO_none d x.2) l
theorem fold_enc_none {d : Nat} (l : List PV) : l.foldl (encO d) none = none := foldl_none _ (encO_none d) l
theorem foldl_cut {α β : Type} (f : β → α → β) (o : β) (l : List α) (j : Nat) : l.foldl f o = (l.drop j).foldl f ((l.take j).foldl f o) := by
  conv => lhs; rw [← List.take_append_drop j l, List.foldl_append]
theorem RbR.mk' {base : Nat} {w w' : World} {v u : Value} {r : Bool} {o : Option (List UInt8)} {x : List UInt8} (h : Own 5 w' base u x) (h1 : r = true → o = some x ∧ x.length ≤ 65536) (h2 : r = false → o = none) (hg : Gro w w' v u) : RbR base w w' v u r o := ⟨⟨x, h, h1⟩, h2, hg⟩

set_option maxHeartbeats 4000000 in
theorem rbytes_any {w0 : World} {cs : List Value} {v : PV} (h : VAt w0 cs v) : ∀ (d : Nat) (base : Nat) (w : World) (a0 : Option Addr) (c0 : Nat) (l0 : List UInt8), canF d v = true →
    Own 5 w base (.slice a0 l0.length c0) l0 → l0.length ≤ 65536 → Below w0.heap.size w0 w → w0.heap.size ≤ base → base ≤ w.heap.size →
    Calls Tryd.prog 72 #[.slice a0 l0.length c0, .agg cs.toArray] w (RbP base w (.slice a0 l0.length c0) (encO d (some l0) v)) := by
  induction h with
  | @mk k n b t ks l ab ak al cb ck cl css hk hn hb hbc ht hks hkc hkt hl hlc hcs h6 sub ih =>
  intro d base w a0 c0 l0 hcan hown h0 hbw hob hbs
  cases d with
  | zero => cases hcan
  | succ d =>
  obtain ⟨k0', k7', hall, hmap⟩ := canF_list hcan
  by_cases hk6 : k < 6
  · exact rbytes_flat (VAt.mk css hk hn hb hbc ht hks hkc hkt hl hlc hcs h6 sub) k0' hk6 d hown h0 hbw hob hbs
  have hel := hall (by omega)
  have HM := Lib.hid hmap
  clear hall hmap
  have hv0 : ∀ q, (Value.slice a0 l0.length c0).ownBlock = some q → base ≤ q ∧ q < w.heap.size := fun q hq => hown.lt q hq
  have hb0 : Below w.heap.size w (w.alloc (.cells (List.toArray (α := Value) [.int .i64 k, .int .i64 n, .slice ab b.length cb, .string (str t), .slice ak ks.length ck, .slice al l.length cl]) 30)) := (Below.refl _ _).alloc (Nat.le_refl _) _
  have B0 : Blk (w.alloc (.cells (List.toArray (α := Value) [.int .i64 k, .int .i64 n, .slice ab b.length cb, .string (str t), .slice ak ks.length ck, .slice al l.length cl]) 30)) w.heap.size 30 [.int .i64 k, .int .i64 n, .slice ab b.length cb, .string (str t), .slice ak ks.length ck, .slice al l.length cl] := Blk.new _ _ _
  show Calls _ _ #[_, .agg (List.toArray (α := Value) [.int .i64 k, .int .i64 n, .slice ab b.length cb, .string (str t), .slice ak ks.length ck, .slice al l.length cl])] _ _
  go_enter Tryd.func72, Tryd.ntmps72
  go_upto_region 1 with (fail)
  generalize w.alloc (.cells (List.toArray (α := Value) [.int .i64 k, .int .i64 n, .slice ab b.length cb, .string (str t), .slice ak ks.length ck, .slice al l.length cl]) 30) = W at *
  have k0 : W.cell? ⟨w.heap.size, 0, none⟩ = some (.int .i64 k) := B0.cell rfl
  have k5 : W.cell? ⟨w.heap.size, 5, none⟩ = some (.slice al l.length cl) := B0.cell rfl
  generalize hL : leadF k n b t l = L at *
  have hL9 : L.length ≤ 9 := by rw [← hL]; exact leadF_len k n b t l
  have HL := Lib.hid hL
  clear hL
  have hlm : l.length ≤ maxLen := Nat.le_trans hlc.1 hlc.2
  have HE : Hid (encO (d + 1) (some l0) (.mk k n b t ks l) = if k = 6 then l.foldl (encO d) (startO l0 L) else (ks.zip l).foldl (fun o x => encO d (textO o x.1) x.2) (startO l0 L)) := by
    show _ = _
    rcases (by omega : k = 6 ∨ k = 7) with rfl | rfl
    · rw [if_pos rfl, ← HL.out]
      show l.foldl (encO d) (manyO 0x90 0xdc (some l0) l.length) = _
      rw [enc_list]; rfl
    · rw [if_neg (by decide), ← HL.out]
      show (ks.zip l).foldl (fun o x => encO d (textO o x.1) x.2) (manyO 0x80 0xde (some l0) l.length) = _
      rw [enc_map]; rfl
  have t4 : (k == 4) = false := beq_eq_false_iff_ne.2 (by omega)
  have t5 : (k == 5) = false := beq_eq_false_iff_ne.2 (by omega)
  go_upto_block 0 with (fail)
  go_cut [6] (fun u wx => ∃ a c, u = .slice a L.length c ∧ Row wx a (L.map b8) ∧ Below w.heap.size w wx ∧ Blk wx w.heap.size 30 [.int .i64 k, .int .i64 n, .slice ab b.length cb, .string (str t), .slice ak ks.length ck, .slice al l.length cl])
  case first =>
    have t0 : (k == 0) = false := beq_eq_false_iff_ne.2 (by omega)
    have t1 : (k == 1) = false := beq_eq_false_iff_ne.2 (by omega)
    have t2 : (k == 2) = false := beq_eq_false_iff_ne.2 (by omega)
    have t3 : (k == 3) = false := beq_eq_false_iff_ne.2 (by omega)
    clear hcs hkt
    rcases (by omega : k = 6 ∨ k = 7) with rfl | rfl
    · go_wp2_with fail
      refine (rcounted_any (few := 0x90) (one := 0) (two := 0xdc) (most := 15) hlm (by decide) (by decide) (by decide)).mono ?_
      rintro e w1 ⟨v1, rfl, hF⟩
      rw [show cntB l.length 0x90 15 0 0xdc = L from HL.out] at hF
      obtain ⟨a1, c1, rfl, hr1, hb1, _, _⟩ := hF.open
      go_wp2
      go_meet
      exact ⟨_, _, rfl, hr1, Gr.trans hb0 hb1, B0.below hb1⟩
    · go_wp2_with fail
      refine (rcounted_any (few := 0x80) (one := 0) (two := 0xde) (most := 15) hlm (by decide) (by decide) (by decide)).mono ?_
      rintro e w1 ⟨v1, rfl, hF⟩
      rw [show cntB l.length 0x80 15 0 0xde = L from HL.out] at hF
      obtain ⟨a1, c1, rfl, hr1, hb1, _, _⟩ := hF.open
      go_wp2
      go_meet
      exact ⟨_, _, rfl, hr1, Gr.trans hb0 hb1, B0.below hb1⟩
  case rest =>
    obtain ⟨aL, cL, rfl, hrL, hbc1, BC⟩ := hcut
    clear B0 k0 k5 hb0
    have HN := Lib.hid (fun h : L ≠ [] => startO_ne (l0 := l0) h)
    obtain ⟨a2, c2, w2, hrun, hO2, hG1⟩ := lead_step (c := cL) hown hbs hbc1 hrL rfl h0 hL9
    have hq : (Value.slice a0 l0.length c0).ownBlock ≠ some w.heap.size := fun e => by have := (hv0 _ e).2; omega
    obtain ⟨B2, hq2⟩ := hG1.blk BC hq
    have hG2 := (Gro.ofBelow (v := (Value.slice a0 l0.length c0)) hbc1).trans hG1
    clear hbc1 hrL hG1 BC hq
    have HE2 : L = [] ∨ 65536 < (l0 ++ L).length → encO (d + 1) (some l0) (.mk k n b t ks l) = none := by
      intro h
      have hs : startO l0 L = none := by
        rcases h with h | h
        · rw [h]; rfl
        · by_cases h2 : L = []
          · rw [h2]; rfl
          · rw [HN.out h2, if_pos h]
      rw [HE.out, hs]
      split
      · exact fold_enc_none l
      · exact fold_text_none _
    have HE3 : L ≠ [] → ¬ 65536 < (l0 ++ L).length → startO l0 L = some (l0 ++ L) := fun h1 h2 => by rw [HN.out h1, if_neg h2]
    have ll : (l0 ++ L).length ≤ 65545 := by simp; omega
    have HE2 := Lib.hid HE2
    have HE3 := Lib.hid HE3
    generalize l0 ++ L = l2 at *
    by_cases hLe : L = []
    · have e0 := len0 hLe
      have HN2 : Hid (encO (d + 1) (some l0) (.mk k n b t ks l) = none) := HE2.out (.inl hLe)
      clear hLe
      go_wp2_with (at_builtin; refine wpList_append_run hrun rfl rfl rfl rfl ?_)
      go_ret2
      try rw [HN2.out]
      exact ⟨_, _, rfl, ⟨_, hO2, (by simp)⟩, fun _ => rfl, hG2⟩
    · have e0 := len1 hLe
      have HNE := Lib.hid hLe
      clear hLe
      by_cases hbig : 65536 < l2.length
      · have i1 : 65536 < (l2.length : Int) := by omega
        have HN2 : Hid (encO (d + 1) (some l0) (.mk k n b t ks l) = none) := HE2.out (.inr hbig)
        go_wp2_with (at_builtin; refine wpList_append_run hrun rfl rfl rfl rfl ?_)
        go_ret2
        try rw [HN2.out]
        exact ⟨_, _, rfl, ⟨_, hO2, (by simp)⟩, fun _ => rfl, hG2⟩
      · have i1 : ¬ 65536 < (l2.length : Int) := by omega
        have hl2 : l2.length ≤ 65536 := by omega
        have HST := Lib.hid (HE3.out HNE.out hbig)
        have HRB : Hid (RbL base w.heap.size w w2 (.slice a0 l0.length c0) (.slice a2 l2.length c2) [.int .i64 k, .int .i64 n, .slice ab b.length cb, .string (str t), .slice ak ks.length ck, .slice al l.length cl] l2) := ⟨hO2, hl2, hG2, B2, hq2⟩
        have k0 : w2.cell? ⟨w.heap.size, 0, none⟩ = some (.int .i64 k) := B2.cell rfl
        have k5 : w2.cell? ⟨w.heap.size, 5, none⟩ = some (.slice al l.length cl) := B2.cell rfl
        clear HE2 HE3 HN hbig ll HNE B2 hq2 hG2 hO2
        go_upto_region 24 with (at_builtin; refine wpList_append_run hrun rfl rfl rfl rfl ?_)
        clear hrun i1 k0 k5
        rcases (by omega : k = 6 ∨ k = 7) with rfl | rfl
        · have HE4 : Hid (encO (d + 1) (some l0) (.mk 6 n b t ks l) = l.foldl (encO d) (some l2)) := by show _ = _; rw [HE.out, HST.out, if_pos rfl]
          clear HE HST
          go_wp2
          go_loopw [0, 7, 8] (fun u o i wr => ∃ (j : Nat) (a3 : Option Addr) (c3 : Nat) (l3 : List UInt8), u = .slice a3 l3.length c3 ∧ o = .bool true ∧ j ≤ l.length ∧ i = .int .i64 j ∧ (l.take j).foldl (encO d) (some l2) = some l3 ∧ RbL base w.heap.size w wr (.slice a0 l0.length c0) (.slice a3 l3.length c3) [.int .i64 6, .int .i64 n, .slice ab b.length cb, .string (str t), .slice ak ks.length ck, .slice al l.length cl] l3) (fun _ _ i _ => l.length - (intOf i).toNat)
          case atStart => exact ⟨0, a2, c2, l2, rfl, rfl, Nat.zero_le _, rfl, by rw [List.take_zero]; rfl, HRB.out⟩
          case round =>
            obtain ⟨j, a3, c3, l3, rfl, rfl, hj, rfl, hfo, hR⟩ := hrel
            have k0 : wr.cell? ⟨w.heap.size, 0, none⟩ = some (.int .i64 6) := hR.blk.cell rfl
            have k5 : wr.cell? ⟨w.heap.size, 5, none⟩ = some (.slice al l.length cl) := hR.blk.cell rfl
            by_cases hlt : j < l.length
            · have hcj : css[j]? = some (css[j]'(by omega)) := by simp
              have hvj : l[j]? = some l[j] := by simp [hlt]
              have hbr : Below w0.heap.size w0 wr := hbw.trans (hR.gro.below (fun q hq => (hv0 q hq).1) hob hbw.size)
              have IH := ih j _ _ hcj hvj d base wr a3 c3 l3 (hel _ (List.getElem_mem hlt)) hR.own hR.small hbr hob (Nat.le_trans hbs hR.gro.size)
              have hrow := hl.below hbr
              have s1 := hrow.elemSome (s := 6) h6 (by decide) (i := j) (by omega)
              have q1 := ldOp_at (P := Tryd.prog) (ty := 30) (hrow.elem (s := 6) h6 hcj) Tryd.underlying30 rfl (by rw [h6 _ (List.getElem_mem _)]; exact sizeV)
              have HA : Hid ((l.take (j + 1)).foldl (encO d) (some l2) = encO d (some l3) l[j]) := by
                show _ = _
                rw [List.take_succ_eq_append_getElem hlt, List.foldl_append, hfo]; rfl
              have HZ : Hid ((l.take (j + 1)).foldl (encO d) (some l2) = none → encO (d + 1) (some l0) (.mk 6 n b t ks l) = none) := by
                intro hz
                rw [HE4.out, foldl_cut _ _ _ (j + 1), hz]
                exact fold_enc_none _
              have j0 : (0 : Int) ≤ (j : Int) := by omega
              have j1 : (j : Int) < (l.length : Int) := by omega
              have jb : (j : Int) + 1 ≤ 9223372036854775807 := by unfold maxLen at hlc; omega
              have ew2 : IntKind.i64.wrap ((j : Int) + 1) = (j : Int) + 1 := IntWalk.i64_in _ (by omega)
              generalize css[j]'(by omega) = c at *
              generalize l[j] = v at *
              clear hcj hvj hrow hfo
              go_wp2_with fail
              refine IH.mono ?_
              rintro e w5 ⟨u5', r5, rfl, hRR⟩
              obtain ⟨⟨x5, hO5, hyes⟩, hno, hg5⟩ := hRR
              obtain ⟨a5, c5, rfl, _⟩ := Own.at (E := 5) hO5
              cases r5 with
              | true =>
                obtain ⟨hx, hxs⟩ := hyes rfl
                have HF : Hid ((l.take (j + 1)).foldl (encO d) (some l2) = some x5) := by show _ = _; rw [HA.out, hx]
                have hR5 := hR.step hO5 hxs hg5
                clear hyes hno hx hR hO5 hg5
                go_wp2
                first
                  | exact ⟨⟨j + 1, a5, c5, x5, rfl, rfl, by omega, (by first | rfl | go_num | (congr 1; omega)), HF.out, hR5⟩, by simp [intOf] <;> omega⟩
                  | (refine ⟨?_, by simp [intOf] <;> omega⟩; (repeat apply Exists.intro); exact ⟨⟨j + 1, a5, c5, x5, rfl, rfl, by omega, (by first | rfl | go_num | (congr 1; omega)), HF.out, hR5⟩, rfl⟩)
              | false =>
                have HF : Hid (encO (d + 1) (some l0) (.mk 6 n b t ks l) = none) := HZ.out (by rw [HA.out]; exact hno rfl)
                have hgg := hR.gro.trans hg5
                clear hyes hno hR hg5
                go_wp2
                go_ret2
                try rw [HF.out]
                exact ⟨_, _, rfl, RbR.mk' hO5 (by simp) (fun _ => rfl) hgg⟩
            · obtain rfl : j = l.length := by omega
              rw [List.take_length] at hfo
              have hs3 := hR.small
              have i3 : (l3.length : Int) ≤ 65536 := by omega
              have HF : Hid (encO (d + 1) (some l0) (.mk 6 n b t ks l) = some l3) := by show _ = _; rw [HE4.out, hfo]
              clear hfo
              go_wp2
              go_ret2
              try rw [HF.out]
              exact ⟨_, _, rfl, RbR.mk' hR.own (fun _ => ⟨rfl, hR.small⟩) (by simp) hR.gro⟩
        · have HE4 : Hid (encO (d + 1) (some l0) (.mk 7 n b t ks l) = (ks.zip l).foldl (fun o x => encO d (textO o x.1) x.2) (some l2)) := by show _ = _; rw [HE.out, HST.out, if_neg (by decide)]
          clear HE HST
          go_wp2
          go_loopw [0, 7, 8] (fun u o i wr => ∃ (j : Nat) (a3 : Option Addr) (c3 : Nat) (l3 : List UInt8), u = .slice a3 l3.length c3 ∧ o = .bool true ∧ j ≤ l.length ∧ i = .int .i64 j ∧ ((ks.zip l).take j).foldl (fun o x => encO d (textO o x.1) x.2) (some l2) = some l3 ∧ RbL base w.heap.size w wr (.slice a0 l0.length c0) (.slice a3 l3.length c3) [.int .i64 7, .int .i64 n, .slice ab b.length cb, .string (str t), .slice ak ks.length ck, .slice al l.length cl] l3) (fun _ _ i _ => l.length - (intOf i).toNat)
          case atStart => exact ⟨0, a2, c2, l2, rfl, rfl, Nat.zero_le _, rfl, by rw [List.take_zero]; rfl, HRB.out⟩
          case round =>
            obtain ⟨j, a3, c3, l3, rfl, rfl, hj, rfl, hfo, hR⟩ := hrel
            have hkl : ks.length = l.length := (HM.out (by trivial)).1
            have k0 : wr.cell? ⟨w.heap.size, 0, none⟩ = some (.int .i64 7) := hR.blk.cell rfl
            have k4 : wr.cell? ⟨w.heap.size, 4, none⟩ = some (.slice ak ks.length ck) := hR.blk.cell rfl
            have k5 : wr.cell? ⟨w.heap.size, 5, none⟩ = some (.slice al l.length cl) := hR.blk.cell rfl
            by_cases hlt : j < l.length
            · have hcj : css[j]? = some (css[j]'(by omega)) := by simp
              have hvj : l[j]? = some l[j] := by simp [hlt]
              have hjk : j < ks.length := by omega
              have hbr : Below w0.heap.size w0 wr := hbw.trans (hR.gro.below (fun q hq => (hv0 q hq).1) hob hbw.size)
              have IH := fun (w5 : World) (a5 : Option Addr) (c5 : Nat) (x5 : List UInt8) (h1 : Own 5 w5 base (.slice a5 x5.length c5) x5) (h2 : x5.length ≤ 65536) (h3 : Below w0.heap.size w0 w5) (h4 : base ≤ w5.heap.size) => ih j _ _ hcj hvj d base w5 a5 c5 x5 (hel _ (List.getElem_mem hlt)) h1 h2 h3 hob h4
              have hRq := fun (w5 : World) (h3 : Below w0.heap.size w0 w5) => ldOp_at (P := Tryd.prog) (ty := 30) ((hl.below h3).elem (s := 6) h6 hcj) Tryd.underlying30 rfl (by rw [h6 _ (List.getElem_mem _)]; exact sizeV)
              have s1 := (hl.below hbr).elemSome (s := 6) h6 (by decide) (i := j) (by omega)
              have hrowk := hks.below hbr
              have p1 : wr.cell? ((hd ak).add j) = some (strV (ks[j]'hjk)) := hrowk.cell (by simp [hjk])
              have s2 : ak.isSome = true := hrowk.isSome (i := j) (by simpa using hjk)
              have htl : (ks[j]'hjk).length ≤ maxLen := hkt _ (List.getElem_mem _)
              unfold strV at p1
              have HA : Hid (((ks.zip l).take (j + 1)).foldl (fun o x => encO d (textO o x.1) x.2) (some l2) = encO d (textO (some l3) (ks[j]'hjk)) l[j]) := by
                show _ = _
                rw [List.take_succ_eq_append_getElem (by rw [List.length_zip]; omega), List.foldl_append, hfo]
                simp
              have HZ : Hid (((ks.zip l).take (j + 1)).foldl (fun o x => encO d (textO o x.1) x.2) (some l2) = none → encO (d + 1) (some l0) (.mk 7 n b t ks l) = none) := by
                intro hz
                rw [HE4.out, foldl_cut _ _ _ (j + 1), hz]
                exact fold_text_none _
              have j0 : (0 : Int) ≤ (j : Int) := by omega
              have j1 : (j : Int) < (l.length : Int) := by omega
              have j2 : (j : Int) < (ks.length : Int) := by omega
              have jb : (j : Int) + 1 ≤ 9223372036854775807 := by unfold maxLen at hlc; omega
              have ew2 : IntKind.i64.wrap ((j : Int) + 1) = (j : Int) + 1 := IntWalk.i64_in _ (by omega)
              generalize css[j]'(by omega) = c at *
              generalize l[j] = v at *
              generalize ks[j]'hjk = key at *
              have hbsr := Nat.le_trans hbs hR.gro.size
              have TX := rbytes_flat (VAt.txt w0 htl) (by decide) (by decide) 0 hR.own hR.small hbr hob hbsr
              rw [show encO (0 + 1) (some l3) (.mk 5 0 [] key [] []) = textO (some l3) key from rfl] at TX
              have HKL := Lib.hid hkl
              clear hcj hvj hrowk hfo hkl hjk
              go_wp2_with fail
              refine TX.mono ?_
              rintro e w4 ⟨u4', r4, rfl, hRR⟩
              obtain ⟨⟨x4, hO4, hyes⟩, hno, hg4⟩ := hRR
              obtain ⟨a4, c4, rfl, _⟩ := Own.at (E := 5) hO4
              cases r4 with
              | false =>
                have HF : Hid (encO (d + 1) (some l0) (.mk 7 n b t ks l) = none) := HZ.out (by rw [HA.out, hno rfl]; exact encO_none d v)
                have hgg := hR.gro.trans hg4
                clear hyes hno hR hg4
                go_wp2
                go_ret2
                try rw [HF.out]
                exact ⟨_, _, rfl, RbR.mk' hO4 (by simp) (fun _ => rfl) hgg⟩
              | true =>
                obtain ⟨hx4, hxs4⟩ := hyes rfl
                have HX4 := Lib.hid hx4
                have hR4 := hR.step hO4 hxs4 hg4
                have hbr4 : Below w0.heap.size w0 w4 := hbw.trans (hR4.gro.below (fun q hq => (hv0 q hq).1) hob hbw.size)
                have IH4 := IH w4 a4 c4 x4 hO4 hxs4 hbr4 (Nat.le_trans hbs hR4.gro.size)
                have q1 := hRq w4 hbr4
                have k5 : w4.cell? ⟨w.heap.size, 5, none⟩ = some (.slice al l.length cl) := hR4.blk.cell rfl
                have k0 : w4.cell? ⟨w.heap.size, 0, none⟩ = some (.int .i64 7) := hR4.blk.cell rfl
                clear hyes hno hx4 hR IH TX hRq hg4
                go_wp2_with fail
                refine IH4.mono ?_
                rintro e w5 ⟨u5', r5, rfl, hRR⟩
                obtain ⟨⟨x5, hO5, hyes⟩, hno, hg5⟩ := hRR
                obtain ⟨a5, c5, rfl, _⟩ := Own.at (E := 5) hO5
                cases r5 with
                | true =>
                  obtain ⟨hx, hxs⟩ := hyes rfl
                  have HF : Hid (((ks.zip l).take (j + 1)).foldl (fun o x => encO d (textO o x.1) x.2) (some l2) = some x5) := by show _ = _; rw [HA.out, HX4.out, hx]
                  have hR5 := hR4.step hO5 hxs hg5
                  clear hyes hno hx hR4 hO5 hg5
                  go_wp2
                  first
                    | exact ⟨⟨j + 1, a5, c5, x5, rfl, rfl, by omega, (by first | rfl | go_num | (congr 1; omega)), HF.out, hR5⟩, by simp [intOf] <;> omega⟩
                    | (refine ⟨?_, by simp [intOf] <;> omega⟩; (repeat apply Exists.intro); exact ⟨⟨j + 1, a5, c5, x5, rfl, rfl, by omega, (by first | rfl | go_num | (congr 1; omega)), HF.out, hR5⟩, rfl⟩)
                | false =>
                  have HF : Hid (encO (d + 1) (some l0) (.mk 7 n b t ks l) = none) := HZ.out (by rw [HA.out, HX4.out]; exact hno rfl)
                  have hgg := hR4.gro.trans hg5
                  clear hyes hno hR4 hg5
                  go_wp2
                  go_ret2
                  try rw [HF.out]
                  exact ⟨_, _, rfl, RbR.mk' hO5 (by simp) (fun _ => rfl) hgg⟩
            · obtain rfl : j = l.length := by omega
              rw [List.take_of_length_le (by rw [List.length_zip]; omega)] at hfo
              have hs3 := hR.small
              have i3 : (l3.length : Int) ≤ 65536 := by omega
              have HF : Hid (encO (d + 1) (some l0) (.mk 7 n b t ks l) = some l3) := by show _ = _; rw [HE4.out, hfo]
              clear hfo hkl
              go_wp2
              go_ret2
              try rw [HF.out]
              exact ⟨_, _, rfl, RbR.mk' hR.own (fun _ => ⟨rfl, hR.small⟩) (by simp) hR.gro⟩

end Go.Proofs.YtpchogicdnfggaaDoor
set_option maxRecDepth 20000
namespace Go.Proofs.YtpchogicdnfggaaDoor
open Go.RowKit Go.Hd

/-- Six cells that hold a value, all of whose rows lie in blocks that are ok. -/
inductive VAtP (ok : Nat → Prop) (w : World) : List Value → PV → Prop
  | mk {k n : Int} {b t : List UInt8} {ks : List (List UInt8)} {l : List PV} {ab ak al : Option Addr} {cb ck cl : Nat} (css : List (List Value))
      (hk : in64 k) (hn : in64 n) (hb : Row w ab (b.map b8)) (hbc : b.length ≤ cb ∧ cb ≤ maxLen) (ht : t.length ≤ maxLen)
      (hks : Row w ak (ks.map strV)) (hkc : ks.length ≤ ck ∧ ck ≤ maxLen) (hkt : ∀ x ∈ ks, x.length ≤ maxLen) (hl : Row w al css.flatten) (hlc : l.length ≤ cl ∧ cl ≤ maxLen) (hcs : css.length = l.length) (h6 : ∀ c ∈ css, c.length = 6)
      (ob : 0 < b.length → ok (hd ab).block) (oks : 0 < ks.length → ok (hd ak).block) (ol : 0 < l.length → ok (hd al).block)
      (sub : ∀ (i : Nat) (c : List Value) (v : PV), css[i]? = some c → l[i]? = some v → VAtP ok w c v) :
      VAtP ok w [.int .i64 k, .int .i64 n, .slice ab b.length cb, strV t, .slice ak ks.length ck, .slice al l.length cl] (.mk k n b t ks l)
theorem VAtP.at {ok : Nat → Prop} {w : World} {cs : List Value} {v : PV} (h : VAtP ok w cs v) : VAt w cs v := by
  induction h with
  | mk css hk hn hb hbc ht hks hkc hkt hl hlc hcs h6 _ _ _ _ ih => exact .mk css hk hn hb hbc ht hks hkc hkt hl hlc hcs h6 ih
theorem Row.keptP {ok : Nat → Prop} {w w' : World} {a : Option Addr} {xs : List Value} (h : Row w a xs) (ho : 0 < xs.length → ok (hd a).block) (hs : ∀ b, ok b → b < w.heap.size → w'.heap[b]? = w.heap[b]?) : Row w' a xs := by
  refine ⟨h.1, fun i u hu => ?_⟩
  have hc := h.2 i u hu
  have hpos : 0 < xs.length := by
    rcases Nat.lt_or_ge i xs.length with h1 | h1
    · omega
    · rw [List.getElem?_eq_none h1] at hu; cases hu
  have hlt := h.block_lt hpos
  rw [World.cell?_of_block (w := w) (by rw [add_block]; exact hs _ (ho hpos) hlt)]
  exact hc
theorem flat_pos {α : Type} {s : Nat} {xs : List (List α)} (_ : ∀ x ∈ xs, x.length = s) (h : 0 < xs.flatten.length) : 0 < xs.length := by
  rcases Nat.eq_zero_or_pos xs.length with h0 | h0
  · rw [List.eq_nil_of_length_eq_zero h0] at h; simp at h
  · exact h0
theorem VAtP.same {ok : Nat → Prop} {w w' : World} {cs : List Value} {v : PV} (h : VAtP ok w cs v) (hs : ∀ b, ok b → b < w.heap.size → w'.heap[b]? = w.heap[b]?) : VAtP ok w' cs v := by
  induction h with
  | mk css hk hn hb hbc ht hks hkc hkt hl hlc hcs h6 ob oks ol _ ih =>
    exact .mk css hk hn (Row.keptP hb (by simpa using ob) hs) hbc ht (Row.keptP hks (by simpa using oks) hs) hkc hkt (Row.keptP hl (fun h => ol (by have := flat_pos h6 h; omega)) hs) hlc hcs h6 ob oks ol ih
theorem VAtP.mono {ok ok' : Nat → Prop} {w : World} {cs : List Value} {v : PV} (h : VAtP ok w cs v) (hk : ∀ b, ok b → b < w.heap.size → ok' b) : VAtP ok' w cs v := by
  induction h with
  | mk css hki hn hb hbc ht hks hkc hkt hl hlc hcs h6 ob oks ol _ ih =>
    refine .mk css hki hn hb hbc ht hks hkc hkt hl hlc hcs h6 (fun h0 => hk _ (ob h0) (hb.block_lt (by simpa using h0))) (fun h0 => hk _ (oks h0) (hks.block_lt (by simpa using h0))) (fun h0 => hk _ (ol h0) (hl.block_lt ?_)) ih
    rw [flatten_len h6]; omega
theorem VAtP.len {ok : Nat → Prop} {w : World} {cs : List Value} {v : PV} (h : VAtP ok w cs v) : cs.length = 6 := h.at.len
theorem VAtP.one {ok : Nat → Prop} {w : World} {cs : List Value} {v : PV} (h : VAtP ok w cs v) : ∀ u ∈ cs, u.oneCell' = true := h.at.one
theorem VAtP.grow {ok : Nat → Prop} {w w' : World} {cs : List Value} {v : PV} (h : VAtP ok w cs v) (hb : Below w.heap.size w w') : VAtP ok w' cs v := h.same (fun b _ hlt => hb.block b hlt)

/-! Slices of the call's own, of texts, of values. -/
theorem eV : Elem Tryd.prog 28 30 (.agg zV) 6 104 := ⟨by kernel_rfl, by kernel_rfl, rfl, by decide⟩
/-- A slice of values of the call's own; the values' rows lie in blocks that are ok. -/
def VsAt (ok : Nat → Prop) (base : Nat) (w : World) (u : Value) (vs : List PV) : Prop :=
  ∃ css : List (List Value), css.length = vs.length ∧ (∀ c ∈ css, c.length = 6) ∧ w.ownsRow base 30 6 u vs.length css.flatten ∧ ∀ (i : Nat) (c : List Value) (v : PV), css[i]? = some c → vs[i]? = some v → VAtP ok w c v
theorem flat_snoc {α : Type} (xs : List (List α)) (c : List α) : (xs ++ [c]).flatten = xs.flatten ++ c := by simp
theorem VsAt.nil (ok : Nat → Prop) (base : Nat) (w : World) : VsAt ok base w (.slice none 0 0) [] := ⟨[], rfl, by simp, World.ownsRow_nil _ _ _ _, by simp⟩
theorem VsAt.same {ok ok' : Nat → Prop} {base : Nat} {w w' : World} {u : Value} {vs : List PV} (h : VsAt ok base w u vs) (_hw : w.heap.size ≤ w'.heap.size) (hu : ∀ b, u.ownBlock = some b → w'.heap[b]? = w.heap[b]?) (hs : ∀ b, ok b → b < w.heap.size → w'.heap[b]? = w.heap[b]? ∧ ok' b) : VsAt ok' base w' u vs := by
  obtain ⟨css, h1, h2, h3, h4⟩ := h
  refine ⟨css, h1, h2, ?_, fun i c v hc hv => ?_⟩
  · obtain ⟨g1, g2⟩ := h3
    refine ⟨g1, ?_⟩
    rcases g2 with g2 | ⟨g, cap, cur, hv, hg, hh, r⟩
    · exact .inl g2
    · exact .inr ⟨g, cap, cur, hv, hg, by rw [hu g (by rw [hv]; rfl)]; exact hh, r⟩
  · have := (h4 i c v hc hv).mono (ok' := fun b => ok b ∧ b < w.heap.size) (fun b h1 h2 => ⟨h1, h2⟩)
    exact (this.same (w' := w') (fun b hb hlt => (hs b hb.1 hlt).1)).mono (fun b hb _ => (hs b hb.1 hb.2).2)
theorem owns_same {w w' : World} {base : Nat} {e : TypeId} {size n : Nat} {u : Value} {xs : List Value} (h : w.ownsRow base e size u n xs) (hu : ∀ b, u.ownBlock = some b → w'.heap[b]? = w.heap[b]?) : w'.ownsRow base e size u n xs := by
  obtain ⟨g1, g2⟩ := h
  refine ⟨g1, ?_⟩
  rcases g2 with g2 | ⟨g, cap, cur, hv, hg, hh, r⟩
  · exact .inl g2
  · exact .inr ⟨g, cap, cur, hv, hg, by rw [hu g (by rw [hv]; rfl)]; exact hh, r⟩

/-! A value that is being built in the box q. -/
/-- Blocks that nothing of the building touches. -/
def okB (base q : Nat) (uK uL : Value) (b : Nat) : Prop := base ≤ b ∧ b ≠ q ∧ uK.ownBlock ≠ some b ∧ uL.ownBlock ≠ some b
structure VB (base q : Nat) (w : World) (v : PV) (uB uK uL : Value) : Prop where
  blk : Blk w q 30 [.int .i64 v.kind, .int .i64 v.int, uB, strV v.text, uK, uL]
  hq : base ≤ q
  le : base ≤ w.heap.size
  ints : in64 v.kind ∧ in64 v.int ∧ v.text.length ≤ maxLen ∧ ∀ x ∈ v.keys, x.length ≤ maxLen
  bytes : ∃ ab cb, uB = .slice ab v.bytes.length cb ∧ v.bytes.length ≤ cb ∧ cb ≤ maxLen ∧ Row w ab (v.bytes.map b8) ∧ (0 < v.bytes.length → okB base q uK uL (hd ab).block)
  keys : KsAt base w uK v.keys
  kq : uK.ownBlock ≠ some q
  list : VsAt (okB base q uK uL) base w uL v.list
  lq : uL.ownBlock ≠ some q
  kl : ∀ b, uK.ownBlock = some b → uL.ownBlock ≠ some b
/-- What lies from block base on is as it was. -/
theorem VB.keep {base q : Nat} {w w' : World} {v : PV} {uB uK uL : Value} (h : VB base q w v uB uK uL) (hw : w.heap.size ≤ w'.heap.size) (hs : ∀ b, base ≤ b → b < w.heap.size → w'.heap[b]? = w.heap[b]?) : VB base q w' v uB uK uL := by
  obtain ⟨h1, h2, h3, h4, ⟨ab, cb, b1, b2, b3, b4, b5⟩, h6, h7, h8, h9, h10⟩ := h
  refine ⟨?_, h2, Nat.le_trans h3 hw, h4, ⟨ab, cb, b1, b2, b3, Row.keptP (ok := okB base q uK uL) b4 (by simpa using b5) (fun b hb hlt => hs b hb.1 hlt), b5⟩, owns_same h6 ?_, h7, h8.same hw ?_ (fun b hb hlt => ⟨hs b hb.1 hlt, hb⟩), h9, h10⟩
  · unfold Blk at *; rw [hs q h2 (Array.getElem?_eq_some_iff.1 h1).1]; exact h1
  · intro b hb
    obtain ⟨g1, g2⟩ := World.ownsRow.lt h6 b hb
    exact hs b g1 g2
  · intro b hb
    obtain ⟨css, _, _, hO, _⟩ := h8
    obtain ⟨g1, g2⟩ := World.ownsRow.lt hO b hb
    exact hs b g1 g2
/-- A value more. -/
theorem VB.addL {base q : Nat} {w w' : World} {k n : Int} {b t : List UInt8} {ks : List (List UInt8)} {l : List PV} {uB uK uL : Value} (h : VB base q w (.mk k n b t ks l) uB uK uL) {x : PV} {a' : Option Addr} {c' m : Nat}
    (ho : VsAt (okB base q uK (.slice a' m c')) base w' (.slice a' m c') (l ++ [x])) (hg : Gro w w' uL (.slice a' m c')) :
    VB base q (w'.setCell ⟨q, 5, none⟩ (.slice a' m c')) (.mk k n b t ks (l ++ [x])) uB uK (.slice a' m c') := by
  obtain ⟨h1, h2, h3, h4, ⟨ab, cb, b1, b2, b3, b4, b5⟩, h6, h7, h8, h9, h10⟩ := h
  have hqlt : q < w.heap.size := h1.lt
  have hlt6 := fun b hb => World.ownsRow.lt h6 b hb
  have hB : Blk w' q 30 [.int .i64 k, .int .i64 n, uB, strV t, uK, uL] := (hg.blk h1 h9).1
  have hset : ∀ b, b ≠ q → (w'.setCell ⟨q, 5, none⟩ (.slice a' m c')).heap[b]? = w'.heap[b]? := fun b hb => Below.heap_setCell w' _ _ b hb
  have hold : ∀ b, b < w.heap.size → uL.ownBlock ≠ some b → b ≠ q → (w'.setCell ⟨q, 5, none⟩ (.slice a' m c')).heap[b]? = w.heap[b]? := fun b hb hk hq' => (hset b hq').trans (hg.gr.block b hb (fun e => hk e.symm))
  have hnew : ∀ b, (Value.slice a' m c').ownBlock = some b → b ≠ q := fun b hb e => by
    subst e
    rcases hg.own _ hb with h | h
    · exact h9 h
    · omega
  have hok : ∀ b, okB base q uK uL b → b < w.heap.size → okB base q uK (.slice a' m c') b := fun b ⟨o1, o2, o3, o4⟩ hlt => ⟨o1, o2, o3, fun e => by
    rcases hg.own b e with h | h
    · exact o4 h
    · omega⟩
  refine ⟨hB.set 5 _, h2, by simp; exact Nat.le_trans h3 hg.size, h4, ⟨ab, cb, b1, b2, b3, Row.keptP b4 (ok := okB base q uK uL) (by simpa [PV.bytes] using b5) (fun b hb hlt => hold b hlt hb.2.2.2 hb.2.1), fun h0 => hok _ (b5 h0) (b4.block_lt (by simpa [PV.bytes] using h0))⟩, owns_same h6 (fun b hb => ?_), h7, ?_, fun e => hnew q e rfl, fun b hb e => ?_⟩
  · have hbl := hlt6 b hb
    exact hold b hbl.2 (fun e => h10 b hb e) (fun e => h7 (e ▸ hb))
  · refine ho.same (by simp) (fun b hb => hset b (hnew b hb)) (fun b hb _ => ⟨hset b hb.2.1, hb⟩)
  · rcases hg.own b e with h | h
    · exact h10 b hb h
    · have := (hlt6 b hb).2; omega
/-- What has been built. -/
theorem VB.done {base q : Nat} {w : World} {v : PV} {uB uK uL : Value} (h : VB base q w v uB uK uL) : VAtP (fun b => base ≤ b ∧ b ≠ q) w [.int .i64 v.kind, .int .i64 v.int, uB, strV v.text, uK, uL] v := by
  obtain ⟨h1, h2, h3, h4, ⟨ab, cb, rfl, b2, b3, b4, b5⟩, h6, h7, ⟨css, c1, c2, h8, c4⟩, h9, h10⟩ := h
  obtain ⟨ak, ck, rfl, k2, k3, k4, k5⟩ := owns_rowN h6 (by decide)
  obtain ⟨al, cl, rfl, l2, l3, l4, l5⟩ := owns_rowN h8 (by decide)
  cases v with
  | mk k n b t ks l =>
    refine .mk css h4.1 h4.2.1 b4 ⟨b2, b3⟩ h4.2.2.1 k4 ⟨k2, k3⟩ h4.2.2.2 l4 ⟨l2, l3⟩ c1 c2 (fun h0 => ⟨(b5 h0).1, (b5 h0).2.1⟩) (fun h0 => ?_) (fun h0 => ?_) (fun i c v hc hv => (c4 i c v hc hv).mono (fun b hb _ => ⟨hb.1, hb.2.1⟩))
    · obtain ⟨e1, e2, e3⟩ := k5 (by simpa [PV.keys] using h0)
      exact ⟨e2, fun e => h7 (by rw [e1, e])⟩
    · have hf : 0 < css.flatten.length := by
        rw [flatten_len c2, c1]
        exact Nat.mul_pos h0 (by decide)
      obtain ⟨e1, e2, e3⟩ := l5 hf
      exact ⟨e2, fun e => h9 (by rw [e1, e])⟩
end Go.Proofs.YtpchogicdnfggaaDoor
set_option maxRecDepth 20000
namespace Go.Proofs.YtpchogicdnfggaaDoor
open Go.RowKit Go.Hd
attribute [local go_sem ↓] h_ldV h_stV h_alV
attribute [local go_sem] r_ldV r_stV r_alV

section
variable (ρ : Operand → Value) (dst : Option Tmp) (ty : TypeId) (pos : String) (after : Array Edge) (guard : Option (Nat × Bool))
theorem h_bsV (n : Nat) (parts : Array (Nat × Operand)) : execOp ρ { dst, op := .buildSlice 28 n parts, type := ty, pos, after, guard } = (do pure (.value (← bsOp 28 n (parts.map fun (i, x) => (i, ρ x))))) := rfl
end
theorem r_bsV {w : World} {cs : Array Value} (hc : cs.size = 6) : (bsOp 28 1 #[(0, .agg cs)]).run Tryd.prog w = .ok (.slice (some ⟨w.heap.size, 0, none⟩) 1 1) (w.alloc (.cells cs 30)) :=
  bsOp_one (z := .agg zV) (s := 6) Tryd.underlying28 (by kernel_rfl) (by decide) (by decide) rfl hc
attribute [local go_sem ↓] h_bsV
attribute [local go_sem] r_bsV
/-- The state of its walk. -/
structure FewI (w : World) (p q : Nat) (box : List Value) (m : Nat) (wr : World) (v : PV) (uB uK uL : Value) : Prop where
  arg : Blk wr w.heap.size 30 box
  res : Blk wr (w.heap.size + 1) 30 zV.toList
  left : Blk wr p 3 [.int .i64 (m : Int)]
  gr : w.grownBy wr (some p)
  vb : VB (w.heap.size + 2) q wr v uB uK uL
theorem oneC6 (k n : Int) (a1 a2 a3 : Option Addr) (n1 n2 n3 c1 c2 c3 : Nat) (s : ByteArray) : OneC #[.int .i64 k, .int .i64 n, .slice a1 n1 c1, .string s, .slice a2 n2 c2, .slice a3 n3 c3] := by
  refine all_oneCell_toArray (cs := [.int .i64 k, .int .i64 n, .slice a1 n1 c1, .string s, .slice a2 n2 c2, .slice a3 n3 c3]) ?_
  intro u hu
  simp only [List.mem_cons, List.not_mem_nil, or_false] at hu
  rcases hu with rfl | rfl | rfl | rfl | rfl | rfl <;> rfl
theorem st_row {w : World} {q : Nat} {T : TypeId} {old : List Value} (h : Blk w q T old) (ho : old.length = 6) : ∀ cs : Array Value, cs.size = 6 → OneC cs → (stoOp 30 (.pointer (some ⟨q, 0, none⟩)) (.agg cs)).run Tryd.prog w = .ok () (w.setRow q cs) := by
  intro cs h6 h1
  unfold stoOp
  simp only [Instr.storeAt, Instr.sureAddr, Sem.run_bind, Sem.run_pure, Result.andThen]
  rw [run_storeVar_row w q T 30 old.toArray cs h (by rw [h6]; exact sizeV) (by simp [ho, h6]) h1]
theorem setRow_blk {w : World} {q : Nat} {T : TypeId} {old : List Value} (h : Blk w q T old) (cs : List Value) : Blk (w.setRow q cs.toArray) q T cs := by
  have := setRow_heap w q old.toArray cs.toArray T (0, 0) h
  simpa [Blk] using this
theorem setRow_gr (w : World) (q : Nat) (cs : Array Value) : w.grownBy (w.setRow q cs) (some q) := ⟨rfl, rfl, rfl, by simp, fun k _ hk => setRow_other w q k _ (fun e => hk (by rw [e]))⟩
theorem VB.new {base q : Nat} {w : World} {k n : Int} {b t : List UInt8} {ab : Option Addr} {cb : Nat} (hB : Blk w q 30 [.int .i64 k, .int .i64 n, .slice ab b.length cb, .string (str t), .slice none 0 0, .slice none 0 0]) (hq : base ≤ q) (hle : base ≤ w.heap.size) (hk : in64 k) (hn : in64 n) (ht : t.length ≤ maxLen)
    (hc : b.length ≤ cb ∧ cb ≤ maxLen) (hr : Row w ab (b.map b8)) (ho : 0 < b.length → base ≤ (hd ab).block ∧ (hd ab).block ≠ q) : VB base q w (.mk k n b t [] []) (.slice ab b.length cb) (.slice none 0 0) (.slice none 0 0) :=
  ⟨hB, hq, hle, ⟨hk, hn, ht, by simp [PV.keys]⟩, ⟨ab, cb, rfl, hc.1, hc.2, hr, fun h => ⟨(ho h).1, (ho h).2, by simp [Value.ownBlock], by simp [Value.ownBlock]⟩⟩, World.ownsRow_nil _ _ _ _, by simp [Value.ownBlock], VsAt.nil _ _ _, by simp [Value.ownBlock], by simp [Value.ownBlock]⟩

theorem VB.kown {base q : Nat} {w : World} {v : PV} {uB uK uL : Value} (h : VB base q w v uB uK uL) : (∀ b, uK.ownBlock = some b → base ≤ b ∧ b < w.heap.size) ∧ (∀ b, uL.ownBlock = some b → base ≤ b ∧ b < w.heap.size) := by
  refine ⟨fun b hb => World.ownsRow.lt h.keys b hb, ?_⟩
  obtain ⟨css, _, _, hO, _⟩ := h.list
  exact fun b hb => World.ownsRow.lt hO b hb
end Go.Proofs.YtpchogicdnfggaaDoor
set_option maxRecDepth 20000
namespace Go.Proofs.YtpchogicdnfggaaDoor
open Go.RowKit Go.Hd
attribute [local go_sem ↓] h_ldV h_stV h_alV
attribute [local go_sem] r_ldV r_stV r_alV

/-! Values compared. -/
mutual
def sameV : PV → PV → Bool
  | .mk k n b t ks l, .mk k' n' b' t' ks' l' => k == k' && (k != 3 || n == n') && (k != 4 || b == b') && (k != 5 || t == t') && (k != 7 || ks == ks') && ((k != 6 && k != 7) || sameL l l')
def sameL : List PV → List PV → Bool
  | [], [] => true
  | x :: l, y :: m => sameV x y && sameL l m
  | _, _ => false
end
mutual
theorem sameV_refl : ∀ v : PV, sameV v v = true
  | .mk k n b t ks l => by unfold sameV; simp [sameL_refl l]
theorem sameL_refl : ∀ l : List PV, sameL l l = true
  | [] => by unfold sameL; rfl
  | x :: l => by unfold sameL; rw [sameV_refl x, sameL_refl l]; rfl
end
theorem sameL_len : ∀ {l m : List PV}, sameL l m = true → l.length = m.length
  | [], [], _ => rfl
  | [], y :: m, h => by simp [sameL] at h
  | x :: l, [], h => by simp [sameL] at h
  | x :: l, y :: m, h => by
    simp only [sameL, Bool.and_eq_true] at h
    rw [List.length_cons, List.length_cons, sameL_len h.2]
theorem sameL_take : ∀ {l m : List PV} (j : Nat) (h1 : j < l.length) (h2 : j < m.length), sameL (l.take (j + 1)) (m.take (j + 1)) = (sameL (l.take j) (m.take j) && sameV l[j] m[j])
  | [], _, j, h1, _ => by simp at h1
  | _ :: _, [], j, _, h2 => by simp at h2
  | x :: l, y :: m, 0, _, _ => by simp [sameL]
  | x :: l, y :: m, j + 1, h1, h2 => by
    have := sameL_take (l := l) (m := m) j (by simpa using h1) (by simpa using h2)
    simp only [List.take_succ_cons, sameL, List.getElem_cons_succ, this, Bool.and_assoc]
theorem sameL_stop {l m : List PV} {j : Nat} (h1 : j < l.length) (h2 : j < m.length) (h : sameV l[j] m[j] = false) : sameL l m = false := by
  induction l generalizing m j with
  | nil => simp at h1
  | cons x l ih =>
    cases m with
    | nil => simp at h2
    | cons y m =>
      cases j with
      | zero => simp at h; simp [sameL, h]
      | succ j => simp only [List.getElem_cons_succ] at h; simp [sameL, ih (by simpa using h1) (by simpa using h2) h]
theorem sameL_diff {l m : List PV} (h : l.length ≠ m.length) : sameL l m = false := by
  rcases Bool.eq_false_or_eq_true (sameL l m) with h2 | h2
  · exact absurd (sameL_len h2) h
  · exact h2
end Go.Proofs.YtpchogicdnfggaaDoor
