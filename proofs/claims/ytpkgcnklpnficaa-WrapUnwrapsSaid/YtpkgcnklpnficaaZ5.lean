/- The walk of the document's Squeeze. -/
import Derived.Test.YtpkgcnklpnficaaZ3
import Derived.Test.YtpkgcnklpnficaaZ4
namespace Go.Proofs.Ytpkgcnklpnficaa
open Go.RowKit Go.Hd

/-- At the head of a round. -/
def RqRel (w : World) (l : List UInt8) (o told i : Value) (wr : World) : Prop :=
  ∃ (f : Nat) (T : List Nat) (t j : Nat) (out : List UInt8), told = .int .i64 t ∧ i = .int .i64 j ∧ Blk wr w.heap.size 49 (tabCells T) ∧ T.length = 4096 ∧ (∀ k, T.getD k 0 ≤ j) ∧ t ≤ j ∧ j ≤ l.length ∧
    Own 5 wr (w.heap.size + 1) o out ∧ out ++ sqGo l f T t j = squeezeF l ∧ l.length < j + f + 1 ∧ Below w.heap.size w wr ∧ out.length ≤ 2 * t ∧ w.heap.size + 1 ≤ wr.heap.size
/-- At the head of a round of bytes in common. -/
def CmRel (l : List UInt8) (q j : Nat) (w : World) (k : Value) (wr : World) : Prop :=
  ∃ m N : Nat, 4 ≤ m ∧ j + m + 5 ≤ l.length ∧ k = .int .i64 m ∧ comm l q j (l.length - 5 - j) = m + comm l (q + m) (j + m) (l.length - 5 - j - m) ∧ wr = w.drewN N
set_option maxHeartbeats 2000000 in
set_option maxRecDepth 100000 in
theorem rsqueeze_any {a : Option Addr} {n c : Nat} {l : List UInt8} {w : World} (hn : n = l.length) (hl : Row w a (l.map b8)) (hc : n ≤ c) (hm : l.length ≤ 65536) :
    Calls Try.prog 21 #[.slice a n c] w fun e w' => ∃ v, e = .returned (.tuple #[v, .int .i64 0]) ∧ Fresh w w' v (squeezeF l) := by
  subst hn
  have hz := zeroT
  have hmI : (l.length : Int) ≤ 65536 := by omega
  have hB1 : Blk (w.alloc (.cells tab0 49)) w.heap.size 49 (tabCells (List.replicate 4096 0)) := Blk.new w 49 tab0
  have hb0 : Below w.heap.size w (w.alloc (.cells tab0 49)) := (Below.refl _ _).alloc (Nat.le_refl _) _
  have hs0 : w.heap.size + 1 ≤ (w.alloc (.cells tab0 49)).heap.size := by simp
  go_enter Try.func21, Try.ntmps21
  go_upto_region 5 with (fail)
  generalize w.alloc (.cells tab0 49) = w0 at *
  clear hz
  obtain ⟨gt, hgt⟩ : ∃ gt, gt = w.heap.size := ⟨_, rfl⟩
  rw [← hgt]
  have HGT := Lib.hid hgt
  clear hgt
  go_wp2
  go_loopw [5, 6, 7, 8, 9, 10] (fun o told i _ _ _ wr => RqRel w l o told i wr) (fun _ _ i _ _ _ _ => l.length + 1 - (intOf i).toNat)
  case atStart => exact ⟨l.length + 1, List.replicate 4096 0, 0, 0, [], rfl, rfl, hB1, List.length_replicate, fun k => by rw [List.getD_eq_getElem?_getD, List.getElem?_replicate]; split <;> simp, Nat.le_refl _, Nat.zero_le _, Own.nil _ _ _, rfl, by omega, hb0, Nat.le_refl _, hs0⟩
  case round =>
    clear hB1 hb0 hs0
    obtain ⟨f, T, t, j, out, rfl, rfl, hBT, hTl, hTj, htj, hjl, hOw, hout, hf, hb, hol, hsz⟩ := hrel
    rw [← HGT.out] at hBT
    have HOUT := Lib.hid hout
    have HTJ := Lib.hid hTj
    have hlr := hl.below hb
    clear hout hTj
    by_cases hgo : j + 12 ≤ l.length
    · have hgoI : (j : Int) + 12 ≤ (l.length : Int) := by omega
      obtain ⟨f, rfl⟩ : ∃ f', f = f' + 1 := ⟨f - 1, by omega⟩
      have hhlt := lzHash_lt (l.drop j)
      obtain ⟨h, hhe⟩ : ∃ h, h = lzHash (l.drop j) := ⟨_, rfl⟩
      have HH := Lib.hid hhe
      rw [← hhe] at hhlt
      clear hhe
      have ck : wr.cell? ⟨gt, h, none⟩ = _ := hBT.cell (tab_get hTl hhlt)
      have fk := hBT.free h
      have hhI : (h : Int) < 4096 := by omega
      have hcj := HTJ.out h
      obtain ⟨p, hp⟩ : ∃ p, p = T.getD h 0 := ⟨_, rfl⟩
      rw [← hp] at ck hcj
      have HP := Lib.hid hp
      clear hp
      go_wp2_with fail
      refine (rhash_any (l := l) (p := j) (by rfl) hlr (by omega) hc (by omega)).mono ?_
      rintro e1 w1 ⟨rfl, rfl⟩
      rw [← HH.out]
      go_upto_region 11 with (fail)
      have gs : wr.grownBy (wr.setCell ⟨gt, h, none⟩ (.int .i64 ((j : Int) + 1))) (some gt) := grown_set (World.grownBy.refl _ _) _ _
      have hBT2 : Blk (wr.setCell ⟨gt, h, none⟩ (.int .i64 ((j : Int) + 1))) gt 49 (tabCells (T.set h (j + 1))) := by
        have := hBT.set h (.int .i64 ((j + 1 : Nat) : Int))
        rw [tab_set] at this
        exact this
      have hOw2 : Own 5 (wr.setCell ⟨gt, h, none⟩ (.int .i64 ((j : Int) + 1))) (w.heap.size + 1) u5 out := hOw.kept' gs (fun k hk e => by have := (hOw.lt k hk).1; have h1 := HGT.out; cases e; omega)
      have hb2 : Below w.heap.size w (wr.setCell ⟨gt, h, none⟩ (.int .i64 ((j : Int) + 1))) := Gr.ofGrown hb gs (by have h1 := HGT.out; omega)
      have hsz2 : w.heap.size + 1 ≤ (wr.setCell ⟨gt, h, none⟩ (.int .i64 ((j : Int) + 1))).heap.size := Nat.le_trans hsz gs.size
      generalize wr.setCell ⟨gt, h, none⟩ (.int .i64 ((j : Int) + 1)) = w2 at *
      have HSET := Lib.hid (fun k hk => set_le (h := h) (k := k) HTJ.out hk)
      clear gs hBT hOw hb hlr ck fk hsz
      by_cases hp0 : p < 1
      · have HNO : Hid (sqGo l (f + 1) T t j = sqGo l f (T.set h (j + 1)) t (j + 1)) := sq_no HH.out HP.out hgo (.inl (by omega))
        have hd1 : decide ((p : Int) - 1 < 0) = true := by simp; omega
        have hrel' : ∀ nq, RqRel w l u5 (.int .i64 t) (.int .i64 ((j + 1 : Nat) : Int)) (w2.drewN nq) := fun nq => ⟨f, T.set h (j + 1), t, j + 1, out, rfl, rfl, by rw [← HGT.out]; exact hBT2.drewN nq, by simpa using hTl, HSET.out _ (Nat.le_refl _), by omega, by omega, hOw2.below (Gr.drewN _ nq), by rw [← HNO.out]; exact HOUT.out, by omega, Below.drewN hb2 nq, hol, by have := HGT.out; have := hsz2; simpa using this⟩
        have HREL := Lib.hid hrel'
        clear hrel' hBT2 hOw2 hb2
        go_quiet (fail)
        go_wp2
        first
          | exact ⟨by have := HREL.out nq; simpa using this, by simp [intOf] <;> omega⟩
          | (refine ⟨?_, by simp [intOf] <;> omega⟩; (repeat apply Exists.intro); exact ⟨by have := HREL.out nq; simpa using this, rfl⟩)
      · obtain ⟨q, hq⟩ : ∃ q, p = q + 1 := ⟨p - 1, by omega⟩
        have hpq : (p : Int) - 1 = (q : Int) := by omega
        rw [hpq]
        have HQ := Lib.hid hq
        have hqj : q < j := by omega
        clear hq hpq hp0
        have hd1 : decide ((q : Int) < 0) = false := by simp
        have hw1 : IntKind.i64.wrap ((j : Int) - q) = (j : Int) - q := IntWalk.i64_in _ (by omega)
        by_cases hfar : 65535 < j - q
        · have HNO : Hid (sqGo l (f + 1) T t j = sqGo l f (T.set h (j + 1)) t (j + 1)) := sq_no HH.out HP.out hgo (.inr (.inl (by have := HQ.out; omega)))
          have hd2 : decide (65535 < (j : Int) - q) = true := by simp; omega
          have hrel' : ∀ nq, RqRel w l u5 (.int .i64 t) (.int .i64 ((j + 1 : Nat) : Int)) (w2.drewN nq) := fun nq => ⟨f, T.set h (j + 1), t, j + 1, out, rfl, rfl, by rw [← HGT.out]; exact hBT2.drewN nq, by simpa using hTl, HSET.out _ (Nat.le_refl _), by omega, by omega, hOw2.below (Gr.drewN _ nq), by rw [← HNO.out]; exact HOUT.out, by omega, Below.drewN hb2 nq, hol, by have := HGT.out; have := hsz2; simpa using this⟩
          have HREL := Lib.hid hrel'
          clear hrel' hBT2 hOw2 hb2
          go_quiet (fail)
          go_wp2
          first
            | exact ⟨by have := HREL.out nq; simpa using this, by simp [intOf] <;> omega⟩
            | (refine ⟨?_, by simp [intOf] <;> omega⟩; (repeat apply Exists.intro); exact ⟨by have := HREL.out nq; simpa using this, rfl⟩)
        · have hd2 : decide (65535 < (j : Int) - q) = false := by simp; omega
          have hw2 : IntKind.i64.wrap ((q : Int) + 4) = (q : Int) + 4 := IntWalk.i64_in _ (by omega)
          have hw3 : IntKind.i64.wrap ((j : Int) + 4) = (j : Int) + 4 := IntWalk.i64_in _ (by omega)
          obtain ⟨a2, c2, hsl2, h21, h22, hrow2⟩ := cut_lh (P := Try.prog) (t := 22) (e := 5) (s := 1) eB.ht (by kernel_rfl) hl (k1 := .i64) (k2 := .i64) (c := c) (n := l.length) (i := (q : Int)) (j := (q : Int) + 4) (p := q) (q := q + 4) rfl rfl (by omega) (by omega)
          obtain ⟨a3, c3, hsl3, h31, h32, hrow3⟩ := cut_lh (P := Try.prog) (t := 22) (e := 5) (s := 1) eB.ht (by kernel_rfl) hl (k1 := .i64) (k2 := .i64) (c := c) (n := l.length) (i := (j : Int)) (j := (j : Int) + 4) (p := j) (q := j + 4) rfl rfl (by omega) (by omega)
          simp only [Nat.mul_one, Nat.add_sub_cancel_left] at hsl2 h21 hrow2 hsl3 h31 hrow3
          rw [← List.map_drop, ← List.map_take] at hrow2 hrow3
          have hr2 := hrow2.below hb2
          have hr3 := hrow3.below hb2
          have hxl : 4 = ((l.drop q).take 4).length := by rw [List.length_take, List.length_drop]; omega
          have hyl : 4 = ((l.drop j).take 4).length := by rw [List.length_take, List.length_drop]; omega
          obtain ⟨x, hx⟩ : ∃ x, x = (l.drop q).take 4 := ⟨_, rfl⟩
          obtain ⟨y, hy⟩ : ∃ y, y = (l.drop j).take 4 := ⟨_, rfl⟩
          rw [← hx] at hr2 hxl
          rw [← hy] at hr3 hyl
          have HX := Lib.hid hx
          have HY := Lib.hid hy
          have HXL := Lib.hid hxl
          have HYL := Lib.hid hyl
          have HXM : Hid (x.length ≤ maxLen) := by
            show _ ≤ _
            unfold maxLen; omega
          clear hx hy hxl hyl hrow2 hrow3
          by_cases heq : x = y
          · have hE : (x == y) = true := by simpa using heq
            have HEQ : Hid ((l.drop q).take 4 = (l.drop j).take 4) := by
              show _ = _
              rw [← HX.out, ← HY.out, heq]
            clear heq
            go_quiet ((go_at_call 12; exact Calls.quiet_of (same_any (l := x) (m := y) HXL.out HYL.out (hr2.drewN _) (hr3.drewN _) HXM.out)))
            have hBT3 := hBT2.drewN nq
            have hOw3 : Own 5 (w2.drewN nq) (w.heap.size + 1) u5 out := hOw2.below (Gr.drewN _ nq)
            have hb3 := Below.drewN hb2 nq
            have hsz3 : w.heap.size + 1 ≤ (w2.drewN nq).heap.size := hsz2
            generalize w2.drewN nq = w3 at *
            clear hBT2 hOw2 hb2 hr2 hr3 hsl2 hsl3 hE hd1 hd2 hw2 hw3 hsz2
            have hl3 := hl.below hb3
            go_wp2
            obtain ⟨wo, hwo⟩ : ∃ wo : World, wo = wr := ⟨_, rfl⟩
            rw [← hwo] at *
            clear hwo
            go_loopw [10] (fun k wr => CmRel l q j w3 k wr) (fun k _ => l.length - (intOf k).toNat)
            case atStart => exact ⟨4, 0, Nat.le_refl _, by omega, rfl, by
              have := comm_add l 4 (l.length - 5 - j - 4) q j (four_same HEQ.out (by omega) (by omega))
              rw [show 4 + (l.length - 5 - j - 4) = l.length - 5 - j by omega] at this
              exact this, rfl⟩
            case round =>
              obtain ⟨m, N, hm4, hmn, rfl, hcm, hwr⟩ := hrel
              have HCM := Lib.hid hcm
              have HWR := Lib.hid hwr
              have hlr : Row wr a (l.map b8) := by rw [hwr]; exact hl3.drewN N
              clear hcm hwr
              have e1 : IntKind.i64.wrap ((j : Int) + m) = (j : Int) + m := IntWalk.i64_in _ (by omega)
              have e2 : IntKind.i64.wrap ((j : Int) + m + 1) = (j : Int) + m + 1 := IntWalk.i64_in _ (by omega)
              have e3 : IntKind.i64.wrap ((l.length : Int) - 5) = (l.length : Int) - 5 := IntWalk.i64_in _ (by omega)
              have e4 : IntKind.i64.wrap ((q : Int) + m) = (q : Int) + m := IntWalk.i64_in _ (by omega)
              by_cases hlt : j + m + 1 + 5 ≤ l.length
              · have hltI : decide ((j : Int) + m + 1 ≤ (l.length : Int) - 5) = true := by simp; omega
                have b1 : q + m < l.length := by omega
                have b2 : j + m < l.length := by omega
                have c1 := hlr.byte b1
                have c2' := hlr.byte b2
                have s1 := hlr.byteSome b1
                have b1I : (q : Int) + m < l.length := by omega
                have b2I : (j : Int) + m < l.length := by omega
                have t1 : ((q : Int) + m).toNat = q + m := by omega
                have t2 : ((j : Int) + m).toNat = j + m := by omega
                have z1 : 0 ≤ (q : Int) + m := by omega
                have z2 : 0 ≤ (j : Int) + m := by omega
                obtain ⟨r, hr⟩ : ∃ r, l.length - 5 - j - m = r + 1 := ⟨l.length - 5 - j - m - 1, by omega⟩
                by_cases heq : l[q + m] = l[j + m]
                · have hE : (((l[q + m].toNat : Nat) : Int) == (l[j + m].toNat : Nat)) = true := by rw [heq]; simp
                  have HS : Hid (comm l q j (l.length - 5 - j) = (m + 1) + comm l (q + (m + 1)) (j + (m + 1)) (l.length - 5 - j - (m + 1))) := by
                    show _ = _
                    rw [HCM.out, hr, comm_yes (by rw [List.getElem?_eq_getElem b1, List.getElem?_eq_getElem b2, heq])]
                    rw [show l.length - 5 - j - (m + 1) = r by omega, show q + (m + 1) = q + m + 1 by omega, show j + (m + 1) = j + m + 1 by omega]
                    omega
                  clear hr heq
                  go_wp2
                  go_quiet (fail)
                  clear c1 c2' e1 e2 e3 e4 t1 t2 hltI
                  go_wp2
                  first
                    | exact ⟨⟨m + 1, N + nq, by omega, by omega, (by first | rfl | go_num | (congr 1; omega)), HS.out, by rw [HWR.out, drewN_two]⟩, by simp [intOf] <;> omega⟩
                    | (refine ⟨?_, by simp [intOf] <;> omega⟩; (repeat apply Exists.intro); exact ⟨⟨m + 1, N + nq, by omega, by omega, (by first | rfl | go_num | (congr 1; omega)), HS.out, by rw [HWR.out, drewN_two]⟩, rfl⟩)
                · have hE : (((l[q + m].toNat : Nat) : Int) == (l[j + m].toNat : Nat)) = false := by
                    rw [beq_eq_false_iff_ne]; intro h; exact heq (UInt8.toNat_inj.1 (by omega))
                  have HCE : Hid (comm l q j (l.length - 5 - j) = m) := by
                    show _ = _
                    rw [HCM.out, comm_no (by rw [List.getElem?_eq_getElem b1, List.getElem?_eq_getElem b2]; intro h; exact heq (by simpa using h))]
                    omega
                  clear hr heq
                  go_wp2
                  go_quiet (fail)
                  clear c1 c2' e1 e2 e3 e4 t1 t2 hltI hE
                  have hBT5 := hBT3.drewN (N + nq)
                  have hOw5 : Own 5 (w3.drewN (N + nq)) (w.heap.size + 1) u5 out := hOw3.below (Gr.drewN _ _)
                  have hb5 := Below.drewN hb3 (N + nq)
                  have hsz5 : w.heap.size + 1 ≤ (w3.drewN (N + nq)).heap.size := hsz3
                  rw [show w3.drewN (N + nq) = wr.drewN nq by rw [HWR.out, drewN_two]] at hBT5 hOw5 hb5 hsz5
                  generalize wr.drewN nq = w5 at *
                  have HYS : Hid (sqGo l (f + 1) T t j = seqL ((l.drop t).take (j - t)) (j - q) m ++ sqGo l f (T.set h (j + 1)) (j + m) (j + m)) := sq_yes HH.out (by rw [← HP.out, HQ.out]) hgo hfar HEQ.out HCE.out.symm
                  obtain ⟨a5, c5, hsl5, h51, h52, hrow5⟩ := cut_lh (P := Try.prog) (t := 22) (e := 5) (s := 1) eB.ht (by kernel_rfl) hl (k1 := .i64) (k2 := .i64) (c := c) (n := l.length) (i := (t : Int)) (j := (j : Int)) (p := t) (q := j) rfl rfl (by omega) (by omega)
                  simp only [Nat.mul_one] at hrow5
                  rw [← List.map_drop, ← List.map_take] at hrow5
                  have hsl : j - t = ((l.drop t).take (j - t)).length := by rw [List.length_take, List.length_drop]; omega
                  obtain ⟨s, hs⟩ : ∃ s, s = (l.drop t).take (j - t) := ⟨_, rfl⟩
                  rw [← hs] at hrow5 hsl HYS
                  rw [hsl] at hsl5 h51
                  have HSL := Lib.hid hsl
                  have hsb := seqL_bound s (j - q) m hm4
                  have hjq : (j : Int) - q = ((j - q : Nat) : Int) := by omega
                  have HJQ := Lib.hid hjq
                  clear hs hsl hjq hw1 hBT3 hOw3 hb3 hsz3 hl3 hlr
                  go_wp2_with fail
                  rw [HJQ.out]
                  refine (rseq_more (by rfl) (hrow5.below hb5) (by omega) (by have := HSL.out; omega) hm4).mono ?_
                  rintro e1 w6 ⟨v6, rfl, hF6⟩
                  obtain ⟨o6, hb6⟩ := hF6
                  obtain ⟨a7, c7, rfl, _, _, hr7, _⟩ := Own.at o6
                  have hOw6 := hOw5.below hb6
                  obtain ⟨v8, w8, hrun8, o8, g8, _, hb8⟩ := Own.append (ty := 22) (c := c7) hOw6 eB hr7 rfl (by have := HSL.out; omega) (Nat.le_trans hsz5 hb6.size)
                  have hBT8 := (hBT5.below hb6).keptBy g8 (fun e => by have := (hOw6.lt gt e).1; have := HGT.out; omega)
                  have hb08 : Below w.heap.size w w8 := (Gr.trans hb5 hb6).trans (hb8.mono (by omega))
                  have hrel' : RqRel w l v8 (.int .i64 ((j + m : Nat) : Int)) (.int .i64 ((j + m : Nat) : Int)) w8 := ⟨f, T.set h (j + 1), j + m, j + m, out ++ seqL s (j - q) m, rfl, rfl, by rw [← HGT.out]; exact hBT8, by simpa using hTl, HSET.out _ (by omega), Nat.le_refl _, by omega, o8, by rw [List.append_assoc, ← HYS.out]; exact HOUT.out, by omega, hb08, by have := HSL.out; rw [List.length_append]; omega, Nat.le_trans hsz5 (Nat.le_trans hb6.size g8.size)⟩
                  have HREL := Lib.hid hrel'
                  clear hrel' hBT5 hBT8 hOw5 hOw6 o6 o8 hb5 hb6 hb8 hb08 g8 hr7 hrow5 hsl5 hsz5
                  go_wp2_with (at_builtin; refine wpList_append_run hrun8 rfl rfl rfl rfl ?_)
                  first
                    | exact ⟨by have := HREL.out; simpa using this, by simp [intOf] <;> omega⟩
                    | (refine ⟨?_, by simp [intOf] <;> omega⟩; (repeat apply Exists.intro); exact ⟨by have := HREL.out; simpa using this, rfl⟩)
              · have hltI : decide ((j : Int) + m + 1 ≤ (l.length : Int) - 5) = false := by simp; omega
                have HCE : Hid (comm l q j (l.length - 5 - j) = m) := by
                  show _ = _
                  rw [HCM.out, show l.length - 5 - j - m = 0 by omega]; rfl
                go_wp2
                go_quiet (fail)
                clear e1 e2 e3 e4 hltI
                have hBT5 := hBT3.drewN (N + nq)
                have hOw5 : Own 5 (w3.drewN (N + nq)) (w.heap.size + 1) u5 out := hOw3.below (Gr.drewN _ _)
                have hb5 := Below.drewN hb3 (N + nq)
                have hsz5 : w.heap.size + 1 ≤ (w3.drewN (N + nq)).heap.size := hsz3
                rw [show w3.drewN (N + nq) = wr.drewN nq by rw [HWR.out, drewN_two]] at hBT5 hOw5 hb5 hsz5
                generalize wr.drewN nq = w5 at *
                have HYS : Hid (sqGo l (f + 1) T t j = seqL ((l.drop t).take (j - t)) (j - q) m ++ sqGo l f (T.set h (j + 1)) (j + m) (j + m)) := sq_yes HH.out (by rw [← HP.out, HQ.out]) hgo hfar HEQ.out HCE.out.symm
                obtain ⟨a5, c5, hsl5, h51, h52, hrow5⟩ := cut_lh (P := Try.prog) (t := 22) (e := 5) (s := 1) eB.ht (by kernel_rfl) hl (k1 := .i64) (k2 := .i64) (c := c) (n := l.length) (i := (t : Int)) (j := (j : Int)) (p := t) (q := j) rfl rfl (by omega) (by omega)
                simp only [Nat.mul_one] at hrow5
                rw [← List.map_drop, ← List.map_take] at hrow5
                have hsl : j - t = ((l.drop t).take (j - t)).length := by rw [List.length_take, List.length_drop]; omega
                obtain ⟨s, hs⟩ : ∃ s, s = (l.drop t).take (j - t) := ⟨_, rfl⟩
                rw [← hs] at hrow5 hsl HYS
                rw [hsl] at hsl5 h51
                have HSL := Lib.hid hsl
                have hsb := seqL_bound s (j - q) m hm4
                have hjq : (j : Int) - q = ((j - q : Nat) : Int) := by omega
                have HJQ := Lib.hid hjq
                clear hs hsl hjq hw1 hBT3 hOw3 hb3 hsz3 hl3 hlr
                go_wp2_with fail
                rw [HJQ.out]
                refine (rseq_more (by rfl) (hrow5.below hb5) (by omega) (by have := HSL.out; omega) hm4).mono ?_
                rintro e1 w6 ⟨v6, rfl, hF6⟩
                obtain ⟨o6, hb6⟩ := hF6
                obtain ⟨a7, c7, rfl, _, _, hr7, _⟩ := Own.at o6
                have hOw6 := hOw5.below hb6
                obtain ⟨v8, w8, hrun8, o8, g8, _, hb8⟩ := Own.append (ty := 22) (c := c7) hOw6 eB hr7 rfl (by have := HSL.out; omega) (Nat.le_trans hsz5 hb6.size)
                have hBT8 := (hBT5.below hb6).keptBy g8 (fun e => by have := (hOw6.lt gt e).1; have := HGT.out; omega)
                have hb08 : Below w.heap.size w w8 := (Gr.trans hb5 hb6).trans (hb8.mono (by omega))
                have hrel' : RqRel w l v8 (.int .i64 ((j + m : Nat) : Int)) (.int .i64 ((j + m : Nat) : Int)) w8 := ⟨f, T.set h (j + 1), j + m, j + m, out ++ seqL s (j - q) m, rfl, rfl, by rw [← HGT.out]; exact hBT8, by simpa using hTl, HSET.out _ (by omega), Nat.le_refl _, by omega, o8, by rw [List.append_assoc, ← HYS.out]; exact HOUT.out, by omega, hb08, by have := HSL.out; rw [List.length_append]; omega, Nat.le_trans hsz5 (Nat.le_trans hb6.size g8.size)⟩
                have HREL := Lib.hid hrel'
                clear hrel' hBT5 hBT8 hOw5 hOw6 o6 o8 hb5 hb6 hb8 hb08 g8 hr7 hrow5 hsl5 hsz5
                go_wp2_with (at_builtin; refine wpList_append_run hrun8 rfl rfl rfl rfl ?_)
                first
                  | exact ⟨by have := HREL.out; simpa using this, by simp [intOf] <;> omega⟩
                  | (refine ⟨?_, by simp [intOf] <;> omega⟩; (repeat apply Exists.intro); exact ⟨by have := HREL.out; simpa using this, rfl⟩)
          · have hE : (x == y) = false := by simpa using heq
            have HNO : Hid (sqGo l (f + 1) T t j = sqGo l f (T.set h (j + 1)) t (j + 1)) := sq_no HH.out HP.out hgo (.inr (.inr (by
              have := HQ.out
              rw [show p - 1 = q by omega, ← HX.out, ← HY.out]
              exact heq)))
            clear heq
            have hrel' : ∀ nq, RqRel w l u5 (.int .i64 t) (.int .i64 ((j + 1 : Nat) : Int)) (w2.drewN nq) := fun nq => ⟨f, T.set h (j + 1), t, j + 1, out, rfl, rfl, by rw [← HGT.out]; exact hBT2.drewN nq, by simpa using hTl, HSET.out _ (Nat.le_refl _), by omega, by omega, hOw2.below (Gr.drewN _ nq), by rw [← HNO.out]; exact HOUT.out, by omega, Below.drewN hb2 nq, hol, by have := HGT.out; have := hsz2; simpa using this⟩
            have HREL := Lib.hid hrel'
            clear hrel' hBT2 hOw2
            go_quiet ((go_at_call 12; exact Calls.quiet_of (same_any (l := x) (m := y) HXL.out HYL.out (hr2.drewN _) (hr3.drewN _) HXM.out)))
            go_wp2
            first
              | exact ⟨by have := HREL.out nq; simpa using this, by simp [intOf] <;> omega⟩
              | (refine ⟨?_, by simp [intOf] <;> omega⟩; (repeat apply Exists.intro); exact ⟨by have := HREL.out nq; simpa using this, rfl⟩)
    · have hgoI : ¬ (j : Int) + 12 ≤ (l.length : Int) := by omega
      have HEND : Hid (out ++ seqL (l.drop t) 0 0 = squeezeF l) := by
        show _ = _
        rw [← HOUT.out, sq_end (by omega)]
      obtain ⟨a5, c5, hsl5, h51, h52, hrow5⟩ := cut_l (P := Try.prog) (t := 22) (e := 5) (s := 1) eB.ht (by kernel_rfl) hl (by simp) hc (k1 := .i64) (i := (t : Int)) (p := t) rfl (by omega)
      rw [Nat.mul_one, ← List.map_drop] at hrow5
      have hsl : l.length - t = (l.drop t).length := by rw [List.length_drop]
      obtain ⟨s, hs⟩ : ∃ s, s = l.drop t := ⟨_, rfl⟩
      rw [← hs] at hrow5 hsl HEND
      rw [hsl] at hsl5 h51
      have HSL := Lib.hid hsl
      have hsb : (seqL s 0 0).length ≤ 2 * s.length + 2 := by
        rw [seqL_length, if_pos rfl, moreL_length]; split <;> omega
      clear hs hsl
      go_wp2_with fail
      refine (rseq_last (d := 0) (by rfl) (hrow5.below hb) (by have := HSL.out; omega)).mono ?_
      rintro e1 w6 ⟨v6, rfl, hF6⟩
      obtain ⟨o6, hb6⟩ := hF6
      obtain ⟨a7, c7, rfl, _, _, hr7, _⟩ := Own.at (l := seqL s 0 0) o6
      have hOw6 := Own.below hOw hb6
      obtain ⟨v8, w8, hrun8, o8, g8, _, hb8⟩ := Own.append (ty := 22) (n := (seqL s 0 0).length) (c := c7) hOw6 eB hr7 rfl (by have := HSL.out; omega) (Nat.le_trans hsz hb6.size)
      have hb08 : Below w.heap.size w w8 := (Gr.trans hb hb6).trans (hb8.mono (by omega))
      have hfin : Fresh w w8 v8 (squeezeF l) := by
        refine ⟨?_, hb08⟩
        rw [← HEND.out]
        exact Own.mono o8 (by omega)
      have FIN := Lib.hid hfin
      clear hfin o8 o6 hOw6 hOw hb hb6 hb8 hb08 g8 hr7 hrow5 hBT
      go_wp2_with (at_builtin; refine wpList_append_run hrun8 rfl rfl rfl rfl ?_)
      go_ret2
      exact ⟨v8, rfl, FIN.out⟩
theorem rsqueeze_big {a : Option Addr} {n c : Nat} {w : World} (hn : 65536 < n) :
    Calls Try.prog 21 #[.slice a n c] w fun e w' => e = .returned (.tuple #[.slice none 0 0, .int .i64 5]) ∧ w = w' := by
  have hI : (65536 : Int) < n := by omega
  go_enter Try.func21, Try.ntmps21
  go_wp2
  go_ret2
  exact ⟨rfl, rfl⟩
end Go.Proofs.Ytpkgcnklpnficaa
