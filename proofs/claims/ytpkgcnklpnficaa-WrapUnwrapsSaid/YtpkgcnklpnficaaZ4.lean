/- The walk of lz.Squeeze. -/
import Derived.Test.YtpkgcnklpnficaaZ2
namespace Go.Proofs.Ytpkgcnklpnficaa
open Go.RowKit Go.Hd

/-- The table, as cells. -/
def tabCells (T : List Nat) : List Value := T.map fun (c : Nat) => Value.int .i64 (c : Int)
def tab0 : Array Value := (tabCells (List.replicate 4096 0)).toArray
theorem zeroT (w : World) : (zeroValue 49).run Try.prog w = .ok (.agg tab0) w := by kernel_rfl
theorem tab_get {T : List Nat} {h : Nat} (hT : T.length = 4096) (hh : h < 4096) : (tabCells T)[h]? = some (.int .i64 ((T.getD h 0 : Nat) : Int)) := by
  unfold tabCells
  rw [List.getElem?_map, List.getElem?_eq_getElem (by omega), List.getD_eq_getElem?_getD, List.getElem?_eq_getElem (by omega)]
  rfl
theorem tab_set (T : List Nat) (h c : Nat) : (tabCells T).set h (.int .i64 (c : Int)) = tabCells (T.set h c) := by
  unfold tabCells
  rw [List.map_set]
/-- At the head of a round. -/
def SqRel (w : World) (l : List UInt8) (told i : Value) (wr : World) : Prop :=
  ∃ (f : Nat) (T : List Nat) (t j : Nat) (out : List UInt8), told = .int .i64 t ∧ i = .int .i64 j ∧ Blk wr w.heap.size 49 (tabCells T) ∧ T.length = 4096 ∧ (∀ k, T.getD k 0 ≤ j) ∧ t ≤ j ∧ j ≤ l.length ∧
    BkAt (w.heap.size + 2) wr (w.heap.size + 1) out ∧ out ++ sqGo l f T t j = squeezeF l ∧ l.length < j + f + 1 ∧ Below w.heap.size w wr ∧ out.length ≤ 2 * t
set_option maxHeartbeats 2000000 in
theorem squeeze_any {a : Option Addr} {n c : Nat} {l : List UInt8} {w : World} (hn : n = l.length) (hl : Row w a (l.map b8)) (hc : n ≤ c) (hm : l.length ≤ 65536) :
    Calls Try.prog 19 #[.slice a n c] w fun e w' => ∃ v, e = .returned (.tuple #[v, .int .i64 0]) ∧ Fresh w w' v (squeezeF l) := by
  subst hn
  have hz := zeroT
  have hmI : (l.length : Int) ≤ 65536 := by omega
  have hB1 : Blk ((w.alloc (.cells tab0 49)).alloc (.cells #[.slice none 0 0] 52)) w.heap.size 49 (tabCells (List.replicate 4096 0)) := (Blk.new w 49 tab0).alloc _
  have hB2 : BkAt (w.heap.size + 2) ((w.alloc (.cells tab0 49)).alloc (.cells #[.slice none 0 0] 52)) (w.heap.size + 1) [] := by
    refine ⟨.slice none 0 0, ?_, Own.nil _ _ _, by omega, by simp⟩
    have := Blk.new (w.alloc (.cells tab0 49)) 52 #[.slice none 0 0]
    rwa [show (w.alloc (.cells tab0 49)).heap.size = w.heap.size + 1 by simp] at this
  have hb0 : Below w.heap.size w ((w.alloc (.cells tab0 49)).alloc (.cells #[.slice none 0 0] 52)) := ((Below.refl _ _).alloc (Nat.le_refl _) _).alloc (by simp) _
  go_enter Try.func19, Try.ntmps19
  go_upto_region 6 with (fail)
  generalize (w.alloc (.cells tab0 49)).alloc (.cells #[.slice none 0 0] 52) = w0 at *
  clear hz
  obtain ⟨gt, hgt⟩ : ∃ gt, gt = w.heap.size := ⟨_, rfl⟩
  obtain ⟨gk, hgk⟩ : ∃ gk, gk = w.heap.size + 1 := ⟨_, rfl⟩
  rw [← hgk, ← hgt]
  have HGT := Lib.hid hgt
  have HGK := Lib.hid hgk
  clear hgt hgk
  go_wp2
  go_loopw [7, 8, 9, 10, 11] (fun told i _ _ _ wr => SqRel w l told i wr) (fun _ i _ _ _ _ => l.length + 1 - (intOf i).toNat)
  case atStart => exact ⟨l.length + 1, List.replicate 4096 0, 0, 0, [], rfl, rfl, hB1, List.length_replicate, fun k => by rw [List.getD_eq_getElem?_getD, List.getElem?_replicate]; split <;> simp, Nat.le_refl _, Nat.zero_le _, hB2, rfl, by omega, hb0, Nat.le_refl _⟩
  case round =>
    clear hB1 hB2 hb0
    obtain ⟨f, T, t, j, out, rfl, rfl, hBT, hTl, hTj, htj, hjl, hBk, hout, hf, hb, hol⟩ := hrel
    rw [← HGT.out] at hBT
    rw [← HGK.out] at hBk
    have HOUT := Lib.hid hout
    have HTJ := Lib.hid hTj
    have hlr := hl.below hb
    clear hout hTj
    by_cases hgo : j + 12 ≤ l.length
    · have hgoI : (j : Int) ≤ (l.length : Int) - 12 := by omega
      obtain ⟨f, rfl⟩ : ∃ f', f = f' + 1 := ⟨f - 1, by omega⟩
      obtain ⟨a1, c1, hsl1, h11, h12, hrow1⟩ := cut_l (P := Try.prog) (t := 22) (e := 5) (s := 1) eB.ht (by kernel_rfl) hlr (by simp) hc (k1 := .i64) (i := (j : Int)) (p := j) rfl (by omega)
      rw [Nat.mul_one, ← List.map_drop] at hrow1
      have hl1 : l.length - j = (l.drop j).length := by rw [List.length_drop]
      rw [hl1] at hsl1 h11
      have h4 : 4 ≤ (l.drop j).length := by omega
      have hhlt := lzHash_lt (l.drop j)
      obtain ⟨h, hhe⟩ : ∃ h, h = lzHash (l.drop j) := ⟨_, rfl⟩
      obtain ⟨s1, hs1⟩ : ∃ s1, s1 = l.drop j := ⟨_, rfl⟩
      rw [← hs1] at hrow1 hsl1 h11 h4
      have HH := Lib.hid hhe
      have HS1 := Lib.hid hs1
      rw [← hhe] at hhlt
      clear hl1 hhe hs1
      have ck : wr.cell? ⟨gt, h, none⟩ = _ := hBT.cell (tab_get hTl hhlt)
      have fk := hBT.free h
      have hhI : (h : Int) < 4096 := by omega
      have hcj := HTJ.out h
      obtain ⟨p, hp⟩ : ∃ p, p = T.getD h 0 := ⟨_, rfl⟩
      rw [← hp] at ck hcj
      have HP := Lib.hid hp
      clear hp
      go_wp2_with fail
      refine (hash_any (l := s1) (by rfl) hrow1 h4 h11).mono ?_
      rintro e1 w1 ⟨rfl, rfl⟩
      rw [HS1.out, ← HH.out]
      go_upto_region 11 with (fail)
      have gs : wr.grownBy (wr.setCell ⟨gt, h, none⟩ (.int .i64 ((j : Int) + 1))) (some gt) := grown_set (World.grownBy.refl _ _) _ _
      have hBT2 : Blk (wr.setCell ⟨gt, h, none⟩ (.int .i64 ((j : Int) + 1))) gt 49 (tabCells (T.set h (j + 1))) := by
        have := hBT.set h (.int .i64 ((j + 1 : Nat) : Int))
        rw [tab_set] at this
        exact this
      have hBk2 : BkAt (w.heap.size + 2) (wr.setCell ⟨gt, h, none⟩ (.int .i64 ((j : Int) + 1))) gk out := hBk.imp fun _ k => k.far gs (by have h1 := HGT.out; have h2 := HGK.out; omega) (by have h1 := HGT.out; omega)
      have hb2 : Below w.heap.size w (wr.setCell ⟨gt, h, none⟩ (.int .i64 ((j : Int) + 1))) := Gr.ofGrown hb gs (by have h1 := HGT.out; omega)
      generalize wr.setCell ⟨gt, h, none⟩ (.int .i64 ((j : Int) + 1)) = w2 at *
      have HSET := Lib.hid (fun k hk => set_le (h := h) (k := k) HTJ.out hk)
      clear gs hBT hBk hb hlr ck fk hsl1 hrow1
      by_cases hp0 : p < 1
      · have HNO : Hid (sqGo l (f + 1) T t j = sqGo l f (T.set h (j + 1)) t (j + 1)) := sq_no HH.out HP.out hgo (.inl (by omega))
        have hd1 : decide ((p : Int) - 1 < 0) = true := by simp; omega
        have hrel' : ∀ nq, SqRel w l (.int .i64 t) (.int .i64 ((j + 1 : Nat) : Int)) (w2.drewN nq) := fun nq => ⟨f, T.set h (j + 1), t, j + 1, out, rfl, rfl, by rw [← HGT.out]; exact hBT2.drewN nq, by simpa using hTl, HSET.out _ (Nat.le_refl _), by omega, by omega, by rw [← HGK.out]; exact hBk2.imp fun _ k => k.drewN nq, by rw [← HNO.out]; exact HOUT.out, by omega, Below.drewN hb2 nq, hol⟩
        have HREL := Lib.hid hrel'
        clear hrel' hBT2 hBk2 hb2
        go_quiet (fail)
        go_wp2
        first
          | exact ⟨by have := HREL.out nq; simpa using this, by simp [intOf] <;> omega⟩
          | (refine ⟨?_, by simp [intOf] <;> omega⟩; (repeat apply Exists.intro); exact ⟨by have := HREL.out nq; simpa using this, rfl⟩)
      · obtain ⟨q, hq⟩ : ∃ q, p = q + 1 := ⟨p - 1, by omega⟩
        have hpq : (p : Int) - 1 = (q : Int) := by omega
        rw [hpq]
        have HQ := Lib.hid hq
        have hqj : q < j := by omega
        clear hq hpq hp0
        have hd1 : decide ((q : Int) < 0) = false := by simp
        have hw1 : IntKind.i64.wrap ((j : Int) - q) = (j : Int) - q := IntWalk.i64_in _ (by omega)
        by_cases hfar : 65535 < j - q
        · have HNO : Hid (sqGo l (f + 1) T t j = sqGo l f (T.set h (j + 1)) t (j + 1)) := sq_no HH.out HP.out hgo (.inr (.inl (by have := HQ.out; omega)))
          have hd2 : decide (65535 < (j : Int) - q) = true := by simp; omega
          have hrel' : ∀ nq, SqRel w l (.int .i64 t) (.int .i64 ((j + 1 : Nat) : Int)) (w2.drewN nq) := fun nq => ⟨f, T.set h (j + 1), t, j + 1, out, rfl, rfl, by rw [← HGT.out]; exact hBT2.drewN nq, by simpa using hTl, HSET.out _ (Nat.le_refl _), by omega, by omega, by rw [← HGK.out]; exact hBk2.imp fun _ k => k.drewN nq, by rw [← HNO.out]; exact HOUT.out, by omega, Below.drewN hb2 nq, hol⟩
          have HREL := Lib.hid hrel'
          clear hrel' hBT2 hBk2 hb2
          go_quiet (fail)
          go_wp2
          first
            | exact ⟨by have := HREL.out nq; simpa using this, by simp [intOf] <;> omega⟩
            | (refine ⟨?_, by simp [intOf] <;> omega⟩; (repeat apply Exists.intro); exact ⟨by have := HREL.out nq; simpa using this, rfl⟩)
        · have hd2 : decide (65535 < (j : Int) - q) = false := by simp; omega
          have hw2 : IntKind.i64.wrap ((q : Int) + 4) = (q : Int) + 4 := IntWalk.i64_in _ (by omega)
          have hw3 : IntKind.i64.wrap ((j : Int) + 4) = (j : Int) + 4 := IntWalk.i64_in _ (by omega)
          obtain ⟨a2, c2, hsl2, h21, h22, hrow2⟩ := cut_lh (P := Try.prog) (t := 22) (e := 5) (s := 1) eB.ht (by kernel_rfl) hl (k1 := .i64) (k2 := .i64) (c := c) (n := l.length) (i := (q : Int)) (j := (q : Int) + 4) (p := q) (q := q + 4) rfl rfl (by omega) (by omega)
          obtain ⟨a3, c3, hsl3, h31, h32, hrow3⟩ := cut_lh (P := Try.prog) (t := 22) (e := 5) (s := 1) eB.ht (by kernel_rfl) hl (k1 := .i64) (k2 := .i64) (c := c) (n := l.length) (i := (j : Int)) (j := (j : Int) + 4) (p := j) (q := j + 4) rfl rfl (by omega) (by omega)
          simp only [Nat.mul_one, Nat.add_sub_cancel_left] at hsl2 h21 hrow2 hsl3 h31 hrow3
          rw [← List.map_drop, ← List.map_take] at hrow2 hrow3
          have hr2 := hrow2.below hb2
          have hr3 := hrow3.below hb2
          have hxl : 4 = ((l.drop q).take 4).length := by rw [List.length_take, List.length_drop]; omega
          have hyl : 4 = ((l.drop j).take 4).length := by rw [List.length_take, List.length_drop]; omega
          obtain ⟨x, hx⟩ : ∃ x, x = (l.drop q).take 4 := ⟨_, rfl⟩
          obtain ⟨y, hy⟩ : ∃ y, y = (l.drop j).take 4 := ⟨_, rfl⟩
          rw [← hx] at hr2 hxl
          rw [← hy] at hr3 hyl
          have HX := Lib.hid hx
          have HY := Lib.hid hy
          have HXL := Lib.hid hxl
          have HYL := Lib.hid hyl
          clear hx hy hxl hyl hrow2 hrow3
          by_cases heq : x = y
          · have hE : (x == y) = true := by simpa using heq
            have HEQ : Hid ((l.drop q).take 4 = (l.drop j).take 4) := by
              show _ = _
              rw [← HX.out, ← HY.out, heq]
            clear heq
            go_quiet ((go_at_call 29; exact Calls.quiet_of (quiet0 <| equal_any (l := x) (m := y) HXL.out HYL.out (hr2.drewN _) (hr3.drewN _))))
            have hBT3 := hBT2.drewN nq
            have hBk3 : BkAt (w.heap.size + 2) (w2.drewN nq) gk out := hBk2.imp fun _ k => k.drewN nq
            have hb3 := Below.drewN hb2 nq
            generalize w2.drewN nq = w3 at *
            have hn5 : (l.length : Int) - 5 = ((l.length - 5 : Nat) : Int) := by omega
            have HN5 := Lib.hid hn5
            clear hBT2 hBk2 hb2 hr2 hr3 hsl2 hsl3 hE hd1 hd2 hw1 hw2 hw3 hn5
            go_wp2_with fail
            rw [HN5.out]
            refine (common_any (l := l) (p := q) (i := j) (q := l.length - 5) (by rfl) (hl.below hb3) hqj (by omega) (by omega) (by omega)).mono ?_
            rintro e1 w4 ⟨rfl, n4, rfl⟩
            have hBT4 := hBT3.drewN n4
            have hBk4 : BkAt (w.heap.size + 2) (w3.drewN n4) gk out := hBk3.imp fun _ k => k.drewN n4
            have hb4 := Below.drewN hb3 n4
            generalize w3.drewN n4 = w4 at *
            clear hBT3 hBk3 hb3
            have hm4 : 4 ≤ comm l q j (l.length - 5 - j) := comm_four HEQ.out (by omega) (by omega) (by omega)
            have hmle := comm_le l (l.length - 5 - j) q j
            obtain ⟨m, hme⟩ : ∃ m, m = comm l q j (l.length - 5 - j) := ⟨_, rfl⟩
            have HYS : Hid (sqGo l (f + 1) T t j = seqL ((l.drop t).take (j - t)) (j - q) m ++ sqGo l f (T.set h (j + 1)) (j + m) (j + m)) := sq_yes HH.out (by rw [← HP.out, HQ.out]) hgo hfar HEQ.out hme
            rw [← hme] at hm4 hmle ⊢
            clear hme
            obtain ⟨a5, c5, hsl5, h51, h52, hrow5⟩ := cut_lh (P := Try.prog) (t := 22) (e := 5) (s := 1) eB.ht (by kernel_rfl) hl (k1 := .i64) (k2 := .i64) (c := c) (n := l.length) (i := (t : Int)) (j := (j : Int)) (p := t) (q := j) rfl rfl (by omega) (by omega)
            simp only [Nat.mul_one] at hrow5
            rw [← List.map_drop, ← List.map_take] at hrow5
            have hsl : j - t = ((l.drop t).take (j - t)).length := by rw [List.length_take, List.length_drop]; omega
            obtain ⟨s, hs⟩ : ∃ s, s = (l.drop t).take (j - t) := ⟨_, rfl⟩
            rw [← hs] at hrow5 hsl HYS
            have hloc : 0 < s.length → (hd a5).block < w.heap.size + 2 ∧ (hd a5).block ≠ gk := fun h0 => by
              have := hrow5.block_lt (by simpa using h0)
              have := HGK.out
              omega
            rw [hsl] at hsl5 h51
            have HSL := Lib.hid hsl
            have hsb := seqL_bound s (j - q) m hm4
            have hjq : (j : Int) - q = ((j - q : Nat) : Int) := by omega
            have HJQ := Lib.hid hjq
            clear hs hsl hjq
            go_wp2_with fail
            rw [HJQ.out]
            refine (bseq_any hBk4 (by rfl) (hrow5.below hb4) h51 hloc (by omega) (by have := HSL.out; omega) (.inr hm4)).mono ?_
            rintro e1 w5 ⟨rfl, hBk5, hk5⟩
            have hBT5 := hBT4.kp hk5 (by have := HGT.out; omega) (by have := HGT.out; have := HGK.out; simp; omega)
            have hb5 : Below w.heap.size w w5 := hb4.trans (hk5.below (by omega) (fun k hk => by have := HGK.out; cases hk; omega))
            have hrel' : SqRel w l (.int .i64 ((j + m : Nat) : Int)) (.int .i64 ((j + m : Nat) : Int)) w5 := ⟨f, T.set h (j + 1), j + m, j + m, out ++ seqL s (j - q) m, rfl, rfl, by rw [← HGT.out]; exact hBT5, by simpa using hTl, HSET.out _ (by omega), Nat.le_refl _, by omega, by rw [← HGK.out]; exact hBk5, by rw [List.append_assoc, ← HYS.out]; exact HOUT.out, by omega, hb5, by have := HSL.out; rw [List.length_append]; omega⟩
            have HREL := Lib.hid hrel'
            clear hrel' hBT4 hBk4 hb4 hBT5 hBk5 hb5 hk5 hrow5 hsl5
            go_wp2
            first
              | exact ⟨by have := HREL.out; simpa using this, by simp [intOf] <;> omega⟩
              | (refine ⟨?_, by simp [intOf] <;> omega⟩; (repeat apply Exists.intro); exact ⟨by have := HREL.out; simpa using this, rfl⟩)
          · have hE : (x == y) = false := by simpa using heq
            have HNO : Hid (sqGo l (f + 1) T t j = sqGo l f (T.set h (j + 1)) t (j + 1)) := sq_no HH.out HP.out hgo (.inr (.inr (by
              have := HQ.out
              rw [show p - 1 = q by omega, ← HX.out, ← HY.out]
              exact heq)))
            clear heq
            have hrel' : ∀ nq, SqRel w l (.int .i64 t) (.int .i64 ((j + 1 : Nat) : Int)) (w2.drewN nq) := fun nq => ⟨f, T.set h (j + 1), t, j + 1, out, rfl, rfl, by rw [← HGT.out]; exact hBT2.drewN nq, by simpa using hTl, HSET.out _ (Nat.le_refl _), by omega, by omega, by rw [← HGK.out]; exact hBk2.imp fun _ k => k.drewN nq, by rw [← HNO.out]; exact HOUT.out, by omega, Below.drewN hb2 nq, hol⟩
            have HREL := Lib.hid hrel'
            clear hrel' hBT2 hBk2
            go_quiet ((go_at_call 29; exact Calls.quiet_of (quiet0 <| equal_any (l := x) (m := y) HXL.out HYL.out (hr2.drewN _) (hr3.drewN _))))
            go_wp2
            first
              | exact ⟨by have := HREL.out nq; simpa using this, by simp [intOf] <;> omega⟩
              | (refine ⟨?_, by simp [intOf] <;> omega⟩; (repeat apply Exists.intro); exact ⟨by have := HREL.out nq; simpa using this, rfl⟩)
    · have hgoI : ¬ (j : Int) ≤ (l.length : Int) - 12 := by omega
      have HEND : Hid (out ++ seqL (l.drop t) 0 0 = squeezeF l) := by
        show _ = _
        rw [← HOUT.out, sq_end (by omega)]
      obtain ⟨a5, c5, hsl5, h51, h52, hrow5⟩ := cut_l (P := Try.prog) (t := 22) (e := 5) (s := 1) eB.ht (by kernel_rfl) hl (by simp) hc (k1 := .i64) (i := (t : Int)) (p := t) rfl (by omega)
      rw [Nat.mul_one, ← List.map_drop] at hrow5
      have hsl : l.length - t = (l.drop t).length := by rw [List.length_drop]
      obtain ⟨s, hs⟩ : ∃ s, s = l.drop t := ⟨_, rfl⟩
      rw [← hs] at hrow5 hsl HEND
      have hloc : 0 < s.length → (hd a5).block < w.heap.size + 2 ∧ (hd a5).block ≠ gk := fun h0 => by
        have := hrow5.block_lt (by simpa using h0)
        have := HGK.out
        omega
      rw [hsl] at hsl5 h51
      have HSL := Lib.hid hsl
      clear hs hsl
      go_wp2_with fail
      refine (bseq_any (d := 0) (n := 0) hBk (by rfl) (hrow5.below hb) h51 hloc (by omega) (by have := HSL.out; omega) (.inl rfl)).mono ?_
      rintro e1 w5 ⟨rfl, ⟨v, hBk5⟩, hk5⟩
      have ck : w5.cell? ⟨gk, 0, none⟩ = _ := hBk5.blk.cell rfl
      have hb5 : Below w.heap.size w w5 := hb.trans (hk5.below (by omega) (fun k hk => by have := HGK.out; cases hk; omega))
      have hfin : Fresh w w5 v (squeezeF l) := by
        refine ⟨?_, hb5⟩
        rw [← HEND.out]
        exact Own.mono hBk5.own (by omega)
      have FIN := Lib.hid hfin
      clear hfin hBk5 hk5 hb5 hBk hBT hb
      go_wp2
      go_ret2
      exact ⟨v, rfl, FIN.out⟩
theorem squeeze_big {a : Option Addr} {n c : Nat} {w : World} (hn : 65536 < n) :
    Calls Try.prog 19 #[.slice a n c] w fun e w' => e = .returned (.tuple #[.slice none 0 0, .int .i64 5]) ∧ w = w' := by
  have hI : (65536 : Int) < n := by omega
  go_enter Try.func19, Try.ntmps19
  go_wp2
  go_ret2
  exact ⟨rfl, rfl⟩
end Go.Proofs.Ytpkgcnklpnficaa
