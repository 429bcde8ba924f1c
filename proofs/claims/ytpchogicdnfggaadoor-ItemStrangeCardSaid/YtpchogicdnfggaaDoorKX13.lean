/- Joined: what one statement of this layer stands on, part 13 of 17; nothing is assumed. -/
import Derived.Deep.CutBlock
import Derived.Test.YtpchogicdnfggaaDoorKX1
import Derived.Test.YtpchogicdnfggaaDoorKX5
set_option maxRecDepth 20000
namespace Go.Proofs.YtpchogicdnfggaaDoor
open Go.RowKit Go.Hd
attribute [local go_sem ↓] h_ldV h_stV h_alV
attribute [local go_sem] r_ldV r_stV r_alV

theorem equal5_any {a b : Option Addr} {n1 n2 c d : Nat} {l m : List UInt8} {w : World} (h1 : n1 = l.length) (h2 : n2 = m.length) (hl : Row w a (l.map b8)) (hm : Row w b (m.map b8)) :
    Calls Tryd.prog 75 #[.slice a n1 c, .slice b n2 d] w fun e w' => e = .returned (.bool (l == m)) ∧ w = w' := by
  subst h1 h2
  have k1 := run_convert_row (P := Tryd.prog) (w := w) (src := 26) (e := 5) (dst := 9) (c := c) eB.ht Tryd.underlying5 Tryd.underlying9 rfl hl
  have k2 := run_convert_row (P := Tryd.prog) (w := w) (src := 26) (e := 5) (dst := 9) (c := d) eB.ht Tryd.underlying5 Tryd.underlying9 rfl hm
  go_enter Tryd.func75, Tryd.ntmps75
  go_wp2
  go_ret
  exact ⟨ret_bool (str_beq l m), rfl⟩
set_option maxHeartbeats 4000000 in
theorem psame_any {w0 : World} {cs : List Value} {v : PV} (h : VAt w0 cs v) : ∀ (cs2 : List Value) (v2 : PV) (w : World), VAt w0 cs2 v2 → Below w0.heap.size w0 w →
    Calls Tryd.prog 51 #[.agg cs.toArray, .agg cs2.toArray] w fun e w' => e = .returned (.bool (sameV v v2)) ∧ Below w.heap.size w w' := by
  induction h with
  | @mk k n b t ks l ab ak al cb ck cl css hk hn hb hbc ht hks hkc hkt hl hlc hcs h6 sub ih =>
  intro cs2 v2 w h2 hbw
  cases h2 with
  | @mk k' n' b' t' ks' l' ab' ak' al' cb' ck' cl' css' hk' hn' hb' hbc' ht' hks' hkc' hkt' hl' hlc' hcs' h6' sub' =>
  have hsz := hbw.size
  obtain ⟨box, hbox⟩ : ∃ box : List Value, box = [.int .i64 k, .int .i64 n, .slice ab b.length cb, strV t, .slice ak ks.length ck, .slice al l.length cl] := ⟨_, rfl⟩
  obtain ⟨box', hbox'⟩ : ∃ box : List Value, box = [.int .i64 k', .int .i64 n', .slice ab' b'.length cb', strV t', .slice ak' ks'.length ck', .slice al' l'.length cl'] := ⟨_, rfl⟩
  have hb0 : Below w.heap.size w ((w.alloc (.cells (List.toArray (α := Value) box) 30)).alloc (.cells (List.toArray (α := Value) box') 30)) := ((Below.refl _ _).alloc (Nat.le_refl _) _).alloc (by simp) _
  have A0 : Blk ((w.alloc (.cells (List.toArray (α := Value) box) 30)).alloc (.cells (List.toArray (α := Value) box') 30)) w.heap.size 30 box := by simpa using (Blk.new w 30 box.toArray).alloc (.cells box'.toArray 30)
  have R0 : Blk ((w.alloc (.cells (List.toArray (α := Value) box) 30)).alloc (.cells (List.toArray (α := Value) box') 30)) (w.heap.size + 1) 30 box' := by
    have := Blk.new (w.alloc (.cells (List.toArray (α := Value) box) 30)) 30 box'.toArray
    simpa using this
  rw [← hbox, ← hbox']
  have HB := Lib.hid hbox
  have HB' := Lib.hid hbox'
  clear hbox hbox'
  have HSV := Lib.hid (sameV_mk k n k' n' b t b' t' ks ks' l l')
  go_enter Tryd.func51, Tryd.ntmps51
  go_upto_region 1 with (fail)
  generalize (w.alloc (.cells (List.toArray (α := Value) box) 30)).alloc (.cells (List.toArray (α := Value) box') 30) = W at *
  have a0 : W.cell? ⟨w.heap.size, 0, none⟩ = some (.int .i64 k) := A0.cell (by rw [HB.out]; rfl)
  have a1 : W.cell? ⟨w.heap.size, 1, none⟩ = some (.int .i64 n) := A0.cell (by rw [HB.out]; rfl)
  have a2 : W.cell? ⟨w.heap.size, 2, none⟩ = some (.slice ab b.length cb) := A0.cell (by rw [HB.out]; rfl)
  have a3 : W.cell? ⟨w.heap.size, 3, none⟩ = some (.string (str t)) := A0.cell (by rw [HB.out]; rfl)
  have r0 : W.cell? ⟨w.heap.size + 1, 0, none⟩ = some (.int .i64 k') := R0.cell (by rw [HB'.out]; rfl)
  have r1 : W.cell? ⟨w.heap.size + 1, 1, none⟩ = some (.int .i64 n') := R0.cell (by rw [HB'.out]; rfl)
  have r2 : W.cell? ⟨w.heap.size + 1, 2, none⟩ = some (.slice ab' b'.length cb') := R0.cell (by rw [HB'.out]; rfl)
  have r3 : W.cell? ⟨w.heap.size + 1, 3, none⟩ = some (.string (str t')) := R0.cell (by rw [HB'.out]; rfl)
  by_cases hkk : k = k'
  case neg =>
    have t0 : (k != k') = true := by simpa using hkk
    have HF : Hid (sameV (.mk k n b t ks l) (.mk k' n' b' t' ks' l') = false) := by
      show _ = _
      rw [HSV.out, beq_eq_false_iff_ne.2 hkk]; rfl
    clear hkk
    go_wp2
    go_ret
    exact ⟨by rw [HF.out]; rfl, hb0⟩
  case pos =>
  have HKK := Lib.hid hkk
  have t0 : (k != k') = false := by simpa using hkk
  clear hkk
  have HS3 : Hid (k = 3 → sameV (.mk k n b t ks l) (.mk k' n' b' t' ks' l') = (n == n')) := by
    intro h; rw [HSV.out, ← HKK.out]; subst h; simp
  have HS4 : Hid (k = 4 → sameV (.mk k n b t ks l) (.mk k' n' b' t' ks' l') = (b == b')) := by
    intro h; rw [HSV.out, ← HKK.out]; subst h; simp
  have HS5 : Hid (k = 5 → sameV (.mk k n b t ks l) (.mk k' n' b' t' ks' l') = (t == t')) := by
    intro h; rw [HSV.out, ← HKK.out]; subst h; simp
  have HS6 : Hid (k = 6 → sameV (.mk k n b t ks l) (.mk k' n' b' t' ks' l') = sameL l l') := by
    intro h; rw [HSV.out, ← HKK.out]; subst h; simp
  have HS7 : Hid (k = 7 → sameV (.mk k n b t ks l) (.mk k' n' b' t' ks' l') = (ks == ks' && sameL l l')) := by
    intro h; rw [HSV.out, ← HKK.out]; subst h; simp
  have HS0 : Hid (k ≠ 3 → k ≠ 4 → k ≠ 5 → k ≠ 6 → k ≠ 7 → sameV (.mk k n b t ks l) (.mk k' n' b' t' ks' l') = true) := by
    intro h3 h4 h5 h6 h7
    rw [HSV.out, ← HKK.out]; simp [h3, h4, h5, h6, h7]
  clear HSV HKK
  by_cases h3 : k = 3
  · have HF : Hid (sameV (.mk k n b t ks l) (.mk k' n' b' t' ks' l') = (n == n')) := HS3.out h3
    have t3 : (k == 3) = true := by simpa using h3
    clear h3
    go_wp2
    go_ret
    exact ⟨by rw [HF.out]; rfl, hb0⟩
  have t3 : (k == 3) = false := beq_eq_false_iff_ne.2 h3
  by_cases h4 : k = 4
  · have HF : Hid (sameV (.mk k n b t ks l) (.mk k' n' b' t' ks' l') = (b == b')) := HS4.out h4
    have t4 : (k == 4) = true := by simpa using h4
    have hrb := hb.below (hbw.trans (hb0.mono hsz))
    have hrb' := hb'.below (hbw.trans (hb0.mono hsz))
    have he := equal5_any (c := cb) (d := cb') rfl rfl hrb hrb'
    clear h3 h4
    go_wp2_with fail
    refine he.mono ?_
    rintro e w1 ⟨rfl, rfl⟩
    go_wp2
    go_ret
    exact ⟨by rw [HF.out]; rfl, hb0⟩
  have t4 : (k == 4) = false := beq_eq_false_iff_ne.2 h4
  by_cases h5 : k = 5
  · have HF : Hid (sameV (.mk k n b t ks l) (.mk k' n' b' t' ks' l') = (t == t')) := HS5.out h5
    have t5 : (k == 5) = true := by simpa using h5
    have ht := Lib.hid (str_beq t t')
    clear h3 h4 h5
    go_wp2
    go_ret
    exact ⟨by rw [HF.out, ← ht.out]; rfl, hb0⟩
  have t5 : (k == 5) = false := beq_eq_false_iff_ne.2 h5
  by_cases hmany : k = 6 ∨ k = 7
  case neg =>
    have HF : Hid (sameV (.mk k n b t ks l) (.mk k' n' b' t' ks' l') = true) := HS0.out h3 h4 h5 (fun h => hmany (.inl h)) (fun h => hmany (.inr h))
    have t6 : (k == 6) = false := beq_eq_false_iff_ne.2 (fun h => hmany (.inl h))
    have t7 : (k == 7) = false := beq_eq_false_iff_ne.2 (fun h => hmany (.inr h))
    clear h3 h4 h5 hmany
    go_wp2
    go_ret
    exact ⟨by rw [HF.out]; rfl, hb0⟩
  case pos =>
    clear h3 h4 h5 HS3 HS4 HS5 HS0
    go_upto_block 5 with (fail)
    go_cut [] (fun wx => (k = 7 → ks = ks') ∧ Blk wx w.heap.size 30 box ∧ Blk wx (w.heap.size + 1) 30 box' ∧ Below w.heap.size w wx)
    case first =>
      rcases hmany with h6 | h7
      · have t6 : (k == 6) = true := by simpa using h6
        have t7 : (k == 7) = false := by subst h6; rfl
        have h67 : ¬ k = 7 := by omega
        clear h6
        go_wp2
        go_meet
        exact ⟨fun h => absurd h h67, A0, R0, hb0⟩
      · have t7 : (k == 7) = true := by simpa using h7
        have HNO : Hid (ks ≠ ks' → sameV (.mk k n b t ks l) (.mk k' n' b' t' ks' l') = false) := by
          intro h; rw [HS7.out h7, beq_eq_false_iff_ne.2 h]; rfl
        have c0 : W.cell? ⟨w.heap.size, 0, none⟩ = some (.int .i64 k) := A0.cell (by rw [HB.out]; rfl)
        have a4 : W.cell? ⟨w.heap.size, 4, none⟩ = some (.slice ak ks.length ck) := A0.cell (by rw [HB.out]; rfl)
        have r4 : W.cell? ⟨w.heap.size + 1, 4, none⟩ = some (.slice ak' ks'.length ck') := R0.cell (by rw [HB'.out]; rfl)
        clear h7 a0 r0 a1 a2 a3 r1 r2 r3
        by_cases hkl : ks.length = ks'.length
        · have t1 : ((ks.length : Int) != (ks'.length : Int)) = false := by rw [hkl]; simp
          have HKL := Lib.hid hkl
          clear hkl
          go_wp2
          go_loopw [49] (fun i wr => ∃ j : Nat, j ≤ ks.length ∧ i = .int .i64 j ∧ ks.take j = ks'.take j ∧ Blk wr w.heap.size 30 box ∧ Blk wr (w.heap.size + 1) 30 box' ∧ Below w.heap.size w wr) (fun i _ => ks.length - (intOf i).toNat)
          case atStart => exact ⟨0, Nat.zero_le _, rfl, rfl, A0, R0, hb0⟩
          case round =>
            clear A0 R0 hb0 a4 r4 c0
            obtain ⟨j, hj, rfl, htk, A0, R0, hb0⟩ := hrel
            have a4 : wr.cell? ⟨w.heap.size, 4, none⟩ = some (.slice ak ks.length ck) := A0.cell (by rw [HB.out]; rfl)
            have r4 : wr.cell? ⟨w.heap.size + 1, 4, none⟩ = some (.slice ak' ks'.length ck') := R0.cell (by rw [HB'.out]; rfl)
            have HTK := Lib.hid htk
            clear htk
            by_cases hlt : j < ks.length
            · have hlt' : j < ks'.length := by have := HKL.out; omega
              have hbr := hbw.trans (hb0.mono hsz)
              have p1 : wr.cell? ((hd ak).add j) = some (strV ks[j]) := (hks.below hbr).cell (by simp [hlt])
              have p2 : wr.cell? ((hd ak').add j) = some (strV ks'[j]) := (hks'.below hbr).cell (by simp [hlt'])
              have s1 : ak.isSome = true := (hks.below hbr).isSome (i := j) (by simpa using hlt)
              have s2 : ak'.isSome = true := (hks'.below hbr).isSome (i := j) (by simpa using hlt')
              unfold strV at p1 p2
              have j0 : (0 : Int) ≤ (j : Int) := by omega
              have j1 : (j : Int) < (ks.length : Int) := by omega
              have j2 : (j : Int) < (ks'.length : Int) := by omega
              have jb : IntKind.i64.wrap ((j : Int) + 1) = (j : Int) + 1 := IntWalk.i64_in _ (by unfold maxLen at hkc; omega)
              by_cases hx : ks[j] = ks'[j]
              · have HT2 : Hid (ks.take (j + 1) = ks'.take (j + 1)) := by
                  show _ = _
                  rw [List.take_succ_eq_append_getElem hlt, List.take_succ_eq_append_getElem hlt', HTK.out, hx]
                have t9 : ((str ks[j]).toList == (str ks'[j]).toList) = true := by rw [str_beq]; simpa using hx
                clear hx hbr
                generalize ks[j] = x at *
                generalize ks'[j] = y at *
                go_wp2
                go_quiet (fail)
                go_wp2
                first
                  | exact ⟨⟨j + 1, by omega, (by first | rfl | go_num | (congr 1; omega)), HT2.out, A0.drewN _, R0.drewN _, Below.drewN hb0 _⟩, by simp [intOf] <;> omega⟩
                  | (refine ⟨?_, by simp [intOf] <;> omega⟩; (repeat apply Exists.intro); exact ⟨⟨j + 1, by omega, (by first | rfl | go_num | (congr 1; omega)), HT2.out, A0.drewN _, R0.drewN _, Below.drewN hb0 _⟩, rfl⟩)
              · have HF : Hid (sameV (.mk k n b t ks l) (.mk k' n' b' t' ks' l') = false) := HNO.out (keys_stop hlt hlt' hx)
                have t9 : ((str ks[j]).toList == (str ks'[j]).toList) = false := by rw [str_beq]; simpa using hx
                clear hx hbr
                generalize ks[j] = x at *
                generalize ks'[j] = y at *
                go_wp2
                go_quiet (fail)
                go_wp2
                go_ret
                exact ⟨by rw [HF.out]; rfl, Below.drewN hb0 _⟩
            · obtain rfl : j = ks.length := by omega
              have HE : Hid (ks = ks') := by
                have := HTK.out
                rw [List.take_length, HKL.out, List.take_length] at this
                exact this
              clear HTK
              go_wp2
              go_meet
              exact ⟨fun _ => HE.out, A0, R0, hb0⟩
        · have t1 : ((ks.length : Int) != (ks'.length : Int)) = true := by simpa using fun h => hkl (by exact_mod_cast h)
          have HF : Hid (sameV (.mk k n b t ks l) (.mk k' n' b' t' ks' l') = false) := HNO.out (fun h => hkl (by rw [h]))
          clear hkl
          go_wp2
          go_ret
          exact ⟨by rw [HF.out]; rfl, hb0⟩
    case rest =>
      clear A0 R0 hb0 a0 a1 a2 a3 r0 r1 r2 r3
      obtain ⟨h7, A0, R0, hb0⟩ := hcut
      have HM : Hid (sameV (.mk k n b t ks l) (.mk k' n' b' t' ks' l') = sameL l l') := by
        show _ = _
        rcases hmany with h | h
        · exact HS6.out h
        · rw [HS7.out h, h7 h]; simp
      have a5 : wc.cell? ⟨w.heap.size, 5, none⟩ = some (.slice al l.length cl) := A0.cell (by rw [HB.out]; rfl)
      have r5 : wc.cell? ⟨w.heap.size + 1, 5, none⟩ = some (.slice al' l'.length cl') := R0.cell (by rw [HB'.out]; rfl)
      have c0 : True := trivial
      clear hmany HS6 HS7 h7
      by_cases hll : l.length = l'.length
      · have t1 : ((l.length : Int) != (l'.length : Int)) = false := by rw [hll]; simp
        have HLL := Lib.hid hll
        clear hll
        go_wp2
        go_loopw [74] (fun i wr => ∃ j : Nat, j ≤ l.length ∧ i = .int .i64 j ∧ sameL (l.take j) (l'.take j) = true ∧ Blk wr w.heap.size 30 box ∧ Blk wr (w.heap.size + 1) 30 box' ∧ Below w.heap.size w wr) (fun i _ => l.length - (intOf i).toNat)
        case atStart => exact ⟨0, Nat.zero_le _, rfl, by rw [List.take_zero, List.take_zero]; rfl, A0, R0, hb0⟩
        case round =>
          clear A0 R0 hb0 a5 r5 c0
          obtain ⟨j, hj, rfl, htk, A0, R0, hb0⟩ := hrel
          have a5 : wr.cell? ⟨w.heap.size, 5, none⟩ = some (.slice al l.length cl) := A0.cell (by rw [HB.out]; rfl)
          have r5 : wr.cell? ⟨w.heap.size + 1, 5, none⟩ = some (.slice al' l'.length cl') := R0.cell (by rw [HB'.out]; rfl)
          have HTK := Lib.hid htk
          clear htk
          by_cases hlt : j < l.length
          · have hlt' : j < l'.length := by have := HLL.out; omega
            have hcj : css[j]? = some (css[j]'(by omega)) := by simp
            have hvj : l[j]? = some l[j] := by simp [hlt]
            have hcj' : css'[j]? = some (css'[j]'(by omega)) := by simp
            have hvj' : l'[j]? = some l'[j] := by simp [hlt']
            have hbr : Below w0.heap.size w0 wr.drew := (hbw.trans (hb0.mono hsz)).trans ((Gr.drewN wr 1).mono (hbw.trans (hb0.mono hsz)).size)
            have IH := ih j _ _ hcj hvj _ _ wr.drew (sub' j _ _ hcj' hvj') hbr
            have s1 := (hl.below hbr).elemSome (s := 6) h6 (by decide) (i := j) (by omega)
            have s2 := (hl'.below hbr).elemSome (s := 6) h6' (by decide) (i := j) (by omega)
            have q1 := ldOp_at (P := Tryd.prog) (ty := 30) ((hl.below hbr).elem (s := 6) h6 hcj) Tryd.underlying30 rfl (by rw [h6 _ (List.getElem_mem _)]; exact sizeV)
            have q2 := ldOp_at (P := Tryd.prog) (ty := 30) ((hl'.below hbr).elem (s := 6) h6' hcj') Tryd.underlying30 rfl (by rw [h6' _ (List.getElem_mem _)]; exact sizeV)
            have HT := Lib.hid (sameL_take j hlt hlt')
            have HN := Lib.hid (fun h => sameL_stop hlt hlt' h)
            have j0 : (0 : Int) ≤ (j : Int) := by omega
            have j1 : (j : Int) < (l.length : Int) := by omega
            have j2 : (j : Int) < (l'.length : Int) := by omega
            have jb : IntKind.i64.wrap ((j : Int) + 1) = (j : Int) + 1 := IntWalk.i64_in _ (by unfold maxLen at hlc; omega)
            generalize css[j]'(by omega) = c at *
            generalize css'[j]'(by omega) = c' at *
            generalize l[j] = x at *
            generalize l'[j] = y at *
            clear hcj hvj hcj' hvj' hbr
            go_wp2
            refine wp_region_still_tail 10 (by kernel_rfl) (by kernel_rfl) ?_
            simp only [List.take_succ_cons, List.take_zero, List.drop_succ_cons, List.drop_zero]
            change wpStill _ _ wr.drew _ _ _
            repeat still_step
            try refine wpStill_nil ?_
            change wpList _ _ _ _ _ wr.drew
            go_wp2_with fail
            refine IH.mono ?_
            rintro e w5 ⟨rfl, hb5⟩
            have hbw5 : Below w.heap.size w w5 := hb0.trans ((Below.drewN' (n := 1) hb5).mono hb0.size)
            have A5 := A0.below (Below.drewN' (n := 1) hb5)
            have R5 := R0.below (Below.drewN' (n := 1) hb5)
            rcases Bool.eq_false_or_eq_true (sameV x y) with h | h
            · have HT2 : Hid (sameL (l.take (j + 1)) (l'.take (j + 1)) = true) := by show _ = _; rw [HT.out, HTK.out, h]; rfl
              rw [h]
              go_wp2
              first
                | exact ⟨⟨j + 1, by omega, (by first | rfl | go_num | (congr 1; omega)), HT2.out, A5, R5, hbw5⟩, by simp [intOf] <;> omega⟩
                | (refine ⟨?_, by simp [intOf] <;> omega⟩; (repeat apply Exists.intro); exact ⟨⟨j + 1, by omega, (by first | rfl | go_num | (congr 1; omega)), HT2.out, A5, R5, hbw5⟩, rfl⟩)
            · have HF : Hid (sameV (.mk k n b t ks l) (.mk k' n' b' t' ks' l') = false) := by show _ = _; rw [HM.out]; exact HN.out h
              rw [h]
              go_wp2
              go_ret
              exact ⟨by rw [HF.out]; rfl, hbw5⟩
          · obtain rfl : j = l.length := by omega
            have HF : Hid (sameV (.mk k n b t ks l) (.mk k' n' b' t' ks' l') = true) := by
              show _ = _
              have := HTK.out
              rw [List.take_length, HLL.out, List.take_length] at this
              rw [HM.out]; exact this
            clear HTK
            go_wp2
            go_ret
            exact ⟨by rw [HF.out]; rfl, hb0⟩
      · have t1 : ((l.length : Int) != (l'.length : Int)) = true := by simpa using fun h => hll (by exact_mod_cast h)
        have HF : Hid (sameV (.mk k n b t ks l) (.mk k' n' b' t' ks' l') = false) := by show _ = _; rw [HM.out, sameL_diff hll]
        clear hll
        go_wp2
        go_ret
        exact ⟨by rw [HF.out]; rfl, hb0⟩
end Go.Proofs.YtpchogicdnfggaaDoor
