/- Walks of layer 13: kinds of books, their sizes, their orders. -/
import Derived.Test.YtcomcljpnjeogaaB3
import Derived.Test.YtcomcljpnjeogaaB4
import Derived.StillTailTactics
set_option maxRecDepth 20000
namespace Go.Proofs.Ytcomcljpnjeogaa
open Go.RowKit Go.Hd
attribute [local go_sem ↓] h_ldID h_stID h_alID h_ldROW h_stROW h_alROW h_bdROW h_bsROW
attribute [local go_sem] r_ldID r_stID r_s2ID r_alID r_ldROW r_stROW r_s2ROW r_alROW r_bsROW

/-- A kind as the program has it. -/
def keyed (k : BKind) : Bool := decide (k.key = 32)
theorem index_any (w : World) : Calls Try.prog 29 #[] w fun e w' => e = .returned (.agg #[.string (str kI.magic), .bool (keyed kI), .int .i64 (kI.nums : Int)]) ∧ Below w.heap.size w w' := by
  go_enter Try.func29, Try.ntmps29
  go_wp2
  exact bodyPost_ret (v := .agg #[.string (str kI.magic), .bool (keyed kI), .int .i64 (kI.nums : Int)]) (by simp [results, Try.results29, go_sem]; exact ⟨rfl, rfl, rfl⟩) rfl ⟨rfl, (Below.refl _ _).alloc (Nat.le_refl _) _⟩
theorem counts_any (w : World) : Calls Try.prog 33 #[] w fun e w' => e = .returned (.agg #[.string (str kC.magic), .bool (keyed kC), .int .i64 (kC.nums : Int)]) ∧ Below w.heap.size w w' := by
  go_enter Try.func33, Try.ntmps33
  go_wp2
  exact bodyPost_ret (v := .agg #[.string (str kC.magic), .bool (keyed kC), .int .i64 (kC.nums : Int)]) (by simp [results, Try.results33, go_sem]; exact ⟨rfl, rfl, rfl⟩) rfl ⟨rfl, (Below.refl _ _).alloc (Nat.le_refl _) _⟩
theorem uses_any (w : World) : Calls Try.prog 36 #[] w fun e w' => e = .returned (.agg #[.string (str kU.magic), .bool (keyed kU), .int .i64 (kU.nums : Int)]) ∧ Below w.heap.size w w' := by
  go_enter Try.func36, Try.ntmps36
  go_wp2
  exact bodyPost_ret (v := .agg #[.string (str kU.magic), .bool (keyed kU), .int .i64 (kU.nums : Int)]) (by simp [results, Try.results36, go_sem]; exact ⟨rfl, rfl, rfl⟩) rfl ⟨rfl, (Below.refl _ _).alloc (Nat.le_refl _) _⟩
theorem keyed_yes {k : BKind} (h : k.key = 32) : keyed k = true := by simp [keyed, h]
theorem keyed_no {k : BKind} (h : k.key = 0) : keyed k = false := by simp [keyed, h]
theorem size_any (k : BKind) (w : World) (hk : k.good) (m : ByteArray) : Calls Try.prog 62 #[.agg #[.string m, .bool (keyed k), .int .i64 (k.nums : Int)]] w fun e w' => e = .returned (.int .i64 (k.size : Int)) ∧ Below w.heap.size w w' := by
  obtain ⟨_, hkey, h1, h3⟩ := hk
  have hb := (Below.refl w.heap.size w).alloc (Nat.le_refl _) (.cells #[.string m, .bool (keyed k), .int .i64 (k.nums : Int)] 61)
  rcases hkey with h | h
  · rw [keyed_yes h] at *
    have HS : Hid (4 * (k.nums : Int) + 32 = (k.size : Int)) := by show _ = _; simp only [BKind.size]; omega
    clear h
    go_enter Try.func62, Try.ntmps62
    go_wp2
    go_ret
    exact ⟨ret_int HS.out, hb⟩
  · rw [keyed_no h] at *
    have HS : Hid (4 * (k.nums : Int) = (k.size : Int)) := by show _ = _; simp only [BKind.size]; omega
    clear h
    go_enter Try.func62, Try.ntmps62
    go_wp2
    go_ret
    exact ⟨ret_int HS.out, hb⟩

theorem RowIs.below {ok : Nat → Prop} {w w' : World} {cs : List Value} {r : BRow} (h : RowIs ok w cs r) (hb : Below w.heap.size w w') : RowIs ok w' cs r := by
  obtain ⟨cell, h1, h2, h3⟩ := h
  exact ⟨cell, h1, h2, h3.below hb⟩
theorem kahead_any (k : BKind) {w : World} (hk : k.good) (m : ByteArray) {okr oks : Nat → Prop} {r s : BRow} {cr cs : List Value} (hr : RowIs okr w cr r) (hs : RowIs oks w cs s) (fr : fitR k r) (fs : fitR k s) :
    Calls Try.prog 65 #[.agg #[.string m, .bool (keyed k), .int .i64 (k.nums : Int)], .agg cr.toArray, .agg cs.toArray] w fun e w' => e = .returned (.bool (aheadB k r s)) ∧ Below w.heap.size w w' := by
  obtain ⟨_, hkey, n1, n3⟩ := hk
  have lr := hr.len
  have ls := hs.len
  obtain ⟨c1, e1, hp1, a1, n1', d1, rfl, hn1, hc1, _, hrow1, _⟩ := hr
  obtain ⟨c2, e2, hp2, a2, n2', d2, rfl, hn2, hc2, _, hrow2, _⟩ := hs
  obtain ⟨W, hW⟩ : ∃ W, W = ((w.alloc (.cells #[.string m, .bool (keyed k), .int .i64 (k.nums : Int)] 61)).alloc (.cells cr.toArray 74)).alloc (.cells cs.toArray 74) := ⟨_, rfl⟩
  have hb : Below w.heap.size w W := by rw [hW]; exact (((Below.refl _ _).alloc (Nat.le_refl _) _).alloc (by simp) _).alloc (by simp; omega) _
  have B1 : Blk W (w.heap.size + 1) 74 cr := by
    have := (Blk.new (w.alloc (.cells #[.string m, .bool (keyed k), .int .i64 (k.nums : Int)] 61)) 74 cr.toArray).alloc (.cells cs.toArray 74)
    rw [drew_alloc_size, ← hW] at this
    exact this
  have B2 : Blk W (w.heap.size + 2) 74 cs := by
    have := Blk.new ((w.alloc (.cells #[.string m, .bool (keyed k), .int .i64 (k.nums : Int)] 61)).alloc (.cells cr.toArray 74)) 74 cs.toArray
    rw [drew_alloc_size, drew_alloc_size, ← hW] at this
    exact this
  rcases hkey with h | h
  · rw [keyed_yes h] at *
    have HA : Hid (ltB r.1 s.1 = aheadB k r s) := by show _ = _; simp [aheadB, h]
    have p1 : r.1.length = 32 := by rw [fr.1, h]
    have p2 : s.1.length = 32 := by rw [fs.1, h]
    have q1 := ldOp_blk (P := Try.prog) (o := 0) (n := 32) B1 (by omega) Try.underlying67 rfl sizeID
    have q2 := ldOp_blk (P := Try.prog) (o := 0) (n := 32) B2 (by omega) Try.underlying67 rfl sizeID
    have t1 : ((cr.drop 0).take 32).toArray = kcs r.1 := by rw [List.drop_zero, e1, pad_full p1, List.take_left' (by simpa using p1)]; rfl
    have t2 : ((cs.drop 0).take 32).toArray = kcs s.1 := by rw [List.drop_zero, e2, pad_full p2, List.take_left' (by simpa using p2)]; rfl
    rw [t1, hW] at q1
    rw [t2, hW] at q2
    have hb' := hb
    rw [hW] at hb'
    clear t1 t2 B1 B2 hW hb e1 e2
    generalize cr.toArray = xr at *
    generalize cs.toArray = xs at *
    go_enter Try.func65, Try.ntmps65
    go_wp2_with fail
    refine (less_any _ p1 p2).mono ?_
    rintro e w1 ⟨rfl, hb1⟩
    go_wp2
    go_ret
    exact ⟨ret_bool HA.out, Gr.trans hb' hb1⟩
  · rw [keyed_no h] at *
    have p1 := fr.2
    have p2 := fs.2
    have hpos1 : 0 < r.2.length := by omega
    have hpos2 : 0 < s.2.length := by omega
    have HA : Hid (decide (r.2[0] < s.2[0]) = aheadB k r s) := by
      show _ = _
      simp only [aheadB, h, List.getD_eq_getElem?_getD, List.getElem?_eq_getElem hpos1, List.getElem?_eq_getElem hpos2, Option.getD_some]
      rfl
    have x1 : W.cell? ⟨w.heap.size + 1, 32, none⟩ = some (.slice a1 n1' d1) := B1.cell (by rw [e1, List.getElem?_append_right (by simp [pad_length hp1])]; simp [pad_length hp1])
    have x2 : W.cell? ⟨w.heap.size + 2, 32, none⟩ = some (.slice a2 n2' d2) := B2.cell (by rw [e2, List.getElem?_append_right (by simp [pad_length hp2])]; simp [pad_length hp2])
    have y1 := (hrow1.below hb).cell (i := 0) (u := .int .i64 r.2[0]) (by simp [hpos1])
    have y2 := (hrow2.below hb).cell (i := 0) (u := .int .i64 s.2[0]) (by simp [hpos2])
    have z1 := hrow1.isSome (i := 0) (by simpa using hpos1)
    have z2 := hrow2.isSome (i := 0) (by simpa using hpos2)
    have z3 : 0 < n1' := by omega
    have z4 : 0 < n2' := by omega
    have y1' : W.cell? (hd a1) = some (.int .i64 r.2[0]) := by have := y1; simp only [Addr.add] at this; simpa using this
    have y2' : W.cell? (hd a2) = some (.int .i64 s.2[0]) := by have := y2; simp only [Addr.add] at this; simpa using this
    have hb' := hb
    rw [hW] at hb' x1 x2 y1 y2 y1' y2'
    clear B1 B2 hW hb e1 e2 hn1 hn2 hrow1 hrow2 hc1 hc2 p1 p2 fr fs
    generalize r.2[0] = X at *
    generalize s.2[0] = Y at *
    generalize cr.toArray = xr at *
    generalize cs.toArray = xs at *
    go_enter Try.func65, Try.ntmps65
    go_wp2
    go_quiet (fail)
    go_wp2
    go_ret
    exact ⟨ret_bool HA.out, Below.drewN hb' _⟩

theorem rises_any (k : BKind) {w : World} (hk : k.good) (m : ByteArray) {a : Option Addr} {n c : Nat} {l : List BRow} (hn : n = l.length) (hl : RowsRd w a l) (hf : ∀ r ∈ l, fitR k r) (hm : l.length ≤ 65536) :
    Calls Try.prog 55 #[.agg #[.string m, .bool (keyed k), .int .i64 (k.nums : Int)], .slice a n c] w fun e w' => e = .returned (.bool (risesB k l)) ∧ Below w.heap.size w w' := by
  subst hn
  obtain ⟨cs, hrow, hcs⟩ := hl
  have hb0 : Below w.heap.size w (w.alloc (.cells #[.string m, .bool (keyed k), .int .i64 (k.nums : Int)] 61)) := (Below.refl _ _).alloc (Nat.le_refl _) _
  have B0 : Blk (w.alloc (.cells #[.string m, .bool (keyed k), .int .i64 (k.nums : Int)] 61)) w.heap.size 61 [.string m, .bool (keyed k), .int .i64 (k.nums : Int)] := Blk.new _ _ _
  have HK := Lib.hid hk
  clear hk
  go_enter Try.func55, Try.ntmps55
  go_wp2
  go_loopw [5] (fun i wr => ∃ j : Nat, j ≤ l.length + 1 ∧ 1 ≤ j ∧ i = .int .i64 j ∧ risesB k (l.take j) = true ∧ Blk wr w.heap.size 61 [.string m, .bool (keyed k), .int .i64 (k.nums : Int)] ∧ Below w.heap.size w wr) (fun i _ => l.length + 1 - (intOf i).toNat)
  case atStart => exact ⟨1, by omega, Nat.le_refl _, rfl, risesB_one _ _, B0, hb0⟩
  case round =>
    obtain ⟨j, hj, hj1, rfl, hri, Bk, hb⟩ := hrel
    have HR := Lib.hid hri
    clear hri B0 hb0
    by_cases hlt : j < l.length
    · obtain ⟨i, rfl⟩ : ∃ i, j = i + 1 := ⟨j - 1, by omega⟩
      have hil : i < l.length := Nat.lt_of_succ_lt hlt
      obtain ⟨x, hx, rx⟩ := hcs.2 i (l[i]'hil) (by simp)
      obtain ⟨y, hy, ry⟩ := hcs.2 (i + 1) (l[i + 1]'hlt) (by simp)
      have hr2 := hrow.below hb
      have s1 := hr2.elemSome (s := 33) hcs.all (by decide) (i := i) (by have := hcs.1; omega)
      have q1 := ldOp_at (P := Try.prog) (ty := 74) ((hr2.drewN 1).elem (s := 33) hcs.all hx) Try.underlying74 rfl (by rw [rx.len]; exact sizeROW)
      have q2 := ldOp_at (P := Try.prog) (ty := 74) ((hr2.drewN 1).elem (s := 33) hcs.all hy) Try.underlying74 rfl (by rw [ry.len]; exact sizeROW)
      have c0 : wr.cell? ⟨w.heap.size, 0, none⟩ = _ := Bk.cell rfl
      have c1 : wr.cell? ⟨w.heap.size, 1, none⟩ = _ := Bk.cell rfl
      have c2 : wr.cell? ⟨w.heap.size, 2, none⟩ = _ := Bk.cell rfl
      have ew : IntKind.i64.wrap (i : Int) = (i : Int) := IntWalk.i64_in _ (by omega)
      have ew1 : IntKind.i64.wrap ((i : Int) + 1 - 1) = (i : Int) := by rw [IntWalk.i64_in _ (by omega)]; omega
      have i0 : (0 : Int) ≤ (i : Int) := by omega
      have i1 : (i : Int) < (l.length : Int) := by omega
      have i2 : (0 : Int) ≤ (i : Int) + 1 := by omega
      have i3 : (i : Int) + 1 < (l.length : Int) := by omega
      have e2 : ((i : Int) + 1).toNat = i + 1 := by omega
      go_wp2
      refine wp_region_still_tail 10 (by kernel_rfl) (by kernel_rfl) ?_
      simp only [List.take_succ_cons, List.take_zero, List.drop_succ_cons, List.drop_zero]
      change wpStill _ _ (wr.drewN 1) _ _ _
      repeat still_step
      try refine wpStill_nil ?_
      change wpList _ _ _ _ _ (wr.drewN 1)
      have gx : RowIs (fun b => b < w.heap.size) (wr.drewN 1) x (l[i]'hil) := rx.below (Below.drewN hb 1)
      have gy : RowIs (fun b => b < w.heap.size) (wr.drewN 1) y l[i + 1] := ry.below (Below.drewN hb 1)
      have fx := hf _ (List.getElem_mem hil)
      have fy := hf _ (List.getElem_mem hlt)
      have HT := Lib.hid (risesB_take k l i hlt)
      clear rx ry hx hy c0 c1 c2 hr2 q1 q2 ew ew1 e2 s1
      go_wp2_with fail
      refine (kahead_any k HK.out m gx gy fx fy).mono ?_
      rintro e w1 ⟨rfl, hb1⟩
      have hbw : Below w.heap.size w w1 := (Below.drewN hb 1).trans (hb1.mono hb.size)
      have Bk1 := (Bk.drewN 1).below hb1
      by_cases ha : aheadB k (l[i]'hil) (l[i + 1]'hlt) = true
      · have HN : Hid (risesB k (l.take (i + 2)) = true) := by show _ = _; rw [HT.out, HR.out, ha]; rfl
        rw [ha]
        clear ha HT HR gx gy fx fy hb1
        go_wp2
        first
          | exact ⟨⟨i + 2, by omega, by omega, (by first | rfl | go_num | (congr 1; omega)), HN.out, Bk1, hbw⟩, by simp [intOf] <;> omega⟩
          | (refine ⟨?_, by simp [intOf] <;> omega⟩; (repeat apply Exists.intro); exact ⟨⟨i + 2, by omega, by omega, (by first | rfl | go_num | (congr 1; omega)), HN.out, Bk1, hbw⟩, rfl⟩)
      · have ha' : aheadB k (l[i]'hil) (l[i + 1]'hlt) = false := by simpa using ha
        have HN : Hid (false = risesB k l) := by
          show _ = _
          rcases Bool.eq_false_or_eq_true (risesB k l) with h | h
          · exfalso
            have h2 := risesB_take_of k l (i + 2) h
            rw [HT.out, ha'] at h2
            simp at h2
          · exact h.symm
        rw [ha']
        clear ha ha' HT HR gx gy fx fy hb1
        go_wp2
        go_ret
        exact ⟨ret_bool HN.out, hbw⟩
    · go_wp2
      go_ret
      have h := HR.out
      rw [List.take_of_length_le (by omega)] at h
      exact ⟨ret_bool h.symm, hb⟩
end Go.Proofs.Ytcomcljpnjeogaa
