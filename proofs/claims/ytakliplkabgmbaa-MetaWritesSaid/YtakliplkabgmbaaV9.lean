/- Layer 05: the writer's value. -/
import Derived.Test.YtakliplkabgmbaaV8
set_option maxRecDepth 20000
namespace Go.Proofs.Ytakliplkabgmbaa
open Go.RowKit Go.Hd
attribute [local go_sem ↓] h_ldV h_stV h_alV
attribute [local go_sem] r_ldV r_stV r_alV

theorem WrO.test {B g : Nat} {w : World} {o : Option (List UInt8)} (h : WrO B w g o) : ∃ full, w.cell? ⟨g, 1, none⟩ = some (.bool full) ∧ (full = true → o = none) := by
  obtain ⟨s, ⟨v, hB, _⟩, rfl⟩ := h
  exact ⟨s.2, hB.blk.cell rfl, fun h => by unfold absW; rw [if_pos h]⟩
theorem put_one {B g : Nat} {w : World} {o : Option (List UInt8)} (c : UInt8) (h : WrO B w g o) :
    Calls Try.prog 67 #[.pointer (some ⟨g, 0, none⟩), .slice (some ⟨w.heap.size, 0, none⟩) 1 1] (w.alloc (.cells #[b8 c] 5)) fun e w' => e = .returned (.tuple #[]) ∧ WrO B w' g (putO o [c]) ∧ Kx B g w w' := by
  have hb0 : Below w.heap.size w (w.alloc (.cells #[b8 c] 5)) := (Below.refl _ _).alloc (Nat.le_refl _) _
  have hrow : Row (w.alloc (.cells #[b8 c] 5)) (some ⟨w.heap.size, 0, none⟩) ([c].map b8) := (Blk.new w 5 #[b8 c]).row
  refine (put_o (m := [c]) (h.keep hb0) (by rfl) (Nat.le_refl _) hrow).mono ?_
  rintro e w1 ⟨rfl, hw1, hk1⟩
  exact ⟨rfl, hw1, (Kx.ofBelow hb0 h.le h.lt).trans hk1⟩

theorem WrO.fresh {B g q : Nat} {w : World} {o : Option (List UInt8)} (h : WrO B w g o) (hq : w.heap.size ≤ q) : ownOf w g ≠ some q := by
  obtain ⟨s, ⟨v, hB, _⟩, _⟩ := h
  rw [Blk.ownOf hB.blk]
  intro e
  have := (hB.own.lt q e).2
  omega
theorem Kx.blk {B g q : Nat} {w w' : World} {T : TypeId} {xs : List Value} (h : Kx B g w w') (hb : Blk w q T xs) (hq : q ≠ g) (ho : ownOf w g ≠ some q) : Blk w' q T xs ∧ ownOf w' g ≠ some q := by
  obtain ⟨h1, h2⟩ := h.far q hb.lt hq ho
  exact ⟨by unfold Blk at *; rw [h1]; exact hb, h2⟩
theorem canF_list {d : Nat} {k n : Int} {b t : List UInt8} {ks : List (List UInt8)} {l : List PV} (h : canF (d + 1) (.mk k n b t ks l) = true) : 0 ≤ k ∧ k ≤ 7 ∧ (6 ≤ k → ∀ v ∈ l, canF d v = true) ∧ (k = 7 → ks.length = l.length ∧ risesT ks = true) := by
  have h2 : (decide (0 ≤ k ∧ k ≤ 7) && (k != 7 || (ks.length == l.length && risesT ks)) && (decide (k < 6) || l.all (canF d))) = true := h
  simp only [Bool.and_eq_true, decide_eq_true_eq, Bool.or_eq_true, bne_iff_ne, beq_iff_eq, List.all_eq_true] at h2
  obtain ⟨⟨⟨h0, h7⟩, hm⟩, hl⟩ := h2
  refine ⟨h0, h7, fun h6 => ?_, fun hk => ?_⟩
  · rcases hl with h | h
    · omega
    · exact h
  · rcases hm with h | h
    · exact absurd hk h
    · exact h

set_option maxHeartbeats 2000000 in
theorem value_any {w0 : World} {cs : List Value} {v : PV} (h : VAt w0 cs v) : ∀ (d B g : Nat) (w : World) (o : Option (List UInt8)), canF d v = true → Below w0.heap.size w0 w → w0.heap.size ≤ g → WrO B w g o →
    Calls Try.prog 50 #[.pointer (some ⟨g, 0, none⟩), .agg cs.toArray] w fun e w' => e = .returned (.tuple #[]) ∧ WrO B w' g (encO d o v) ∧ Kx B g w w' := by
  induction h with
  | @mk k n b t ks l ab ak al cb ck cl css hk hn hb hbc ht hks hkc hkt hl hlc hcs h6 sub ih =>
  intro d B g w o hcan hbw hg hw
  cases d with
  | zero => cases hcan
  | succ d =>
  have hwle := hw.le
  have hgB := hw.lt
  have hb0 : Below w.heap.size w (w.alloc (.cells (List.toArray (α := Value) [.int .i64 k, .int .i64 n, .slice ab b.length cb, .string (str t), .slice ak ks.length ck, .slice al l.length cl]) 63)) := (Below.refl _ _).alloc (Nat.le_refl _) _
  have B0 : Blk (w.alloc (.cells (List.toArray (α := Value) [.int .i64 k, .int .i64 n, .slice ab b.length cb, .string (str t), .slice ak ks.length ck, .slice al l.length cl]) 63)) w.heap.size 63 [.int .i64 k, .int .i64 n, .slice ab b.length cb, .string (str t), .slice ak ks.length ck, .slice al l.length cl] := Blk.new _ _ _
  have hw0 := hw.keep hb0
  have hbW : Below w0.heap.size w0 (w.alloc (.cells (List.toArray (α := Value) [.int .i64 k, .int .i64 n, .slice ab b.length cb, .string (str t), .slice ak ks.length ck, .slice al l.length cl]) 63)) := hbw.trans (hb0.mono hbw.size)
  have hkW : Kx B g w (w.alloc (.cells (List.toArray (α := Value) [.int .i64 k, .int .i64 n, .slice ab b.length cb, .string (str t), .slice ak ks.length ck, .slice al l.length cl]) 63)) := Kx.ofBelow hb0 hwle hw.lt
  show Calls _ _ #[_, .agg (List.toArray (α := Value) [.int .i64 k, .int .i64 n, .slice ab b.length cb, .string (str t), .slice ak ks.length ck, .slice al l.length cl])] _ _
  obtain ⟨full, c1, hfull⟩ := hw0.test
  go_enter Try.func50, Try.ntmps50
  go_upto_region 1 with (fail)
  generalize w.alloc (.cells (List.toArray (α := Value) [.int .i64 k, .int .i64 n, .slice ab b.length cb, .string (str t), .slice ak ks.length ck, .slice al l.length cl]) 63) = W at *
  have k0 : W.cell? ⟨w.heap.size, 0, none⟩ = some (.int .i64 k) := B0.cell rfl
  have k1 : W.cell? ⟨w.heap.size, 1, none⟩ = some (.int .i64 n) := B0.cell rfl
  have k2 : W.cell? ⟨w.heap.size, 2, none⟩ = some (.slice ab b.length cb) := B0.cell rfl
  have k3 : W.cell? ⟨w.heap.size, 3, none⟩ = some (.string (str t)) := B0.cell rfl
  cases full with
  | true =>
    obtain rfl := hfull rfl
    have HE := Lib.hid (encO_none (d + 1) (.mk k n b t ks l))
    go_wp2
    refine bodyPost_ret (results_none (by rfl) _ _ _) rfl ?_
    rw [HE.out]
    exact ⟨rfl, hw0, hkW⟩
  | false =>
  by_cases e0 : k = 0
  · subst e0
    have HE : Hid (encO (d + 1) o (.mk 0 n b t ks l) = putO o [0xc0]) := rfl
    go_wp2_with fail
    refine (put_one 0xc0 hw0).mono ?_
    rintro e w1 ⟨rfl, hw1, hk1⟩
    go_wp2
    go_end0
    rw [HE.out]
    exact ⟨rfl, hw1, hkW.trans hk1⟩
  have t0 : (k == 0) = false := beq_eq_false_iff_ne.2 e0
  by_cases e1 : k = 1
  · subst e1
    have HE : Hid (encO (d + 1) o (.mk 1 n b t ks l) = putO o [0xc2]) := rfl
    go_wp2_with fail
    refine (put_one 0xc2 hw0).mono ?_
    rintro e w1 ⟨rfl, hw1, hk1⟩
    go_wp2
    go_end0
    rw [HE.out]
    exact ⟨rfl, hw1, hkW.trans hk1⟩
  have t1 : (k == 1) = false := beq_eq_false_iff_ne.2 e1
  by_cases e2 : k = 2
  · subst e2
    have HE : Hid (encO (d + 1) o (.mk 2 n b t ks l) = putO o [0xc3]) := rfl
    go_wp2_with fail
    refine (put_one 0xc3 hw0).mono ?_
    rintro e w1 ⟨rfl, hw1, hk1⟩
    go_wp2
    go_end0
    rw [HE.out]
    exact ⟨rfl, hw1, hkW.trans hk1⟩
  have t2 : (k == 2) = false := beq_eq_false_iff_ne.2 e2
  by_cases e3 : k = 3
  · subst e3
    have HE : Hid (encO (d + 1) o (.mk 3 n b t ks l) = putO o (intB n)) := rfl
    go_wp2_with fail
    refine (number_any hw0 hn).mono ?_
    rintro e w1 ⟨rfl, hw1, hk1⟩
    go_wp2
    go_end0
    rw [HE.out]
    exact ⟨rfl, hw1, hkW.trans hk1⟩
  have t3 : (k == 3) = false := beq_eq_false_iff_ne.2 e3
  by_cases e4 : k = 4
  · subst e4
    have HE : Hid (encO (d + 1) o (.mk 4 n b t ks l) = blobO o b) := rfl
    go_wp2_with fail
    refine (blob_any hw0 rfl hbc.1 hb hbW hg).mono ?_
    rintro e w1 ⟨rfl, hw1, hk1⟩
    go_wp2
    go_end0
    rw [HE.out]
    exact ⟨rfl, hw1, hkW.trans hk1⟩
  have t4 : (k == 4) = false := beq_eq_false_iff_ne.2 e4
  by_cases e5 : k = 5
  · subst e5
    have HE : Hid (encO (d + 1) o (.mk 5 n b t ks l) = textO o t) := rfl
    go_wp2_with fail
    refine (text_o hw0 ht).mono ?_
    rintro e w1 ⟨rfl, hw1, hk1⟩
    go_wp2
    go_end0
    rw [HE.out]
    exact ⟨rfl, hw1, hkW.trans hk1⟩
  have t5 : (k == 5) = false := beq_eq_false_iff_ne.2 e5
  obtain ⟨k0', k7', hall, hmap⟩ := canF_list hcan
  have hel := hall (by omega)
  clear hall
  have hqg : w.heap.size ≠ g := by omega
  have hfr : ownOf W g ≠ some w.heap.size := by rw [ownOf_below hb0 (by omega)]; exact hw.fresh (Nat.le_refl _)
  have k5 : W.cell? ⟨w.heap.size, 5, none⟩ = some (.slice al l.length cl) := B0.cell rfl
  by_cases e6 : k = 6
  · subst e6
    have HE : Hid (encO (d + 1) o (.mk 6 n b t ks l) = l.foldl (encO d) (manyO 0x90 0xdc o l.length)) := rfl
    clear hmap
    go_wp2_with fail
    refine (many_any 0x90 0xdc (.inl rfl) hw0 (by omega)).mono ?_
    rintro e w1 ⟨rfl, hw1, hk1⟩
    obtain ⟨B1, hfr1⟩ := hk1.blk B0 hqg hfr
    have k5 : w1.cell? ⟨w.heap.size, 5, none⟩ = some (.slice al l.length cl) := B1.cell rfl
    have hkx := hkW.trans hk1
    generalize manyO 0x90 0xdc o l.length = O1 at *
    go_wp2_with fail
    go_loopw [57] (fun i wr => ∃ j : Nat, j ≤ l.length ∧ i = .int .i64 j ∧ WrO B wr g ((l.take j).foldl (encO d) O1) ∧ Kx B g w wr) (fun i _ => l.length - (intOf i).toNat)
    case atStart => exact ⟨0, Nat.zero_le _, rfl, by rw [List.take_zero]; exact hw1, hkx⟩
    case round =>
      obtain ⟨j, hj, rfl, hwr, hkr⟩ := hrel
      by_cases hlt : j < l.length
      · have hcj : css[j]? = some (css[j]'(by omega)) := by simp
        have hvj : l[j]? = some l[j] := by simp [hlt]
        have hbr := hbw.trans (Kp.past hkr.kp hg hgB)
        have IH := fun w' o' (h1 : Below w0.heap.size w0 w') (h2 : WrO B w' g o') => ih j _ _ hcj hvj d B g w' o' (hel _ (List.getElem_mem hlt)) h1 hg h2
        have hrow := hl.below hbr
        have s1 := hrow.elemSome (s := 6) h6 (by decide) (i := j) (by omega)
        have q1 := ldOp_at (P := Try.prog) (ty := 63) (hrow.elem (s := 6) h6 hcj) Try.underlying63 rfl (by rw [h6 _ (List.getElem_mem _)]; exact sizeV)
        have x6 : (css[j]'(by omega)).toArray.size = 6 := by simpa using h6 _ (List.getElem_mem _)
        have xo : OneC (css[j]'(by omega)).toArray := all_oneCell_toArray (sub j _ _ hcj hvj).one
        have HA : Hid ((l.take (j + 1)).foldl (encO d) O1 = encO d ((l.take j).foldl (encO d) O1) l[j]) := by
          show _ = _
          rw [List.take_succ_eq_append_getElem hlt, List.foldl_append]; rfl
        have zs := zV_size
        have hwrl := hwr.le
        have hgl := hwr.lt
        have j0 : (0 : Int) ≤ (j : Int) := by omega
        have j1 : (j : Int) < (l.length : Int) := by omega
        have jb : (j : Int) + 1 ≤ 9223372036854775807 := by unfold maxLen at hlc; omega
        have ew2 : IntKind.i64.wrap ((j : Int) + 1) = (j : Int) + 1 := IntWalk.i64_in _ (by omega)
        have hb5 : Below wr.heap.size wr (wr.alloc (.cells (css[j]'(by omega)).toArray 63)) := (Below.refl _ _).alloc (Nat.le_refl _) _
        have hw5 := hwr.keep hb5
        have hbr5 := hbr.trans (hb5.mono hbr.size)
        have hk5 : Kx B g w (wr.alloc (.cells (css[j]'(by omega)).toArray 63)) := hkr.trans (Kx.ofBelow hb5 hwrl hgl)
        generalize css[j]'(by omega) = c at *
        generalize l[j] = v at *
        generalize (l.take j).foldl (encO d) O1 = O2 at *
        clear hcj hvj hrow B0 B1 hwr hkr hb5
        go_wp2_with fail
        refine (IH _ _ hbr5 hw5).mono ?_
        rintro e w5 ⟨rfl, hw6, hk6⟩
        have HW : Hid (WrO B w5 g ((l.take (j + 1)).foldl (encO d) O1)) := by show WrO _ _ _ _; rw [HA.out]; exact hw6
        have hk7 := hk5.trans hk6
        go_wp2
        first
          | exact ⟨⟨j + 1, by omega, (by first | rfl | go_num | (congr 1; omega)), HW.out, hk7⟩, by simp [intOf] <;> omega⟩
          | (refine ⟨?_, by simp [intOf] <;> omega⟩; (repeat apply Exists.intro); exact ⟨⟨j + 1, by omega, (by first | rfl | go_num | (congr 1; omega)), HW.out, hk7⟩, rfl⟩)
      · obtain rfl : j = l.length := by omega
        rw [List.take_length] at hwr
        go_wp2
        go_end0
        rw [HE.out]
        exact ⟨rfl, hwr, hkr⟩
  · obtain rfl : k = 7 := by omega
    obtain ⟨hkl, hris⟩ := hmap rfl
    have HE : Hid (encO (d + 1) o (.mk 7 n b t ks l) = (ks.zip l).foldl (fun o x => encO d (textO o x.1) x.2) (manyO 0x80 0xde o l.length)) := rfl
    have t6 : ((7 : Int) == 6) = false := rfl
    clear hris
    go_wp2_with fail
    refine (many_any 0x80 0xde (.inr rfl) hw0 (by omega)).mono ?_
    rintro e w1 ⟨rfl, hw1, hk1⟩
    obtain ⟨B1, hfr1⟩ := hk1.blk B0 hqg hfr
    have k5 : w1.cell? ⟨w.heap.size, 5, none⟩ = some (.slice al l.length cl) := B1.cell rfl
    have hkx := hkW.trans hk1
    have HKL := Lib.hid hkl
    generalize manyO 0x80 0xde o l.length = O1 at *
    go_wp2_with fail
    go_loopw [75] (fun i wr => ∃ j : Nat, j ≤ l.length ∧ i = .int .i64 j ∧ WrO B wr g (((ks.zip l).take j).foldl (fun o x => encO d (textO o x.1) x.2) O1) ∧ Kx B g w wr ∧ Blk wr w.heap.size 63 [.int .i64 7, .int .i64 n, .slice ab b.length cb, .string (str t), .slice ak ks.length ck, .slice al l.length cl] ∧ ownOf wr g ≠ some w.heap.size) (fun i _ => l.length - (intOf i).toNat)
    case atStart => exact ⟨0, Nat.zero_le _, rfl, by rw [List.take_zero]; exact hw1, hkx, B1, hfr1⟩
    case round =>
      obtain ⟨j, hj, rfl, hwr, hkr, BK, hfrr⟩ := hrel
      have hkl := HKL.out
      by_cases hlt : j < l.length
      · have hcj : css[j]? = some (css[j]'(by omega)) := by simp
        have hvj : l[j]? = some l[j] := by simp [hlt]
        have hbr := hbw.trans (Kp.past hkr.kp hg hgB)
        have IH := fun w' o' (h1 : Below w0.heap.size w0 w') (h2 : WrO B w' g o') => ih j _ _ hcj hvj d B g w' o' (hel _ (List.getElem_mem hlt)) h1 hg h2
        have hrow := hl.below hbr
        have s1 := hrow.elemSome (s := 6) h6 (by decide) (i := j) (by omega)
        have q1 := ldOp_at (P := Try.prog) (ty := 63) (hrow.elem (s := 6) h6 hcj) Try.underlying63 rfl (by rw [h6 _ (List.getElem_mem _)]; exact sizeV)
        have x6 : (css[j]'(by omega)).toArray.size = 6 := by simpa using h6 _ (List.getElem_mem _)
        have xo : OneC (css[j]'(by omega)).toArray := all_oneCell_toArray (sub j _ _ hcj hvj).one
        have HA : Hid (((ks.zip l).take (j + 1)).foldl (fun o x => encO d (textO o x.1) x.2) O1 = encO d (textO (((ks.zip l).take j).foldl (fun o x => encO d (textO o x.1) x.2) O1) (ks[j]'(by omega))) l[j]) := by
          show _ = _
          rw [List.take_succ_eq_append_getElem (by rw [List.length_zip]; omega), List.foldl_append]
          simp
        have zs := zV_size
        have hwrl := hwr.le
        have hgl := hwr.lt
        have hjk : j < ks.length := by omega
        have hrowk := hks.below hbr
        have p1 : wr.cell? ((hd ak).add j) = some (strV (ks[j]'hjk)) := hrowk.cell (by simp [hjk])
        have s2 : ak.isSome = true := hrowk.isSome (i := j) (by simpa using hjk)
        have htl : (ks[j]'hjk).length ≤ maxLen := hkt _ (List.getElem_mem _)
        unfold strV at p1
        have j0 : (0 : Int) ≤ (j : Int) := by omega
        have j1 : (j : Int) < (l.length : Int) := by omega
        have j2 : (j : Int) < (ks.length : Int) := by omega
        have jb : (j : Int) + 1 ≤ 9223372036854775807 := by unfold maxLen at hlc; omega
        have ew2 : IntKind.i64.wrap ((j : Int) + 1) = (j : Int) + 1 := IntWalk.i64_in _ (by omega)
        have hb5 : Below wr.heap.size wr (wr.alloc (.cells (css[j]'(by omega)).toArray 63)) := (Below.refl _ _).alloc (Nat.le_refl _) _
        have BX : Blk (wr.alloc (.cells (css[j]'(by omega)).toArray 63)) wr.heap.size 63 (css[j]'(by omega)).toArray.toList := Blk.new _ _ _
        have BK5 := BK.below hb5
        have hw5 := hwr.keep hb5
        have hbr5 := hbr.trans (hb5.mono hbr.size)
        have hxg : wr.heap.size ≠ g := by omega
        have hfx : ownOf (wr.alloc (.cells (css[j]'(by omega)).toArray 63)) g ≠ some wr.heap.size := by rw [ownOf_below hb5 (by omega)]; exact hwr.fresh (Nat.le_refl _)
        have hfq : ownOf (wr.alloc (.cells (css[j]'(by omega)).toArray 63)) g ≠ some w.heap.size := by rw [ownOf_below hb5 (by omega)]; exact hfrr
        have hk5 : Kx B g w (wr.alloc (.cells (css[j]'(by omega)).toArray 63)) := hkr.trans (Kx.ofBelow hb5 hwrl hgl)
        have p1' : (wr.alloc (.cells (css[j]'(by omega)).toArray 63)).cell? ((hd ak).add j) = some (.string (str (ks[j]'hjk))) := by
          rw [hb5.cell (World.block_lt_of_cell? wr _ p1)]; exact p1
        have k4 : (wr.alloc (.cells (css[j]'(by omega)).toArray 63)).cell? ⟨w.heap.size, 4, none⟩ = some (.slice ak ks.length ck) := BK5.cell rfl
        generalize css[j]'(by omega) = c at *
        generalize l[j] = v at *
        generalize ks[j]'hjk = key at *
        generalize ((ks.zip l).take j).foldl (fun o x => encO d (textO o x.1) x.2) O1 = O2 at *
        have HH := Lib.hid hkl
        clear hcj hvj hrow B0 B1 hwr hkr hb5 hkl hjk
        go_wp2_with fail
        refine (text_o hw5 htl).mono ?_
        rintro e w5 ⟨rfl, hw6, hk6⟩
        obtain ⟨BX6, hfx6⟩ := hk6.blk BX hxg hfx
        obtain ⟨BK6, hfq6⟩ := hk6.blk BK5 hqg hfq
        have q2 : (ldOp 63 (.pointer (some ⟨wr.heap.size, 0, none⟩))).run Try.prog w5 = .ok (.agg c.toArray) w5 := by
          have := ldOp_all (P := Try.prog) (ty := 63) BX6 Try.underlying63 rfl (by rw [Array.length_toList, x6]; exact sizeV)
          simpa using this
        have hbr6 := hbw.trans (Kp.past (hk5.trans hk6).kp hg hgB)
        go_wp2_with fail
        refine (IH _ _ hbr6 hw6).mono ?_
        rintro e w6 ⟨rfl, hw7, hk7⟩
        obtain ⟨BK7, hfq7⟩ := hk7.blk BK6 hqg hfq6
        have HW : Hid (WrO B w6 g (((ks.zip l).take (j + 1)).foldl (fun o x => encO d (textO o x.1) x.2) O1)) := by show WrO _ _ _ _; rw [HA.out]; exact hw7
        have hk8 := (hk5.trans hk6).trans hk7
        go_wp2
        first
          | exact ⟨⟨j + 1, by omega, (by first | rfl | go_num | (congr 1; omega)), HW.out, hk8, BK7, hfq7⟩, by simp [intOf] <;> omega⟩
          | (refine ⟨?_, by simp [intOf] <;> omega⟩; (repeat apply Exists.intro); exact ⟨⟨j + 1, by omega, (by first | rfl | go_num | (congr 1; omega)), HW.out, hk8, BK7, hfq7⟩, rfl⟩)
      · obtain rfl : j = l.length := by omega
        rw [List.take_of_length_le (by rw [List.length_zip]; omega)] at hwr
        go_wp2
        go_end0
        rw [HE.out]
        exact ⟨rfl, hwr, hkr⟩
end Go.Proofs.Ytakliplkabgmbaa
