/- Joined: what one statement of this layer stands on, part 3 of 17; nothing is assumed. -/
import Derived.Test.YtpchogicdnfggaaDoorRows
import Derived.Deep.CutBlock
import Derived.Test.YtpchogicdnfggaaDoorKX1
import Derived.Test.YtpchogicdnfggaaDoorKX2
set_option maxRecDepth 20000
namespace Go.Proofs.YtpchogicdnfggaaDoor
open Go.RowKit Go.Hd

/-- The writer's state behind a value (fuel: its depth). -/
def encO : Nat → Option (List UInt8) → PV → Option (List UInt8)
  | 0, o, _ => o
  | d + 1, o, .mk k n b t ks l =>
    if k = 0 then putO o [0xc0] else if k = 1 then putO o [0xc2] else if k = 2 then putO o [0xc3] else if k = 3 then putO o (intB n) else
    if k = 4 then blobO o b else if k = 5 then textO o t else if k = 6 then l.foldl (encO d) (manyO 0x90 0xdc o l.length) else
    (ks.zip l).foldl (fun o x => encO d (textO o x.1) x.2) (manyO 0x80 0xde o l.length)
theorem blobO_none (m : List UInt8) : blobO none m = none := by
  unfold blobO; repeat' split
  all_goals rfl
theorem textO_none (m : List UInt8) : textO none m = none := by
  unfold textO; repeat' split
  all_goals rfl
theorem manyO_none (a b : UInt8) (n : Nat) : manyO a b none n = none := by
  unfold manyO; repeat' split
  all_goals rfl
theorem foldl_none {α : Type} (f : Option (List UInt8) → α → Option (List UInt8)) (hf : ∀ x, f none x = none) : ∀ l : List α, l.foldl f none = none
  | [] => rfl
  | x :: l => by rw [List.foldl_cons, hf]; exact foldl_none f hf l
/-- Who gave up lays nothing more. -/
theorem encO_none : ∀ (d : Nat) (v : PV), encO d none v = none
  | 0, _ => rfl
  | d + 1, .mk k n b t ks l => by
    unfold encO
    rw [blobO_none, textO_none, manyO_none, manyO_none, foldl_none _ (encO_none d), foldl_none _ (fun x => by rw [textO_none]; exact encO_none d x.2)]
    repeat' split
    all_goals rfl
/-- A value's bytes, or why it has none. -/
def encF (v : PV) : List UInt8 × Int := if canF 16 v = false then ([], 4) else match encO 16 (some []) v with | none => ([], 5) | some l => (l, 0)
end Go.Proofs.YtpchogicdnfggaaDoor
set_option maxRecDepth 20000
namespace Go.Proofs.YtpchogicdnfggaaDoor
open Go.RowKit Go.Hd
attribute [local go_sem ↓] h_ldV h_stV h_alV
attribute [local go_sem] r_ldV r_stV r_alV

theorem WrO.test {B g : Nat} {w : World} {o : Option (List UInt8)} (h : WrO B w g o) : ∃ full, w.cell? ⟨g, 1, none⟩ = some (.bool full) ∧ (full = true → o = none) := by
  obtain ⟨s, ⟨v, hB, _⟩, rfl⟩ := h
  exact ⟨s.2, hB.blk.cell rfl, fun h => by unfold absW; rw [if_pos h]⟩
theorem put_one {B g : Nat} {w : World} {o : Option (List UInt8)} (c : UInt8) (h : WrO B w g o) :
    Calls Tryd.prog 88 #[.pointer (some ⟨g, 0, none⟩), .slice (some ⟨w.heap.size, 0, none⟩) 1 1] (w.alloc (.cells #[b8 c] 5)) fun e w' => e = .returned (.tuple #[]) ∧ WrO B w' g (putO o [c]) ∧ Kx B g w w' := by
  have hb0 : Below w.heap.size w (w.alloc (.cells #[b8 c] 5)) := (Below.refl _ _).alloc (Nat.le_refl _) _
  have hrow : Row (w.alloc (.cells #[b8 c] 5)) (some ⟨w.heap.size, 0, none⟩) ([c].map b8) := (Blk.new w 5 #[b8 c]).row
  refine (put_o (m := [c]) (h.keep hb0) (by rfl) (Nat.le_refl _) hrow).mono ?_
  rintro e w1 ⟨rfl, hw1, hk1⟩
  exact ⟨rfl, hw1, (Kx.ofBelow hb0 h.le h.lt).trans hk1⟩

theorem WrO.fresh {B g q : Nat} {w : World} {o : Option (List UInt8)} (h : WrO B w g o) (hq : w.heap.size ≤ q) : ownOf w g ≠ some q := by
  obtain ⟨s, ⟨v, hB, _⟩, _⟩ := h
  rw [Blk.ownOf hB.blk]
  intro e
  have := (hB.own.lt q e).2
  omega
theorem Kx.blk {B g q : Nat} {w w' : World} {T : TypeId} {xs : List Value} (h : Kx B g w w') (hb : Blk w q T xs) (hq : q ≠ g) (ho : ownOf w g ≠ some q) : Blk w' q T xs ∧ ownOf w' g ≠ some q := by
  obtain ⟨h1, h2⟩ := h.far q hb.lt hq ho
  exact ⟨by unfold Blk at *; rw [h1]; exact hb, h2⟩
theorem canF_list {d : Nat} {k n : Int} {b t : List UInt8} {ks : List (List UInt8)} {l : List PV} (h : canF (d + 1) (.mk k n b t ks l) = true) : 0 ≤ k ∧ k ≤ 7 ∧ (6 ≤ k → ∀ v ∈ l, canF d v = true) ∧ (k = 7 → ks.length = l.length ∧ risesT ks = true) := by
  have h2 : (decide (0 ≤ k ∧ k ≤ 7) && (k != 7 || (ks.length == l.length && risesT ks)) && (decide (k < 6) || l.all (canF d))) = true := h
  simp only [Bool.and_eq_true, decide_eq_true_eq, Bool.or_eq_true, bne_iff_ne, beq_iff_eq, List.all_eq_true] at h2
  obtain ⟨⟨⟨h0, h7⟩, hm⟩, hl⟩ := h2
  refine ⟨h0, h7, fun h6 => ?_, fun hk => ?_⟩
  · rcases hl with h | h
    · omega
    · exact h
  · rcases hm with h | h
    · exact absurd hk h
    · exact h

set_option maxHeartbeats 2000000 in
theorem value_any {w0 : World} {cs : List Value} {v : PV} (h : VAt w0 cs v) : ∀ (d B g : Nat) (w : World) (o : Option (List UInt8)), canF d v = true → Below w0.heap.size w0 w → w0.heap.size ≤ g → WrO B w g o →
    Calls Tryd.prog 67 #[.pointer (some ⟨g, 0, none⟩), .agg cs.toArray] w fun e w' => e = .returned (.tuple #[]) ∧ WrO B w' g (encO d o v) ∧ Kx B g w w' := by
  induction h with
  | @mk k n b t ks l ab ak al cb ck cl css hk hn hb hbc ht hks hkc hkt hl hlc hcs h6 sub ih =>
  intro d B g w o hcan hbw hg hw
  cases d with
  | zero => cases hcan
  | succ d =>
  have hwle := hw.le
  have hgB := hw.lt
  have hb0 : Below w.heap.size w (w.alloc (.cells (List.toArray (α := Value) [.int .i64 k, .int .i64 n, .slice ab b.length cb, .string (str t), .slice ak ks.length ck, .slice al l.length cl]) 30)) := (Below.refl _ _).alloc (Nat.le_refl _) _
  have B0 : Blk (w.alloc (.cells (List.toArray (α := Value) [.int .i64 k, .int .i64 n, .slice ab b.length cb, .string (str t), .slice ak ks.length ck, .slice al l.length cl]) 30)) w.heap.size 30 [.int .i64 k, .int .i64 n, .slice ab b.length cb, .string (str t), .slice ak ks.length ck, .slice al l.length cl] := Blk.new _ _ _
  have hw0 := hw.keep hb0
  have hbW : Below w0.heap.size w0 (w.alloc (.cells (List.toArray (α := Value) [.int .i64 k, .int .i64 n, .slice ab b.length cb, .string (str t), .slice ak ks.length ck, .slice al l.length cl]) 30)) := hbw.trans (hb0.mono hbw.size)
  have hkW : Kx B g w (w.alloc (.cells (List.toArray (α := Value) [.int .i64 k, .int .i64 n, .slice ab b.length cb, .string (str t), .slice ak ks.length ck, .slice al l.length cl]) 30)) := Kx.ofBelow hb0 hwle hw.lt
  show Calls _ _ #[_, .agg (List.toArray (α := Value) [.int .i64 k, .int .i64 n, .slice ab b.length cb, .string (str t), .slice ak ks.length ck, .slice al l.length cl])] _ _
  obtain ⟨full, c1, hfull⟩ := hw0.test
  go_enter Tryd.func67, Tryd.ntmps67
  go_upto_region 1 with (fail)
  generalize w.alloc (.cells (List.toArray (α := Value) [.int .i64 k, .int .i64 n, .slice ab b.length cb, .string (str t), .slice ak ks.length ck, .slice al l.length cl]) 30) = W at *
  have k0 : W.cell? ⟨w.heap.size, 0, none⟩ = some (.int .i64 k) := B0.cell rfl
  have k1 : W.cell? ⟨w.heap.size, 1, none⟩ = some (.int .i64 n) := B0.cell rfl
  have k2 : W.cell? ⟨w.heap.size, 2, none⟩ = some (.slice ab b.length cb) := B0.cell rfl
  have k3 : W.cell? ⟨w.heap.size, 3, none⟩ = some (.string (str t)) := B0.cell rfl
  cases full with
  | true =>
    obtain rfl := hfull rfl
    have HE := Lib.hid (encO_none (d + 1) (.mk k n b t ks l))
    go_wp2
    refine bodyPost_ret (results_none (by rfl) _ _ _) rfl ?_
    rw [HE.out]
    exact ⟨rfl, hw0, hkW⟩
  | false =>
  by_cases e0 : k = 0
  · subst e0
    have HE : Hid (encO (d + 1) o (.mk 0 n b t ks l) = putO o [0xc0]) := rfl
    go_wp2_with fail
    refine (put_one 0xc0 hw0).mono ?_
    rintro e w1 ⟨rfl, hw1, hk1⟩
    go_wp2
    go_end0
    rw [HE.out]
    exact ⟨rfl, hw1, hkW.trans hk1⟩
  have t0 : (k == 0) = false := beq_eq_false_iff_ne.2 e0
  by_cases e1 : k = 1
  · subst e1
    have HE : Hid (encO (d + 1) o (.mk 1 n b t ks l) = putO o [0xc2]) := rfl
    go_wp2_with fail
    refine (put_one 0xc2 hw0).mono ?_
    rintro e w1 ⟨rfl, hw1, hk1⟩
    go_wp2
    go_end0
    rw [HE.out]
    exact ⟨rfl, hw1, hkW.trans hk1⟩
  have t1 : (k == 1) = false := beq_eq_false_iff_ne.2 e1
  by_cases e2 : k = 2
  · subst e2
    have HE : Hid (encO (d + 1) o (.mk 2 n b t ks l) = putO o [0xc3]) := rfl
    go_wp2_with fail
    refine (put_one 0xc3 hw0).mono ?_
    rintro e w1 ⟨rfl, hw1, hk1⟩
    go_wp2
    go_end0
    rw [HE.out]
    exact ⟨rfl, hw1, hkW.trans hk1⟩
  have t2 : (k == 2) = false := beq_eq_false_iff_ne.2 e2
  by_cases e3 : k = 3
  · subst e3
    have HE : Hid (encO (d + 1) o (.mk 3 n b t ks l) = putO o (intB n)) := rfl
    go_wp2_with fail
    refine (number_any hw0 hn).mono ?_
    rintro e w1 ⟨rfl, hw1, hk1⟩
    go_wp2
    go_end0
    rw [HE.out]
    exact ⟨rfl, hw1, hkW.trans hk1⟩
  have t3 : (k == 3) = false := beq_eq_false_iff_ne.2 e3
  by_cases e4 : k = 4
  · subst e4
    have HE : Hid (encO (d + 1) o (.mk 4 n b t ks l) = blobO o b) := rfl
    go_wp2_with fail
    refine (blob_any hw0 rfl hbc.1 hb hbW hg).mono ?_
    rintro e w1 ⟨rfl, hw1, hk1⟩
    go_wp2
    go_end0
    rw [HE.out]
    exact ⟨rfl, hw1, hkW.trans hk1⟩
  have t4 : (k == 4) = false := beq_eq_false_iff_ne.2 e4
  by_cases e5 : k = 5
  · subst e5
    have HE : Hid (encO (d + 1) o (.mk 5 n b t ks l) = textO o t) := rfl
    go_wp2_with fail
    refine (text_o hw0 ht).mono ?_
    rintro e w1 ⟨rfl, hw1, hk1⟩
    go_wp2
    go_end0
    rw [HE.out]
    exact ⟨rfl, hw1, hkW.trans hk1⟩
  have t5 : (k == 5) = false := beq_eq_false_iff_ne.2 e5
  obtain ⟨k0', k7', hall, hmap⟩ := canF_list hcan
  have hel := hall (by omega)
  clear hall
  have hqg : w.heap.size ≠ g := by omega
  have hfr : ownOf W g ≠ some w.heap.size := by rw [ownOf_below hb0 (by omega)]; exact hw.fresh (Nat.le_refl _)
  have k5 : W.cell? ⟨w.heap.size, 5, none⟩ = some (.slice al l.length cl) := B0.cell rfl
  by_cases e6 : k = 6
  · subst e6
    have HE : Hid (encO (d + 1) o (.mk 6 n b t ks l) = l.foldl (encO d) (manyO 0x90 0xdc o l.length)) := rfl
    clear hmap
    go_wp2_with fail
    refine (many_any 0x90 0xdc (.inl rfl) hw0 (by omega)).mono ?_
    rintro e w1 ⟨rfl, hw1, hk1⟩
    obtain ⟨B1, hfr1⟩ := hk1.blk B0 hqg hfr
    have k5 : w1.cell? ⟨w.heap.size, 5, none⟩ = some (.slice al l.length cl) := B1.cell rfl
    have hkx := hkW.trans hk1
    generalize manyO 0x90 0xdc o l.length = O1 at *
    go_wp2_with fail
    go_loopw [57] (fun i wr => ∃ j : Nat, j ≤ l.length ∧ i = .int .i64 j ∧ WrO B wr g ((l.take j).foldl (encO d) O1) ∧ Kx B g w wr) (fun i _ => l.length - (intOf i).toNat)
    case atStart => exact ⟨0, Nat.zero_le _, rfl, by rw [List.take_zero]; exact hw1, hkx⟩
    case round =>
      obtain ⟨j, hj, rfl, hwr, hkr⟩ := hrel
      by_cases hlt : j < l.length
      · have hcj : css[j]? = some (css[j]'(by omega)) := by simp
        have hvj : l[j]? = some l[j] := by simp [hlt]
        have hbr := hbw.trans (Kp.past hkr.kp hg hgB)
        have IH := fun w' o' (h1 : Below w0.heap.size w0 w') (h2 : WrO B w' g o') => ih j _ _ hcj hvj d B g w' o' (hel _ (List.getElem_mem hlt)) h1 hg h2
        have hrow := hl.below hbr
        have s1 := hrow.elemSome (s := 6) h6 (by decide) (i := j) (by omega)
        have q1 := ldOp_at (P := Tryd.prog) (ty := 30) (hrow.elem (s := 6) h6 hcj) Tryd.underlying30 rfl (by rw [h6 _ (List.getElem_mem _)]; exact sizeV)
        have x6 : (css[j]'(by omega)).toArray.size = 6 := by simpa using h6 _ (List.getElem_mem _)
        have xo : OneC (css[j]'(by omega)).toArray := all_oneCell_toArray (sub j _ _ hcj hvj).one
        have HA : Hid ((l.take (j + 1)).foldl (encO d) O1 = encO d ((l.take j).foldl (encO d) O1) l[j]) := by
          show _ = _
          rw [List.take_succ_eq_append_getElem hlt, List.foldl_append]; rfl
        have zs := zV_size
        have hwrl := hwr.le
        have hgl := hwr.lt
        have j0 : (0 : Int) ≤ (j : Int) := by omega
        have j1 : (j : Int) < (l.length : Int) := by omega
        have jb : (j : Int) + 1 ≤ 9223372036854775807 := by unfold maxLen at hlc; omega
        have ew2 : IntKind.i64.wrap ((j : Int) + 1) = (j : Int) + 1 := IntWalk.i64_in _ (by omega)
        have hb5 : Below wr.heap.size wr (wr.alloc (.cells (css[j]'(by omega)).toArray 30)) := (Below.refl _ _).alloc (Nat.le_refl _) _
        have hw5 := hwr.keep hb5
        have hbr5 := hbr.trans (hb5.mono hbr.size)
        have hk5 : Kx B g w (wr.alloc (.cells (css[j]'(by omega)).toArray 30)) := hkr.trans (Kx.ofBelow hb5 hwrl hgl)
        generalize css[j]'(by omega) = c at *
        generalize l[j] = v at *
        generalize (l.take j).foldl (encO d) O1 = O2 at *
        clear hcj hvj hrow B0 B1 hwr hkr hb5
        go_wp2_with fail
        refine (IH _ _ hbr5 hw5).mono ?_
        rintro e w5 ⟨rfl, hw6, hk6⟩
        have HW : Hid (WrO B w5 g ((l.take (j + 1)).foldl (encO d) O1)) := by show WrO _ _ _ _; rw [HA.out]; exact hw6
        have hk7 := hk5.trans hk6
        go_wp2
        first
          | exact ⟨⟨j + 1, by omega, (by first | rfl | go_num | (congr 1; omega)), HW.out, hk7⟩, by simp [intOf] <;> omega⟩
          | (refine ⟨?_, by simp [intOf] <;> omega⟩; (repeat apply Exists.intro); exact ⟨⟨j + 1, by omega, (by first | rfl | go_num | (congr 1; omega)), HW.out, hk7⟩, rfl⟩)
      · obtain rfl : j = l.length := by omega
        rw [List.take_length] at hwr
        go_wp2
        go_end0
        rw [HE.out]
        exact ⟨rfl, hwr, hkr⟩
  · obtain rfl : k = 7 := by omega
    obtain ⟨hkl, hris⟩ := hmap rfl
    have HE : Hid (encO (d + 1) o (.mk 7 n b t ks l) = (ks.zip l).foldl (fun o x => encO d (textO o x.1) x.2) (manyO 0x80 0xde o l.length)) := rfl
    have t6 : ((7 : Int) == 6) = false := rfl
    clear hris
    go_wp2_with fail
    refine (many_any 0x80 0xde (.inr rfl) hw0 (by omega)).mono ?_
    rintro e w1 ⟨rfl, hw1, hk1⟩
    obtain ⟨B1, hfr1⟩ := hk1.blk B0 hqg hfr
    have k5 : w1.cell? ⟨w.heap.size, 5, none⟩ = some (.slice al l.length cl) := B1.cell rfl
    have hkx := hkW.trans hk1
    have HKL := Lib.hid hkl
    generalize manyO 0x80 0xde o l.length = O1 at *
    go_wp2_with fail
    go_loopw [75] (fun i wr => ∃ j : Nat, j ≤ l.length ∧ i = .int .i64 j ∧ WrO B wr g (((ks.zip l).take j).foldl (fun o x => encO d (textO o x.1) x.2) O1) ∧ Kx B g w wr ∧ Blk wr w.heap.size 30 [.int .i64 7, .int .i64 n, .slice ab b.length cb, .string (str t), .slice ak ks.length ck, .slice al l.length cl] ∧ ownOf wr g ≠ some w.heap.size) (fun i _ => l.length - (intOf i).toNat)
    case atStart => exact ⟨0, Nat.zero_le _, rfl, by rw [List.take_zero]; exact hw1, hkx, B1, hfr1⟩
    case round =>
      obtain ⟨j, hj, rfl, hwr, hkr, BK, hfrr⟩ := hrel
      have hkl := HKL.out
      by_cases hlt : j < l.length
      · have hcj : css[j]? = some (css[j]'(by omega)) := by simp
        have hvj : l[j]? = some l[j] := by simp [hlt]
        have hbr := hbw.trans (Kp.past hkr.kp hg hgB)
        have IH := fun w' o' (h1 : Below w0.heap.size w0 w') (h2 : WrO B w' g o') => ih j _ _ hcj hvj d B g w' o' (hel _ (List.getElem_mem hlt)) h1 hg h2
        have hrow := hl.below hbr
        have s1 := hrow.elemSome (s := 6) h6 (by decide) (i := j) (by omega)
        have q1 := ldOp_at (P := Tryd.prog) (ty := 30) (hrow.elem (s := 6) h6 hcj) Tryd.underlying30 rfl (by rw [h6 _ (List.getElem_mem _)]; exact sizeV)
        have x6 : (css[j]'(by omega)).toArray.size = 6 := by simpa using h6 _ (List.getElem_mem _)
        have xo : OneC (css[j]'(by omega)).toArray := all_oneCell_toArray (sub j _ _ hcj hvj).one
        have HA : Hid (((ks.zip l).take (j + 1)).foldl (fun o x => encO d (textO o x.1) x.2) O1 = encO d (textO (((ks.zip l).take j).foldl (fun o x => encO d (textO o x.1) x.2) O1) (ks[j]'(by omega))) l[j]) := by
          show _ = _
          rw [List.take_succ_eq_append_getElem (by rw [List.length_zip]; omega), List.foldl_append]
          simp
        have zs := zV_size
        have hwrl := hwr.le
        have hgl := hwr.lt
        have hjk : j < ks.length := by omega
        have hrowk := hks.below hbr
        have p1 : wr.cell? ((hd ak).add j) = some (strV (ks[j]'hjk)) := hrowk.cell (by simp [hjk])
        have s2 : ak.isSome = true := hrowk.isSome (i := j) (by simpa using hjk)
        have htl : (ks[j]'hjk).length ≤ maxLen := hkt _ (List.getElem_mem _)
        unfold strV at p1
        have j0 : (0 : Int) ≤ (j : Int) := by omega
        have j1 : (j : Int) < (l.length : Int) := by omega
        have j2 : (j : Int) < (ks.length : Int) := by omega
        have jb : (j : Int) + 1 ≤ 9223372036854775807 := by unfold maxLen at hlc; omega
        have ew2 : IntKind.i64.wrap ((j : Int) + 1) = (j : Int) + 1 := IntWalk.i64_in _ (by omega)
        have hb5 : Below wr.heap.size wr (wr.alloc (.cells (css[j]'(by omega)).toArray 30)) := (Below.refl _ _).alloc (Nat.le_refl _) _
        have BX : Blk (wr.alloc (.cells (css[j]'(by omega)).toArray 30)) wr.heap.size 30 (css[j]'(by omega)).toArray.toList := Blk.new _ _ _
        have BK5 := BK.below hb5
        have hw5 := hwr.keep hb5
        have hbr5 := hbr.trans (hb5.mono hbr.size)
        have hxg : wr.heap.size ≠ g := by omega
        have hfx : ownOf (wr.alloc (.cells (css[j]'(by omega)).toArray 30)) g ≠ some wr.heap.size := by rw [ownOf_below hb5 (by omega)]; exact hwr.fresh (Nat.le_refl _)
        have hfq : ownOf (wr.alloc (.cells (css[j]'(by omega)).toArray 30)) g ≠ some w.heap.size := by rw [ownOf_below hb5 (by omega)]; exact hfrr
        have hk5 : Kx B g w (wr.alloc (.cells (css[j]'(by omega)).toArray 30)) := hkr.trans (Kx.ofBelow hb5 hwrl hgl)
        have p1' : (wr.alloc (.cells (css[j]'(by omega)).toArray 30)).cell? ((hd ak).add j) = some (.string (str (ks[j]'hjk))) := by
          rw [hb5.cell (World.block_lt_of_cell? wr _ p1)]; exact p1
        have k4 : (wr.alloc (.cells (css[j]'(by omega)).toArray 30)).cell? ⟨w.heap.size, 4, none⟩ = some (.slice ak ks.length ck) := BK5.cell rfl
        generalize css[j]'(by omega) = c at *
        generalize l[j] = v at *
        generalize ks[j]'hjk = key at *
        generalize ((ks.zip l).take j).foldl (fun o x => encO d (textO o x.1) x.2) O1 = O2 at *
        have HH := Lib.hid hkl
        clear hcj hvj hrow B0 B1 hwr hkr hb5 hkl hjk
        go_wp2_with fail
        refine (text_o hw5 htl).mono ?_
        rintro e w5 ⟨rfl, hw6, hk6⟩
        obtain ⟨BX6, hfx6⟩ := hk6.blk BX hxg hfx
        obtain ⟨BK6, hfq6⟩ := hk6.blk BK5 hqg hfq
        have q2 : (ldOp 30 (.pointer (some ⟨wr.heap.size, 0, none⟩))).run Tryd.prog w5 = .ok (.agg c.toArray) w5 := by
          have := ldOp_all (P := Tryd.prog) (ty := 30) BX6 Tryd.underlying30 rfl (by rw [Array.length_toList, x6]; exact sizeV)
          simpa using this
        have hbr6 := hbw.trans (Kp.past (hk5.trans hk6).kp hg hgB)
        go_wp2_with fail
        refine (IH _ _ hbr6 hw6).mono ?_
        rintro e w6 ⟨rfl, hw7, hk7⟩
        obtain ⟨BK7, hfq7⟩ := hk7.blk BK6 hqg hfq6
        have HW : Hid (WrO B w6 g (((ks.zip l).take (j + 1)).foldl (fun o x => encO d (textO o x.1) x.2) O1)) := by show WrO _ _ _ _; rw [HA.out]; exact hw7
        have hk8 := (hk5.trans hk6).trans hk7
        go_wp2
        first
          | exact ⟨⟨j + 1, by omega, (by first | rfl | go_num | (congr 1; omega)), HW.out, hk8, BK7, hfq7⟩, by simp [intOf] <;> omega⟩
          | (refine ⟨?_, by simp [intOf] <;> omega⟩; (repeat apply Exists.intro); exact ⟨⟨j + 1, by omega, (by first | rfl | go_num | (congr 1; omega)), HW.out, hk8, BK7, hfq7⟩, rfl⟩)
      · obtain rfl : j = l.length := by omega
        rw [List.take_of_length_le (by rw [List.length_zip]; omega)] at hwr
        go_wp2
        go_end0
        rw [HE.out]
        exact ⟨rfl, hwr, hkr⟩
end Go.Proofs.YtpchogicdnfggaaDoor
set_option maxRecDepth 20000
namespace Go.Proofs.YtpchogicdnfggaaDoor
open Go.RowKit Go.Hd
attribute [local go_sem ↓] h_ldV h_stV h_alV
attribute [local go_sem] r_ldV r_stV r_alV

theorem WrO.new (w : World) : WrO (w.heap.size + 1) (w.alloc (.cells #[.slice none 0 0, .bool false] 105)) w.heap.size (some []) :=
  ⟨([], false), ⟨.slice none 0 0, ⟨Blk.new _ _ _, World.ownsRow_nil _ _ _ _, Nat.lt_succ_self _, by simp⟩, by decide⟩, rfl⟩
theorem WrO.none' {B g : Nat} {w : World} (h : WrO B w g none) : w.cell? ⟨g, 1, none⟩ = Option.some (.bool true) := by
  obtain ⟨⟨l', f⟩, ⟨v, hB, _⟩, ha⟩ := h
  cases f with
  | false => cases ha
  | true => exact hB.blk.cell rfl
end Go.Proofs.YtpchogicdnfggaaDoor
set_option maxRecDepth 20000
namespace Go.Proofs.YtpchogicdnfggaaDoor
open Go.RowKit Go.Hd

/-! What a call that appends to an owned row may change. -/
structure Gro (w w' : World) (v u : Value) : Prop where
  gr : w.grownBy w' v.ownBlock
  own : ∀ k, u.ownBlock = some k → v.ownBlock = some k ∨ w.heap.size ≤ k
theorem Gro.trans {a b c : World} {v u x : Value} (h : Gro a b v u) (k : Gro b c u x) : Gro a c v x := by
  refine ⟨⟨k.gr.os.trans h.gr.os, k.gr.tape.trans h.gr.tape, k.gr.output.trans h.gr.output, Nat.le_trans h.gr.size k.gr.size, fun i hi hne => ?_⟩, fun i hi => ?_⟩
  · rw [k.gr.block i (Nat.lt_of_lt_of_le hi h.gr.size) (fun e => ?_), h.gr.block i hi hne]
    rcases h.own i e.symm with h1 | h1
    · exact hne h1.symm
    · omega
  · rcases k.own i hi with h1 | h1
    · exact h.own i h1
    · exact .inr (Nat.le_trans h.gr.size h1)
theorem Gro.ofBelow {a b : World} {v : Value} (h : Below a.heap.size a b) : Gro a b v v := ⟨grownBy_below h, fun _ h => .inl h⟩
theorem Gro.size {a b : World} {v u : Value} (h : Gro a b v u) : a.heap.size ≤ b.heap.size := h.gr.size
/-- Old memory is as it was. -/
theorem Gro.below {w w' : World} {v u : Value} {base old : Nat} (h : Gro w w' v u) (hv : ∀ k, v.ownBlock = some k → base ≤ k) (hob : old ≤ base) (ho : old ≤ w.heap.size) : Below old w w' :=
  ⟨h.gr.os, h.gr.tape, h.gr.output, h.gr.size, fun i hi => h.gr.block i (by omega) (fun e => by have := hv i e.symm; omega)⟩
theorem Gro.blk {w w' : World} {v u : Value} {q : Nat} {T : TypeId} {xs : List Value} (h : Gro w w' v u) (hb : Blk w q T xs) (hq : v.ownBlock ≠ some q) : Blk w' q T xs ∧ u.ownBlock ≠ some q := by
  refine ⟨Blk.keptBy hb h.gr hq, fun e => ?_⟩
  rcases h.own q e with h1 | h1
  · exact hq h1
  · have := hb.lt; omega
theorem owns_rowN {w : World} {base : Nat} {e : TypeId} {v : Value} {n size : Nat} {xs : List Value} (h : w.ownsRow base e size v n xs) (_hs : 0 < size) :
    ∃ a c, v = .slice a n c ∧ n ≤ c ∧ c ≤ maxLen ∧ Row w a xs ∧ (0 < xs.length → v.ownBlock = some (hd a).block ∧ base ≤ (hd a).block ∧ (hd a).block < w.heap.size) := by
  obtain ⟨hl, ⟨rfl, rfl⟩ | ⟨g, c, cur, rfl, hg, hb, hn, hm, hy, ht⟩⟩ := h
  · obtain rfl : xs = [] := List.eq_nil_of_length_eq_zero (by simpa using hl)
    exact ⟨none, 0, rfl, Nat.le_refl _, Nat.zero_le _, Row.nil _ _, fun h => by simp at h⟩
  · have hB : Blk w g e cur.toList := by unfold Blk; simpa using hb
    refine ⟨_, c, rfl, hn, hm, ?_, fun _ => ⟨rfl, hg, hB.lt⟩⟩
    rw [← ht]; exact hB.row.take _
theorem own_app1 {t ty e : TypeId} {z : Value} {bytes : Nat} (E : Elem Tryd.prog t e z 1 bytes) {w : World} {base : Nat} {v : Value} {n : Nat} {xs : List Value} (hown : w.ownsRow base e 1 v n xs)
    (x : Value) (hx : x.oneCell' = true) (h63 : n + 1 ≤ maxLen) (hbytes : (n + 1) * bytes ≤ 140737488355328) (hbase : base ≤ w.heap.size) :
    ∃ a' c' w', (Builtin.append_ #[t, t] ty #[v, .slice (some ⟨w.heap.size, 0, none⟩) 1 1]).run Tryd.prog (w.alloc (.cells #[x] e)) = .ok (.slice a' (n + 1) c') w' ∧ w'.ownsRow base e 1 (.slice a' (n + 1) c') (n + 1) (xs ++ [x]) ∧ Gro w w' v (.slice a' (n + 1) c') := by
  have hsrc : Src Tryd.prog 1 t (.slice (some ⟨w.heap.size, 0, none⟩) 1 1) 1 [x] (w.alloc (.cells #[x] e)) :=
    Src.ofRow E.ht _ 1 1 [x] (by decide) rfl (Blk.new w e #[x]).row (fun u hu => by simp at hu; subst hu; exact hx)
  obtain ⟨v', w', h1, h2, h3, h4⟩ := append_srcK (ty := ty) E (hown.alloc _) hsrc h63 hbytes (by simp; omega)
  obtain ⟨a', c', rfl, _⟩ := owns_rowN h2 (by decide)
  have hb0 : Below w.heap.size w (w.alloc (.cells #[x] e)) := (Below.refl _ _).alloc (Nat.le_refl _) _
  exact ⟨a', c', w', h1, h2, (Gro.ofBelow hb0).trans ⟨h3, h4⟩⟩
theorem eS : Elem Tryd.prog 27 9 (.string .empty) 1 16 := ⟨by kernel_rfl, by kernel_rfl, rfl, by decide⟩
/-- A slice of texts of the call's own. -/
abbrev KsAt (base : Nat) (w : World) (u : Value) (ks : List (List UInt8)) : Prop := w.ownsRow base 9 1 u ks.length (ks.map strV)
theorem str_take (l : List UInt8) (n : Nat) : (str l).extract 0 n = str (l.take n) := by
  apply ByteArray.ext
  simp [str, ByteArray.data_extract, List.extract_toArray, List.extract_eq_take_drop]
theorem short_any (l : List UInt8) (n : Nat) (w : World) (h : n ≤ 1000000) : Calls Tryd.prog 24 #[.string (str l), .int .i64 (n : Int)] w fun e w' => e = .returned (.string (str (l.take n))) ∧ w = w' := by
  have hs : (str l).size = l.length := str_size l
  by_cases hlt : n < l.length
  · have h1 : (n : Int) < (l.length : Int) := by omega
    have HT := Lib.hid (str_take l n)
    have n0 : (0 : Int) ≤ (n : Int) := by omega
    have n1 : (n : Int) ≤ (l.length : Int) := by omega
    go_enter Tryd.func24, Tryd.ntmps24
    go_wp2
    go_ret
    refine ⟨?_, rfl⟩
    rw [← HT.out]
    rfl
  · have h1 : ¬ (n : Int) < (l.length : Int) := by omega
    have HT : Hid (l.take n = l) := List.take_of_length_le (by omega)
    go_enter Tryd.func24, Tryd.ntmps24
    go_wp2
    go_ret
    refine ⟨?_, rfl⟩
    rw [HT.out]
    rfl
end Go.Proofs.YtpchogicdnfggaaDoor
set_option maxRecDepth 20000
namespace Go.Proofs.YtpchogicdnfggaaDoor
open Go.RowKit Go.Hd
attribute [local go_sem ↓] h_ldV h_stV h_alV
attribute [local go_sem] r_ldV r_stV r_alV

/-- What the document's bytes answers. -/
structure RbR (base : Nat) (w w' : World) (v u : Value) (r : Bool) (o : Option (List UInt8)) : Prop where
  own : ∃ l', Own 5 w' base u l' ∧ (r = true → o = some l' ∧ l'.length ≤ 65536)
  no : r = false → o = none
  gro : Gro w w' v u
theorem putO_some (l m : List UInt8) : putO (some l) m = if 65536 < l.length + m.length then none else some (l ++ m) := rfl
end Go.Proofs.YtpchogicdnfggaaDoor
set_option maxRecDepth 20000
namespace Go.Proofs.YtpchogicdnfggaaDoor
open Go.RowKit Go.Hd
attribute [local go_sem ↓] h_ldV h_stV h_alV
attribute [local go_sem] r_ldV r_stV r_alV

theorem putO_len {l m x : List UInt8} (h : putO (some l) m = some x) : x = l ++ m ∧ x.length ≤ 65536 := by
  rw [putO_some] at h
  split at h
  · cases h
  · cases h; exact ⟨rfl, by simp; omega⟩
end Go.Proofs.YtpchogicdnfggaaDoor
set_option maxRecDepth 20000
namespace Go.Proofs.YtpchogicdnfggaaDoor
open Go.RowKit Go.Hd
attribute [local go_sem ↓] h_ldV h_stV h_alV
attribute [local go_sem] r_ldV r_stV r_alV

/-- The state of the document's loop. -/
structure RbL (base q : Nat) (w wr : World) (v0 u : Value) (box : List Value) (l3 : List UInt8) : Prop where
  own : Own 5 wr base u l3
  small : l3.length ≤ 65536
  gro : Gro w wr v0 u
  blk : Blk wr q 30 box
  far : u.ownBlock ≠ some q
end Go.Proofs.YtpchogicdnfggaaDoor
set_option maxRecDepth 20000
namespace Go.Proofs.YtpchogicdnfggaaDoor
open Go.RowKit Go.Hd

/-- Six cells that hold a value, all of whose rows lie in blocks that are ok. -/
inductive VAtP (ok : Nat → Prop) (w : World) : List Value → PV → Prop
  | mk {k n : Int} {b t : List UInt8} {ks : List (List UInt8)} {l : List PV} {ab ak al : Option Addr} {cb ck cl : Nat} (css : List (List Value))
      (hk : in64 k) (hn : in64 n) (hb : Row w ab (b.map b8)) (hbc : b.length ≤ cb ∧ cb ≤ maxLen) (ht : t.length ≤ maxLen)
      (hks : Row w ak (ks.map strV)) (hkc : ks.length ≤ ck ∧ ck ≤ maxLen) (hkt : ∀ x ∈ ks, x.length ≤ maxLen) (hl : Row w al css.flatten) (hlc : l.length ≤ cl ∧ cl ≤ maxLen) (hcs : css.length = l.length) (h6 : ∀ c ∈ css, c.length = 6)
      (ob : 0 < b.length → ok (hd ab).block) (oks : 0 < ks.length → ok (hd ak).block) (ol : 0 < l.length → ok (hd al).block)
      (sub : ∀ (i : Nat) (c : List Value) (v : PV), css[i]? = some c → l[i]? = some v → VAtP ok w c v) :
      VAtP ok w [.int .i64 k, .int .i64 n, .slice ab b.length cb, strV t, .slice ak ks.length ck, .slice al l.length cl] (.mk k n b t ks l)
theorem VAtP.at {ok : Nat → Prop} {w : World} {cs : List Value} {v : PV} (h : VAtP ok w cs v) : VAt w cs v := by
  induction h with
  | mk css hk hn hb hbc ht hks hkc hkt hl hlc hcs h6 _ _ _ _ ih => exact .mk css hk hn hb hbc ht hks hkc hkt hl hlc hcs h6 ih
theorem Row.keptP {ok : Nat → Prop} {w w' : World} {a : Option Addr} {xs : List Value} (h : Row w a xs) (ho : 0 < xs.length → ok (hd a).block) (hs : ∀ b, ok b → b < w.heap.size → w'.heap[b]? = w.heap[b]?) : Row w' a xs := by
  refine ⟨h.1, fun i u hu => ?_⟩
  have hc := h.2 i u hu
  have hpos : 0 < xs.length := by
    rcases Nat.lt_or_ge i xs.length with h1 | h1
    · omega
    · rw [List.getElem?_eq_none h1] at hu; cases hu
  have hlt := h.block_lt hpos
  rw [World.cell?_of_block (w := w) (by rw [add_block]; exact hs _ (ho hpos) hlt)]
  exact hc
theorem flat_pos {α : Type} {s : Nat} {xs : List (List α)} (_ : ∀ x ∈ xs, x.length = s) (h : 0 < xs.flatten.length) : 0 < xs.length := by
  rcases Nat.eq_zero_or_pos xs.length with h0 | h0
  · rw [List.eq_nil_of_length_eq_zero h0] at h; simp at h
  · exact h0
theorem VAtP.same {ok : Nat → Prop} {w w' : World} {cs : List Value} {v : PV} (h : VAtP ok w cs v) (hs : ∀ b, ok b → b < w.heap.size → w'.heap[b]? = w.heap[b]?) : VAtP ok w' cs v := by
  induction h with
  | mk css hk hn hb hbc ht hks hkc hkt hl hlc hcs h6 ob oks ol _ ih =>
    exact .mk css hk hn (Row.keptP hb (by simpa using ob) hs) hbc ht (Row.keptP hks (by simpa using oks) hs) hkc hkt (Row.keptP hl (fun h => ol (by have := flat_pos h6 h; omega)) hs) hlc hcs h6 ob oks ol ih
theorem VAtP.mono {ok ok' : Nat → Prop} {w : World} {cs : List Value} {v : PV} (h : VAtP ok w cs v) (hk : ∀ b, ok b → b < w.heap.size → ok' b) : VAtP ok' w cs v := by
  induction h with
  | mk css hki hn hb hbc ht hks hkc hkt hl hlc hcs h6 ob oks ol _ ih =>
    refine .mk css hki hn hb hbc ht hks hkc hkt hl hlc hcs h6 (fun h0 => hk _ (ob h0) (hb.block_lt (by simpa using h0))) (fun h0 => hk _ (oks h0) (hks.block_lt (by simpa using h0))) (fun h0 => hk _ (ol h0) (hl.block_lt ?_)) ih
    rw [flatten_len h6]; omega
theorem VAtP.len {ok : Nat → Prop} {w : World} {cs : List Value} {v : PV} (h : VAtP ok w cs v) : cs.length = 6 := h.at.len
theorem VAtP.one {ok : Nat → Prop} {w : World} {cs : List Value} {v : PV} (h : VAtP ok w cs v) : ∀ u ∈ cs, u.oneCell' = true := h.at.one
theorem VAtP.grow {ok : Nat → Prop} {w w' : World} {cs : List Value} {v : PV} (h : VAtP ok w cs v) (hb : Below w.heap.size w w') : VAtP ok w' cs v := h.same (fun b _ hlt => hb.block b hlt)

/-! Slices of the call's own, of texts, of values. -/
theorem eV : Elem Tryd.prog 28 30 (.agg zV) 6 104 := ⟨by kernel_rfl, by kernel_rfl, rfl, by decide⟩
/-- A slice of values of the call's own; the values' rows lie in blocks that are ok. -/
def VsAt (ok : Nat → Prop) (base : Nat) (w : World) (u : Value) (vs : List PV) : Prop :=
  ∃ css : List (List Value), css.length = vs.length ∧ (∀ c ∈ css, c.length = 6) ∧ w.ownsRow base 30 6 u vs.length css.flatten ∧ ∀ (i : Nat) (c : List Value) (v : PV), css[i]? = some c → vs[i]? = some v → VAtP ok w c v
theorem flat_snoc {α : Type} (xs : List (List α)) (c : List α) : (xs ++ [c]).flatten = xs.flatten ++ c := by simp
theorem VsAt.app {ok ok' : Nat → Prop} {base : Nat} {w : World} {u : Value} {vs : List PV} {c : List Value} {x : PV} {ty : TypeId} (h : VsAt ok base w u vs) (hok : ∀ b, ok b → u.ownBlock ≠ some b) (hx : VAtP ok w c x) (hok' : ∀ b, ok b → b < w.heap.size → ok' b)
    (hn : vs.length ≤ 1000000000) (hb : base ≤ w.heap.size) :
    ∃ a' c' w', (Builtin.append_ #[28, 28] ty #[u, .slice (some ⟨w.heap.size, 0, none⟩) 1 1]).run Tryd.prog (w.alloc (.cells c.toArray 30)) = .ok (.slice a' (vs.length + 1) c') w' ∧ VsAt ok' base w' (.slice a' (vs.length + 1) c') (vs ++ [x]) ∧ Gro w w' u (.slice a' (vs.length + 1) c') := by
  obtain ⟨css, hc1, hc2, hown, hel⟩ := h
  have hl6 := hx.len
  have hsrc : Src Tryd.prog 6 28 (.slice (some ⟨w.heap.size, 0, none⟩) 1 1) 1 c (w.alloc (.cells c.toArray 30)) :=
    Src.ofRow eV.ht _ 1 1 c (by decide) (by rw [hl6]) (by simpa using (Blk.new w 30 c.toArray).row) hx.one
  obtain ⟨v', w', h1, h2, h3, h4⟩ := append_srcK (ty := ty) eV (hown.alloc _) hsrc (by unfold maxLen; omega) (by omega) (by simp; omega)
  obtain ⟨a', c', rfl, _⟩ := owns_rowN h2 (by decide)
  have hb0 : Below w.heap.size w (w.alloc (.cells c.toArray 30)) := (Below.refl _ _).alloc (Nat.le_refl _) _
  have hG : Gro w w' u (.slice a' (vs.length + 1) c') := (Gro.ofBelow hb0).trans ⟨h3, h4⟩
  have keep : ∀ {d : List Value} {y : PV}, VAtP ok w d y → VAtP ok' w' d y := fun hd =>
    (hd.mono (ok' := fun b => ok b ∧ b < w.heap.size) (fun b h1 h2 => ⟨h1, h2⟩)).same (w' := w') (fun b h1 h2 => hG.gr.block b h2 (fun e => hok b h1.1 e.symm)) |>.mono (fun b h1 _ => hok' b h1.1 h1.2)
  refine ⟨a', c', w', h1, ⟨css ++ [c], by simp [hc1], ?_, ?_, ?_⟩, hG⟩
  · intro d hd
    rcases List.mem_append.1 hd with h | h
    · exact hc2 d h
    · simp at h; subst h; exact hl6
  · rw [flat_snoc]; simpa using h2
  · intro i d y hd hy
    rcases Nat.lt_or_ge i css.length with h | h
    · rw [List.getElem?_append_left h] at hd
      rw [List.getElem?_append_left (by omega)] at hy
      exact keep (hel i d y hd hy)
    · rw [List.getElem?_append_right h] at hd
      rw [List.getElem?_append_right (by omega)] at hy
      have hi : i - css.length = 0 := by
        rcases Nat.eq_zero_or_pos (i - css.length) with h0 | h0
        · exact h0
        · rw [List.getElem?_eq_none (by simp; omega)] at hd; cases hd
      rw [hi] at hd
      rw [← hc1, hi] at hy
      simp at hd hy
      subst hd hy
      exact keep hx
theorem VsAt.nil (ok : Nat → Prop) (base : Nat) (w : World) : VsAt ok base w (.slice none 0 0) [] := ⟨[], rfl, by simp, World.ownsRow_nil _ _ _ _, by simp⟩
theorem VsAt.same {ok ok' : Nat → Prop} {base : Nat} {w w' : World} {u : Value} {vs : List PV} (h : VsAt ok base w u vs) (_hw : w.heap.size ≤ w'.heap.size) (hu : ∀ b, u.ownBlock = some b → w'.heap[b]? = w.heap[b]?) (hs : ∀ b, ok b → b < w.heap.size → w'.heap[b]? = w.heap[b]? ∧ ok' b) : VsAt ok' base w' u vs := by
  obtain ⟨css, h1, h2, h3, h4⟩ := h
  refine ⟨css, h1, h2, ?_, fun i c v hc hv => ?_⟩
  · obtain ⟨g1, g2⟩ := h3
    refine ⟨g1, ?_⟩
    rcases g2 with g2 | ⟨g, cap, cur, hv, hg, hh, r⟩
    · exact .inl g2
    · exact .inr ⟨g, cap, cur, hv, hg, by rw [hu g (by rw [hv]; rfl)]; exact hh, r⟩
  · have := (h4 i c v hc hv).mono (ok' := fun b => ok b ∧ b < w.heap.size) (fun b h1 h2 => ⟨h1, h2⟩)
    exact (this.same (w' := w') (fun b hb hlt => (hs b hb.1 hlt).1)).mono (fun b hb _ => (hs b hb.1 hb.2).2)
theorem owns_same {w w' : World} {base : Nat} {e : TypeId} {size n : Nat} {u : Value} {xs : List Value} (h : w.ownsRow base e size u n xs) (hu : ∀ b, u.ownBlock = some b → w'.heap[b]? = w.heap[b]?) : w'.ownsRow base e size u n xs := by
  obtain ⟨g1, g2⟩ := h
  refine ⟨g1, ?_⟩
  rcases g2 with g2 | ⟨g, cap, cur, hv, hg, hh, r⟩
  · exact .inl g2
  · exact .inr ⟨g, cap, cur, hv, hg, by rw [hu g (by rw [hv]; rfl)]; exact hh, r⟩

/-! A value that is being built in the box q. -/
/-- Blocks that nothing of the building touches. -/
def okB (base q : Nat) (uK uL : Value) (b : Nat) : Prop := base ≤ b ∧ b ≠ q ∧ uK.ownBlock ≠ some b ∧ uL.ownBlock ≠ some b
structure VB (base q : Nat) (w : World) (v : PV) (uB uK uL : Value) : Prop where
  blk : Blk w q 30 [.int .i64 v.kind, .int .i64 v.int, uB, strV v.text, uK, uL]
  hq : base ≤ q
  le : base ≤ w.heap.size
  ints : in64 v.kind ∧ in64 v.int ∧ v.text.length ≤ maxLen ∧ ∀ x ∈ v.keys, x.length ≤ maxLen
  bytes : ∃ ab cb, uB = .slice ab v.bytes.length cb ∧ v.bytes.length ≤ cb ∧ cb ≤ maxLen ∧ Row w ab (v.bytes.map b8) ∧ (0 < v.bytes.length → okB base q uK uL (hd ab).block)
  keys : KsAt base w uK v.keys
  kq : uK.ownBlock ≠ some q
  list : VsAt (okB base q uK uL) base w uL v.list
  lq : uL.ownBlock ≠ some q
  kl : ∀ b, uK.ownBlock = some b → uL.ownBlock ≠ some b
/-- What lies from block base on is as it was. -/
theorem VB.keep {base q : Nat} {w w' : World} {v : PV} {uB uK uL : Value} (h : VB base q w v uB uK uL) (hw : w.heap.size ≤ w'.heap.size) (hs : ∀ b, base ≤ b → b < w.heap.size → w'.heap[b]? = w.heap[b]?) : VB base q w' v uB uK uL := by
  obtain ⟨h1, h2, h3, h4, ⟨ab, cb, b1, b2, b3, b4, b5⟩, h6, h7, h8, h9, h10⟩ := h
  refine ⟨?_, h2, Nat.le_trans h3 hw, h4, ⟨ab, cb, b1, b2, b3, Row.keptP (ok := okB base q uK uL) b4 (by simpa using b5) (fun b hb hlt => hs b hb.1 hlt), b5⟩, owns_same h6 ?_, h7, h8.same hw ?_ (fun b hb hlt => ⟨hs b hb.1 hlt, hb⟩), h9, h10⟩
  · unfold Blk at *; rw [hs q h2 (Array.getElem?_eq_some_iff.1 h1).1]; exact h1
  · intro b hb
    obtain ⟨g1, g2⟩ := World.ownsRow.lt h6 b hb
    exact hs b g1 g2
  · intro b hb
    obtain ⟨css, _, _, hO, _⟩ := h8
    obtain ⟨g1, g2⟩ := World.ownsRow.lt hO b hb
    exact hs b g1 g2
/-- A key more. -/
theorem VB.addK {base q : Nat} {w w' : World} {k n : Int} {b t : List UInt8} {ks : List (List UInt8)} {l : List PV} {uB uK uL : Value} (h : VB base q w (.mk k n b t ks l) uB uK uL) {x : List UInt8} (hx : x.length ≤ maxLen) {a' : Option Addr} {c' m : Nat}
    (ho : w'.ownsRow base 9 1 (.slice a' m c') m (ks.map strV ++ [strV x])) (hm : m = ks.length + 1) (hg : Gro w w' uK (.slice a' m c')) :
    VB base q (w'.setCell ⟨q, 4, none⟩ (.slice a' m c')) (.mk k n b t (ks ++ [x]) l) uB (.slice a' m c') uL := by
  obtain ⟨h1, h2, h3, h4, ⟨ab, cb, b1, b2, b3, b4, b5⟩, h6, h7, h8, h9, h10⟩ := h
  subst hm
  have hqlt : q < w.heap.size := h1.lt
  have hlt6 := fun b hb => World.ownsRow.lt h6 b hb
  have hO8 : ∀ b, uL.ownBlock = some b → base ≤ b ∧ b < w.heap.size := by
    obtain ⟨css, _, _, hO, _⟩ := h8
    exact fun b hb => World.ownsRow.lt hO b hb
  have hB : Blk w' q 30 [.int .i64 k, .int .i64 n, uB, strV t, uK, uL] := (hg.blk h1 h7).1
  have hset : ∀ b, b ≠ q → (w'.setCell ⟨q, 4, none⟩ (.slice a' (ks.length + 1) c')).heap[b]? = w'.heap[b]? := fun b hb => Below.heap_setCell w' _ _ b hb
  have hold : ∀ b, b < w.heap.size → uK.ownBlock ≠ some b → b ≠ q → (w'.setCell ⟨q, 4, none⟩ (.slice a' (ks.length + 1) c')).heap[b]? = w.heap[b]? := fun b hb hk hq' => (hset b hq').trans (hg.gr.block b hb (fun e => hk e.symm))
  have hnew : ∀ b, (Value.slice a' (ks.length + 1) c').ownBlock = some b → b ≠ q := fun b hb e => by
    subst e
    rcases hg.own _ hb with h | h
    · exact h7 h
    · omega
  have hok : ∀ b, okB base q uK uL b → b < w.heap.size → okB base q (.slice a' (ks.length + 1) c') uL b := fun b ⟨o1, o2, o3, o4⟩ hlt => ⟨o1, o2, fun e => by
    rcases hg.own b e with h | h
    · exact o3 h
    · omega, o4⟩
  refine ⟨hB.set 4 _, h2, by simp; exact Nat.le_trans h3 hg.size, ⟨h4.1, h4.2.1, h4.2.2.1, fun y hy => ?_⟩, ⟨ab, cb, b1, b2, b3, Row.keptP b4 (ok := okB base q uK uL) (by simpa [PV.bytes] using b5) (fun b hb hlt => hold b hlt hb.2.2.1 hb.2.1), fun h0 => hok _ (b5 h0) (b4.block_lt (by simpa [PV.bytes] using h0))⟩, ?_, fun e => hnew q e rfl, h8.same (by simp; exact hg.size) (fun b hb => ?_) (fun b hb hlt => ⟨hold b hlt hb.2.2.1 hb.2.1, hok b hb hlt⟩), h9, fun b hb e => ?_⟩
  · rcases List.mem_append.1 hy with h | h
    · exact h4.2.2.2 y h
    · simp at h; subst h; exact hx
  · have := owns_same ho (w' := w'.setCell ⟨q, 4, none⟩ (.slice a' (ks.length + 1) c')) (fun b hb => hset b (hnew b hb))
    show World.ownsRow _ _ _ _ _ _ _
    simpa [PV.keys] using this
  · have hbl := hO8 b hb
    exact hold b hbl.2 (fun e => h10 b e hb) (fun e => h9 (e ▸ hb))
  · rcases hg.own b hb with h | h
    · exact h10 b h e
    · have := (hO8 b e).2; omega
/-- A value more. -/
theorem VB.addL {base q : Nat} {w w' : World} {k n : Int} {b t : List UInt8} {ks : List (List UInt8)} {l : List PV} {uB uK uL : Value} (h : VB base q w (.mk k n b t ks l) uB uK uL) {x : PV} {a' : Option Addr} {c' m : Nat}
    (ho : VsAt (okB base q uK (.slice a' m c')) base w' (.slice a' m c') (l ++ [x])) (hg : Gro w w' uL (.slice a' m c')) :
    VB base q (w'.setCell ⟨q, 5, none⟩ (.slice a' m c')) (.mk k n b t ks (l ++ [x])) uB uK (.slice a' m c') := by
  obtain ⟨h1, h2, h3, h4, ⟨ab, cb, b1, b2, b3, b4, b5⟩, h6, h7, h8, h9, h10⟩ := h
  have hqlt : q < w.heap.size := h1.lt
  have hlt6 := fun b hb => World.ownsRow.lt h6 b hb
  have hB : Blk w' q 30 [.int .i64 k, .int .i64 n, uB, strV t, uK, uL] := (hg.blk h1 h9).1
  have hset : ∀ b, b ≠ q → (w'.setCell ⟨q, 5, none⟩ (.slice a' m c')).heap[b]? = w'.heap[b]? := fun b hb => Below.heap_setCell w' _ _ b hb
  have hold : ∀ b, b < w.heap.size → uL.ownBlock ≠ some b → b ≠ q → (w'.setCell ⟨q, 5, none⟩ (.slice a' m c')).heap[b]? = w.heap[b]? := fun b hb hk hq' => (hset b hq').trans (hg.gr.block b hb (fun e => hk e.symm))
  have hnew : ∀ b, (Value.slice a' m c').ownBlock = some b → b ≠ q := fun b hb e => by
    subst e
    rcases hg.own _ hb with h | h
    · exact h9 h
    · omega
  have hok : ∀ b, okB base q uK uL b → b < w.heap.size → okB base q uK (.slice a' m c') b := fun b ⟨o1, o2, o3, o4⟩ hlt => ⟨o1, o2, o3, fun e => by
    rcases hg.own b e with h | h
    · exact o4 h
    · omega⟩
  refine ⟨hB.set 5 _, h2, by simp; exact Nat.le_trans h3 hg.size, h4, ⟨ab, cb, b1, b2, b3, Row.keptP b4 (ok := okB base q uK uL) (by simpa [PV.bytes] using b5) (fun b hb hlt => hold b hlt hb.2.2.2 hb.2.1), fun h0 => hok _ (b5 h0) (b4.block_lt (by simpa [PV.bytes] using h0))⟩, owns_same h6 (fun b hb => ?_), h7, ?_, fun e => hnew q e rfl, fun b hb e => ?_⟩
  · have hbl := hlt6 b hb
    exact hold b hbl.2 (fun e => h10 b hb e) (fun e => h7 (e ▸ hb))
  · refine ho.same (by simp) (fun b hb => hset b (hnew b hb)) (fun b hb _ => ⟨hset b hb.2.1, hb⟩)
  · rcases hg.own b e with h | h
    · exact h10 b hb h
    · have := (hlt6 b hb).2; omega
/-- What has been built. -/
theorem VB.done {base q : Nat} {w : World} {v : PV} {uB uK uL : Value} (h : VB base q w v uB uK uL) : VAtP (fun b => base ≤ b ∧ b ≠ q) w [.int .i64 v.kind, .int .i64 v.int, uB, strV v.text, uK, uL] v := by
  obtain ⟨h1, h2, h3, h4, ⟨ab, cb, rfl, b2, b3, b4, b5⟩, h6, h7, ⟨css, c1, c2, h8, c4⟩, h9, h10⟩ := h
  obtain ⟨ak, ck, rfl, k2, k3, k4, k5⟩ := owns_rowN h6 (by decide)
  obtain ⟨al, cl, rfl, l2, l3, l4, l5⟩ := owns_rowN h8 (by decide)
  cases v with
  | mk k n b t ks l =>
    refine .mk css h4.1 h4.2.1 b4 ⟨b2, b3⟩ h4.2.2.1 k4 ⟨k2, k3⟩ h4.2.2.2 l4 ⟨l2, l3⟩ c1 c2 (fun h0 => ⟨(b5 h0).1, (b5 h0).2.1⟩) (fun h0 => ?_) (fun h0 => ?_) (fun i c v hc hv => (c4 i c v hc hv).mono (fun b hb _ => ⟨hb.1, hb.2.1⟩))
    · obtain ⟨e1, e2, e3⟩ := k5 (by simpa [PV.keys] using h0)
      exact ⟨e2, fun e => h7 (by rw [e1, e])⟩
    · have hf : 0 < css.flatten.length := by
        rw [flatten_len c2, c1]
        exact Nat.mul_pos h0 (by decide)
      obtain ⟨e1, e2, e3⟩ := l5 hf
      exact ⟨e2, fun e => h9 (by rw [e1, e])⟩
end Go.Proofs.YtpchogicdnfggaaDoor
set_option maxRecDepth 20000
namespace Go.Proofs.YtpchogicdnfggaaDoor
open Go.RowKit Go.Hd

/-! The plain law. -/
def fewL (f : PV → Nat → PV × Nat) : List PV → Nat → List PV × Nat
  | [], m => ([], m)
  | x :: l, m => if 0 < m then ((f x m).1 :: (fewL f l (f x m).2).1, (fewL f l (f x m).2).2) else ([], m)
def fewF : Nat → PV → Nat → PV × Nat
  | 0, v, m => (v, m)
  | d + 1, .mk k n b t ks l, m => (.mk k n (b.take 700) (t.take 700) ((ks.take 40).map (·.take 100)) (fewL (fewF d) (l.take 40) (m - 1)).1, (fewL (fewF d) (l.take 40) (m - 1)).2)
theorem fewL_le {f : PV → Nat → PV × Nat} (hf : ∀ x m, (f x m).2 ≤ m) : ∀ (l : List PV) (m : Nat), (fewL f l m).2 ≤ m ∧ (fewL f l m).1.length ≤ l.length
  | [], m => ⟨Nat.le_refl _, Nat.le_refl _⟩
  | x :: l, m => by
    unfold fewL
    split
    · have h1 := hf x m
      have h2 := fewL_le hf l (f x m).2
      simp only [List.length_cons]
      exact ⟨by omega, by omega⟩
    · simp
theorem fewF_le : ∀ (d : Nat) (v : PV) (m : Nat), (fewF d v m).2 ≤ m
  | 0, v, m => Nat.le_refl _
  | d + 1, .mk k n b t ks l, m => by
    have := (fewL_le (fewF_le d) (l.take 40) (m - 1)).1
    show (fewL (fewF d) (l.take 40) (m - 1)).2 ≤ m
    omega
/-- A small value. -/
def smallF (v : PV) : PV := (fewF 60 v 60).1
/-! A text, cut. -/
end Go.Proofs.YtpchogicdnfggaaDoor
set_option maxRecDepth 20000
namespace Go.Proofs.YtpchogicdnfggaaDoor
open Go.RowKit Go.Hd

theorem within_any (x lo hi : Int) (w : World) :
    Calls Tryd.prog 25 #[.int .i64 x, .int .i64 lo, .int .i64 hi] w fun e w' => e = .returned (.int .i64 (if x < lo then lo else if hi < x then hi else x)) ∧ w = w' := by
  by_cases c1 : x < lo
  · rw [if_pos c1]
    go_enter Tryd.func25, Tryd.ntmps25
    go_wp2
    go_ret
    exact ⟨rfl, rfl⟩
  · rw [if_neg c1]
    by_cases c2 : hi < x
    · rw [if_pos c2]
      go_enter Tryd.func25, Tryd.ntmps25
      go_wp2
      go_ret
      exact ⟨rfl, rfl⟩
    · rw [if_neg c2]
      go_enter Tryd.func25, Tryd.ntmps25
      go_wp2
      go_ret
      exact ⟨rfl, rfl⟩
theorem cut_any (a : Option Addr) (k c : Nat) (n : Int) (w : World) (n0 : 0 ≤ n) (hk : k ≤ c) :
    Calls Tryd.prog 29 #[.slice a k c, .int .i64 n] w fun e w' => e = .returned (.slice a (min k n.toNat) c) ∧ w = w' := by
  by_cases h : n < k
  · have H : Hid (min k n.toNat = n.toNat) := by show _ = _; omega
    go_enter Tryd.func29, Tryd.ntmps29
    go_wp2
    go_ret
    exact ⟨ret_eq (slice_len H.out.symm), rfl⟩
  · have H : Hid (min k n.toNat = k) := by show _ = _; omega
    have h' : (k : Int) ≤ n := by omega
    clear h
    go_enter Tryd.func29, Tryd.ntmps29
    go_wp2
    go_ret
    exact ⟨ret_eq (v := .slice a k c) (slice_len H.out.symm), rfl⟩
end Go.Proofs.YtpchogicdnfggaaDoor
