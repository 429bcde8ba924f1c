/- Joined: what one statement of this layer stands on, part 24 of 26; nothing is assumed. -/
import Derived.Test.YtpchogicdnfggaaGreatDoorKI22
set_option maxRecDepth 20000
namespace Go.Proofs.YtpchogicdnfggaaGreatDoor
open Go.RowKit Go.Hd
attribute [local go_sem ↓] h_ldV h_stV h_alV
attribute [local go_sem] r_ldV r_stV r_alV
theorem sx_1 (x : Nat) (h : x < 256 ^ 1) (hi : Int) (hh : hi < 0) : (x < 2 ^ (8 * 1 - 1) ∨ hi ≤ (x : Int) - 256) ↔ hi ≤ sext 1 x := by
  have h2 : x < 256 := h
  unfold sext
  simp only [Nat.reduceMul, Nat.reduceSub, Nat.reducePow, Int.reducePow]
  split <;> omega
theorem sy_1 (x : Nat) (h : x < 256 ^ 1) (hx : ¬ x < 2 ^ (8 * 1 - 1)) : (x : Int) - 256 = sext 1 x := by
  have h2 : x < 256 := h
  unfold sext
  rw [if_neg hx]
  simp only [Nat.reduceMul, Nat.reduceSub, Nat.reducePow, Int.reducePow] at hx ⊢
  try omega
set_option maxHeartbeats 1000000 in
theorem rrbelow_1 {α : Type} {B g : Nat} {hi : Int} {L : List UInt8} {w : World} {s : Rs α} (h : RRs B w g L s) (hB : B ≤ w.heap.size) (hhi : hi < 0) (_hin : in64 hi) :
    Calls Tryz.prog 86 #[.pointer (some ⟨g, 0, none⟩), .int .i64 1, .int .i64 hi] w (RValP B g L w (s.bind fun _ r => (signedR 1 hi r).bind fun n r2 => .ok (pNum n) r2)) := by
  have hg1 := h.lt
  have zs := zV_size
  have hO6 := oneC6
  have hb0 : Below w.heap.size w (w.alloc (.cells zV 50)) := (Below.refl _ _).alloc (Nat.le_refl _) _
  have R0 : Blk (w.alloc (.cells zV 50)) w.heap.size 50 zV.toList := Blk.new _ _ _
  have h0 := h.keep hb0
  have hk0 : Dk g g w (w.alloc (.cells zV 50)) := Dk.ofBelow hb0
  have hrd := rrnum_any (n := 1) (lo := 0) h0 (by decide) (by decide) (by decide)
  have HR : Hid ((s.bind fun _ r => (signedR 1 hi r).bind fun n r2 => .ok (pNum n) r2) = (s.bind fun _ r => leastR 1 0 r).bind fun u r => if hi ≤ sext 1 u then .no 4 else .ok (pNum (sext 1 u)) r) := by
    show _ = _
    cases s with
    | no c => rfl
    | ok x r =>
      simp only [Rs.bind_ok, least0]
      unfold signedR
      rw [Rs.bind_bind]
      congr 1; funext u r2
      split <;> rfl
  generalize (s.bind fun _ r => (signedR 1 hi r).bind fun n r2 => .ok (pNum n) r2) = R at *
  generalize (s.bind fun _ r => leastR 1 0 r) = T at *
  go_enter Tryz.func86, Tryz.ntmps86
  go_wp2_with fail
  refine hrd.mono ?_
  rintro ee w1 ⟨x, rfl, hx, hx0, hP, hk⟩
  have HX := Lib.hid hx
  have hx' : x < 256 := hx
  have R1 := hk.blk R0 (by omega) (by omega)
  have hk1 := hk0.trans hk
  have HXB := Lib.hid hx'
  have ex : wrap64 (x : Int) = (x : Int) := wrap64_of x (by omega)
  have ex1 : IntKind.i64.wrap (x : Int) = (x : Int) := IntWalk.i64_in _ (by omega)
  have ex2 : IntKind.i64.wrap ((x : Int) - 256) = (x : Int) - 256 := IntWalk.i64_in _ (by omega)
  have hin1 : in64 ((x : Int) - 256) := by unfold in64; omega
  clear hrd hx hk h0 R0 hk0
  cases T with
  | no cc =>
    obtain ⟨q1, q2⟩ := hP.noC
    have e1 : (cc == 0) = false := by simpa using q2
    obtain ⟨HST, HB2, HV⟩ := rval_end (R := R) R1 (by rfl) hP hk1 (VAtP.numP w1 hin1) hB hg1 (fun _ _ hh => by rw [HR.out]; exact hh) (fun v0 r hv => by rw [HR.out] at hv; cases hv)
    clear hP hk1 R1 hin1 hx0 hx'
    go_wp2
    exact bodyPost_ret (results_cell_row (fn := Tryz.f86) (by rfl) _ _ w.heap.size 50 _ (0, 0) _ (by rfl) HB2 Tryz.underlying50 rfl sizeV) rfl HV.out
  | ok x0 r =>
    obtain rfl := hx0 x0 r rfl
    have q1 := hP.ok0
    by_cases hlt : hi ≤ sext 1 x
    · obtain ⟨hP2, hg2, f2, z, c2⟩ := RRs.fail (β := PV) hP 4 (by decide)
      have hP3 : RRs B _ g L R := hP2.cast (fun _ _ hh => by rw [HR.out, Rs.bind_ok, if_pos hlt]; exact hh)
      have R2 := (Dk.one hg2).blk R1 (by omega) (by omega)
      have HE := fun (z : Int) (hz : in64 z) => rval_end (R := R) R2 (by rfl) hP3 (hk1.trans (Dk.one hg2)) (VAtP.numP _ hz) hB hg1 (fun _ _ hh => hh) (fun v0 r hv => by rw [HR.out, Rs.bind_ok, if_pos hlt] at hv; cases hv)
      clear hP hP2 hP3 hg2 R1 R2 hk1 hx0
      by_cases hs : x < 128
      · have i1 : (x : Int) < 128 := by omega
        obtain ⟨HST, HB2, HV⟩ := HE ((x : Int) - 256) (hin1)
        clear HE hin1
        have i2 : (((x : Int) / 128) == 0) = true := by simp; omega
        clear hs hlt hx'
        go_wp2
        exact bodyPost_ret (results_cell_row (fn := Tryz.f86) (by rfl) _ _ w.heap.size 50 _ (0, 0) _ (by rfl) HB2 Tryz.underlying50 rfl sizeV) rfl HV.out
      · have hlt2 : hi ≤ (x : Int) - 256 := ((sx_1 x HX.out hi hhi).2 hlt).resolve_left hs
        obtain ⟨HST, HB2, HV⟩ := HE _ hin1
        clear HE hin1
        have i2 : (((x : Int) / 128) == 0) = false := by simp; omega
        clear hs hlt hx'
        go_wp2
        exact bodyPost_ret (results_cell_row (fn := Tryz.f86) (by rfl) _ _ w.heap.size 50 _ (0, 0) _ (by rfl) HB2 Tryz.underlying50 rfl sizeV) rfl HV.out
    · have hs : ¬ x < 128 := fun hs => hlt ((sx_1 x HX.out hi hhi).1 (.inl hs))
      have hlt2 : ¬ hi ≤ (x : Int) - 256 := fun hs => hlt ((sx_1 x HX.out hi hhi).1 (.inr hs))
      have i2 : (((x : Int) / 128) == 0) = false := by simp; omega
      have hy := sy_1 x HX.out hs
      obtain ⟨HST, HB2, HV⟩ := rval_end (R := R) R1 (by rfl) hP hk1 (VAtP.numP _ hin1) hB hg1 (fun _ _ hh => by rw [HR.out, Rs.bind_ok, if_neg hlt]; exact hh) (fun v0 r hv => by rw [HR.out, Rs.bind_ok, if_neg hlt] at hv; cases hv; rw [hy])
      clear hP R1 hk1 hin1 hx0 hs hlt hx' hy
      go_wp2
      exact bodyPost_ret (results_cell_row (fn := Tryz.f86) (by rfl) _ _ w.heap.size 50 _ (0, 0) _ (by rfl) HB2 Tryz.underlying50 rfl sizeV) rfl HV.out
theorem sx_2 (x : Nat) (h : x < 256 ^ 2) (hi : Int) (hh : hi < 0) : (x < 2 ^ (8 * 2 - 1) ∨ hi ≤ (x : Int) - 65536) ↔ hi ≤ sext 2 x := by
  have h2 : x < 65536 := h
  unfold sext
  simp only [Nat.reduceMul, Nat.reduceSub, Nat.reducePow, Int.reducePow]
  split <;> omega
theorem sy_2 (x : Nat) (h : x < 256 ^ 2) (hx : ¬ x < 2 ^ (8 * 2 - 1)) : (x : Int) - 65536 = sext 2 x := by
  have h2 : x < 65536 := h
  unfold sext
  rw [if_neg hx]
  simp only [Nat.reduceMul, Nat.reduceSub, Nat.reducePow, Int.reducePow] at hx ⊢
  try omega
set_option maxHeartbeats 1000000 in
theorem rrbelow_2 {α : Type} {B g : Nat} {hi : Int} {L : List UInt8} {w : World} {s : Rs α} (h : RRs B w g L s) (hB : B ≤ w.heap.size) (hhi : hi < 0) (_hin : in64 hi) :
    Calls Tryz.prog 86 #[.pointer (some ⟨g, 0, none⟩), .int .i64 2, .int .i64 hi] w (RValP B g L w (s.bind fun _ r => (signedR 2 hi r).bind fun n r2 => .ok (pNum n) r2)) := by
  have hg1 := h.lt
  have zs := zV_size
  have hO6 := oneC6
  have hb0 : Below w.heap.size w (w.alloc (.cells zV 50)) := (Below.refl _ _).alloc (Nat.le_refl _) _
  have R0 : Blk (w.alloc (.cells zV 50)) w.heap.size 50 zV.toList := Blk.new _ _ _
  have h0 := h.keep hb0
  have hk0 : Dk g g w (w.alloc (.cells zV 50)) := Dk.ofBelow hb0
  have hrd := rrnum_any (n := 2) (lo := 0) h0 (by decide) (by decide) (by decide)
  have HR : Hid ((s.bind fun _ r => (signedR 2 hi r).bind fun n r2 => .ok (pNum n) r2) = (s.bind fun _ r => leastR 2 0 r).bind fun u r => if hi ≤ sext 2 u then .no 4 else .ok (pNum (sext 2 u)) r) := by
    show _ = _
    cases s with
    | no c => rfl
    | ok x r =>
      simp only [Rs.bind_ok, least0]
      unfold signedR
      rw [Rs.bind_bind]
      congr 1; funext u r2
      split <;> rfl
  generalize (s.bind fun _ r => (signedR 2 hi r).bind fun n r2 => .ok (pNum n) r2) = R at *
  generalize (s.bind fun _ r => leastR 2 0 r) = T at *
  go_enter Tryz.func86, Tryz.ntmps86
  go_wp2_with fail
  refine hrd.mono ?_
  rintro ee w1 ⟨x, rfl, hx, hx0, hP, hk⟩
  have HX := Lib.hid hx
  have hx' : x < 65536 := hx
  have R1 := hk.blk R0 (by omega) (by omega)
  have hk1 := hk0.trans hk
  have HXB := Lib.hid hx'
  have ex : wrap64 (x : Int) = (x : Int) := wrap64_of x (by omega)
  have ex1 : IntKind.i64.wrap (x : Int) = (x : Int) := IntWalk.i64_in _ (by omega)
  have ex2 : IntKind.i64.wrap ((x : Int) - 65536) = (x : Int) - 65536 := IntWalk.i64_in _ (by omega)
  have hin1 : in64 ((x : Int) - 65536) := by unfold in64; omega
  clear hrd hx hk h0 R0 hk0
  cases T with
  | no cc =>
    obtain ⟨q1, q2⟩ := hP.noC
    have e1 : (cc == 0) = false := by simpa using q2
    obtain ⟨HST, HB2, HV⟩ := rval_end (R := R) R1 (by rfl) hP hk1 (VAtP.numP w1 hin1) hB hg1 (fun _ _ hh => by rw [HR.out]; exact hh) (fun v0 r hv => by rw [HR.out] at hv; cases hv)
    clear hP hk1 R1 hin1 hx0 hx'
    go_wp2
    exact bodyPost_ret (results_cell_row (fn := Tryz.f86) (by rfl) _ _ w.heap.size 50 _ (0, 0) _ (by rfl) HB2 Tryz.underlying50 rfl sizeV) rfl HV.out
  | ok x0 r =>
    obtain rfl := hx0 x0 r rfl
    have q1 := hP.ok0
    by_cases hlt : hi ≤ sext 2 x
    · obtain ⟨hP2, hg2, f2, z, c2⟩ := RRs.fail (β := PV) hP 4 (by decide)
      have hP3 : RRs B _ g L R := hP2.cast (fun _ _ hh => by rw [HR.out, Rs.bind_ok, if_pos hlt]; exact hh)
      have R2 := (Dk.one hg2).blk R1 (by omega) (by omega)
      have HE := fun (z : Int) (hz : in64 z) => rval_end (R := R) R2 (by rfl) hP3 (hk1.trans (Dk.one hg2)) (VAtP.numP _ hz) hB hg1 (fun _ _ hh => hh) (fun v0 r hv => by rw [HR.out, Rs.bind_ok, if_pos hlt] at hv; cases hv)
      clear hP hP2 hP3 hg2 R1 R2 hk1 hx0
      by_cases hs : x < 32768
      · have i1 : (x : Int) < 32768 := by omega
        obtain ⟨HST, HB2, HV⟩ := HE ((x : Int) - 65536) (hin1)
        clear HE hin1
        have i2 : (((x : Int) / 32768) == 0) = true := by simp; omega
        clear hs hlt hx'
        go_wp2
        exact bodyPost_ret (results_cell_row (fn := Tryz.f86) (by rfl) _ _ w.heap.size 50 _ (0, 0) _ (by rfl) HB2 Tryz.underlying50 rfl sizeV) rfl HV.out
      · have hlt2 : hi ≤ (x : Int) - 65536 := ((sx_2 x HX.out hi hhi).2 hlt).resolve_left hs
        obtain ⟨HST, HB2, HV⟩ := HE _ hin1
        clear HE hin1
        have i2 : (((x : Int) / 32768) == 0) = false := by simp; omega
        clear hs hlt hx'
        go_wp2
        exact bodyPost_ret (results_cell_row (fn := Tryz.f86) (by rfl) _ _ w.heap.size 50 _ (0, 0) _ (by rfl) HB2 Tryz.underlying50 rfl sizeV) rfl HV.out
    · have hs : ¬ x < 32768 := fun hs => hlt ((sx_2 x HX.out hi hhi).1 (.inl hs))
      have hlt2 : ¬ hi ≤ (x : Int) - 65536 := fun hs => hlt ((sx_2 x HX.out hi hhi).1 (.inr hs))
      have i2 : (((x : Int) / 32768) == 0) = false := by simp; omega
      have hy := sy_2 x HX.out hs
      obtain ⟨HST, HB2, HV⟩ := rval_end (R := R) R1 (by rfl) hP hk1 (VAtP.numP _ hin1) hB hg1 (fun _ _ hh => by rw [HR.out, Rs.bind_ok, if_neg hlt]; exact hh) (fun v0 r hv => by rw [HR.out, Rs.bind_ok, if_neg hlt] at hv; cases hv; rw [hy])
      clear hP R1 hk1 hin1 hx0 hs hlt hx' hy
      go_wp2
      exact bodyPost_ret (results_cell_row (fn := Tryz.f86) (by rfl) _ _ w.heap.size 50 _ (0, 0) _ (by rfl) HB2 Tryz.underlying50 rfl sizeV) rfl HV.out
theorem sx_4 (x : Nat) (h : x < 256 ^ 4) (hi : Int) (hh : hi < 0) : (x < 2 ^ (8 * 4 - 1) ∨ hi ≤ (x : Int) - 4294967296) ↔ hi ≤ sext 4 x := by
  have h2 : x < 4294967296 := h
  unfold sext
  simp only [Nat.reduceMul, Nat.reduceSub, Nat.reducePow, Int.reducePow]
  split <;> omega
theorem sy_4 (x : Nat) (h : x < 256 ^ 4) (hx : ¬ x < 2 ^ (8 * 4 - 1)) : (x : Int) - 4294967296 = sext 4 x := by
  have h2 : x < 4294967296 := h
  unfold sext
  rw [if_neg hx]
  simp only [Nat.reduceMul, Nat.reduceSub, Nat.reducePow, Int.reducePow] at hx ⊢
  try omega
set_option maxHeartbeats 1000000 in
theorem rrbelow_4 {α : Type} {B g : Nat} {hi : Int} {L : List UInt8} {w : World} {s : Rs α} (h : RRs B w g L s) (hB : B ≤ w.heap.size) (hhi : hi < 0) (_hin : in64 hi) :
    Calls Tryz.prog 86 #[.pointer (some ⟨g, 0, none⟩), .int .i64 4, .int .i64 hi] w (RValP B g L w (s.bind fun _ r => (signedR 4 hi r).bind fun n r2 => .ok (pNum n) r2)) := by
  have hg1 := h.lt
  have zs := zV_size
  have hO6 := oneC6
  have hb0 : Below w.heap.size w (w.alloc (.cells zV 50)) := (Below.refl _ _).alloc (Nat.le_refl _) _
  have R0 : Blk (w.alloc (.cells zV 50)) w.heap.size 50 zV.toList := Blk.new _ _ _
  have h0 := h.keep hb0
  have hk0 : Dk g g w (w.alloc (.cells zV 50)) := Dk.ofBelow hb0
  have hrd := rrnum_any (n := 4) (lo := 0) h0 (by decide) (by decide) (by decide)
  have HR : Hid ((s.bind fun _ r => (signedR 4 hi r).bind fun n r2 => .ok (pNum n) r2) = (s.bind fun _ r => leastR 4 0 r).bind fun u r => if hi ≤ sext 4 u then .no 4 else .ok (pNum (sext 4 u)) r) := by
    show _ = _
    cases s with
    | no c => rfl
    | ok x r =>
      simp only [Rs.bind_ok, least0]
      unfold signedR
      rw [Rs.bind_bind]
      congr 1; funext u r2
      split <;> rfl
  generalize (s.bind fun _ r => (signedR 4 hi r).bind fun n r2 => .ok (pNum n) r2) = R at *
  generalize (s.bind fun _ r => leastR 4 0 r) = T at *
  go_enter Tryz.func86, Tryz.ntmps86
  go_wp2_with fail
  refine hrd.mono ?_
  rintro ee w1 ⟨x, rfl, hx, hx0, hP, hk⟩
  have HX := Lib.hid hx
  have hx' : x < 4294967296 := hx
  have R1 := hk.blk R0 (by omega) (by omega)
  have hk1 := hk0.trans hk
  have HXB := Lib.hid hx'
  have ex : wrap64 (x : Int) = (x : Int) := wrap64_of x (by omega)
  have ex1 : IntKind.i64.wrap (x : Int) = (x : Int) := IntWalk.i64_in _ (by omega)
  have ex2 : IntKind.i64.wrap ((x : Int) - 4294967296) = (x : Int) - 4294967296 := IntWalk.i64_in _ (by omega)
  have hin1 : in64 ((x : Int) - 4294967296) := by unfold in64; omega
  clear hrd hx hk h0 R0 hk0
  cases T with
  | no cc =>
    obtain ⟨q1, q2⟩ := hP.noC
    have e1 : (cc == 0) = false := by simpa using q2
    obtain ⟨HST, HB2, HV⟩ := rval_end (R := R) R1 (by rfl) hP hk1 (VAtP.numP w1 hin1) hB hg1 (fun _ _ hh => by rw [HR.out]; exact hh) (fun v0 r hv => by rw [HR.out] at hv; cases hv)
    clear hP hk1 R1 hin1 hx0 hx'
    go_wp2
    exact bodyPost_ret (results_cell_row (fn := Tryz.f86) (by rfl) _ _ w.heap.size 50 _ (0, 0) _ (by rfl) HB2 Tryz.underlying50 rfl sizeV) rfl HV.out
  | ok x0 r =>
    obtain rfl := hx0 x0 r rfl
    have q1 := hP.ok0
    by_cases hlt : hi ≤ sext 4 x
    · obtain ⟨hP2, hg2, f2, z, c2⟩ := RRs.fail (β := PV) hP 4 (by decide)
      have hP3 : RRs B _ g L R := hP2.cast (fun _ _ hh => by rw [HR.out, Rs.bind_ok, if_pos hlt]; exact hh)
      have R2 := (Dk.one hg2).blk R1 (by omega) (by omega)
      have HE := fun (z : Int) (hz : in64 z) => rval_end (R := R) R2 (by rfl) hP3 (hk1.trans (Dk.one hg2)) (VAtP.numP _ hz) hB hg1 (fun _ _ hh => hh) (fun v0 r hv => by rw [HR.out, Rs.bind_ok, if_pos hlt] at hv; cases hv)
      clear hP hP2 hP3 hg2 R1 R2 hk1 hx0
      by_cases hs : x < 2147483648
      · have i1 : (x : Int) < 2147483648 := by omega
        obtain ⟨HST, HB2, HV⟩ := HE ((x : Int) - 4294967296) (hin1)
        clear HE hin1
        have i2 : (((x : Int) / 2147483648) == 0) = true := by simp; omega
        clear hs hlt hx'
        go_wp2
        exact bodyPost_ret (results_cell_row (fn := Tryz.f86) (by rfl) _ _ w.heap.size 50 _ (0, 0) _ (by rfl) HB2 Tryz.underlying50 rfl sizeV) rfl HV.out
      · have hlt2 : hi ≤ (x : Int) - 4294967296 := ((sx_4 x HX.out hi hhi).2 hlt).resolve_left hs
        obtain ⟨HST, HB2, HV⟩ := HE _ hin1
        clear HE hin1
        have i2 : (((x : Int) / 2147483648) == 0) = false := by simp; omega
        clear hs hlt hx'
        go_wp2
        exact bodyPost_ret (results_cell_row (fn := Tryz.f86) (by rfl) _ _ w.heap.size 50 _ (0, 0) _ (by rfl) HB2 Tryz.underlying50 rfl sizeV) rfl HV.out
    · have hs : ¬ x < 2147483648 := fun hs => hlt ((sx_4 x HX.out hi hhi).1 (.inl hs))
      have hlt2 : ¬ hi ≤ (x : Int) - 4294967296 := fun hs => hlt ((sx_4 x HX.out hi hhi).1 (.inr hs))
      have i2 : (((x : Int) / 2147483648) == 0) = false := by simp; omega
      have hy := sy_4 x HX.out hs
      obtain ⟨HST, HB2, HV⟩ := rval_end (R := R) R1 (by rfl) hP hk1 (VAtP.numP _ hin1) hB hg1 (fun _ _ hh => by rw [HR.out, Rs.bind_ok, if_neg hlt]; exact hh) (fun v0 r hv => by rw [HR.out, Rs.bind_ok, if_neg hlt] at hv; cases hv; rw [hy])
      clear hP R1 hk1 hin1 hx0 hs hlt hx' hy
      go_wp2
      exact bodyPost_ret (results_cell_row (fn := Tryz.f86) (by rfl) _ _ w.heap.size 50 _ (0, 0) _ (by rfl) HB2 Tryz.underlying50 rfl sizeV) rfl HV.out
theorem sx_8 (x : Nat) (h : x < 256 ^ 8) (hi : Int) (hh : hi < 0) : (x < 2 ^ (8 * 8 - 1) ∨ hi ≤ wrap64 (x : Int)) ↔ hi ≤ sext 8 x := by
  have h2 : x < 18446744073709551616 := h
  unfold sext wrap64
  simp only [Nat.reduceMul, Nat.reduceSub, Nat.reducePow, Int.reducePow]
  split <;> omega
theorem sy_8 (x : Nat) (h : x < 256 ^ 8) (hx : ¬ x < 2 ^ (8 * 8 - 1)) : wrap64 (x : Int) = sext 8 x := by
  have h2 : x < 18446744073709551616 := h
  unfold sext wrap64
  rw [if_neg hx]
  simp only [Nat.reduceMul, Nat.reduceSub, Nat.reducePow, Int.reducePow] at hx ⊢
  try omega
set_option maxHeartbeats 1000000 in
theorem rrbelow_8 {α : Type} {B g : Nat} {hi : Int} {L : List UInt8} {w : World} {s : Rs α} (h : RRs B w g L s) (hB : B ≤ w.heap.size) (hhi : hi < 0) (_hin : in64 hi) :
    Calls Tryz.prog 86 #[.pointer (some ⟨g, 0, none⟩), .int .i64 8, .int .i64 hi] w (RValP B g L w (s.bind fun _ r => (signedR 8 hi r).bind fun n r2 => .ok (pNum n) r2)) := by
  have hg1 := h.lt
  have zs := zV_size
  have hO6 := oneC6
  have hb0 : Below w.heap.size w (w.alloc (.cells zV 50)) := (Below.refl _ _).alloc (Nat.le_refl _) _
  have R0 : Blk (w.alloc (.cells zV 50)) w.heap.size 50 zV.toList := Blk.new _ _ _
  have h0 := h.keep hb0
  have hk0 : Dk g g w (w.alloc (.cells zV 50)) := Dk.ofBelow hb0
  have hrd := rrnum_any (n := 8) (lo := 0) h0 (by decide) (by decide) (by decide)
  have HR : Hid ((s.bind fun _ r => (signedR 8 hi r).bind fun n r2 => .ok (pNum n) r2) = (s.bind fun _ r => leastR 8 0 r).bind fun u r => if hi ≤ sext 8 u then .no 4 else .ok (pNum (sext 8 u)) r) := by
    show _ = _
    cases s with
    | no c => rfl
    | ok x r =>
      simp only [Rs.bind_ok, least0]
      unfold signedR
      rw [Rs.bind_bind]
      congr 1; funext u r2
      split <;> rfl
  generalize (s.bind fun _ r => (signedR 8 hi r).bind fun n r2 => .ok (pNum n) r2) = R at *
  generalize (s.bind fun _ r => leastR 8 0 r) = T at *
  go_enter Tryz.func86, Tryz.ntmps86
  go_wp2_with fail
  refine hrd.mono ?_
  rintro ee w1 ⟨x, rfl, hx, hx0, hP, hk⟩
  have HX := Lib.hid hx
  have hx' : x < 18446744073709551616 := hx
  have R1 := hk.blk R0 (by omega) (by omega)
  have hk1 := hk0.trans hk
  have HXB := Lib.hid hx'
  have hin1 : in64 (wrap64 (x : Int)) := in64_wrap _
  clear hrd hx hk h0 R0 hk0
  cases T with
  | no cc =>
    obtain ⟨q1, q2⟩ := hP.noC
    have e1 : (cc == 0) = false := by simpa using q2
    obtain ⟨HST, HB2, HV⟩ := rval_end (R := R) R1 (by rfl) hP hk1 (VAtP.numP w1 hin1) hB hg1 (fun _ _ hh => by rw [HR.out]; exact hh) (fun v0 r hv => by rw [HR.out] at hv; cases hv)
    clear hP hk1 R1 hin1 hx0 hx'
    go_wp2
    exact bodyPost_ret (results_cell_row (fn := Tryz.f86) (by rfl) _ _ w.heap.size 50 _ (0, 0) _ (by rfl) HB2 Tryz.underlying50 rfl sizeV) rfl HV.out
  | ok x0 r =>
    obtain rfl := hx0 x0 r rfl
    have q1 := hP.ok0
    by_cases hlt : hi ≤ sext 8 x
    · obtain ⟨hP2, hg2, f2, z, c2⟩ := RRs.fail (β := PV) hP 4 (by decide)
      have hP3 : RRs B _ g L R := hP2.cast (fun _ _ hh => by rw [HR.out, Rs.bind_ok, if_pos hlt]; exact hh)
      have R2 := (Dk.one hg2).blk R1 (by omega) (by omega)
      have HE := fun (z : Int) (hz : in64 z) => rval_end (R := R) R2 (by rfl) hP3 (hk1.trans (Dk.one hg2)) (VAtP.numP _ hz) hB hg1 (fun _ _ hh => hh) (fun v0 r hv => by rw [HR.out, Rs.bind_ok, if_pos hlt] at hv; cases hv)
      clear hP hP2 hP3 hg2 R1 R2 hk1 hx0
      by_cases hs : x < 9223372036854775808
      · have i1 : (x : Int) < 9223372036854775808 := by omega
        obtain ⟨HST, HB2, HV⟩ := HE ((x : Int)) (by unfold in64; omega)
        clear HE hin1
        have i2 : (((x : Int) / 9223372036854775808) == 0) = true := by simp; omega
        clear hs hlt hx'
        go_wp2
        exact bodyPost_ret (results_cell_row (fn := Tryz.f86) (by rfl) _ _ w.heap.size 50 _ (0, 0) _ (by rfl) HB2 Tryz.underlying50 rfl sizeV) rfl HV.out
      · have hlt2 : hi ≤ wrap64 (x : Int) := ((sx_8 x HX.out hi hhi).2 hlt).resolve_left hs
        obtain ⟨HST, HB2, HV⟩ := HE _ hin1
        clear HE hin1
        have i2 : (((x : Int) / 9223372036854775808) == 0) = false := by simp; omega
        clear hs hlt hx'
        go_wp2
        exact bodyPost_ret (results_cell_row (fn := Tryz.f86) (by rfl) _ _ w.heap.size 50 _ (0, 0) _ (by rfl) HB2 Tryz.underlying50 rfl sizeV) rfl HV.out
    · have hs : ¬ x < 9223372036854775808 := fun hs => hlt ((sx_8 x HX.out hi hhi).1 (.inl hs))
      have hlt2 : ¬ hi ≤ wrap64 (x : Int) := fun hs => hlt ((sx_8 x HX.out hi hhi).1 (.inr hs))
      have i2 : (((x : Int) / 9223372036854775808) == 0) = false := by simp; omega
      have hy := sy_8 x HX.out hs
      obtain ⟨HST, HB2, HV⟩ := rval_end (R := R) R1 (by rfl) hP hk1 (VAtP.numP _ hin1) hB hg1 (fun _ _ hh => by rw [HR.out, Rs.bind_ok, if_neg hlt]; exact hh) (fun v0 r hv => by rw [HR.out, Rs.bind_ok, if_neg hlt] at hv; cases hv; rw [hy])
      clear hP R1 hk1 hin1 hx0 hs hlt hx' hy
      go_wp2
      exact bodyPost_ret (results_cell_row (fn := Tryz.f86) (by rfl) _ _ w.heap.size 50 _ (0, 0) _ (by rfl) HB2 Tryz.underlying50 rfl sizeV) rfl HV.out
set_option maxHeartbeats 1000000 in
theorem roth_204 {B g : Nat} {L : List UInt8} {w : World} {s : Rs Unit} {D : Int} (h : RRs B w g L s) (hB : B ≤ w.heap.size) :
    Calls Tryz.prog 58 #[.pointer (some ⟨g, 0, none⟩), .int .i64 204, .int .i64 D] w (RValP B g L w (s.bind fun _ r => (intR 204 r).bind fun n r2 => .ok (pNum n) r2)) := by
  have hg1 := h.lt
  have zs := zV_size
  have hO6 := oneC6
  have hb0 : Below w.heap.size w (w.alloc (.cells zV 50)) := (Below.refl _ _).alloc (Nat.le_refl _) _
  have R0 : Blk (w.alloc (.cells zV 50)) w.heap.size 50 zV.toList := Blk.new _ _ _
  have h0 := h.keep hb0
  have hk0 : Dk g g w (w.alloc (.cells zV 50)) := Dk.ofBelow hb0
  have hrd := rrnum_any (n := 1) (lo := 128) h0 (by decide) (by decide) (by decide)
  have HR : Hid ((s.bind fun _ r => (intR 204 r).bind fun n r2 => .ok (pNum n) r2) = (s.bind fun _ r => leastR 1 128 r).bind fun u r => .ok (pNum (u : Int)) r) := by
    show _ = _
    cases s with
    | no c => rfl
    | ok x r =>
      show (intR 204 r).bind _ = _
      show ((leastR 1 128 r).bind _).bind _ = _
      rw [Rs.bind_bind]; rfl
  generalize (s.bind fun _ r => (intR 204 r).bind fun n r2 => .ok (pNum n) r2) = R at *
  generalize (s.bind fun _ r => leastR 1 128 r) = T at *
  go_enter Tryz.func58, Tryz.ntmps58
  go_wp2_with fail
  refine hrd.mono ?_
  rintro ee w1 ⟨x, rfl, hx, hx0, hP, hk⟩
  have hx' : x < 256 := hx
  have ex : wrap64 (x : Int) = (x : Int) := wrap64_of x (by omega)
  have ex1 : IntKind.i64.wrap (x : Int) = (x : Int) := IntWalk.i64_in _ (by omega)
  obtain ⟨HST, HB2, HV⟩ := rval_end (R := R) (hk.blk R0 (by omega) (by omega)) (by rfl) hP (hk0.trans hk) (VAtP.numP w1 (n := (x : Int)) (by unfold in64; omega)) hB hg1 (fun _ _ hh => by rw [HR.out]; cases T <;> exact hh) (fun v0 r hv => by
    rw [HR.out] at hv
    cases T with
    | no c => cases hv
    | ok x0 r0 => cases hv; rw [hx0 _ _ rfl])
  clear hP hk R0 hk0 hx0 hx hx' h0 hrd
  go_wp2
  exact bodyPost_ret (results_cell_row (fn := Tryz.f58) (by rfl) _ _ w.heap.size 50 _ (0, 0) _ (by rfl) HB2 Tryz.underlying50 rfl sizeV) rfl HV.out
set_option maxHeartbeats 1000000 in
theorem roth_205 {B g : Nat} {L : List UInt8} {w : World} {s : Rs Unit} {D : Int} (h : RRs B w g L s) (hB : B ≤ w.heap.size) :
    Calls Tryz.prog 58 #[.pointer (some ⟨g, 0, none⟩), .int .i64 205, .int .i64 D] w (RValP B g L w (s.bind fun _ r => (intR 205 r).bind fun n r2 => .ok (pNum n) r2)) := by
  have hg1 := h.lt
  have zs := zV_size
  have hO6 := oneC6
  have hb0 : Below w.heap.size w (w.alloc (.cells zV 50)) := (Below.refl _ _).alloc (Nat.le_refl _) _
  have R0 : Blk (w.alloc (.cells zV 50)) w.heap.size 50 zV.toList := Blk.new _ _ _
  have h0 := h.keep hb0
  have hk0 : Dk g g w (w.alloc (.cells zV 50)) := Dk.ofBelow hb0
  have hrd := rrnum_any (n := 2) (lo := 256) h0 (by decide) (by decide) (by decide)
  have HR : Hid ((s.bind fun _ r => (intR 205 r).bind fun n r2 => .ok (pNum n) r2) = (s.bind fun _ r => leastR 2 256 r).bind fun u r => .ok (pNum (u : Int)) r) := by
    show _ = _
    cases s with
    | no c => rfl
    | ok x r =>
      show (intR 205 r).bind _ = _
      show ((leastR 2 256 r).bind _).bind _ = _
      rw [Rs.bind_bind]; rfl
  generalize (s.bind fun _ r => (intR 205 r).bind fun n r2 => .ok (pNum n) r2) = R at *
  generalize (s.bind fun _ r => leastR 2 256 r) = T at *
  go_enter Tryz.func58, Tryz.ntmps58
  go_wp2_with fail
  refine hrd.mono ?_
  rintro ee w1 ⟨x, rfl, hx, hx0, hP, hk⟩
  have hx' : x < 65536 := hx
  have ex : wrap64 (x : Int) = (x : Int) := wrap64_of x (by omega)
  have ex1 : IntKind.i64.wrap (x : Int) = (x : Int) := IntWalk.i64_in _ (by omega)
  obtain ⟨HST, HB2, HV⟩ := rval_end (R := R) (hk.blk R0 (by omega) (by omega)) (by rfl) hP (hk0.trans hk) (VAtP.numP w1 (n := (x : Int)) (by unfold in64; omega)) hB hg1 (fun _ _ hh => by rw [HR.out]; cases T <;> exact hh) (fun v0 r hv => by
    rw [HR.out] at hv
    cases T with
    | no c => cases hv
    | ok x0 r0 => cases hv; rw [hx0 _ _ rfl])
  clear hP hk R0 hk0 hx0 hx hx' h0 hrd
  go_wp2
  exact bodyPost_ret (results_cell_row (fn := Tryz.f58) (by rfl) _ _ w.heap.size 50 _ (0, 0) _ (by rfl) HB2 Tryz.underlying50 rfl sizeV) rfl HV.out
set_option maxHeartbeats 1000000 in
theorem roth_206 {B g : Nat} {L : List UInt8} {w : World} {s : Rs Unit} {D : Int} (h : RRs B w g L s) (hB : B ≤ w.heap.size) :
    Calls Tryz.prog 58 #[.pointer (some ⟨g, 0, none⟩), .int .i64 206, .int .i64 D] w (RValP B g L w (s.bind fun _ r => (intR 206 r).bind fun n r2 => .ok (pNum n) r2)) := by
  have hg1 := h.lt
  have zs := zV_size
  have hO6 := oneC6
  have hb0 : Below w.heap.size w (w.alloc (.cells zV 50)) := (Below.refl _ _).alloc (Nat.le_refl _) _
  have R0 : Blk (w.alloc (.cells zV 50)) w.heap.size 50 zV.toList := Blk.new _ _ _
  have h0 := h.keep hb0
  have hk0 : Dk g g w (w.alloc (.cells zV 50)) := Dk.ofBelow hb0
  have hrd := rrnum_any (n := 4) (lo := 65536) h0 (by decide) (by decide) (by decide)
  have HR : Hid ((s.bind fun _ r => (intR 206 r).bind fun n r2 => .ok (pNum n) r2) = (s.bind fun _ r => leastR 4 65536 r).bind fun u r => .ok (pNum (u : Int)) r) := by
    show _ = _
    cases s with
    | no c => rfl
    | ok x r =>
      show (intR 206 r).bind _ = _
      show ((leastR 4 65536 r).bind _).bind _ = _
      rw [Rs.bind_bind]; rfl
  generalize (s.bind fun _ r => (intR 206 r).bind fun n r2 => .ok (pNum n) r2) = R at *
  generalize (s.bind fun _ r => leastR 4 65536 r) = T at *
  go_enter Tryz.func58, Tryz.ntmps58
  go_wp2_with fail
  refine hrd.mono ?_
  rintro ee w1 ⟨x, rfl, hx, hx0, hP, hk⟩
  have hx' : x < 4294967296 := hx
  have ex : wrap64 (x : Int) = (x : Int) := wrap64_of x (by omega)
  have ex1 : IntKind.i64.wrap (x : Int) = (x : Int) := IntWalk.i64_in _ (by omega)
  obtain ⟨HST, HB2, HV⟩ := rval_end (R := R) (hk.blk R0 (by omega) (by omega)) (by rfl) hP (hk0.trans hk) (VAtP.numP w1 (n := (x : Int)) (by unfold in64; omega)) hB hg1 (fun _ _ hh => by rw [HR.out]; cases T <;> exact hh) (fun v0 r hv => by
    rw [HR.out] at hv
    cases T with
    | no c => cases hv
    | ok x0 r0 => cases hv; rw [hx0 _ _ rfl])
  clear hP hk R0 hk0 hx0 hx hx' h0 hrd
  go_wp2
  exact bodyPost_ret (results_cell_row (fn := Tryz.f58) (by rfl) _ _ w.heap.size 50 _ (0, 0) _ (by rfl) HB2 Tryz.underlying50 rfl sizeV) rfl HV.out
set_option maxHeartbeats 1000000 in
theorem roth_207 {B g : Nat} {L : List UInt8} {w : World} {s : Rs Unit} {D : Int} (h : RRs B w g L s) (hB : B ≤ w.heap.size) :
    Calls Tryz.prog 58 #[.pointer (some ⟨g, 0, none⟩), .int .i64 207, .int .i64 D] w (RValP B g L w (s.bind fun _ r => (intR 207 r).bind fun n r2 => .ok (pNum n) r2)) := by
  have hg1 := h.lt
  have zs := zV_size
  have hO6 := oneC6
  have hb0 : Below w.heap.size w (w.alloc (.cells zV 50)) := (Below.refl _ _).alloc (Nat.le_refl _) _
  have R0 : Blk (w.alloc (.cells zV 50)) w.heap.size 50 zV.toList := Blk.new _ _ _
  have h0 := h.keep hb0
  have hk0 : Dk g g w (w.alloc (.cells zV 50)) := Dk.ofBelow hb0
  have hrd := rrnum_any (n := 8) (lo := 4294967296) h0 (by decide) (by decide) (by decide)
  have HR : Hid ((s.bind fun _ r => (intR 207 r).bind fun n r2 => .ok (pNum n) r2) = (s.bind fun _ r => leastR 8 4294967296 r).bind fun u r => if 9223372036854775807 < u then .no 4 else .ok (pNum (u : Int)) r) := by
    show _ = _
    cases s with
    | no c => rfl
    | ok x r =>
      simp only [Rs.bind_ok]
      unfold intR
      rw [if_neg (by decide), if_neg (by decide), if_neg (by decide), if_pos rfl, Rs.bind_bind]
      congr 1; funext u r2
      split <;> rfl
  generalize (s.bind fun _ r => (intR 207 r).bind fun n r2 => .ok (pNum n) r2) = R at *
  generalize (s.bind fun _ r => leastR 8 4294967296 r) = T at *
  go_enter Tryz.func58, Tryz.ntmps58
  go_wp2_with fail
  refine hrd.mono ?_
  rintro ee w1 ⟨x, rfl, hx, hx0, hP, hk⟩
  have hx' : x < 18446744073709551616 := hx
  have R1 := hk.blk R0 (by omega) (by omega)
  have hk1 := hk0.trans hk
  clear hrd hx hk h0 R0 hk0
  cases T with
  | no cc =>
    obtain ⟨q1, q2⟩ := hP.noC
    have e1 : (cc == 0) = false := by simpa using q2
    obtain ⟨HST, HB2, HV⟩ := rval_end (R := R) R1 (by rfl) hP hk1 (VAtP.numP w1 (in64_wrap (x : Int))) hB hg1 (fun _ _ hh => by rw [HR.out]; exact hh) (fun v0 r hv => by rw [HR.out] at hv; cases hv)
    clear hP hk1 R1 hx0 hx'
    go_wp2
    exact bodyPost_ret (results_cell_row (fn := Tryz.f58) (by rfl) _ _ w.heap.size 50 _ (0, 0) _ (by rfl) HB2 Tryz.underlying50 rfl sizeV) rfl HV.out
  | ok x0 r =>
    obtain rfl := hx0 x0 r rfl
    have q1 := hP.ok0
    by_cases hlt : 9223372036854775807 < x
    · have i1 : 9223372036854775808 ≤ (x : Int) := by omega
      obtain ⟨hP2, hg2, f2, z, c2⟩ := RRs.fail (β := PV) hP 4 (by decide)
      have hP3 : RRs B _ g L R := hP2.cast (fun _ _ hh => by rw [HR.out, Rs.bind_ok, if_pos hlt]; exact hh)
      have R2 := (Dk.one hg2).blk R1 (by omega) (by omega)
      obtain ⟨HST, HB2, HV⟩ := rval_end (R := R) R2 (by rfl) hP3 (hk1.trans (Dk.one hg2)) (VAtP.numP _ (in64_wrap (x : Int))) hB hg1 (fun _ _ hh => hh) (fun v0 r hv => by rw [HR.out, Rs.bind_ok, if_pos hlt] at hv; cases hv)
      clear hP hP2 hP3 hg2 R1 R2 hk1 hx0 hlt hx'
      go_wp2
      exact bodyPost_ret (results_cell_row (fn := Tryz.f58) (by rfl) _ _ w.heap.size 50 _ (0, 0) _ (by rfl) HB2 Tryz.underlying50 rfl sizeV) rfl HV.out
    · have i1 : decide ((9223372036854775808 : Int) ≤ (x : Int)) = false := by simp; omega
      have ex := wrap64_of x (by omega)
      obtain ⟨HST, HB2, HV⟩ := rval_end (R := R) R1 (by rfl) hP hk1 (VAtP.numP w1 (in64_wrap (x : Int))) hB hg1 (fun _ _ hh => by rw [HR.out, Rs.bind_ok, if_neg hlt]; exact hh) (fun v0 r hv => by rw [HR.out, Rs.bind_ok, if_neg hlt] at hv; cases hv; rw [ex])
      clear ex
      clear hP R1 hk1 hx0 hlt hx'
      go_wp2
      exact bodyPost_ret (results_cell_row (fn := Tryz.f58) (by rfl) _ _ w.heap.size 50 _ (0, 0) _ (by rfl) HB2 Tryz.underlying50 rfl sizeV) rfl HV.out
set_option maxHeartbeats 1000000 in
theorem roth_208 {B g : Nat} {L : List UInt8} {w : World} {s : Rs Unit} {D : Int} (h : RRs B w g L s) (hB : B ≤ w.heap.size) :
    Calls Tryz.prog 58 #[.pointer (some ⟨g, 0, none⟩), .int .i64 208, .int .i64 D] w (RValP B g L w (s.bind fun _ r => (intR 208 r).bind fun n r2 => .ok (pNum n) r2)) := by
  have hg1 := h.lt
  have zs := zV_size
  have hO6 := oneC6
  have hb0 : Below w.heap.size w (w.alloc (.cells zV 50)) := (Below.refl _ _).alloc (Nat.le_refl _) _
  have R0 : Blk (w.alloc (.cells zV 50)) w.heap.size 50 zV.toList := Blk.new _ _ _
  have h0 := h.keep hb0
  have hk0 : Dk g g w (w.alloc (.cells zV 50)) := Dk.ofBelow hb0
  have hrd := rrbelow_1 (hi := -32) h0 (by simp; omega) (by decide) (by unfold in64; decide)
  have HR : Hid ((s.bind fun _ r => (intR 208 r).bind fun n r2 => .ok (pNum n) r2) = s.bind fun _ r => (signedR 1 (-32) r).bind fun n r2 => .ok (pNum n) r2) := by
    show _ = _
    cases s <;> rfl
  generalize (s.bind fun _ r => (intR 208 r).bind fun n r2 => .ok (pNum n) r2) = R at *
  generalize (s.bind fun _ r => (signedR 1 (-32) r).bind fun n r2 => .ok (pNum n) r2) = T at *
  have HE := HR.out
  subst HE
  go_enter Tryz.func58, Tryz.ntmps58
  go_wp2_with fail
  refine hrd.mono ?_
  rintro ee w1 ⟨cs, v, rfl, hv, hv0, hP, hk⟩
  obtain ⟨HST, HB2, HV⟩ := rval_end (R := R) (hk.blk R0 (by omega) (by omega)) (by rfl) hP (hk0.trans hk) (hv.mono (fun b hb _ => by simpa using hb)) hB hg1 (fun _ _ hh => hh) hv0
  have x6 : (List.toArray cs).size = 6 := hv.len
  clear hP hk R0 hk0 hv0 hv h0 hrd
  go_wp2
  exact bodyPost_ret (results_cell_row (fn := Tryz.f58) (by rfl) _ _ w.heap.size 50 _ (0, 0) _ (by rfl) HB2 Tryz.underlying50 rfl (by rw [x6]; exact sizeV)) rfl HV.out
set_option maxHeartbeats 1000000 in
theorem roth_209 {B g : Nat} {L : List UInt8} {w : World} {s : Rs Unit} {D : Int} (h : RRs B w g L s) (hB : B ≤ w.heap.size) :
    Calls Tryz.prog 58 #[.pointer (some ⟨g, 0, none⟩), .int .i64 209, .int .i64 D] w (RValP B g L w (s.bind fun _ r => (intR 209 r).bind fun n r2 => .ok (pNum n) r2)) := by
  have hg1 := h.lt
  have zs := zV_size
  have hO6 := oneC6
  have hb0 : Below w.heap.size w (w.alloc (.cells zV 50)) := (Below.refl _ _).alloc (Nat.le_refl _) _
  have R0 : Blk (w.alloc (.cells zV 50)) w.heap.size 50 zV.toList := Blk.new _ _ _
  have h0 := h.keep hb0
  have hk0 : Dk g g w (w.alloc (.cells zV 50)) := Dk.ofBelow hb0
  have hrd := rrbelow_2 (hi := -128) h0 (by simp; omega) (by decide) (by unfold in64; decide)
  have HR : Hid ((s.bind fun _ r => (intR 209 r).bind fun n r2 => .ok (pNum n) r2) = s.bind fun _ r => (signedR 2 (-128) r).bind fun n r2 => .ok (pNum n) r2) := by
    show _ = _
    cases s <;> rfl
  generalize (s.bind fun _ r => (intR 209 r).bind fun n r2 => .ok (pNum n) r2) = R at *
  generalize (s.bind fun _ r => (signedR 2 (-128) r).bind fun n r2 => .ok (pNum n) r2) = T at *
  have HE := HR.out
  subst HE
  go_enter Tryz.func58, Tryz.ntmps58
  go_wp2_with fail
  refine hrd.mono ?_
  rintro ee w1 ⟨cs, v, rfl, hv, hv0, hP, hk⟩
  obtain ⟨HST, HB2, HV⟩ := rval_end (R := R) (hk.blk R0 (by omega) (by omega)) (by rfl) hP (hk0.trans hk) (hv.mono (fun b hb _ => by simpa using hb)) hB hg1 (fun _ _ hh => hh) hv0
  have x6 : (List.toArray cs).size = 6 := hv.len
  clear hP hk R0 hk0 hv0 hv h0 hrd
  go_wp2
  exact bodyPost_ret (results_cell_row (fn := Tryz.f58) (by rfl) _ _ w.heap.size 50 _ (0, 0) _ (by rfl) HB2 Tryz.underlying50 rfl (by rw [x6]; exact sizeV)) rfl HV.out
set_option maxHeartbeats 1000000 in
theorem roth_210 {B g : Nat} {L : List UInt8} {w : World} {s : Rs Unit} {D : Int} (h : RRs B w g L s) (hB : B ≤ w.heap.size) :
    Calls Tryz.prog 58 #[.pointer (some ⟨g, 0, none⟩), .int .i64 210, .int .i64 D] w (RValP B g L w (s.bind fun _ r => (intR 210 r).bind fun n r2 => .ok (pNum n) r2)) := by
  have hg1 := h.lt
  have zs := zV_size
  have hO6 := oneC6
  have hb0 : Below w.heap.size w (w.alloc (.cells zV 50)) := (Below.refl _ _).alloc (Nat.le_refl _) _
  have R0 : Blk (w.alloc (.cells zV 50)) w.heap.size 50 zV.toList := Blk.new _ _ _
  have h0 := h.keep hb0
  have hk0 : Dk g g w (w.alloc (.cells zV 50)) := Dk.ofBelow hb0
  have hrd := rrbelow_4 (hi := -32768) h0 (by simp; omega) (by decide) (by unfold in64; decide)
  have HR : Hid ((s.bind fun _ r => (intR 210 r).bind fun n r2 => .ok (pNum n) r2) = s.bind fun _ r => (signedR 4 (-32768) r).bind fun n r2 => .ok (pNum n) r2) := by
    show _ = _
    cases s <;> rfl
  generalize (s.bind fun _ r => (intR 210 r).bind fun n r2 => .ok (pNum n) r2) = R at *
  generalize (s.bind fun _ r => (signedR 4 (-32768) r).bind fun n r2 => .ok (pNum n) r2) = T at *
  have HE := HR.out
  subst HE
  go_enter Tryz.func58, Tryz.ntmps58
  go_wp2_with fail
  refine hrd.mono ?_
  rintro ee w1 ⟨cs, v, rfl, hv, hv0, hP, hk⟩
  obtain ⟨HST, HB2, HV⟩ := rval_end (R := R) (hk.blk R0 (by omega) (by omega)) (by rfl) hP (hk0.trans hk) (hv.mono (fun b hb _ => by simpa using hb)) hB hg1 (fun _ _ hh => hh) hv0
  have x6 : (List.toArray cs).size = 6 := hv.len
  clear hP hk R0 hk0 hv0 hv h0 hrd
  go_wp2
  exact bodyPost_ret (results_cell_row (fn := Tryz.f58) (by rfl) _ _ w.heap.size 50 _ (0, 0) _ (by rfl) HB2 Tryz.underlying50 rfl (by rw [x6]; exact sizeV)) rfl HV.out
set_option maxHeartbeats 1000000 in
theorem roth_211 {B g : Nat} {L : List UInt8} {w : World} {s : Rs Unit} {D : Int} (h : RRs B w g L s) (hB : B ≤ w.heap.size) :
    Calls Tryz.prog 58 #[.pointer (some ⟨g, 0, none⟩), .int .i64 211, .int .i64 D] w (RValP B g L w (s.bind fun _ r => (intR 211 r).bind fun n r2 => .ok (pNum n) r2)) := by
  have hg1 := h.lt
  have zs := zV_size
  have hO6 := oneC6
  have hb0 : Below w.heap.size w (w.alloc (.cells zV 50)) := (Below.refl _ _).alloc (Nat.le_refl _) _
  have R0 : Blk (w.alloc (.cells zV 50)) w.heap.size 50 zV.toList := Blk.new _ _ _
  have h0 := h.keep hb0
  have hk0 : Dk g g w (w.alloc (.cells zV 50)) := Dk.ofBelow hb0
  have hrd := rrbelow_8 (hi := -2147483648) h0 (by simp; omega) (by decide) (by unfold in64; decide)
  have HR : Hid ((s.bind fun _ r => (intR 211 r).bind fun n r2 => .ok (pNum n) r2) = s.bind fun _ r => (signedR 8 (-2147483648) r).bind fun n r2 => .ok (pNum n) r2) := by
    show _ = _
    cases s <;> rfl
  generalize (s.bind fun _ r => (intR 211 r).bind fun n r2 => .ok (pNum n) r2) = R at *
  generalize (s.bind fun _ r => (signedR 8 (-2147483648) r).bind fun n r2 => .ok (pNum n) r2) = T at *
  have HE := HR.out
  subst HE
  go_enter Tryz.func58, Tryz.ntmps58
  go_wp2_with fail
  refine hrd.mono ?_
  rintro ee w1 ⟨cs, v, rfl, hv, hv0, hP, hk⟩
  obtain ⟨HST, HB2, HV⟩ := rval_end (R := R) (hk.blk R0 (by omega) (by omega)) (by rfl) hP (hk0.trans hk) (hv.mono (fun b hb _ => by simpa using hb)) hB hg1 (fun _ _ hh => hh) hv0
  have x6 : (List.toArray cs).size = 6 := hv.len
  clear hP hk R0 hk0 hv0 hv h0 hrd
  go_wp2
  exact bodyPost_ret (results_cell_row (fn := Tryz.f58) (by rfl) _ _ w.heap.size 50 _ (0, 0) _ (by rfl) HB2 Tryz.underlying50 rfl (by rw [x6]; exact sizeV)) rfl HV.out
set_option maxHeartbeats 1000000 in
theorem roth_192 {B g : Nat} {L : List UInt8} {w : World} {s : Rs Unit} {D : Int} (h : RRs B w g L s) (hB : B ≤ w.heap.size) :
    Calls Tryz.prog 58 #[.pointer (some ⟨g, 0, none⟩), .int .i64 192, .int .i64 D] w (RValP B g L w (s.bind fun _ r => .ok (pKind 0) r)) := by
  have hg1 := h.lt
  have zs := zV_size
  have hO6 := oneC6
  have hb0 : Below w.heap.size w (w.alloc (.cells zV 50)) := (Below.refl _ _).alloc (Nat.le_refl _) _
  have R0 : Blk (w.alloc (.cells zV 50)) w.heap.size 50 zV.toList := Blk.new _ _ _
  have h0 := h.keep hb0
  have hk0 : Dk g g w (w.alloc (.cells zV 50)) := Dk.ofBelow hb0
  have hb1 : Below w.heap.size w (w.alloc (.cells (List.toArray (α := Value) [.int .i64 0, .int .i64 0, .slice none 0 0, .string { data := #[] }, .slice none 0 0, .slice none 0 0]) 50)) := (Below.refl _ _).alloc (Nat.le_refl _) _
  have HB2 : Blk (w.alloc (.cells (List.toArray (α := Value) [.int .i64 0, .int .i64 0, .slice none 0 0, .string { data := #[] }, .slice none 0 0, .slice none 0 0]) 50)) w.heap.size 50 [.int .i64 0, .int .i64 0, .slice none 0 0, .string { data := #[] }, .slice none 0 0, .slice none 0 0] := Blk.new _ _ _
  have HV : Hid (RValP B g L w (s.bind fun _ r => .ok (pKind 0) r) (.returned (.agg (List.toArray (α := Value) [.int .i64 0, .int .i64 0, .slice none 0 0, .string { data := #[] }, .slice none 0 0, .slice none 0 0]))) (w.alloc (.cells (List.toArray (α := Value) [.int .i64 0, .int .i64 0, .slice none 0 0, .string { data := #[] }, .slice none 0 0, .slice none 0 0]) 50))) := by
    show RValP _ _ _ _ _ _ _
    exact ⟨_, _, rfl, VAtP.plain (k := 0) (n := 0) (t := []) _ (by unfold in64; omega) (by unfold in64; omega) (Nat.zero_le _), (fun v0 r hv => by cases s <;> cases hv; rfl), (h.keep hb1).cast (fun _ _ hh => by cases s <;> exact hh), Dk.ofBelow hb1⟩
  clear h0 hk0 R0 hb0 hb1 h hB
  go_enter Tryz.func58, Tryz.ntmps58
  go_wp2
  exact bodyPost_ret (results_cell_row (fn := Tryz.f58) (by rfl) _ _ w.heap.size 50 _ (0, 0) _ (by rfl) HB2 Tryz.underlying50 rfl sizeV) rfl HV.out
set_option maxHeartbeats 1000000 in
theorem roth_194 {B g : Nat} {L : List UInt8} {w : World} {s : Rs Unit} {D : Int} (h : RRs B w g L s) (hB : B ≤ w.heap.size) :
    Calls Tryz.prog 58 #[.pointer (some ⟨g, 0, none⟩), .int .i64 194, .int .i64 D] w (RValP B g L w (s.bind fun _ r => .ok (pKind 1) r)) := by
  have hg1 := h.lt
  have zs := zV_size
  have hO6 := oneC6
  have hb0 : Below w.heap.size w (w.alloc (.cells zV 50)) := (Below.refl _ _).alloc (Nat.le_refl _) _
  have R0 : Blk (w.alloc (.cells zV 50)) w.heap.size 50 zV.toList := Blk.new _ _ _
  have h0 := h.keep hb0
  have hk0 : Dk g g w (w.alloc (.cells zV 50)) := Dk.ofBelow hb0
  have hb1 : Below w.heap.size w (w.alloc (.cells (List.toArray (α := Value) [.int .i64 1, .int .i64 0, .slice none 0 0, .string { data := #[] }, .slice none 0 0, .slice none 0 0]) 50)) := (Below.refl _ _).alloc (Nat.le_refl _) _
  have HB2 : Blk (w.alloc (.cells (List.toArray (α := Value) [.int .i64 1, .int .i64 0, .slice none 0 0, .string { data := #[] }, .slice none 0 0, .slice none 0 0]) 50)) w.heap.size 50 [.int .i64 1, .int .i64 0, .slice none 0 0, .string { data := #[] }, .slice none 0 0, .slice none 0 0] := Blk.new _ _ _
  have HV : Hid (RValP B g L w (s.bind fun _ r => .ok (pKind 1) r) (.returned (.agg (List.toArray (α := Value) [.int .i64 1, .int .i64 0, .slice none 0 0, .string { data := #[] }, .slice none 0 0, .slice none 0 0]))) (w.alloc (.cells (List.toArray (α := Value) [.int .i64 1, .int .i64 0, .slice none 0 0, .string { data := #[] }, .slice none 0 0, .slice none 0 0]) 50))) := by
    show RValP _ _ _ _ _ _ _
    exact ⟨_, _, rfl, VAtP.plain (k := 1) (n := 0) (t := []) _ (by unfold in64; omega) (by unfold in64; omega) (Nat.zero_le _), (fun v0 r hv => by cases s <;> cases hv; rfl), (h.keep hb1).cast (fun _ _ hh => by cases s <;> exact hh), Dk.ofBelow hb1⟩
  clear h0 hk0 R0 hb0 hb1 h hB
  go_enter Tryz.func58, Tryz.ntmps58
  go_wp2
  exact bodyPost_ret (results_cell_row (fn := Tryz.f58) (by rfl) _ _ w.heap.size 50 _ (0, 0) _ (by rfl) HB2 Tryz.underlying50 rfl sizeV) rfl HV.out
set_option maxHeartbeats 1000000 in
theorem roth_195 {B g : Nat} {L : List UInt8} {w : World} {s : Rs Unit} {D : Int} (h : RRs B w g L s) (hB : B ≤ w.heap.size) :
    Calls Tryz.prog 58 #[.pointer (some ⟨g, 0, none⟩), .int .i64 195, .int .i64 D] w (RValP B g L w (s.bind fun _ r => .ok (pKind 2) r)) := by
  have hg1 := h.lt
  have zs := zV_size
  have hO6 := oneC6
  have hb0 : Below w.heap.size w (w.alloc (.cells zV 50)) := (Below.refl _ _).alloc (Nat.le_refl _) _
  have R0 : Blk (w.alloc (.cells zV 50)) w.heap.size 50 zV.toList := Blk.new _ _ _
  have h0 := h.keep hb0
  have hk0 : Dk g g w (w.alloc (.cells zV 50)) := Dk.ofBelow hb0
  have hb1 : Below w.heap.size w (w.alloc (.cells (List.toArray (α := Value) [.int .i64 2, .int .i64 0, .slice none 0 0, .string { data := #[] }, .slice none 0 0, .slice none 0 0]) 50)) := (Below.refl _ _).alloc (Nat.le_refl _) _
  have HB2 : Blk (w.alloc (.cells (List.toArray (α := Value) [.int .i64 2, .int .i64 0, .slice none 0 0, .string { data := #[] }, .slice none 0 0, .slice none 0 0]) 50)) w.heap.size 50 [.int .i64 2, .int .i64 0, .slice none 0 0, .string { data := #[] }, .slice none 0 0, .slice none 0 0] := Blk.new _ _ _
  have HV : Hid (RValP B g L w (s.bind fun _ r => .ok (pKind 2) r) (.returned (.agg (List.toArray (α := Value) [.int .i64 2, .int .i64 0, .slice none 0 0, .string { data := #[] }, .slice none 0 0, .slice none 0 0]))) (w.alloc (.cells (List.toArray (α := Value) [.int .i64 2, .int .i64 0, .slice none 0 0, .string { data := #[] }, .slice none 0 0, .slice none 0 0]) 50))) := by
    show RValP _ _ _ _ _ _ _
    exact ⟨_, _, rfl, VAtP.plain (k := 2) (n := 0) (t := []) _ (by unfold in64; omega) (by unfold in64; omega) (Nat.zero_le _), (fun v0 r hv => by cases s <;> cases hv; rfl), (h.keep hb1).cast (fun _ _ hh => by cases s <;> exact hh), Dk.ofBelow hb1⟩
  clear h0 hk0 R0 hb0 hb1 h hB
  go_enter Tryz.func58, Tryz.ntmps58
  go_wp2
  exact bodyPost_ret (results_cell_row (fn := Tryz.f58) (by rfl) _ _ w.heap.size 50 _ (0, 0) _ (by rfl) HB2 Tryz.underlying50 rfl sizeV) rfl HV.out
set_option maxHeartbeats 1000000 in
theorem roth_196 {B g : Nat} {L : List UInt8} {w : World} {s : Rs Unit} {D : Int} (h : RRs B w g L s) (hB : B ≤ w.heap.size) :
    Calls Tryz.prog 58 #[.pointer (some ⟨g, 0, none⟩), .int .i64 196, .int .i64 D] w (RValP B g L w (s.bind fun _ r => ((leastR 1 0 r).bind takeR).bind fun t r2 => .ok (pByt t) r2)) := by
  have hg1 := h.lt
  have zs := zV_size
  have hO6 := oneC6
  have hb0 : Below w.heap.size w (w.alloc (.cells zV 50)) := (Below.refl _ _).alloc (Nat.le_refl _) _
  have R0 : Blk (w.alloc (.cells zV 50)) w.heap.size 50 zV.toList := Blk.new _ _ _
  have h0 := h.keep hb0
  have hk0 : Dk g g w (w.alloc (.cells zV 50)) := Dk.ofBelow hb0
  have hrd := rrnum_any (n := 1) (lo := 0) h0 (by decide) (by decide) (by decide)
  have HR : Hid ((s.bind fun _ r => ((leastR 1 0 r).bind takeR).bind fun t r2 => .ok (pByt t) r2) = ((s.bind fun _ r => leastR 1 0 r).bind takeR).bind fun t r2 => .ok (pByt t) r2) := by
    show _ = _
    cases s <;> rfl
  generalize (s.bind fun _ r => ((leastR 1 0 r).bind takeR).bind fun t r2 => .ok (pByt t) r2) = R at *
  generalize (s.bind fun _ r => leastR 1 0 r) = T at *
  go_enter Tryz.func58, Tryz.ntmps58
  go_wp2_with fail
  refine hrd.mono ?_
  rintro ee w1 ⟨x, rfl, hx, hx0, hP, hk⟩
  have hx' : x < 256 := hx
  have ex1 : IntKind.i64.wrap (x : Int) = (x : Int) := IntWalk.i64_in _ (by omega)
  have htk := rtake_any (n := x) hP (by omega)
  have HT2 : Hid ((T.bind fun _ r => takeR x r) = T.bind takeR) := by
    show _ = _
    cases T with
    | no c => rfl
    | ok x0 r => rw [Rs.bind_ok, Rs.bind_ok, hx0 _ _ rfl]
  rw [HT2.out] at htk
  generalize T.bind takeR = T2 at *
  have R1 := hk.blk R0 (by omega) (by omega)
  have hk1 := hk0.trans hk
  have HXB := Lib.hid hx'
  clear hrd hx hx0 hP hk h0 R0 hk0 HT2 hx'
  go_wp2_with fail
  refine htk.mono ?_
  rintro ee w2 ⟨a, c, t, rfl, ⟨hc, hm⟩, hrow, ht, _, htl, hP2, hk2⟩
  have R2 := hk2.blk R1 (by omega) (by omega)
  have hk3 := hk1.trans hk2
  clear htk R1 hk1 hk2
  have hcp := copy_any a t.length c t w2 rfl hrow (by have := HXB.out; omega)
  clear hrow
  go_wp2_with fail
  refine hcp.mono ?_
  rintro ee w3 ⟨v, rfl, hfr⟩
  obtain ⟨a3, c3, rfl, hr3, hb3, hm3, hc3⟩ := fresh_open hfr
  have hat : 0 < t.length → w.heap.size + 1 ≤ (hd a3).block := fun h => by have := (fresh_at hfr h).1; have := hk3.size; have := R2.lt; have := hk3.size; omega
  have hv : VAtP (fun b => w.heap.size + 1 ≤ b) w3 [.int .i64 4, .int .i64 0, .slice a3 t.length c3, .string { data := #[] }, .slice none 0 0, .slice none 0 0] (pByt t) := VAtP.byt ⟨hc3, hm3⟩ hr3 hat
  obtain ⟨HST, HB2, HV⟩ := rval_end (R := R) (R2.below hb3) (by rfl) (hP2.keep hb3) (hk3.trans (Dk.ofBelow hb3)) hv hB hg1 (fun _ _ hh => by rw [HR.out]; cases T2 <;> exact hh) (fun v0 r hv => by
    rw [HR.out] at hv
    cases T2 with
    | no c => cases hv
    | ok x0 r0 => cases hv; rw [ht _ _ rfl])
  clear R2 hP2 hk3 ht htl hc hm hr3 hb3 hat hv hfr hcp hm3 hc3
  go_wp2
  exact bodyPost_ret (results_cell_row (fn := Tryz.f58) (by rfl) _ _ w.heap.size 50 _ (0, 0) _ (by rfl) HB2 Tryz.underlying50 rfl sizeV) rfl HV.out
set_option maxHeartbeats 1000000 in
theorem roth_197 {B g : Nat} {L : List UInt8} {w : World} {s : Rs Unit} {D : Int} (h : RRs B w g L s) (hB : B ≤ w.heap.size) :
    Calls Tryz.prog 58 #[.pointer (some ⟨g, 0, none⟩), .int .i64 197, .int .i64 D] w (RValP B g L w (s.bind fun _ r => ((leastR 2 256 r).bind takeR).bind fun t r2 => .ok (pByt t) r2)) := by
  have hg1 := h.lt
  have zs := zV_size
  have hO6 := oneC6
  have hb0 : Below w.heap.size w (w.alloc (.cells zV 50)) := (Below.refl _ _).alloc (Nat.le_refl _) _
  have R0 : Blk (w.alloc (.cells zV 50)) w.heap.size 50 zV.toList := Blk.new _ _ _
  have h0 := h.keep hb0
  have hk0 : Dk g g w (w.alloc (.cells zV 50)) := Dk.ofBelow hb0
  have hrd := rrnum_any (n := 2) (lo := 256) h0 (by decide) (by decide) (by decide)
  have HR : Hid ((s.bind fun _ r => ((leastR 2 256 r).bind takeR).bind fun t r2 => .ok (pByt t) r2) = ((s.bind fun _ r => leastR 2 256 r).bind takeR).bind fun t r2 => .ok (pByt t) r2) := by
    show _ = _
    cases s <;> rfl
  generalize (s.bind fun _ r => ((leastR 2 256 r).bind takeR).bind fun t r2 => .ok (pByt t) r2) = R at *
  generalize (s.bind fun _ r => leastR 2 256 r) = T at *
  go_enter Tryz.func58, Tryz.ntmps58
  go_wp2_with fail
  refine hrd.mono ?_
  rintro ee w1 ⟨x, rfl, hx, hx0, hP, hk⟩
  have hx' : x < 65536 := hx
  have ex1 : IntKind.i64.wrap (x : Int) = (x : Int) := IntWalk.i64_in _ (by omega)
  have htk := rtake_any (n := x) hP (by omega)
  have HT2 : Hid ((T.bind fun _ r => takeR x r) = T.bind takeR) := by
    show _ = _
    cases T with
    | no c => rfl
    | ok x0 r => rw [Rs.bind_ok, Rs.bind_ok, hx0 _ _ rfl]
  rw [HT2.out] at htk
  generalize T.bind takeR = T2 at *
  have R1 := hk.blk R0 (by omega) (by omega)
  have hk1 := hk0.trans hk
  have HXB := Lib.hid hx'
  clear hrd hx hx0 hP hk h0 R0 hk0 HT2 hx'
  go_wp2_with fail
  refine htk.mono ?_
  rintro ee w2 ⟨a, c, t, rfl, ⟨hc, hm⟩, hrow, ht, _, htl, hP2, hk2⟩
  have R2 := hk2.blk R1 (by omega) (by omega)
  have hk3 := hk1.trans hk2
  clear htk R1 hk1 hk2
  have hcp := copy_any a t.length c t w2 rfl hrow (by have := HXB.out; omega)
  clear hrow
  go_wp2_with fail
  refine hcp.mono ?_
  rintro ee w3 ⟨v, rfl, hfr⟩
  obtain ⟨a3, c3, rfl, hr3, hb3, hm3, hc3⟩ := fresh_open hfr
  have hat : 0 < t.length → w.heap.size + 1 ≤ (hd a3).block := fun h => by have := (fresh_at hfr h).1; have := hk3.size; have := R2.lt; have := hk3.size; omega
  have hv : VAtP (fun b => w.heap.size + 1 ≤ b) w3 [.int .i64 4, .int .i64 0, .slice a3 t.length c3, .string { data := #[] }, .slice none 0 0, .slice none 0 0] (pByt t) := VAtP.byt ⟨hc3, hm3⟩ hr3 hat
  obtain ⟨HST, HB2, HV⟩ := rval_end (R := R) (R2.below hb3) (by rfl) (hP2.keep hb3) (hk3.trans (Dk.ofBelow hb3)) hv hB hg1 (fun _ _ hh => by rw [HR.out]; cases T2 <;> exact hh) (fun v0 r hv => by
    rw [HR.out] at hv
    cases T2 with
    | no c => cases hv
    | ok x0 r0 => cases hv; rw [ht _ _ rfl])
  clear R2 hP2 hk3 ht htl hc hm hr3 hb3 hat hv hfr hcp hm3 hc3
  go_wp2
  exact bodyPost_ret (results_cell_row (fn := Tryz.f58) (by rfl) _ _ w.heap.size 50 _ (0, 0) _ (by rfl) HB2 Tryz.underlying50 rfl sizeV) rfl HV.out
set_option maxHeartbeats 1000000 in
theorem roth_217 {B g : Nat} {L : List UInt8} {w : World} {s : Rs Unit} {D : Int} (h : RRs B w g L s) (hB : B ≤ w.heap.size) :
    Calls Tryz.prog 58 #[.pointer (some ⟨g, 0, none⟩), .int .i64 217, .int .i64 D] w (RValP B g L w (s.bind fun _ r => ((leastR 1 32 r).bind takeR).bind fun t r2 => .ok (pTxt t) r2)) := by
  have hg1 := h.lt
  have zs := zV_size
  have hO6 := oneC6
  have hb0 : Below w.heap.size w (w.alloc (.cells zV 50)) := (Below.refl _ _).alloc (Nat.le_refl _) _
  have R0 : Blk (w.alloc (.cells zV 50)) w.heap.size 50 zV.toList := Blk.new _ _ _
  have h0 := h.keep hb0
  have hk0 : Dk g g w (w.alloc (.cells zV 50)) := Dk.ofBelow hb0
  have hrd := rrnum_any (n := 1) (lo := 32) h0 (by decide) (by decide) (by decide)
  have HR : Hid ((s.bind fun _ r => ((leastR 1 32 r).bind takeR).bind fun t r2 => .ok (pTxt t) r2) = ((s.bind fun _ r => leastR 1 32 r).bind takeR).bind fun t r2 => .ok (pTxt t) r2) := by
    show _ = _
    cases s <;> rfl
  generalize (s.bind fun _ r => ((leastR 1 32 r).bind takeR).bind fun t r2 => .ok (pTxt t) r2) = R at *
  generalize (s.bind fun _ r => leastR 1 32 r) = T at *
  go_enter Tryz.func58, Tryz.ntmps58
  go_wp2_with fail
  refine hrd.mono ?_
  rintro ee w1 ⟨x, rfl, hx, hx0, hP, hk⟩
  have hx' : x < 256 := hx
  have ex1 : IntKind.i64.wrap (x : Int) = (x : Int) := IntWalk.i64_in _ (by omega)
  have htk := rtake_any (n := x) hP (by omega)
  have HT2 : Hid ((T.bind fun _ r => takeR x r) = T.bind takeR) := by
    show _ = _
    cases T with
    | no c => rfl
    | ok x0 r => rw [Rs.bind_ok, Rs.bind_ok, hx0 _ _ rfl]
  rw [HT2.out] at htk
  generalize T.bind takeR = T2 at *
  have R1 := hk.blk R0 (by omega) (by omega)
  have hk1 := hk0.trans hk
  have HXB := Lib.hid hx'
  clear hrd hx hx0 hP hk h0 R0 hk0 HT2 hx'
  go_wp2_with fail
  refine htk.mono ?_
  rintro ee w2 ⟨a, c, t, rfl, ⟨hc, hm⟩, hrow, ht, _, htl, hP2, hk2⟩
  have R2 := hk2.blk R1 (by omega) (by omega)
  have hk3 := hk1.trans hk2
  clear htk R1 hk1 hk2
  have hcv := run_convert_row (P := Tryz.prog) (src := 22) (e := 5) (dst := 9) (c := c) eB.ht Tryz.underlying5 Tryz.underlying9 rfl hrow
  obtain ⟨HST, HB2, HV⟩ := rval_end (R := R) R2 (by rfl) hP2 hk3 (VAtP.plain (k := 5) (n := 0) (t := t) w2 (by unfold in64; omega) (by unfold in64; omega) (by have := HXB.out; unfold maxLen; omega)) hB hg1 (fun _ _ hh => by rw [HR.out]; cases T2 <;> exact hh) (fun v0 r hv => by
    rw [HR.out] at hv
    cases T2 with
    | no c => cases hv
    | ok x0 r0 => cases hv; rw [ht _ _ rfl]; rfl)
  clear R2 hP2 hk3 hrow ht htl hc hm
  go_wp2
  exact bodyPost_ret (results_cell_row (fn := Tryz.f58) (by rfl) _ _ w.heap.size 50 _ (0, 0) _ (by rfl) HB2 Tryz.underlying50 rfl sizeV) rfl HV.out
set_option maxHeartbeats 1000000 in
theorem roth_218 {B g : Nat} {L : List UInt8} {w : World} {s : Rs Unit} {D : Int} (h : RRs B w g L s) (hB : B ≤ w.heap.size) :
    Calls Tryz.prog 58 #[.pointer (some ⟨g, 0, none⟩), .int .i64 218, .int .i64 D] w (RValP B g L w (s.bind fun _ r => ((leastR 2 256 r).bind takeR).bind fun t r2 => .ok (pTxt t) r2)) := by
  have hg1 := h.lt
  have zs := zV_size
  have hO6 := oneC6
  have hb0 : Below w.heap.size w (w.alloc (.cells zV 50)) := (Below.refl _ _).alloc (Nat.le_refl _) _
  have R0 : Blk (w.alloc (.cells zV 50)) w.heap.size 50 zV.toList := Blk.new _ _ _
  have h0 := h.keep hb0
  have hk0 : Dk g g w (w.alloc (.cells zV 50)) := Dk.ofBelow hb0
  have hrd := rrnum_any (n := 2) (lo := 256) h0 (by decide) (by decide) (by decide)
  have HR : Hid ((s.bind fun _ r => ((leastR 2 256 r).bind takeR).bind fun t r2 => .ok (pTxt t) r2) = ((s.bind fun _ r => leastR 2 256 r).bind takeR).bind fun t r2 => .ok (pTxt t) r2) := by
    show _ = _
    cases s <;> rfl
  generalize (s.bind fun _ r => ((leastR 2 256 r).bind takeR).bind fun t r2 => .ok (pTxt t) r2) = R at *
  generalize (s.bind fun _ r => leastR 2 256 r) = T at *
  go_enter Tryz.func58, Tryz.ntmps58
  go_wp2_with fail
  refine hrd.mono ?_
  rintro ee w1 ⟨x, rfl, hx, hx0, hP, hk⟩
  have hx' : x < 65536 := hx
  have ex1 : IntKind.i64.wrap (x : Int) = (x : Int) := IntWalk.i64_in _ (by omega)
  have htk := rtake_any (n := x) hP (by omega)
  have HT2 : Hid ((T.bind fun _ r => takeR x r) = T.bind takeR) := by
    show _ = _
    cases T with
    | no c => rfl
    | ok x0 r => rw [Rs.bind_ok, Rs.bind_ok, hx0 _ _ rfl]
  rw [HT2.out] at htk
  generalize T.bind takeR = T2 at *
  have R1 := hk.blk R0 (by omega) (by omega)
  have hk1 := hk0.trans hk
  have HXB := Lib.hid hx'
  clear hrd hx hx0 hP hk h0 R0 hk0 HT2 hx'
  go_wp2_with fail
  refine htk.mono ?_
  rintro ee w2 ⟨a, c, t, rfl, ⟨hc, hm⟩, hrow, ht, _, htl, hP2, hk2⟩
  have R2 := hk2.blk R1 (by omega) (by omega)
  have hk3 := hk1.trans hk2
  clear htk R1 hk1 hk2
  have hcv := run_convert_row (P := Tryz.prog) (src := 22) (e := 5) (dst := 9) (c := c) eB.ht Tryz.underlying5 Tryz.underlying9 rfl hrow
  obtain ⟨HST, HB2, HV⟩ := rval_end (R := R) R2 (by rfl) hP2 hk3 (VAtP.plain (k := 5) (n := 0) (t := t) w2 (by unfold in64; omega) (by unfold in64; omega) (by have := HXB.out; unfold maxLen; omega)) hB hg1 (fun _ _ hh => by rw [HR.out]; cases T2 <;> exact hh) (fun v0 r hv => by
    rw [HR.out] at hv
    cases T2 with
    | no c => cases hv
    | ok x0 r0 => cases hv; rw [ht _ _ rfl]; rfl)
  clear R2 hP2 hk3 hrow ht htl hc hm
  go_wp2
  exact bodyPost_ret (results_cell_row (fn := Tryz.f58) (by rfl) _ _ w.heap.size 50 _ (0, 0) _ (by rfl) HB2 Tryz.underlying50 rfl sizeV) rfl HV.out
set_option maxHeartbeats 1000000 in
theorem roth_no {B g c : Nat} {L r : List UInt8} {w : World} {D : Int} (n192 : ((c : Int) == 192) = false) (n194 : ((c : Int) == 194) = false) (n195 : ((c : Int) == 195) = false) (n196 : ((c : Int) == 196) = false) (n197 : ((c : Int) == 197) = false) (n204 : ((c : Int) == 204) = false) (n205 : ((c : Int) == 205) = false) (n206 : ((c : Int) == 206) = false) (n207 : ((c : Int) == 207) = false) (n208 : ((c : Int) == 208) = false) (n209 : ((c : Int) == 209) = false) (n210 : ((c : Int) == 210) = false) (n211 : ((c : Int) == 211) = false) (n217 : ((c : Int) == 217) = false) (n218 : ((c : Int) == 218) = false) (n220 : ((c : Int) == 220) = false) (n222 : ((c : Int) == 222) = false) (h : RRs B w g L (.ok () r)) (hB : B ≤ w.heap.size) :
    Calls Tryz.prog 58 #[.pointer (some ⟨g, 0, none⟩), .int .i64 (c : Int), .int .i64 D] w (RValP B g L w (.no 4)) := by
  have hg1 := h.lt
  have zs := zV_size
  have hO6 := oneC6
  have hb0 : Below w.heap.size w (w.alloc (.cells zV 50)) := (Below.refl _ _).alloc (Nat.le_refl _) _
  have R0 : Blk (w.alloc (.cells zV 50)) w.heap.size 50 zV.toList := Blk.new _ _ _
  have h0 := h.keep hb0
  have hk0 : Dk g g w (w.alloc (.cells zV 50)) := Dk.ofBelow hb0
  obtain ⟨hP2, hg2, f2, z, c2⟩ := RRs.fail (β := PV) h 4 (by decide)
  have es : (w.setCell ⟨g, 2, none⟩ (.int .i64 4)).heap.size = w.heap.size := by simp
  have hb1 : Below (w.setCell ⟨g, 2, none⟩ (.int .i64 4)).heap.size (w.setCell ⟨g, 2, none⟩ (.int .i64 4)) ((w.setCell ⟨g, 2, none⟩ (.int .i64 4)).alloc (.cells (List.toArray (α := Value) [.int .i64 0, .int .i64 0, .slice none 0 0, .string { data := #[] }, .slice none 0 0, .slice none 0 0]) 50)) := (Below.refl _ _).alloc (Nat.le_refl _) _
  have HB2 : Blk ((w.setCell ⟨g, 2, none⟩ (.int .i64 4)).alloc (.cells (List.toArray (α := Value) [.int .i64 0, .int .i64 0, .slice none 0 0, .string { data := #[] }, .slice none 0 0, .slice none 0 0]) 50)) w.heap.size 50 [.int .i64 0, .int .i64 0, .slice none 0 0, .string { data := #[] }, .slice none 0 0, .slice none 0 0] := by
    have := Blk.new (w.setCell ⟨g, 2, none⟩ (.int .i64 4)) 50 (List.toArray (α := Value) [.int .i64 0, .int .i64 0, .slice none 0 0, .string { data := #[] }, .slice none 0 0, .slice none 0 0])
    rw [es] at this; exact this
  have HV : Hid (RValP B g L w (.no 4) (.returned (.agg (List.toArray (α := Value) [.int .i64 0, .int .i64 0, .slice none 0 0, .string { data := #[] }, .slice none 0 0, .slice none 0 0]))) ((w.setCell ⟨g, 2, none⟩ (.int .i64 4)).alloc (.cells (List.toArray (α := Value) [.int .i64 0, .int .i64 0, .slice none 0 0, .string { data := #[] }, .slice none 0 0, .slice none 0 0]) 50))) := by
    show RValP _ _ _ _ _ _ _
    exact ⟨_, _, rfl, VAtP.plain (k := 0) (n := 0) (t := []) _ (by unfold in64; omega) (by unfold in64; omega) (Nat.zero_le _), (fun v0 r hv => by cases hv), hP2.keep hb1, (Dk.one hg2).trans (Dk.ofBelow hb1)⟩
  clear hP2 hg2 hk0 h0 R0 hb0 hb1 es h hB
  go_enter Tryz.func58, Tryz.ntmps58
  go_wp2
  exact bodyPost_ret (results_cell_row (fn := Tryz.f58) (by rfl) _ _ w.heap.size 50 _ (0, 0) _ (by rfl) HB2 Tryz.underlying50 rfl sizeV) rfl HV.out
end Go.Proofs.YtpchogicdnfggaaGreatDoor
