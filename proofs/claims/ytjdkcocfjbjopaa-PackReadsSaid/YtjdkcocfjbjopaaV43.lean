/- Layer 05: the document's reader: a key; leads. -/
import Derived.Test.YtjdkcocfjbjopaaV41
import Derived.Test.YtjdkcocfjbjopaaV42
set_option maxRecDepth 20000
namespace Go.Proofs.Ytjdkcocfjbjopaa
open Go.RowKit Go.Hd
attribute [local go_sem ↓] h_ldV h_stV h_alV
attribute [local go_sem] r_ldV r_stV r_alV

theorem take1 (l : List UInt8) : takeR 1 l = match l with | [] => .no 3 | c :: r => .ok [c] r := by
  cases l with
  | nil => rfl
  | cons c r => unfold takeR; rw [if_neg (by simp)]; rfl
theorem lead_num {f : List UInt8 → Rs PV} {x : Nat} (r : List UInt8) (h : x < 128 ∨ 224 ≤ x) (hx : x < 256) : leadR f x r = .ok (pNum (int8 x)) r := by
  unfold leadR
  rw [if_neg (by unfold isText; simp; omega), if_pos (by omega)]
theorem lead_dict {f : List UInt8 → Rs PV} {x : Nat} (r : List UInt8) (h : 128 ≤ x ∧ x < 144) : leadR f x r = (dictR f (x - 128) none r).bind fun l r2 => .ok (pDict l) r2 := by
  unfold leadR
  rw [if_neg (by unfold isText; simp; omega), if_neg (by omega), if_neg (by omega), if_pos (by omega), show x % 16 = x - 128 by omega]
theorem lead_list {f : List UInt8 → Rs PV} {x : Nat} (r : List UInt8) (h : 144 ≤ x ∧ x < 160) : leadR f x r = (listR f (x - 144) r).bind fun l r2 => .ok (pList l) r2 := by
  unfold leadR
  rw [if_neg (by unfold isText; simp; omega), if_neg (by omega), if_pos (by omega), show x % 16 = x - 144 by omega]
theorem lead_short {x : Nat} (r : List UInt8) (h : 160 ≤ x ∧ x < 192) : textR x r = takeR (x - 160) r := by
  unfold textR
  rw [if_pos (by omega), show x % 32 = x - 160 by omega]
theorem lead_text {f : List UInt8 → Rs PV} {x : Nat} (r : List UInt8) (h : isText x = true) : leadR f x r = (textR x r).bind fun t r2 => .ok (pTxt t) r2 := by
  unfold leadR
  rw [if_pos h]
theorem lead_217 (r : List UInt8) : textR 217 r = (leastR 1 32 r).bind takeR := rfl
theorem lead_218 (r : List UInt8) : textR 218 r = (leastR 2 256 r).bind takeR := rfl
/-- What begins with a text's lead. -/
theorem rvkey_any {B g : Nat} {L l : List UInt8} {w : World} (h : RRs B w g L (.ok () l)) (hB : B ≤ w.heap.size) (hl : ∀ c r, l = c :: r → isText c.toNat = true) :
    Calls Try.prog 33 #[.pointer (some ⟨g, 0, none⟩), .int .i64 1] w (RValP B g L w ((byteR l).bind fun c r => (textR c r).bind fun t r2 => .ok (pTxt t) r2)) := by
  have hg1 := h.lt
  have zs := zV_size
  have hO6 := oneC6
  have hb0 : Below w.heap.size w (w.alloc (.cells zV 26)) := (Below.refl _ _).alloc (Nat.le_refl _) _
  have R0 : Blk (w.alloc (.cells zV 26)) w.heap.size 26 zV.toList := Blk.new _ _ _
  have h0 := h.keep hb0
  have hk0 : Dk g g w (w.alloc (.cells zV 26)) := Dk.ofBelow hb0
  have htk := rtake_any (n := 1) h0 (by decide)
  rw [Rs.bind_ok, take1] at htk
  clear h h0
  cases l with
  | nil =>
    go_enter Try.func33, Try.ntmps33
    go_wp2_with fail
    refine htk.mono ?_
    rintro ee w1 ⟨a, c, t, rfl, _, hrow, ht, htn, htl, hP, hk⟩
    obtain rfl := htn rfl
    have q1 := hP.noC.1
    obtain ⟨HST, HB2, HV⟩ := rval_end (R := (.no 3 : Rs PV)) (hk.blk R0 (by omega) (by omega)) (by rfl) hP (hk0.trans hk) (VAtP.kindP _ (k := 0) (by unfold in64; omega)) hB hg1 (fun _ _ hh => hh) (fun v0 r hv => by cases hv)
    clear htk hrow ht htn htl hP hk hk0 R0
    go_wp2
    exact bodyPost_ret (results_cell_row (fn := Try.f33) (by rfl) _ _ w.heap.size 26 _ (0, 0) _ (by rfl) HB2 Try.underlying26 rfl sizeV) rfl HV.out
  | cons c0 r =>
    have htx := hl c0 r rfl
    have hc256 : c0.toNat < 256 := c0.toNat_lt
    have HR : Hid (((byteR (c0 :: r)).bind fun c r => (textR c r).bind fun t r2 => .ok (pTxt t) r2) = (textR c0.toNat r).bind fun t r2 => .ok (pTxt t) r2) := rfl
    generalize ((byteR (c0 :: r)).bind fun c r => (textR c r).bind fun t r2 => .ok (pTxt t) r2) = R at *
    go_enter Try.func33, Try.ntmps33
    go_wp2_with fail
    refine htk.mono ?_
    rintro ee w1 ⟨a, c, t, rfl, _, hrow, ht, _, _, hP, hk⟩
    obtain rfl := ht _ _ rfl
    have d1 : w1.cell? (hd a) = some (.int .u8 (c0.toNat : Int)) := by
      have := hrow.2 0 (b8 c0) rfl
      rw [hd_add0] at this; exact this
    have d2 : a.isSome = true := hrow.1 (by simp)
    have q1 := hP.ok0
    have ex : IntKind.i64.wrap (c0.toNat : Int) = (c0.toNat : Int) := IntWalk.i64_in _ (by omega)
    have R1 := hk.blk R0 (by omega) (by omega)
    have hk1 := hk0.trans hk
    have hPu : RRs B w1 g L (.ok () r) := hP.cast (fun _ _ hh => hh)
    clear htk hrow ht hk hk0 R0 hl hP
    generalize c0.toNat = x at *
    have HX := Lib.hid htx
    by_cases h5 : x < 192
    · have h160 : 160 ≤ x := by unfold isText at htx; simp at htx; omega
      have i1 : ¬ (x : Int) < 160 := by omega
      have i2 : (x : Int) < 192 := by omega
      have i3 : ¬ (x : Int) < 144 := by omega
      have i4 : ¬ (x : Int) < 128 := by omega
      obtain ⟨m, rfl⟩ : ∃ m, x = 160 + m := ⟨x - 160, by omega⟩
      have e1 : ((160 + m : Nat) : Int) - 160 = (m : Int) := by omega
      have ex3 : IntKind.i64.wrap (((160 + m : Nat) : Int) - 160) = (m : Int) := by rw [e1]; exact IntWalk.i64_in _ (by omega)
      have htk2 := rtake_any (n := m) hPu (by omega)
      have HT : Hid (textR (160 + m) r = takeR m r) := by
        show _ = _
        rw [lead_short r (by omega), Nat.add_sub_cancel_left]
      rw [Rs.bind_ok] at htk2
      generalize ((160 + m : Nat) : Int) = X at *
      generalize takeR m r = T2 at *
      have HM : Hid (m ≤ 100) := by show _ ≤ _; omega
      clear htx h5 hc256 h160 hPu e1
      go_wp2_with fail
      refine htk2.mono ?_
      rintro ee w2 ⟨a2, c2, t, rfl, _, hrow, ht, _, htl, hP, hk2⟩
      have hcv := run_convert_row (P := Try.prog) (src := 22) (e := 5) (dst := 9) (c := c2) eB.ht Try.underlying5 Try.underlying9 rfl hrow
      obtain ⟨HST, HB2, HV⟩ := rval_end (R := R) (hk2.blk R1 (by omega) (by omega)) (by rfl) hP (hk1.trans hk2) (VAtP.plain (k := 5) (n := 0) (t := t) w2 (by unfold in64; omega) (by unfold in64; omega) (by have := HM.out; unfold maxLen; omega)) hB hg1 (fun _ _ hh => by rw [HR.out, HT.out]; cases T2 <;> exact hh) (fun v0 r2 hv => by
        rw [HR.out, HT.out] at hv
        cases T2 with
        | no c => cases hv
        | ok x0 r0 => cases hv; rw [ht _ _ rfl]; rfl)
      clear R1 hk1 hk2 hP hrow ht htl htk2
      go_wp2
      exact bodyPost_ret (results_cell_row (fn := Try.f33) (by rfl) _ _ w.heap.size 26 _ (0, 0) _ (by rfl) HB2 Try.underlying26 rfl sizeV) rfl HV.out
    · have h17 : x = 217 ∨ x = 218 := by unfold isText at htx; simp at htx; omega
      rcases h17 with rfl | rfl
      · have hoth := roth_217 (D := 1) hPu (Nat.le_trans hB hk1.size)
        rw [Rs.bind_ok] at hoth
        have HT : Hid (R = ((leastR 1 32 r).bind takeR).bind fun t r2 => .ok (pTxt t) r2) := HR.out
        clear HX htx h5 hc256 HR hPu ex
        go_wp2_with fail
        refine hoth.mono ?_
        rintro ee w2 ⟨cs, v, rfl, hv, hv0, hP, hk2⟩
        have x6 : (List.toArray cs).size = 6 := hv.len
        obtain ⟨HST, HB2, HV⟩ := rval_end (R := R) (hk2.blk R1 (by omega) (by omega)) (by rfl) hP (hk1.trans hk2) (hv.mono (fun b hb _ => by have := hk1.size; have := R1.lt; omega)) hB hg1 (fun _ _ hh => by rw [HT.out]; exact hh) (fun v0 r2 hv => by rw [HT.out] at hv; exact hv0 v0 r2 hv)
        clear R1 hk1 hk2 hP hv hv0 hoth
        go_wp2
        exact bodyPost_ret (results_cell_row (fn := Try.f33) (by rfl) _ _ w.heap.size 26 _ (0, 0) _ (by rfl) HB2 Try.underlying26 rfl (by rw [x6]; exact sizeV)) rfl HV.out
      · have hoth := roth_218 (D := 1) hPu (Nat.le_trans hB hk1.size)
        rw [Rs.bind_ok] at hoth
        have HT : Hid (R = ((leastR 2 256 r).bind takeR).bind fun t r2 => .ok (pTxt t) r2) := HR.out
        clear HX htx h5 hc256 HR hPu ex
        go_wp2_with fail
        refine hoth.mono ?_
        rintro ee w2 ⟨cs, v, rfl, hv, hv0, hP, hk2⟩
        have x6 : (List.toArray cs).size = 6 := hv.len
        obtain ⟨HST, HB2, HV⟩ := rval_end (R := R) (hk2.blk R1 (by omega) (by omega)) (by rfl) hP (hk1.trans hk2) (hv.mono (fun b hb _ => by have := hk1.size; have := R1.lt; omega)) hB hg1 (fun _ _ hh => by rw [HT.out]; exact hh) (fun v0 r2 hv => by rw [HT.out] at hv; exact hv0 v0 r2 hv)
        clear R1 hk1 hk2 hP hv hv0 hoth
        go_wp2
        exact bodyPost_ret (results_cell_row (fn := Try.f33) (by rfl) _ _ w.heap.size 26 _ (0, 0) _ (by rfl) HB2 Try.underlying26 rfl (by rw [x6]; exact sizeV)) rfl HV.out
end Go.Proofs.Ytjdkcocfjbjopaa
