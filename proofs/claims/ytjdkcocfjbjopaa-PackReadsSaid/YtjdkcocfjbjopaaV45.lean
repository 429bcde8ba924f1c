/- Layer 05: the document's reader: other, Value. -/
import Derived.Test.YtjdkcocfjbjopaaV44
set_option maxRecDepth 20000
namespace Go.Proofs.Ytjdkcocfjbjopaa
open Go.RowKit Go.Hd
attribute [local go_sem ↓] h_ldV h_stV h_alV
attribute [local go_sem] r_ldV r_stV r_alV

set_option maxHeartbeats 1000000 in
theorem roth_220 {d : Nat} (hd : d ≤ 16) (HV : RValH d) {B g : Nat} {L : List UInt8} {w : World} {s : Rs Unit} (h : RRs B w g L s) (hB : B ≤ w.heap.size) :
    Calls Try.prog 58 #[.pointer (some ⟨g, 0, none⟩), .int .i64 220, .int .i64 (16 - (d : Int))] w (RValP B g L w (s.bind fun _ r => (leastR 2 16 r).bind fun n r2 => (listR (decV d) n r2).bind fun l r3 => .ok (pList l) r3)) := by
  have hg1 := h.lt
  have zs := zV_size
  have hO6 := oneC6
  have hb0 : Below w.heap.size w (w.alloc (.cells zV 26)) := (Below.refl _ _).alloc (Nat.le_refl _) _
  have R0 : Blk (w.alloc (.cells zV 26)) w.heap.size 26 zV.toList := Blk.new _ _ _
  have h0 := h.keep hb0
  have hk0 : Dk g g w (w.alloc (.cells zV 26)) := Dk.ofBelow hb0
  have hrd := rrnum_any (n := 2) (lo := 16) h0 (by decide) (by decide) (by decide)
  have HR : Hid ((s.bind fun _ r => (leastR 2 16 r).bind fun n r2 => (listR (decV d) n r2).bind fun l r3 => .ok (pList l) r3) = (s.bind fun _ r => leastR 2 16 r).bind fun n r2 => (listR (decV d) n r2).bind fun l r3 => .ok (pList l) r3) := by
    show _ = _
    cases s <;> rfl
  generalize (s.bind fun _ r => (leastR 2 16 r).bind fun n r2 => (listR (decV d) n r2).bind fun l r3 => .ok (pList l) r3) = R at *
  generalize (s.bind fun _ r => leastR 2 16 r) = T at *
  have HD := Lib.hid hd
  clear hd h0 h
  obtain ⟨D, hD⟩ : ∃ D : Int, D = 16 - (d : Int) := ⟨_, rfl⟩
  rw [← hD]
  have HDD := Lib.hid hD
  clear hD
  go_enter Try.func58, Try.ntmps58
  go_wp2_with fail
  refine hrd.mono ?_
  rintro ee w1 ⟨x, rfl, hx, hx0, hP, hk⟩
  have hx' : x < 65536 := hx
  have ex1 : IntKind.i64.wrap (x : Int) = (x : Int) := IntWalk.i64_in _ (by omega)
  have hl := rrlist_any (n := x) HD.out HV hP.unit (Nat.le_trans hB (by have := hk.size; simp at this; omega)) (by omega)
  rw [← HDD.out] at hl
  have HT2 : Hid ((T.unit.bind fun _ r => (listR (decV d) x r).bind fun l r2 => .ok (pList l) r2) = R) := by
    show _ = _
    rw [HR.out]
    cases T with
    | no c => rfl
    | ok x0 r =>
      have := hx0 _ _ rfl
      subst this; rfl
  rw [HT2.out] at hl
  have R1 := hk.blk R0 (by omega) (by omega)
  have hk1 := hk0.trans hk
  clear hrd hx hx0 hP hk R0 hk0 HT2 hx'
  go_wp2_with fail
  refine hl.mono ?_
  rintro ee w2 ⟨cs, v, rfl, hv, hv0, hP, hk2⟩
  have x6 : (List.toArray cs).size = 6 := hv.len
  obtain ⟨HST, HB2, HV2⟩ := rval_end (R := R) (hk2.blk R1 (by omega) (by omega)) (by rfl) hP (hk1.trans hk2) (hv.mono (fun b hb _ => by have := hk1.size; have := R1.lt; omega)) hB hg1 (fun _ _ hh => hh) hv0
  clear R1 hk1 hk2 hP hv hv0 hl
  go_wp2
  exact bodyPost_ret (results_cell_row (fn := Try.f58) (by rfl) _ _ w.heap.size 26 _ (0, 0) _ (by rfl) HB2 Try.underlying26 rfl (by rw [x6]; exact sizeV)) rfl HV2.out

set_option maxHeartbeats 1000000 in
theorem roth_222 {d : Nat} (hd : d ≤ 16) (HV : RValH d) {B g : Nat} {L : List UInt8} {w : World} {s : Rs Unit} (h : RRs B w g L s) (hB : B ≤ w.heap.size) :
    Calls Try.prog 58 #[.pointer (some ⟨g, 0, none⟩), .int .i64 222, .int .i64 (16 - (d : Int))] w (RValP B g L w (s.bind fun _ r => (leastR 2 16 r).bind fun n r2 => (dictR (decV d) n none r2).bind fun l r3 => .ok (pDict l) r3)) := by
  have hg1 := h.lt
  have zs := zV_size
  have hO6 := oneC6
  have hb0 : Below w.heap.size w (w.alloc (.cells zV 26)) := (Below.refl _ _).alloc (Nat.le_refl _) _
  have R0 : Blk (w.alloc (.cells zV 26)) w.heap.size 26 zV.toList := Blk.new _ _ _
  have h0 := h.keep hb0
  have hk0 : Dk g g w (w.alloc (.cells zV 26)) := Dk.ofBelow hb0
  have hrd := rrnum_any (n := 2) (lo := 16) h0 (by decide) (by decide) (by decide)
  have HR : Hid ((s.bind fun _ r => (leastR 2 16 r).bind fun n r2 => (dictR (decV d) n none r2).bind fun l r3 => .ok (pDict l) r3) = (s.bind fun _ r => leastR 2 16 r).bind fun n r2 => (dictR (decV d) n none r2).bind fun l r3 => .ok (pDict l) r3) := by
    show _ = _
    cases s <;> rfl
  generalize (s.bind fun _ r => (leastR 2 16 r).bind fun n r2 => (dictR (decV d) n none r2).bind fun l r3 => .ok (pDict l) r3) = R at *
  generalize (s.bind fun _ r => leastR 2 16 r) = T at *
  have HD := Lib.hid hd
  clear hd h0 h
  obtain ⟨D, hD⟩ : ∃ D : Int, D = 16 - (d : Int) := ⟨_, rfl⟩
  rw [← hD]
  have HDD := Lib.hid hD
  clear hD
  go_enter Try.func58, Try.ntmps58
  go_wp2_with fail
  refine hrd.mono ?_
  rintro ee w1 ⟨x, rfl, hx, hx0, hP, hk⟩
  have hx' : x < 65536 := hx
  have ex1 : IntKind.i64.wrap (x : Int) = (x : Int) := IntWalk.i64_in _ (by omega)
  have hl := rrdict_any (n := x) HD.out HV hP.unit (Nat.le_trans hB (by have := hk.size; simp at this; omega)) (by omega)
  rw [← HDD.out] at hl
  have HT2 : Hid ((T.unit.bind fun _ r => (dictR (decV d) x none r).bind fun l r2 => .ok (pDict l) r2) = R) := by
    show _ = _
    rw [HR.out]
    cases T with
    | no c => rfl
    | ok x0 r =>
      have := hx0 _ _ rfl
      subst this; rfl
  rw [HT2.out] at hl
  have R1 := hk.blk R0 (by omega) (by omega)
  have hk1 := hk0.trans hk
  clear hrd hx hx0 hP hk R0 hk0 HT2 hx'
  go_wp2_with fail
  refine hl.mono ?_
  rintro ee w2 ⟨cs, v, rfl, hv, hv0, hP, hk2⟩
  have x6 : (List.toArray cs).size = 6 := hv.len
  obtain ⟨HST, HB2, HV2⟩ := rval_end (R := R) (hk2.blk R1 (by omega) (by omega)) (by rfl) hP (hk1.trans hk2) (hv.mono (fun b hb _ => by have := hk1.size; have := R1.lt; omega)) hB hg1 (fun _ _ hh => hh) hv0
  clear R1 hk1 hk2 hP hv hv0 hl
  go_wp2
  exact bodyPost_ret (results_cell_row (fn := Try.f58) (by rfl) _ _ w.heap.size 26 _ (0, 0) _ (by rfl) HB2 Try.underlying26 rfl (by rw [x6]; exact sizeV)) rfl HV2.out

theorem roth_any {d x : Nat} (hd : d ≤ 16) (HV : RValH d) (hx : 192 ≤ x ∧ x < 224) {B g : Nat} {L r : List UInt8} {w : World} (h : RRs B w g L (.ok () r)) (hB : B ≤ w.heap.size) :
    Calls Try.prog 58 #[.pointer (some ⟨g, 0, none⟩), .int .i64 (x : Int), .int .i64 (16 - (d : Int))] w (RValP B g L w (leadR (decV d) x r)) := by
  have key : x = 192 ∨ x = 194 ∨ x = 195 ∨ x = 196 ∨ x = 197 ∨ (204 ≤ x ∧ x ≤ 211) ∨ x = 217 ∨ x = 218 ∨ x = 220 ∨ x = 222 ∨ (x ≠ 192 ∧ x ≠ 194 ∧ x ≠ 195 ∧ x ≠ 196 ∧ x ≠ 197 ∧ ¬ (204 ≤ x ∧ x ≤ 211) ∧ x ≠ 217 ∧ x ≠ 218 ∧ x ≠ 220 ∧ x ≠ 222) := by omega
  rcases key with rfl | rfl | rfl | rfl | rfl | hi | rfl | rfl | rfl | rfl | hno
  · exact roth_192 (s := .ok () r) h hB
  · exact roth_194 (s := .ok () r) h hB
  · exact roth_195 (s := .ok () r) h hB
  · have := roth_196 (D := 16 - (d : Int)) (s := .ok () r) h hB
    rw [Rs.bind_ok] at this
    have e : leadR (decV d) 196 r = ((leastR 1 0 r).bind takeR).bind fun t r2 => .ok (pByt t) r2 := by rw [least0]; rfl
    rw [e]; exact this
  · exact roth_197 (s := .ok () r) h hB
  · have e : leadR (decV d) x r = (intR x r).bind fun n r2 => .ok (pNum n) r2 := by
      unfold leadR
      rw [if_neg (by unfold isText; simp; omega), if_neg (by omega), if_neg (by omega), if_neg (by omega), if_pos (by omega)]
    rw [e]
    rcases (by omega : x = 204 ∨ x = 205 ∨ x = 206 ∨ x = 207 ∨ x = 208 ∨ x = 209 ∨ x = 210 ∨ x = 211) with rfl | rfl | rfl | rfl | rfl | rfl | rfl | rfl
    · exact roth_204 (s := .ok () r) h hB
    · exact roth_205 (s := .ok () r) h hB
    · exact roth_206 (s := .ok () r) h hB
    · exact roth_207 (s := .ok () r) h hB
    · exact roth_208 (s := .ok () r) h hB
    · exact roth_209 (s := .ok () r) h hB
    · exact roth_210 (s := .ok () r) h hB
    · exact roth_211 (s := .ok () r) h hB
  · exact roth_217 (s := .ok () r) h hB
  · exact roth_218 (s := .ok () r) h hB
  · exact roth_220 hd HV (s := .ok () r) h hB
  · exact roth_222 hd HV (s := .ok () r) h hB
  · obtain ⟨h1, h2, h3, h4, h5, h6, h7, h8, h9, h10⟩ := hno
    have e : leadR (decV d) x r = .no 4 := by
      unfold leadR
      rw [if_neg (by unfold isText; simp; omega), if_neg (by omega), if_neg (by omega), if_neg (by omega), if_neg (by omega), if_neg h1, if_neg h2, if_neg h3, if_neg h4, if_neg h5, if_neg h9, if_neg h10]
    rw [e]
    exact roth_no (by simp; omega) (by simp; omega) (by simp; omega) (by simp; omega) (by simp; omega) (by simp; omega) (by simp; omega) (by simp; omega) (by simp; omega) (by simp; omega) (by simp; omega) (by simp; omega) (by simp; omega) (by simp; omega) (by simp; omega) (by simp; omega) (by simp; omega) h hB

set_option maxHeartbeats 8000000 in
theorem rvalue_any : ∀ d : Nat, d ≤ 17 → RValH d := by
  intro d
  induction d with
  | zero =>
    intro _ B g L w s D hD h hB
    have hg1 := h.lt
    have zs := zV_size
    have hO6 := oneC6
    have hb0 : Below w.heap.size w (w.alloc (.cells zV 26)) := (Below.refl _ _).alloc (Nat.le_refl _) _
    have R0 : Blk (w.alloc (.cells zV 26)) w.heap.size 26 zV.toList := Blk.new _ _ _
    have h0 := h.keep hb0
    have hk0 : Dk g g w (w.alloc (.cells zV 26)) := Dk.ofBelow hb0
    have hD17 : D = 17 := by omega
    subst hD17
    have htk := rtake_any (n := 1) h0 (by decide)
    have HR : Hid ((s.bind fun _ r => decV 0 r) = (s.bind fun _ r => takeR 1 r).bind fun b r => .no 4) := by
      show _ = _
      cases s with
      | no c => rfl
      | ok x r =>
        rw [Rs.bind_ok, Rs.bind_ok, decV_byte, byteR_take, Rs.bind_bind]
        cases takeR 1 r <;> rfl
    have H1 : Hid (∀ b r, (s.bind fun _ r => takeR 1 r) = .ok b r → ∃ c : UInt8, b = [c]) := fun b r hb => by
      cases s with
      | no c => cases hb
      | ok x r0 =>
        rw [Rs.bind_ok, take1] at hb
        cases r0 with
        | nil => cases hb
        | cons c r1 => cases hb; exact ⟨c, rfl⟩
    generalize (s.bind fun _ r => decV 0 r) = R at *
    generalize (s.bind fun _ r => takeR 1 r) = T at *
    clear hD h0 h
    go_enter Try.func33, Try.ntmps33
    go_wp2_with fail
    refine htk.mono ?_
    rintro ee w1 ⟨a, c, t, rfl, _, hrow, ht, htn, htl, hP, hk⟩
    have R1 := hk.blk R0 (by omega) (by omega)
    have hk1 := hk0.trans hk
    clear htk hk hk0 R0
    cases T with
    | no cc =>
      obtain ⟨q1, q2⟩ := hP.noC
      have e1 : (cc != 0) = true := by simpa using q2
      obtain ⟨HST, HB2, HV⟩ := rval_end (R := R) R1 (by rfl) hP hk1 (VAtP.kindP _ (k := 0) (by unfold in64; omega)) hB hg1 (fun _ _ hh => by rw [HR.out]; exact hh) (fun v0 r hv => by rw [HR.out] at hv; cases hv)
      clear R1 hk1 hP hrow ht htn htl
      go_wp2
      exact bodyPost_ret (results_cell_row (fn := Try.f33) (by rfl) _ _ w.heap.size 26 _ (0, 0) _ (by rfl) HB2 Try.underlying26 rfl sizeV) rfl HV.out
    | ok b r =>
      obtain ⟨c0, hb⟩ := H1.out b r rfl
      have hbt := ht _ _ rfl
      subst hb hbt
      have d1 : w1.cell? (hd a) = some (.int .u8 (c0.toNat : Int)) := by
        have := hrow.2 0 (b8 c0) rfl
        rw [hd_add0] at this; exact this
      have d2 : a.isSome = true := hrow.1 (by simp)
      have q1 := hP.ok0
      have hc256 : c0.toNat < 256 := c0.toNat_lt
      have ex : IntKind.i64.wrap (c0.toNat : Int) = (c0.toNat : Int) := IntWalk.i64_in _ (by omega)
      obtain ⟨hP2, hg2, f2, z, c2⟩ := RRs.fail (β := PV) hP 4 (by decide)
      obtain ⟨HST, HB2, HV⟩ := rval_end (R := R) ((Dk.one hg2).blk R1 (by omega) (by omega)) (by rfl) hP2 (hk1.trans (Dk.one hg2)) (VAtP.kindP _ (k := 0) (by unfold in64; omega)) hB hg1 (fun _ _ hh => by rw [HR.out]; exact hh) (fun v0 r hv => by rw [HR.out] at hv; cases hv)
      clear R1 hk1 hP hrow ht htn htl hP2 hg2 hc256
      generalize c0.toNat = x at *
      go_wp2
      exact bodyPost_ret (results_cell_row (fn := Try.f33) (by rfl) _ _ w.heap.size 26 _ (0, 0) _ (by rfl) HB2 Try.underlying26 rfl sizeV) rfl HV.out
  | succ d ih =>
    intro hd17 B g L w s D hD h hB
    have HVd := ih (by omega)
    have hd16 : d ≤ 16 := by omega
    have hg1 := h.lt
    have zs := zV_size
    have hO6 := oneC6
    have hb0 : Below w.heap.size w (w.alloc (.cells zV 26)) := (Below.refl _ _).alloc (Nat.le_refl _) _
    have R0 : Blk (w.alloc (.cells zV 26)) w.heap.size 26 zV.toList := Blk.new _ _ _
    have h0 := h.keep hb0
    have hk0 : Dk g g w (w.alloc (.cells zV 26)) := Dk.ofBelow hb0
    have hD16 : D = 16 - (d : Int) := by omega
    subst hD16
    have htk := rtake_any (n := 1) h0 (by decide)
    have HR : Hid ((s.bind fun _ r => decV (d + 1) r) = (s.bind fun _ r => takeR 1 r).bind fun b r => leadR (decV d) (getL b) r) := by
      show _ = _
      cases s with
      | no c => rfl
      | ok x r =>
        rw [Rs.bind_ok, Rs.bind_ok, decV_byte, byteR_take, Rs.bind_bind]
        cases takeR 1 r <;> rfl
    have H1 : Hid (∀ b r, (s.bind fun _ r => takeR 1 r) = .ok b r → ∃ c : UInt8, b = [c]) := fun b r hb => by
      cases s with
      | no c => cases hb
      | ok x r0 =>
        rw [Rs.bind_ok, take1] at hb
        cases r0 with
        | nil => cases hb
        | cons c r1 => cases hb; exact ⟨c, rfl⟩
    generalize (s.bind fun _ r => decV (d + 1) r) = R at *
    generalize (s.bind fun _ r => takeR 1 r) = T at *
    have i16 : ¬ (16 : Int) < 16 - (d : Int) := by omega
    have HD16 := Lib.hid hd16
    have HVH := Lib.hid HVd
    clear hD h0 h hd17 ih HVd hd16
    obtain ⟨D, hD⟩ : ∃ D : Int, D = 16 - (d : Int) := ⟨_, rfl⟩
    rw [← hD] at i16 ⊢
    have HDD := Lib.hid hD
    clear hD
    go_enter Try.func33, Try.ntmps33
    go_wp2_with fail
    refine htk.mono ?_
    rintro ee w1 ⟨a, c, t, rfl, _, hrow, ht, htn, htl, hP, hk⟩
    have R1 := hk.blk R0 (by omega) (by omega)
    have hk1 := hk0.trans hk
    clear htk hk hk0 R0
    cases T with
    | no cc =>
      obtain ⟨q1, q2⟩ := hP.noC
      have e1 : (cc != 0) = true := by simpa using q2
      obtain ⟨HST, HB2, HV⟩ := rval_end (R := R) R1 (by rfl) hP hk1 (VAtP.kindP _ (k := 0) (by unfold in64; omega)) hB hg1 (fun _ _ hh => by rw [HR.out]; exact hh) (fun v0 r hv => by rw [HR.out] at hv; cases hv)
      clear R1 hk1 hP hrow ht htn htl
      go_wp2
      exact bodyPost_ret (results_cell_row (fn := Try.f33) (by rfl) _ _ w.heap.size 26 _ (0, 0) _ (by rfl) HB2 Try.underlying26 rfl sizeV) rfl HV.out
    | ok b r =>
    obtain ⟨c0, hb⟩ := H1.out b r rfl
    have hbt := ht _ _ rfl
    subst hb hbt
    have d1 : w1.cell? (hd a) = some (.int .u8 (c0.toNat : Int)) := by
      have := hrow.2 0 (b8 c0) rfl
      rw [hd_add0] at this; exact this
    have d2 : a.isSome = true := hrow.1 (by simp)
    have q1 := hP.ok0
    have hc256 : c0.toNat < 256 := c0.toNat_lt
    have ex : IntKind.i64.wrap (c0.toNat : Int) = (c0.toNat : Int) := IntWalk.i64_in _ (by omega)
    have hPu : RRs B w1 g L (.ok () r) := hP.cast (fun _ _ hh => hh)
    have hgl : getL [c0] = c0.toNat := by simp [getL]
    have HR2 : Hid (R = leadR (decV d) c0.toNat r) := by
      show _ = _
      rw [HR.out, Rs.bind_ok, hgl]
    clear HR hgl hrow ht htn htl hP H1
    have hB1 : B ≤ w1.heap.size := Nat.le_trans hB hk1.size
    generalize c0.toNat = x at *
    by_cases h1 : x < 128
    · have i1 : (x : Int) < 128 := by omega
      have hi8 : int8 x = (x : Int) := by unfold int8; rw [if_pos h1]
      have HL : Hid (R = .ok (pNum (x : Int)) r) := by
        show _ = _
        rw [HR2.out, lead_num r (.inl h1) hc256, hi8]
      obtain ⟨HST, HB2, HV⟩ := rval_end (R := R) R1 (by rfl) hPu hk1 (VAtP.numP w1 (n := (x : Int)) (by unfold in64; omega)) hB hg1 (fun _ _ hh => by rw [HL.out]; exact hh) (fun v0 r hv => by rw [HL.out] at hv; cases hv; rfl)
      clear R1 hk1 hPu h1 hc256 hi8
      go_wp2
      exact bodyPost_ret (results_cell_row (fn := Try.f33) (by rfl) _ _ w.heap.size 26 _ (0, 0) _ (by rfl) HB2 Try.underlying26 rfl sizeV) rfl HV.out
    have i1 : ¬ (x : Int) < 128 := by omega
    by_cases h2 : x < 144
    · have i2 : (x : Int) < 144 := by omega
      have ew : IntKind.i64.wrap ((x : Int) - 128) = ((x - 128 : Nat) : Int) := by rw [IntWalk.i64_in _ (by omega)]; omega
      have hl := rrdict_any (n := x - 128) HD16.out HVH.out hPu hB1 (by omega)
      rw [Rs.bind_ok, ← lead_dict r (by omega), ← HR2.out, ← HDD.out] at hl
      generalize ((x - 128 : Nat) : Int) = X at *
      clear h1 h2 hc256 hPu
      go_wp2_with fail
      refine hl.mono ?_
      rintro ee w2 ⟨cs, v, rfl, hv, hv0, hP, hk2⟩
      have x6 : (List.toArray cs).size = 6 := hv.len
      obtain ⟨HST, HB2, HV⟩ := rval_end (R := R) (hk2.blk R1 (by omega) (by omega)) (by rfl) hP (hk1.trans hk2) (hv.mono (fun b hb _ => by have := hk1.size; have := R1.lt; omega)) hB hg1 (fun _ _ hh => hh) hv0
      clear R1 hk1 hk2 hP hv hv0 hl
      go_wp2
      exact bodyPost_ret (results_cell_row (fn := Try.f33) (by rfl) _ _ w.heap.size 26 _ (0, 0) _ (by rfl) HB2 Try.underlying26 rfl (by rw [x6]; exact sizeV)) rfl HV.out
    have i2 : ¬ (x : Int) < 144 := by omega
    by_cases h3 : x < 160
    · have i3 : (x : Int) < 160 := by omega
      have ew : IntKind.i64.wrap ((x : Int) - 144) = ((x - 144 : Nat) : Int) := by rw [IntWalk.i64_in _ (by omega)]; omega
      have hl := rrlist_any (n := x - 144) HD16.out HVH.out hPu hB1 (by omega)
      rw [Rs.bind_ok, ← lead_list r (by omega), ← HR2.out, ← HDD.out] at hl
      generalize ((x - 144 : Nat) : Int) = X at *
      clear h1 h2 h3 hc256 hPu
      go_wp2_with fail
      refine hl.mono ?_
      rintro ee w2 ⟨cs, v, rfl, hv, hv0, hP, hk2⟩
      have x6 : (List.toArray cs).size = 6 := hv.len
      obtain ⟨HST, HB2, HV⟩ := rval_end (R := R) (hk2.blk R1 (by omega) (by omega)) (by rfl) hP (hk1.trans hk2) (hv.mono (fun b hb _ => by have := hk1.size; have := R1.lt; omega)) hB hg1 (fun _ _ hh => hh) hv0
      clear R1 hk1 hk2 hP hv hv0 hl
      go_wp2
      exact bodyPost_ret (results_cell_row (fn := Try.f33) (by rfl) _ _ w.heap.size 26 _ (0, 0) _ (by rfl) HB2 Try.underlying26 rfl (by rw [x6]; exact sizeV)) rfl HV.out
    have i3 : ¬ (x : Int) < 160 := by omega
    by_cases h4 : x < 192
    · have i4 : (x : Int) < 192 := by omega
      have ew : IntKind.i64.wrap ((x : Int) - 160) = ((x - 160 : Nat) : Int) := by rw [IntWalk.i64_in _ (by omega)]; omega
      have htk2 := rtake_any (n := x - 160) hPu (by omega)
      rw [Rs.bind_ok] at htk2
      have HL : Hid (R = (takeR (x - 160) r).bind fun t r2 => .ok (pTxt t) r2) := by
        show _ = _
        rw [HR2.out, lead_text r (by unfold isText; simp; omega), lead_short r (by omega)]
      have HM : Hid (x - 160 ≤ 100) := by show _ ≤ _; omega
      generalize x - 160 = m at *
      generalize takeR m r = T2 at *
      clear h1 h2 h3 h4 hc256 hPu
      go_wp2_with fail
      refine htk2.mono ?_
      rintro ee w2 ⟨a2, c2, t, rfl, _, hrow, ht, _, htl, hP, hk2⟩
      have hcv := run_convert_row (P := Try.prog) (src := 22) (e := 5) (dst := 9) (c := c2) eB.ht Try.underlying5 Try.underlying9 rfl hrow
      obtain ⟨HST, HB2, HV⟩ := rval_end (R := R) (hk2.blk R1 (by omega) (by omega)) (by rfl) hP (hk1.trans hk2) (VAtP.plain (k := 5) (n := 0) (t := t) w2 (by unfold in64; omega) (by unfold in64; omega) (by have := HM.out; unfold maxLen; omega)) hB hg1 (fun _ _ hh => by rw [HL.out]; cases T2 <;> exact hh) (fun v0 r2 hv => by
        rw [HL.out] at hv
        cases T2 with
        | no c => cases hv
        | ok x0 r0 => cases hv; rw [ht _ _ rfl]; rfl)
      clear R1 hk1 hk2 hP hrow ht htl htk2
      go_wp2
      exact bodyPost_ret (results_cell_row (fn := Try.f33) (by rfl) _ _ w.heap.size 26 _ (0, 0) _ (by rfl) HB2 Try.underlying26 rfl sizeV) rfl HV.out
    have i4 : ¬ (x : Int) < 192 := by omega
    by_cases h5 : 224 ≤ x
    · have i5 : 224 ≤ (x : Int) := by omega
      have ew : IntKind.i64.wrap ((x : Int) - 256) = (x : Int) - 256 := IntWalk.i64_in _ (by omega)
      have hi8 : int8 x = (x : Int) - 256 := by unfold int8; rw [if_neg h1]
      have HL : Hid (R = .ok (pNum ((x : Int) - 256)) r) := by
        show _ = _
        rw [HR2.out, lead_num r (.inr h5) hc256, hi8]
      obtain ⟨HST, HB2, HV⟩ := rval_end (R := R) R1 (by rfl) hPu hk1 (VAtP.numP w1 (n := (x : Int) - 256) (by unfold in64; omega)) hB hg1 (fun _ _ hh => by rw [HL.out]; exact hh) (fun v0 r hv => by rw [HL.out] at hv; cases hv; rfl)
      clear R1 hk1 hPu h1 h2 h3 h4 h5 hc256 hi8
      go_wp2
      exact bodyPost_ret (results_cell_row (fn := Try.f33) (by rfl) _ _ w.heap.size 26 _ (0, 0) _ (by rfl) HB2 Try.underlying26 rfl sizeV) rfl HV.out
    · have i5 : ¬ 224 ≤ (x : Int) := by omega
      have hl := roth_any (x := x) HD16.out HVH.out (by omega) hPu hB1
      rw [← HR2.out, ← HDD.out] at hl
      clear h1 h2 h3 h4 h5 hc256 hPu
      go_wp2_with fail
      refine hl.mono ?_
      rintro ee w2 ⟨cs, v, rfl, hv, hv0, hP, hk2⟩
      have x6 : (List.toArray cs).size = 6 := hv.len
      obtain ⟨HST, HB2, HV⟩ := rval_end (R := R) (hk2.blk R1 (by omega) (by omega)) (by rfl) hP (hk1.trans hk2) (hv.mono (fun b hb _ => by have := hk1.size; have := R1.lt; omega)) hB hg1 (fun _ _ hh => hh) hv0
      clear R1 hk1 hk2 hP hv hv0 hl
      go_wp2
      exact bodyPost_ret (results_cell_row (fn := Try.f33) (by rfl) _ _ w.heap.size 26 _ (0, 0) _ (by rfl) HB2 Try.underlying26 rfl (by rw [x6]; exact sizeV)) rfl HV.out
end Go.Proofs.Ytjdkcocfjbjopaa
