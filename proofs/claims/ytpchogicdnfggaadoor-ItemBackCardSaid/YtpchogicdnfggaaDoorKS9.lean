/- Joined: what one statement of this layer stands on, part 9 of 20; nothing is assumed. -/
import Derived.Test.YtpchogicdnfggaaDoorKS6
import Derived.Test.YtpchogicdnfggaaDoorKS8
set_option maxRecDepth 20000
namespace Go.Proofs.YtpchogicdnfggaaDoor
open Go.RowKit Go.Hd
attribute [local go_sem ↓] h_ldV h_stV h_alV
attribute [local go_sem] r_ldV r_stV r_alV

def txtC (t : List UInt8) : List Value := [.int .i64 5, .int .i64 0, .slice none 0 0, .string (str t), .slice none 0 0, .slice none 0 0]
theorem text_of (t : List UInt8) (w : World) : Calls Tryd.prog 31 #[.string (str t)] w fun e w' => e = .returned (.agg (List.toArray (txtC t))) ∧ Below w.heap.size w w' := by
  have zs := zV_size
  have hO6 := oneC6
  have B3 : Blk (w.alloc (.cells (List.toArray (txtC t)) 30)) w.heap.size 30 (txtC t) := Blk.new _ _ _
  have hb : Below w.heap.size w (w.alloc (.cells (List.toArray (txtC t)) 30)) := (Below.refl _ _).alloc (Nat.le_refl _) _
  go_enter Tryd.func31, Tryd.ntmps31
  go_wp2
  refine bodyPost_ret (results_cell_row (fn := Tryd.f31) (by rfl) _ _ w.heap.size 30 _ (0, 0) _ (by rfl) B3 Tryd.underlying30 rfl sizeV) rfl ⟨rfl, hb⟩
theorem VAtP.plain {ok : Nat → Prop} (w : World) {k n : Int} {t : List UInt8} (hk : in64 k) (h : in64 n) (ht : t.length ≤ maxLen) : VAtP ok w [.int .i64 k, .int .i64 n, .slice none 0 0, .string (str t), .slice none 0 0, .slice none 0 0] (.mk k n [] t [] []) :=
  .mk (b := []) (t := t) (ks := []) (l := []) [] hk h (Row.nil _ _) ⟨Nat.le_refl _, Nat.zero_le _⟩ ht (Row.nil _ _) ⟨Nat.le_refl _, Nat.zero_le _⟩ (by simp) (Row.nil _ _) ⟨Nat.le_refl _, Nat.zero_le _⟩ rfl (by simp) (by simp) (by simp) (by simp) (by simp)
theorem VAtP.byt {ok : Nat → Prop} {w : World} {a : Option Addr} {c : Nat} {b : List UInt8} (hc : b.length ≤ c ∧ c ≤ maxLen) (hr : Row w a (b.map b8)) (ho : 0 < b.length → ok (hd a).block) : VAtP ok w [.int .i64 4, .int .i64 0, .slice a b.length c, .string (str []), .slice none 0 0, .slice none 0 0] (pByt b) :=
  .mk (t := []) (ks := []) (l := []) [] (by unfold in64; omega) (by unfold in64; omega) hr hc (Nat.zero_le _) (Row.nil _ _) ⟨Nat.le_refl _, Nat.zero_le _⟩ (by simp) (Row.nil _ _) ⟨Nat.le_refl _, Nat.zero_le _⟩ rfl (by simp) ho (by simp) (by simp) (by simp)
theorem VAtP.list {ok ok0 : Nat → Prop} {w : World} {base : Nat} {a : Option Addr} {c : Nat} {vs : List PV} (h : VsAt ok0 base w (.slice a vs.length c) vs) (hb : ∀ b, base ≤ b → ok b) (h0 : ∀ b, ok0 b → ok b) : VAtP ok w [.int .i64 6, .int .i64 0, .slice none 0 0, .string (str []), .slice none 0 0, .slice a vs.length c] (pList vs) := by
  obtain ⟨css, h1, h2, h3, h4⟩ := h
  obtain ⟨a', c', he, e1, e2, e3, e4⟩ := owns_rowN h3 (by decide)
  simp only [Value.slice.injEq] at he
  obtain ⟨rfl, _, rfl⟩ := he
  refine .mk (b := []) (t := []) (ks := []) css (by unfold in64; omega) (by unfold in64; omega) (Row.nil _ _) ⟨Nat.le_refl _, Nat.zero_le _⟩ (Nat.zero_le _) (Row.nil _ _) ⟨Nat.le_refl _, Nat.zero_le _⟩ (by simp) e3 ⟨e1, e2⟩ h1 h2 (by simp) (by simp) (fun hp => ?_) (fun i c v hc hv => (h4 i c v hc hv).mono (fun b hb _ => h0 b hb))
  have hf : 0 < css.flatten.length := by
    rw [flatten_len h2, h1]
    exact Nat.mul_pos hp (by decide)
  exact hb _ (e4 hf).2.1
theorem val_end {α : Type} {B gr g : Nat} {w w2 : World} {cs old : List Value} {v : PV} {S : Rs α} {R : Rs PV} (hres : Blk w2 w.heap.size 30 old) (ho : old.length = 6) (hP : PRs B w2 gr g S) (hk : Dk gr g w w2) (hv : VAtP (fun b => w.heap.size + 1 ≤ b) w2 cs v) (hB : B ≤ w.heap.size) (h1 : gr < w.heap.size) (h2 : g < w.heap.size)
    (hc : ∀ l e bad, PRst S l e bad → PRst R l e bad) (hg : ∀ v0 r, R = .ok v0 r → v = v0) :
    (stoOp 30 (.pointer (some ⟨w.heap.size, 0, none⟩)) (.agg (List.toArray cs))).run Tryd.prog w2 = .ok () (w2.setRow w.heap.size (List.toArray cs)) ∧ Blk (w2.setRow w.heap.size (List.toArray cs)) w.heap.size 30 cs ∧ ValP B gr g w R (.returned (.agg (List.toArray cs))) (w2.setRow w.heap.size (List.toArray cs)) := by
  obtain ⟨a1, a2, a3, a4, a5⟩ := cell_end (q := w.heap.size) hres ho hP hk (hv.mono (fun b hb _ => ⟨by omega, by omega⟩)) hB (Nat.le_refl _) (by omega) (by omega)
  exact ⟨a1, a2, _, _, rfl, a3, hg, a4.cast hc, a5⟩
theorem rdbytes_any {α : Type} {B gr g n : Nat} {w : World} {s : Rs α} (h : PRs B w gr g s) (hn : n ≤ 65536) :
    Calls Tryd.prog 77 #[.pointer (some ⟨g, 0, none⟩), .int .i64 (n : Int)] w fun e w' => ∃ (a : Option Addr) (c : Nat) (t : List UInt8), e = .returned (.slice a t.length c) ∧ (t.length ≤ c ∧ c ≤ maxLen) ∧ Row w' a (t.map b8) ∧ (0 < t.length → w.heap.size ≤ (hd a).block) ∧ (∀ t0 r, (s.bind fun _ r => takeR n r) = .ok t0 r → t = t0) ∧ PRs B w' gr g (s.bind fun _ r => takeR n r) ∧ Dk gr g w w' := by
  obtain ⟨l, e, bad, h1, h2, h3, h4, h5⟩ := h
  obtain ⟨t1, t2, t3, t4, _⟩ := took_st n h3
  refine (bytes_any (n := (n : Int)) h2 (by omega)).mono ?_
  rintro ee w1 ⟨v, rfl, ho, hrd, hg⟩
  obtain ⟨a, c, rfl, k1, k2, k3, k4⟩ := Own.at (E := 5) ho
  exact ⟨a, c, _, rfl, ⟨k1, k2⟩, k3, fun h0 => (k4 h0).1, t2, ⟨_, _, _, h1.grown hg h5, hrd, t1, by omega, h5⟩, Dk.ofGrown hg (.inr rfl)⟩
/-- What stands behind a lead. -/
def bodyR (d : Nat) (c : Nat) (r : List UInt8) : Rs PV := match d with | 0 => .no 4 | d + 1 => leadR (decV d) c r
theorem decV_byte (d : Nat) (l : List UInt8) : decV d l = (byteR l).bind fun c r => bodyR d c r := by
  cases d with
  | zero =>
    unfold decV
    cases l with
    | nil => rfl
    | cons c r => rw [if_neg (by simp)]; rfl
  | succ d => cases l <;> rfl
theorem int8_wrap (x : Nat) (h : x < 256) : IntKind.i8.wrap (x : Int) = int8 x := by
  have h2 : ∀ k : Fin 256, IntKind.i8.wrap (k.val : Int) = int8 k.val := by decide
  exact h2 ⟨x, h⟩
theorem int8_in (x : Nat) (h : x < 256) : in64 (int8 x) := by unfold in64 int8; split <;> omega
theorem text32 {x : Nat} (h : isText x = false) : x / 32 ≠ 5 ∧ x ≠ 217 ∧ x ≠ 218 := by
  unfold isText at h
  simp only [Bool.or_eq_false_iff, beq_eq_false_iff_ne] at h
  exact ⟨h.1.1, h.1.2, h.2⟩

set_option maxHeartbeats 8000000 in
theorem val_any : ∀ d : Nat, d ≤ 1000 → ValH d := by
  intro d
  induction d with
  | zero =>
    intro _ B gr g w s h hB
    obtain ⟨hg1, hg2⟩ := h.lt
    have zs := zV_size
    have hO6 := oneC6
    have hb0 : Below w.heap.size w (w.alloc (.cells zV 30)) := (Below.refl _ _).alloc (Nat.le_refl _) _
    have R0 : Blk (w.alloc (.cells zV 30)) w.heap.size 30 zV.toList := Blk.new _ _ _
    have h0 := h.keep hb0
    have c0 := h0.ptr
    have hnum := rdnum_any h0
    have HR : Hid ((s.bind fun _ r => decV 0 r) = (s.bind fun _ r => byteR r).bind fun c r => bodyR 0 c r) := by
      show _ = _
      cases s with
      | no c => rfl
      | ok x r => exact decV_byte 0 r
    generalize (s.bind fun _ r => decV 0 r) = R at *
    generalize (s.bind fun _ r => byteR r) = T at *
    go_enter Tryd.func99, Tryd.ntmps99
    go_wp2_with fail
    refine hnum.mono ?_
    rintro ee w1 ⟨x, rfl, hx, hx0, hxn, hP, hk⟩
    have hf := failed_any hP
    have R1 := hk.blk R0 (by omega) (by omega)
    have hk1 := (Dk.ofBelow (gr := gr) (g := g) hb0).trans hk
    have ex : IntKind.u8.wrap (x : Int) = (x : Int) := by rw [IntKind.wrap_u8]; omega
    clear hnum hx0 hxn hk h0 R0
    cases T with
    | no c =>
      rw [Rs.isNo_no] at hf
      obtain ⟨HST, HB2, HV⟩ := val_end (cs := [.int .i64 0, .int .i64 0, .slice none 0 0, .string { data := #[] }, .slice none 0 0, .slice none 0 0]) (R := R) R1 (by rfl) hP hk1 (VAtP.plain (k := 0) (n := 0) (t := []) w1 (by unfold in64; omega) (by unfold in64; omega) (Nat.zero_le _)) hB hg1 hg2 (fun _ _ _ hh => by rw [HR.out]; exact hh) (fun v0 r hv => by rw [HR.out] at hv; cases hv)
      clear R1 hP hk1
      go_wp2_with fail
      refine hf.mono ?_
      rintro ee w2 ⟨rfl, rfl⟩
      go_wp2
      exact bodyPost_ret (results_cell_row (fn := Tryd.f99) (by rfl) _ _ w.heap.size 30 _ (0, 0) _ (by rfl) HB2 Tryd.underlying30 rfl sizeV) rfl HV
    | ok c r =>
      rw [Rs.isNo_ok] at hf
      obtain ⟨hP2, hk2, f1, zz, c1⟩ := PRs.bad (β := PV) hP
      have R2 := hk2.blk R1 (by omega) (by omega)
      obtain ⟨HST, HB2, HV⟩ := val_end (cs := [.int .i64 0, .int .i64 0, .slice none 0 0, .string { data := #[] }, .slice none 0 0, .slice none 0 0]) (R := R) R2 (by rfl) hP2 (hk1.trans hk2) (VAtP.plain (k := 0) (n := 0) (t := []) _ (by unfold in64; omega) (by unfold in64; omega) (Nat.zero_le _)) hB hg1 hg2 (fun _ _ _ hh => by rw [HR.out]; exact hh) (fun v0 r hv => by rw [HR.out] at hv; cases hv)
      clear R1 R2 hP hk1 hP2 hk2
      go_wp2_with fail
      refine hf.mono ?_
      rintro ee w2 ⟨rfl, rfl⟩
      go_wp2
      exact bodyPost_ret (results_cell_row (fn := Tryd.f99) (by rfl) _ _ w.heap.size 30 _ (0, 0) _ (by rfl) HB2 Tryd.underlying30 rfl sizeV) rfl HV
  | succ d ih =>
    intro hd B gr g w s h hB
    have HVd := ih (by omega)
    obtain ⟨hg1, hg2⟩ := h.lt
    have zs := zV_size
    have hO6 := oneC6
    have hb0 : Below w.heap.size w (w.alloc (.cells zV 30)) := (Below.refl _ _).alloc (Nat.le_refl _) _
    have R0 : Blk (w.alloc (.cells zV 30)) w.heap.size 30 zV.toList := Blk.new _ _ _
    have h0 := h.keep hb0
    have c0 := h0.ptr
    have hnum := rdnum_any h0
    have HR : Hid ((s.bind fun _ r => decV (d + 1) r) = (s.bind fun _ r => byteR r).bind fun c r => bodyR (d + 1) c r) := by
      show _ = _
      cases s with
      | no c => rfl
      | ok x r => exact decV_byte (d + 1) r
    generalize (s.bind fun _ r => decV (d + 1) r) = R at *
    generalize (s.bind fun _ r => byteR r) = T at *
    have ed : ((d + 1 : Nat) : Int) = (d : Int) + 1 := by omega
    have ed0 : ((d : Int) + 1 == 0) = false := beq_eq_false_iff_ne.2 (by omega)
    have ed1 : IntKind.i64.wrap ((d : Int) + 1 - 1) = (d : Int) := by rw [IntWalk.i64_in _ (by omega)]; omega
    have ed2 : IntKind.i64.wrap (d : Int) = (d : Int) := IntWalk.i64_in _ (by omega)
    rw [ed]
    clear ed
    go_enter Tryd.func99, Tryd.ntmps99
    go_wp2_with fail
    refine hnum.mono ?_
    rintro ee w1 ⟨x, rfl, hx, hx0, hxn, hP, hk⟩
    have hf := failed_any hP
    have R1 := hk.blk R0 (by omega) (by omega)
    have hk1 := (Dk.ofBelow (gr := gr) (g := g) hb0).trans hk
    have hs1 : w.heap.size + 1 ≤ w1.heap.size := by have := hk.size; simpa using this
    have ex : IntKind.u8.wrap (x : Int) = (x : Int) := by rw [IntKind.wrap_u8]; omega
    have HEX := Lib.hid ex
    clear hnum hxn hk h0 R0
    cases T with
    | no c =>
      rw [Rs.isNo_no] at hf
      obtain ⟨HST, HB2, HV⟩ := val_end (cs := [.int .i64 0, .int .i64 0, .slice none 0 0, .string { data := #[] }, .slice none 0 0, .slice none 0 0]) (R := R) R1 (by rfl) hP hk1 (VAtP.plain (k := 0) (n := 0) (t := []) w1 (by unfold in64; omega) (by unfold in64; omega) (Nat.zero_le _)) hB hg1 hg2 (fun _ _ _ hh => by rw [HR.out]; exact hh) (fun v0 r hv => by rw [HR.out] at hv; cases hv)
      clear R1 hP hk1
      go_wp2_with fail
      refine hf.mono ?_
      rintro ee w2 ⟨rfl, rfl⟩
      go_wp2
      exact bodyPost_ret (results_cell_row (fn := Tryd.f99) (by rfl) _ _ w.heap.size 30 _ (0, 0) _ (by rfl) HB2 Tryd.underlying30 rfl sizeV) rfl HV
    | ok c r =>
    rw [Rs.isNo_ok] at hf
    obtain rfl := hx0 c r rfl
    have HR1 : Hid (R = leadR (decV d) x r) := HR.out
    clear HR hx0
    go_wp2_with fail
    refine hf.mono ?_
    rintro ee w2 ⟨rfl, rfl⟩
    clear hf
    cases ht : isText x with
    | true =>
      have htx := rdtext_yes hP hx ht
      rw [Rs.bind_ok] at htx
      have HR2 : Hid (R = (textR x r).bind fun t r2 => .ok (pTxt t) r2) := by show _ = _; rw [HR1.out]; unfold leadR; rw [if_pos ht]
      generalize textR x r = K at *
      clear hP ht HR1
      go_wp2_with fail
      refine htx.mono ?_
      rintro ee w3 ⟨t, rfl, htl, ht0, hP3, hk3⟩
      have hto := text_of t w3
      go_wp2_with fail
      refine hto.mono ?_
      rintro ee w4 ⟨rfl, hb4⟩
      have R2 := (hk3.trans (Dk.ofBelow hb4)).blk R1 (by omega) (by omega)
      obtain ⟨HST, HB2, HV⟩ := val_end (cs := txtC t) (R := R) R2 (by rfl) (hP3.keep hb4) ((hk1.trans hk3).trans (Dk.ofBelow hb4)) (VAtP.plain (k := 5) (n := 0) (t := t) w4 (by unfold in64; omega) (by unfold in64; omega) (by unfold maxLen; omega)) hB hg1 hg2 (fun _ _ _ hh => by rw [HR2.out]; cases K <;> exact hh) (fun v0 r hv => by
        rw [HR2.out] at hv
        cases K with
        | no c => cases hv
        | ok t0 r0 => cases hv; rw [ht0 _ _ rfl]; rfl)
      clear R1 R2 hP3 hk1 hk3 htx hto ht0 htl
      go_wp2
      exact bodyPost_ret (results_cell_row (fn := Tryd.f99) (by rfl) _ _ w.heap.size 30 _ (0, 0) _ (by rfl) HB2 Tryd.underlying30 rfl sizeV) rfl HV
    | false =>
    have htx := rdtext_no hP ht
    obtain ⟨n32, n217, n218⟩ := text32 ht
    have HT0 := Lib.hid ht
    have HX := Lib.hid hx
    clear ht
    go_wp2_with fail
    refine htx.mono ?_
    rintro ee w2 ⟨rfl, rfl⟩
    clear htx
    by_cases hnum : x ≤ 0x7f ∨ 0xe0 ≤ x
    · by_cases h127 : x ≤ 127
      · have i1 : (x : Int) ≤ 127 := by omega
        have HR2 : Hid (R = .ok (pNum (int8 x)) r) := by show _ = _; rw [HR1.out]; unfold leadR; rw [if_neg (by rw [HT0.out]; decide), if_pos hnum]
        have e8 := int8_wrap x HX.out
        have HI := Lib.hid (int8_in x HX.out)
        have ew8 : wrap64 (int8 x) = int8 x := IntWalk.wrap64_in _ HI.out
        have hof := of_any (int8 x) w1
        clear hnum HR1
        generalize int8 x = z at *
        go_wp2_with fail
        refine hof.mono ?_
        rintro ee w3 ⟨rfl, hb3⟩
        have R2 := R1.below hb3
        obtain ⟨HST, HB2, HV⟩ := val_end (cs := numC z) (R := R) R2 (by rfl) (hP.keep hb3) (hk1.trans (Dk.ofBelow hb3)) (VAtP.num w3 HI.out) hB hg1 hg2 (fun _ _ _ hh => by rw [HR2.out]; exact hh) (fun v0 r hv => by rw [HR2.out] at hv; cases hv; rfl)
        clear R1 R2 hP hk1 hof
        go_wp2
        exact bodyPost_ret (results_cell_row (fn := Tryd.f99) (by rfl) _ _ w.heap.size 30 _ (0, 0) _ (by rfl) HB2 Tryd.underlying30 rfl sizeV) rfl HV
      · have i1 : ¬ (x : Int) ≤ 127 := by omega
        have i2 : 224 ≤ (x : Int) := by omega
        have HR2 : Hid (R = .ok (pNum (int8 x)) r) := by show _ = _; rw [HR1.out]; unfold leadR; rw [if_neg (by rw [HT0.out]; decide), if_pos hnum]
        have e8 := int8_wrap x HX.out
        have HI := Lib.hid (int8_in x HX.out)
        have ew8 : wrap64 (int8 x) = int8 x := IntWalk.wrap64_in _ HI.out
        have hof := of_any (int8 x) w1
        clear hnum HR1
        generalize int8 x = z at *
        go_wp2_with fail
        refine hof.mono ?_
        rintro ee w3 ⟨rfl, hb3⟩
        have R2 := R1.below hb3
        obtain ⟨HST, HB2, HV⟩ := val_end (cs := numC z) (R := R) R2 (by rfl) (hP.keep hb3) (hk1.trans (Dk.ofBelow hb3)) (VAtP.num w3 HI.out) hB hg1 hg2 (fun _ _ _ hh => by rw [HR2.out]; exact hh) (fun v0 r hv => by rw [HR2.out] at hv; cases hv; rfl)
        clear R1 R2 hP hk1 hof
        go_wp2
        exact bodyPost_ret (results_cell_row (fn := Tryd.f99) (by rfl) _ _ w.heap.size 30 _ (0, 0) _ (by rfl) HB2 Tryd.underlying30 rfl sizeV) rfl HV
    have i1 : ¬ (x : Int) ≤ 127 := by omega
    have i2 : ¬ 224 ≤ (x : Int) := by omega
    by_cases h9 : x / 16 = 9
    · have HR2 : Hid (R = (listR (decV d) (x % 16) r).bind fun l r2 => .ok (pList l) r2) := by show _ = _; rw [HR1.out]; unfold leadR; rw [if_neg (by rw [HT0.out]; decide), if_neg hnum, if_pos h9]
      have i9 : (x : Int) / 16 = 9 := by omega
      have ha := and15 x HX.out
      have hls := rdlist_any HVd (n := x % 16) hP.unit (by omega) (by omega)
      have ec : ((x % 16 : Nat) : Int) = (x : Int) % 16 := by omega
      rw [ec] at hls
      have hR3 : ((Rs.ok x r).unit.bind fun _ r => listR (decV d) (x % 16) r) = listR (decV d) (x % 16) r := rfl
      rw [hR3] at hls
      generalize listR (decV d) (x % 16) r = K at *
      clear hnum HR1 h9 hP ec hR3
      go_wp2_with fail
      refine hls.mono ?_
      rintro ee w3 ⟨a3, c3, vs, rfl, hvs, hv0, hP3, hk3, _⟩
      have R2 := hk3.blk R1 (by omega) (by omega)
      obtain ⟨HST, HB2, HV⟩ := val_end (cs := [.int .i64 6, .int .i64 0, .slice none 0 0, .string { data := #[] }, .slice none 0 0, .slice a3 (List.length vs) c3]) (R := R) R2 (by rfl) hP3 (hk1.trans hk3) (VAtP.list hvs (fun b hb => by omega) (fun b hb => by have := hb.1; omega)) hB hg1 hg2 (fun _ _ _ hh => by rw [HR2.out]; cases K <;> exact hh) (fun v0 r hv => by
        rw [HR2.out] at hv
        cases K with
        | no c => cases hv
        | ok t0 r0 => cases hv; rw [hv0 _ _ rfl])
      clear R1 R2 hP3 hk1 hk3 hls hvs hv0
      go_wp2
      exact bodyPost_ret (results_cell_row (fn := Tryd.f99) (by rfl) _ _ w.heap.size 30 _ (0, 0) _ (by rfl) HB2 Tryd.underlying30 rfl sizeV) rfl HV
    have j9 : ((x : Int) / 16 == 9) = false := by simp; omega
    by_cases h8 : x / 16 = 8
    · have HR2 : Hid (R = (dictR (decV d) (x % 16) none r).bind fun l r2 => .ok (pDict l) r2) := by show _ = _; rw [HR1.out]; unfold leadR; rw [if_neg (by rw [HT0.out]; decide), if_neg hnum, if_neg h9, if_pos h8]
      have i8 : (x : Int) / 16 = 8 := by omega
      have ha := and15 x HX.out
      have hls := rddict_any HVd (n := x % 16) hP.unit (by omega) (by omega)
      have ec : ((x % 16 : Nat) : Int) = (x : Int) % 16 := by omega
      rw [ec] at hls
      have hR3 : ((Rs.ok x r).unit.bind fun _ r => (dictR (decV d) (x % 16) none r).bind fun ps r2 => .ok (pDict ps) r2) = (dictR (decV d) (x % 16) none r).bind fun ps r2 => .ok (pDict ps) r2 := rfl
      rw [hR3, ← HR2.out] at hls
      clear hnum HR1 h9 h8 hP ec hR3
      go_wp2_with fail
      refine hls.mono ?_
      rintro ee w3 ⟨cs, v, rfl, hv, hv0, hP3, hk3⟩
      have R2 := hk3.blk R1 (by omega) (by omega)
      have x6 : cs.length = 6 := hv.len
      have hcell := hv.len
      obtain ⟨HST, HB2, HV⟩ := val_end (cs := cs) (R := R) R2 (by rfl) hP3 (hk1.trans hk3) (hv.mono (fun b hb _ => by omega)) hB hg1 hg2 (fun _ _ _ hh => hh) hv0
      have xs : (List.toArray cs).size = 6 := hv.len
      clear R1 R2 hP3 hk1 hk3 hls hv hv0 hcell
      go_wp2
      exact bodyPost_ret (results_cell_row (fn := Tryd.f99) (by rfl) _ _ w.heap.size 30 _ (0, 0) _ (by rfl) HB2 Tryd.underlying30 rfl (by rw [xs]; exact sizeV)) rfl HV
    have j8 : ((x : Int) / 16 == 8) = false := by simp; omega
    by_cases hint : 0xcc ≤ x ∧ x ≤ 0xd3
    · have HR2 : Hid (R = (intR x r).bind fun n r2 => .ok (pNum n) r2) := by show _ = _; rw [HR1.out]; unfold leadR; rw [if_neg (by rw [HT0.out]; decide), if_neg hnum, if_neg h9, if_neg h8, if_pos hint]
      have i204 : 204 ≤ (x : Int) := by omega
      have i211 : (x : Int) ≤ 211 := by omega
      have hls := rdinteger_any hP hint (by omega)
      rw [Rs.bind_ok, ← HR2.out] at hls
      clear hnum HR1 h9 h8 hint hP
      go_wp2_with fail
      refine hls.mono ?_
      rintro ee w3 ⟨cs, v, rfl, hv, hv0, hP3, hk3⟩
      have R2 := hk3.blk R1 (by omega) (by omega)
      obtain ⟨HST, HB2, HV⟩ := val_end (cs := cs) (R := R) R2 (by rfl) hP3 (hk1.trans hk3) (hv.mono (fun b hb _ => by omega)) hB hg1 hg2 (fun _ _ _ hh => hh) hv0
      have xs : (List.toArray cs).size = 6 := hv.len
      clear R1 R2 hP3 hk1 hk3 hls hv hv0
      go_wp2
      exact bodyPost_ret (results_cell_row (fn := Tryd.f99) (by rfl) _ _ w.heap.size 30 _ (0, 0) _ (by rfl) HB2 Tryd.underlying30 rfl (by rw [xs]; exact sizeV)) rfl HV
    have HL : Hid (R = if x = 0xc0 then .ok (pKind 0) r else if x = 0xc2 then .ok (pKind 1) r else if x = 0xc3 then .ok (pKind 2) r else
        if x = 0xc4 then ((bigR 1 r).bind takeR).bind fun b r2 => .ok (pByt b) r2 else
        if x = 0xc5 then ((leastR 2 256 r).bind takeR).bind fun b r2 => .ok (pByt b) r2 else
        if x = 0xdc then (leastR 2 16 r).bind fun n r2 => (listR (decV d) n r2).bind fun l r3 => .ok (pList l) r3 else
        if x = 0xde then (leastR 2 16 r).bind fun n r2 => (dictR (decV d) n none r2).bind fun l r3 => .ok (pDict l) r3 else .no 4) := by
      show _ = _
      rw [HR1.out]; unfold leadR; rw [if_neg (by rw [HT0.out]; decide), if_neg hnum, if_neg h9, if_neg h8, if_neg hint]
    have j204 : (204 : Int) ≤ (x : Int) → ¬ (x : Int) ≤ 211 := by omega
    clear HR1
    by_cases h192 : x = 192
    · subst h192
      have HR2 : Hid (R = .ok (pKind 0) r) := by show _ = _; rw [HL.out]; rfl
      obtain ⟨HST, HB2, HV⟩ := val_end (cs := [.int .i64 0, .int .i64 0, .slice none 0 0, .string { data := #[] }, .slice none 0 0, .slice none 0 0]) (R := R) R1 (by rfl) hP hk1 (VAtP.plain (k := 0) (n := 0) (t := []) w1 (by unfold in64; omega) (by unfold in64; omega) (Nat.zero_le _)) hB hg1 hg2 (fun _ _ _ hh => by rw [HR2.out]; exact hh) (fun v0 r hv => by rw [HR2.out] at hv; cases hv; rfl)
      clear R1 hP hk1 j204 hint h8 h9 hnum n32 n217 n218 i1 i2 j9 j8 HL ex hx
      go_wp2
      exact bodyPost_ret (results_cell_row (fn := Tryd.f99) (by rfl) _ _ w.heap.size 30 _ (0, 0) _ (by rfl) HB2 Tryd.underlying30 rfl sizeV) rfl HV
    by_cases h194 : x = 194
    · subst h194
      have HR2 : Hid (R = .ok (pKind 1) r) := by show _ = _; rw [HL.out]; rfl
      obtain ⟨HST, HB2, HV⟩ := val_end (cs := [.int .i64 1, .int .i64 0, .slice none 0 0, .string { data := #[] }, .slice none 0 0, .slice none 0 0]) (R := R) R1 (by rfl) hP hk1 (VAtP.plain (k := 1) (n := 0) (t := []) w1 (by unfold in64; omega) (by unfold in64; omega) (Nat.zero_le _)) hB hg1 hg2 (fun _ _ _ hh => by rw [HR2.out]; exact hh) (fun v0 r hv => by rw [HR2.out] at hv; cases hv; rfl)
      clear R1 hP hk1 j204 hint h8 h9 hnum n32 n217 n218 i1 i2 j9 j8 HL ex hx
      go_wp2
      exact bodyPost_ret (results_cell_row (fn := Tryd.f99) (by rfl) _ _ w.heap.size 30 _ (0, 0) _ (by rfl) HB2 Tryd.underlying30 rfl sizeV) rfl HV
    by_cases h195 : x = 195
    · subst h195
      have HR2 : Hid (R = .ok (pKind 2) r) := by show _ = _; rw [HL.out]; rfl
      obtain ⟨HST, HB2, HV⟩ := val_end (cs := [.int .i64 2, .int .i64 0, .slice none 0 0, .string { data := #[] }, .slice none 0 0, .slice none 0 0]) (R := R) R1 (by rfl) hP hk1 (VAtP.plain (k := 2) (n := 0) (t := []) w1 (by unfold in64; omega) (by unfold in64; omega) (Nat.zero_le _)) hB hg1 hg2 (fun _ _ _ hh => by rw [HR2.out]; exact hh) (fun v0 r hv => by rw [HR2.out] at hv; cases hv; rfl)
      clear R1 hP hk1 j204 hint h8 h9 hnum n32 n217 n218 i1 i2 j9 j8 HL ex hx
      go_wp2
      exact bodyPost_ret (results_cell_row (fn := Tryd.f99) (by rfl) _ _ w.heap.size 30 _ (0, 0) _ (by rfl) HB2 Tryd.underlying30 rfl sizeV) rfl HV
    by_cases h196 : x = 196
    · subst h196
      have HR2 : Hid (R = ((bigR 1 r).bind takeR).bind fun b r2 => .ok (pByt b) r2) := by show _ = _; rw [HL.out]; rfl
      have hPd := hP.keep (Gr.drewN w1 1)
      have R1d := R1.drewN 1
      have hk1d : Dk gr g w w1.drew := hk1.trans (Dk.ofBelow (Gr.drewN w1 1))
      have hrd := rdbig_any (n := 1) hPd (by decide) (by decide)
      rw [Rs.bind_ok] at hrd
      generalize bigR 1 r = K at *
      have c1 := hP.ptr
      clear j204 hint h8 h9 hnum n32 n217 n218 i1 i2 j9 j8 HL ex hP R1 hk1 hPd hx
      go_wp2
      go_region_held3 (fun w' => w'.cell? ⟨gr, 0, none⟩ = some (.pointer (some ⟨g, 0, none⟩))) (first | go_keep | assumption | exact c5 _) (first
        | (go_at_call 115; refine hrd.mono ?_; rintro e3 w3 ⟨y, rfl, hy, hy0, hyn, hP3, hk3⟩; have c3 := hP3.ptr; have ey : IntKind.i64.wrap (y : Int) = (y : Int) := IntWalk.i64_in _ (by have : y < 256 := hy; omega); have hby := rdbytes_any (n := y) hP3 (by have : y < 256 := hy; omega))
        | (go_at_call 77; refine hby.mono ?_; rintro e4 w4 ⟨a4, k4, t, rfl, hc4, hr4, ho4, ht0, hP4, hk4⟩; have c4 := hP4.ptr; have R4 := (hk3.trans hk4).blk R1d (by omega) (by omega); have hsz4 := hk3.size; obtain ⟨HST, HB2, HV⟩ := val_end (cs := [.int .i64 4, .int .i64 0, .slice a4 (List.length t) k4, .string { data := #[] }, .slice none 0 0, .slice none 0 0]) (R := R) R4 (by rfl) hP4 ((hk1d.trans hk3).trans hk4) (VAtP.byt hc4 hr4 (fun h0 => by have := ho4 h0; have : w1.heap.size ≤ w3.heap.size := hsz4; omega)) hB hg1 hg2 (fun _ _ _ hh => by rw [HR2.out]; cases K with | no c => exact hh | ok y0 r0 => (rw [hy0 _ _ rfl] at hh; rw [Rs.bind_ok] at hh ⊢; cases hT : takeR y0 r0 with | no c => (rw [hT] at hh; exact hh) | ok b0 r1 => (rw [hT] at hh; exact hh))) (fun v0 r hv => by rw [HR2.out] at hv; cases K with | no c => cases hv | ok y0 r0 => (rw [Rs.bind_ok] at hv; cases hT : takeR y0 r0 with | no c => (rw [hT] at hv; cases hv) | ok b0 r1 => (rw [hT] at hv; cases hv; rw [ht0 b0 _ (by rw [Rs.bind_ok, hy0 _ _ rfl]; exact hT)]))); have c5 : ∀ cs, (w4.setRow w.heap.size cs).cell? ⟨gr, 0, none⟩ = some (.pointer (some ⟨g, 0, none⟩)) := fun cs => by (rw [World.cell?_of_block (w := w4) (setRow_other w4 w.heap.size gr cs (by omega))]; exact c4)))
      clear hP4 hk4 hk3 hP3 hr4 R4 R1d
      go_wp2
      exact bodyPost_ret (results_cell_row (fn := Tryd.f99) (by rfl) _ _ w.heap.size 30 _ (0, 0) _ (by rfl) HB2 Tryd.underlying30 rfl sizeV) rfl HV
    by_cases h197 : x = 197
    · subst h197
      have HR2 : Hid (R = ((leastR 2 256 r).bind takeR).bind fun b r2 => .ok (pByt b) r2) := by show _ = _; rw [HL.out]; rfl
      have hPd := hP.keep (Gr.drewN w1 1)
      have R1d := R1.drewN 1
      have hk1d : Dk gr g w w1.drew := hk1.trans (Dk.ofBelow (Gr.drewN w1 1))
      have hrd := rdleast_any (n := 2) (lo := 256) hPd (by decide) (by decide) (by decide)
      rw [Rs.bind_ok] at hrd
      generalize leastR 2 256 r = K at *
      have c1 := hP.ptr
      clear j204 hint h8 h9 hnum n32 n217 n218 i1 i2 j9 j8 HL ex hP R1 hk1 hPd hx
      go_wp2
      go_region_held3 (fun w' => w'.cell? ⟨gr, 0, none⟩ = some (.pointer (some ⟨g, 0, none⟩))) (first | go_keep | assumption | exact c5 _) (first
        | (go_at_call 116; refine hrd.mono ?_; rintro e3 w3 ⟨y, rfl, hy, hy0, hyn, hP3, hk3⟩; have c3 := hP3.ptr; have ey : IntKind.i64.wrap (y : Int) = (y : Int) := IntWalk.i64_in _ (by have : y < 65536 := hy; omega); have hby := rdbytes_any (n := y) hP3 (by have : y < 65536 := hy; omega))
        | (go_at_call 77; refine hby.mono ?_; rintro e4 w4 ⟨a4, k4, t, rfl, hc4, hr4, ho4, ht0, hP4, hk4⟩; have c4 := hP4.ptr; have R4 := (hk3.trans hk4).blk R1d (by omega) (by omega); have hsz4 := hk3.size; obtain ⟨HST, HB2, HV⟩ := val_end (cs := [.int .i64 4, .int .i64 0, .slice a4 (List.length t) k4, .string { data := #[] }, .slice none 0 0, .slice none 0 0]) (R := R) R4 (by rfl) hP4 ((hk1d.trans hk3).trans hk4) (VAtP.byt hc4 hr4 (fun h0 => by have := ho4 h0; have : w1.heap.size ≤ w3.heap.size := hsz4; omega)) hB hg1 hg2 (fun _ _ _ hh => by rw [HR2.out]; cases K with | no c => exact hh | ok y0 r0 => (rw [hy0 _ _ rfl] at hh; rw [Rs.bind_ok] at hh ⊢; cases hT : takeR y0 r0 with | no c => (rw [hT] at hh; exact hh) | ok b0 r1 => (rw [hT] at hh; exact hh))) (fun v0 r hv => by rw [HR2.out] at hv; cases K with | no c => cases hv | ok y0 r0 => (rw [Rs.bind_ok] at hv; cases hT : takeR y0 r0 with | no c => (rw [hT] at hv; cases hv) | ok b0 r1 => (rw [hT] at hv; cases hv; rw [ht0 b0 _ (by rw [Rs.bind_ok, hy0 _ _ rfl]; exact hT)]))); have c5 : ∀ cs, (w4.setRow w.heap.size cs).cell? ⟨gr, 0, none⟩ = some (.pointer (some ⟨g, 0, none⟩)) := fun cs => by (rw [World.cell?_of_block (w := w4) (setRow_other w4 w.heap.size gr cs (by omega))]; exact c4)))
      clear hP4 hk4 hk3 hP3 hr4 R4 R1d
      go_wp2
      exact bodyPost_ret (results_cell_row (fn := Tryd.f99) (by rfl) _ _ w.heap.size 30 _ (0, 0) _ (by rfl) HB2 Tryd.underlying30 rfl sizeV) rfl HV
    by_cases h220 : x = 220
    · subst h220
      have HR2 : Hid (R = (leastR 2 16 r).bind fun n r2 => (listR (decV d) n r2).bind fun l r3 => .ok (pList l) r3) := by show _ = _; rw [HL.out]; rfl
      have hrd := rdleast_any (n := 2) (lo := 16) hP (by decide) (by decide) (by decide)
      rw [Rs.bind_ok] at hrd
      generalize leastR 2 16 r = K at *
      clear j204 hint h8 h9 hnum n32 n217 n218 i1 i2 j9 j8 HL ex hx hP
      go_wp2_with fail
      refine hrd.mono ?_
      rintro ee w3 ⟨y, rfl, hy, hy0, hyn, hP3, hk3⟩
      have hsz3 := hk3.size
      have hy' : y < 65536 := hy
      have ey : IntKind.i64.wrap (y : Int) = (y : Int) := IntWalk.i64_in _ (by omega)
      have hls := rdlist_any HVd (n := y) hP3.unit (by omega) (by omega)
      go_wp2_with fail
      refine hls.mono ?_
      rintro ee w4 ⟨a4, c4, vs, rfl, hvs, hv0, hP4, hk4, _⟩
      have R4 := (hk3.trans hk4).blk R1 (by omega) (by omega)
      obtain ⟨HST, HB2, HV⟩ := val_end (cs := [.int .i64 6, .int .i64 0, .slice none 0 0, .string { data := #[] }, .slice none 0 0, .slice a4 (List.length vs) c4]) (R := R) R4 (by rfl) hP4 ((hk1.trans hk3).trans hk4) (VAtP.list hvs (fun b hb => by omega) (fun b hb => by have := hb.1; omega)) hB hg1 hg2 (fun l e bad hh => by
        rw [HR2.out]
        cases K with
        | no c => exact hh
        | ok y0 r0 =>
          rw [hy0 _ _ rfl] at hh
          have hh : PRst (listR (decV d) y0 r0) l e bad := hh
          rw [Rs.bind_ok]
          cases hT : listR (decV d) y0 r0 with
          | no c => rw [hT] at hh; exact hh
          | ok b0 r1 => rw [hT] at hh; exact hh) (fun v0 r hv => by
        rw [HR2.out] at hv
        cases K with
        | no c => cases hv
        | ok y0 r0 =>
          rw [Rs.bind_ok] at hv
          cases hT : listR (decV d) y0 r0 with
          | no c => rw [hT] at hv; cases hv
          | ok b0 r1 => rw [hT] at hv; cases hv; rw [hv0 b0 _ (by rw [hy0 _ _ rfl]; exact hT)])
      clear hP4 hk4 hk3 hP3 R4 R1 hls hvs hv0
      go_wp2
      exact bodyPost_ret (results_cell_row (fn := Tryd.f99) (by rfl) _ _ w.heap.size 30 _ (0, 0) _ (by rfl) HB2 Tryd.underlying30 rfl sizeV) rfl HV
    by_cases h222 : x = 222
    · subst h222
      have HR2 : Hid (R = (leastR 2 16 r).bind fun n r2 => (dictR (decV d) n none r2).bind fun l r3 => .ok (pDict l) r3) := by show _ = _; rw [HL.out]; rfl
      have hrd := rdleast_any (n := 2) (lo := 16) hP (by decide) (by decide) (by decide)
      rw [Rs.bind_ok] at hrd
      generalize leastR 2 16 r = K at *
      clear j204 hint h8 h9 hnum n32 n217 n218 i1 i2 j9 j8 HL ex hx hP
      go_wp2_with fail
      refine hrd.mono ?_
      rintro ee w3 ⟨y, rfl, hy, hy0, hyn, hP3, hk3⟩
      have hsz3 := hk3.size
      have hy' : y < 65536 := hy
      have ey : IntKind.i64.wrap (y : Int) = (y : Int) := IntWalk.i64_in _ (by omega)
      have hls := rddict_any HVd (n := y) hP3.unit (by omega) (by omega)
      go_wp2_with fail
      refine hls.mono ?_
      rintro ee w4 ⟨cs, v, rfl, hv, hv0, hP4, hk4⟩
      have R4 := (hk3.trans hk4).blk R1 (by omega) (by omega)
      have xs : (List.toArray cs).size = 6 := hv.len
      obtain ⟨HST, HB2, HV⟩ := val_end (cs := cs) (R := R) R4 (by rfl) hP4 ((hk1.trans hk3).trans hk4) (hv.mono (fun b hb _ => by omega)) hB hg1 hg2 (fun l e bad hh => by
        rw [HR2.out]
        cases K with
        | no c => exact hh
        | ok y0 r0 => rw [hy0 _ _ rfl] at hh; exact hh) (fun v0 r hv => by
        rw [HR2.out] at hv
        cases K with
        | no c => cases hv
        | ok y0 r0 => rw [hv0 v0 r (by rw [hy0 _ _ rfl]; exact hv)])
      clear hP4 hk4 hk3 hP3 R4 R1 hls hv hv0
      go_wp2
      exact bodyPost_ret (results_cell_row (fn := Tryd.f99) (by rfl) _ _ w.heap.size 30 _ (0, 0) _ (by rfl) HB2 Tryd.underlying30 rfl (by rw [xs]; exact sizeV)) rfl HV
    have HR2 : Hid (R = .no 4) := by show _ = _; rw [HL.out, if_neg h192, if_neg h194, if_neg h195, if_neg h196, if_neg h197, if_neg h220, if_neg h222]
    have k192 : ((x : Int) == 192) = false := by simp; omega
    have k194 : ((x : Int) == 194) = false := by simp; omega
    have k195 : ((x : Int) == 195) = false := by simp; omega
    have k196 : ((x : Int) == 196) = false := by simp; omega
    have k197 : ((x : Int) == 197) = false := by simp; omega
    have k220 : ((x : Int) == 220) = false := by simp; omega
    have k222 : ((x : Int) == 222) = false := by simp; omega
    obtain ⟨hP2, hk2, f1, zz, c1⟩ := PRs.bad (β := PV) hP
    have R2 := hk2.blk R1 (by omega) (by omega)
    obtain ⟨HST, HB2, HV⟩ := val_end (cs := [.int .i64 0, .int .i64 0, .slice none 0 0, .string { data := #[] }, .slice none 0 0, .slice none 0 0]) (R := R) R2 (by rfl) hP2 (hk1.trans hk2) (VAtP.plain (k := 0) (n := 0) (t := []) _ (by unfold in64; omega) (by unfold in64; omega) (Nat.zero_le _)) hB hg1 hg2 (fun _ _ _ hh => by rw [HR2.out]; exact hh) (fun v0 r hv => by rw [HR2.out] at hv; cases hv)
    have h204 : ((204 : Int) ≤ (x : Int) ∧ ¬ (x : Int) ≤ 211) ∨ ¬ (204 : Int) ≤ (x : Int) := by omega
    clear R1 R2 hP hk1 hP2 hk2 j204 hint h8 h9 hnum n32 n217 n218 HL h192 h194 h195 h196 h197 h220 h222 hx
    rcases h204 with ⟨g1, g2⟩ | g1
    · skip
      go_wp2
      exact bodyPost_ret (results_cell_row (fn := Tryd.f99) (by rfl) _ _ w.heap.size 30 _ (0, 0) _ (by rfl) HB2 Tryd.underlying30 rfl sizeV) rfl HV
    · skip
      go_wp2
      exact bodyPost_ret (results_cell_row (fn := Tryd.f99) (by rfl) _ _ w.heap.size 30 _ (0, 0) _ (by rfl) HB2 Tryd.underlying30 rfl sizeV) rfl HV
end Go.Proofs.YtpchogicdnfggaaDoor
set_option maxRecDepth 20000
namespace Go.Proofs.YtpchogicdnfggaaDoor
open Go.RowKit Go.Hd

mutual
/-- A value without what plays no part. -/
def normV : PV → PV
  | .mk k n b t ks l => if k = 3 then pNum n else if k = 4 then pByt b else if k = 5 then pTxt t else if k = 6 then pList (normL l) else if k = 7 then .mk 7 0 [] [] ks (normL l) else pKind k
def normL : List PV → List PV
  | [] => []
  | x :: l => normV x :: normL l
end
theorem normL_len : ∀ l : List PV, (normL l).length = l.length
  | [] => by unfold normL; rfl
  | x :: l => by unfold normL; rw [List.length_cons, List.length_cons, normL_len l]
theorem normV_mk (k n : Int) (b t : List UInt8) (ks : List (List UInt8)) (l : List PV) : normV (.mk k n b t ks l) = if k = 3 then pNum n else if k = 4 then pByt b else if k = 5 then pTxt t else if k = 6 then pList (normL l) else if k = 7 then .mk 7 0 [] [] ks (normL l) else pKind k := by
  rw [normV]
mutual
theorem sameV_norm : ∀ v w : PV, sameV v w = true ↔ normV v = normV w
  | .mk k n b t ks l, .mk k' n' b' t' ks' l' => by
    have hl := sameL_norm l l'
    rw [normV_mk, normV_mk]
    unfold sameV
    simp only [Bool.and_eq_true, Bool.or_eq_true, beq_iff_eq, bne_iff_ne, hl]
    unfold pNum pByt pTxt pList pKind
    constructor
    · rintro ⟨⟨⟨⟨⟨rfl, h3⟩, h4⟩, h5⟩, h7⟩, h6⟩
      by_cases k3 : k = 3
      · rw [if_pos k3, if_pos k3]; rcases h3 with h | h; exact absurd k3 h; rw [h]
      by_cases k4 : k = 4
      · rw [if_neg k3, if_neg k3, if_pos k4, if_pos k4]; rcases h4 with h | h; exact absurd k4 h; rw [h]
      by_cases k5 : k = 5
      · rw [if_neg k3, if_neg k3, if_neg k4, if_neg k4, if_pos k5, if_pos k5]; rcases h5 with h | h; exact absurd k5 h; rw [h]
      by_cases k6 : k = 6
      · rw [if_neg k3, if_neg k3, if_neg k4, if_neg k4, if_neg k5, if_neg k5, if_pos k6, if_pos k6]
        rcases h6 with h | h
        · exact absurd k6 h.1
        · rw [h]
      by_cases k7 : k = 7
      · rw [if_neg k3, if_neg k3, if_neg k4, if_neg k4, if_neg k5, if_neg k5, if_neg k6, if_neg k6, if_pos k7, if_pos k7]
        rcases h6 with h | h
        · exact absurd k7 h.2
        · rcases h7 with g | g
          · exact absurd k7 g
          · rw [h, g]
      rw [if_neg k3, if_neg k3, if_neg k4, if_neg k4, if_neg k5, if_neg k5, if_neg k6, if_neg k6, if_neg k7, if_neg k7]
    · intro h
      have hk : k = k' := by
        have e1 : ∀ (k n : Int) (b t : List UInt8) (ks : List (List UInt8)) (l : List PV), PV.kind (if k = 3 then PV.mk 3 n [] [] [] [] else if k = 4 then PV.mk 4 0 b [] [] [] else if k = 5 then PV.mk 5 0 [] t [] [] else if k = 6 then PV.mk 6 0 [] [] [] (normL l) else if k = 7 then PV.mk 7 0 [] [] ks (normL l) else PV.mk k 0 [] [] [] []) = k := by
          intro k n b t ks l
          repeat' split
          all_goals (first | (rename_i h; exact h.symm) | rfl | (simp only [PV.kind]; omega))
        have := congrArg PV.kind h
        rw [e1, e1] at this
        exact this
      subst hk
      refine ⟨⟨⟨⟨⟨rfl, ?_⟩, ?_⟩, ?_⟩, ?_⟩, ?_⟩
      · by_cases k3 : k = 3
        · rw [if_pos k3, if_pos k3] at h; cases h; exact .inr rfl
        · exact .inl k3
      · by_cases k4 : k = 4
        · have k3 : ¬ k = 3 := by omega
          rw [if_neg k3, if_neg k3, if_pos k4, if_pos k4] at h; cases h; exact .inr rfl
        · exact .inl k4
      · by_cases k5 : k = 5
        · have k3 : ¬ k = 3 := by omega
          have k4 : ¬ k = 4 := by omega
          rw [if_neg k3, if_neg k3, if_neg k4, if_neg k4, if_pos k5, if_pos k5] at h; cases h; exact .inr rfl
        · exact .inl k5
      · by_cases k7 : k = 7
        · have k3 : ¬ k = 3 := by omega
          have k4 : ¬ k = 4 := by omega
          have k5 : ¬ k = 5 := by omega
          have k6 : ¬ k = 6 := by omega
          rw [if_neg k3, if_neg k3, if_neg k4, if_neg k4, if_neg k5, if_neg k5, if_neg k6, if_neg k6, if_pos k7, if_pos k7] at h
          simp only [PV.mk.injEq] at h
          exact .inr h.2.2.2.2.1
        · exact .inl k7
      · by_cases k6 : k = 6
        · have k3 : ¬ k = 3 := by omega
          have k4 : ¬ k = 4 := by omega
          have k5 : ¬ k = 5 := by omega
          rw [if_neg k3, if_neg k3, if_neg k4, if_neg k4, if_neg k5, if_neg k5, if_pos k6, if_pos k6] at h
          simp only [PV.mk.injEq] at h
          exact .inr h.2.2.2.2.2
        · by_cases k7 : k = 7
          · have k3 : ¬ k = 3 := by omega
            have k4 : ¬ k = 4 := by omega
            have k5 : ¬ k = 5 := by omega
            rw [if_neg k3, if_neg k3, if_neg k4, if_neg k4, if_neg k5, if_neg k5, if_neg k6, if_neg k6, if_pos k7, if_pos k7] at h
            simp only [PV.mk.injEq] at h
            exact .inr h.2.2.2.2.2
          · exact .inl ⟨k6, k7⟩
theorem sameL_norm : ∀ l m : List PV, sameL l m = true ↔ normL l = normL m
  | [], [] => by simp [sameL, normL]
  | [], y :: m => by simp [sameL, normL]
  | x :: l, [] => by simp [sameL, normL]
  | x :: l, y :: m => by
    have h1 := sameV_norm x y
    have h2 := sameL_norm l m
    simp only [sameL, normL, Bool.and_eq_true, h1, h2, List.cons.injEq]
end
/-! What is read hangs on the bytes that are read; a beginning of them ends too early. -/
/-! What was written is read. -/
inductive OkV : PV → Prop
  | mk {k n : Int} {b t : List UInt8} {ks : List (List UInt8)} {l : List PV} (hn : in64 n) (hl : ∀ x ∈ l, OkV x) : OkV (.mk k n b t ks l)
theorem putO_ok {l m x : List UInt8} (h : putO (some l) m = some x) : x = l ++ m := (putO_len h).1
/-- A text, written, is read. -/
theorem dec_text {l0 k x : List UInt8} (h : textO (some l0) k = some x) : ∃ (c : UInt8) (m : List UInt8), x = l0 ++ (c :: m) ∧ isText c.toNat = true ∧ ∀ r, textR c.toNat (m ++ r) = .ok k r := by
  unfold textO at h
  by_cases h1 : k.length ≤ 31
  · rw [if_pos h1] at h
    refine ⟨_, k, putO_ok h, ?_, fun r => ?_⟩
    all_goals
      have e := or_ofNat 0xa0 31 k.length (by decide) h1
      have e2 : (0xa0 ||| UInt8.ofNat k.length).toNat = 160 + k.length := by
        rw [e, UInt8.toNat_ofNat']
        show (160 + k.length) % 256 = _
        omega
      rw [e2]
    · unfold isText
      have : (160 + k.length) / 32 = 5 := by omega
      rw [this]; rfl
    · unfold textR
      rw [if_pos (by omega), show (160 + k.length) % 32 = k.length by omega]
      exact takeR_app k r rfl
  rw [if_neg h1] at h
  by_cases h2 : k.length ≤ 255
  · rw [if_pos h2] at h
    refine ⟨0xd9, bigB k.length 1 ++ k, putO_ok h, rfl, fun r => ?_⟩
    show (leastR 1 32 (bigB k.length 1 ++ k ++ r)).bind takeR = _
    rw [List.append_assoc, leastR_app _ (by omega) (by omega), Rs.bind_ok]
    exact takeR_app k r rfl
  rw [if_neg h2] at h
  by_cases h3 : k.length ≤ 65535
  · rw [if_pos h3] at h
    refine ⟨0xda, bigB k.length 2 ++ k, putO_ok h, rfl, fun r => ?_⟩
    show (leastR 2 256 (bigB k.length 2 ++ k ++ r)).bind takeR = _
    rw [List.append_assoc, leastR_app _ (by omega) (by omega), Rs.bind_ok]
    exact takeR_app k r rfl
  rw [if_neg h3] at h
  cases h
/-- What the writer's law says of one value. -/
def DE (d : Nat) (v : PV) : Prop := ∀ l0 x, encO d (some l0) v = some x → ∃ e, x = l0 ++ e ∧ ∀ r, decV d (e ++ r) = .ok (normV v) r
theorem dec_list {d : Nat} : ∀ (l : List PV), (∀ v ∈ l, DE d v) → ∀ l0 x, l.foldl (encO d) (some l0) = some x → ∃ e, x = l0 ++ e ∧ ∀ r, listR (decV d) l.length (e ++ r) = .ok (normL l) r
  | [], _, l0, x, h => by
    cases h
    exact ⟨[], by simp, fun r => by rw [normL]; rfl⟩
  | v :: l, hv, l0, x, h => by
    rw [List.foldl_cons] at h
    cases h1 : encO d (some l0) v with
    | none => rw [h1, fold_enc_none] at h; cases h
    | some y =>
      rw [h1] at h
      obtain ⟨e1, rfl, a1⟩ := hv v (by simp) l0 y h1
      obtain ⟨e2, rfl, a2⟩ := dec_list l (fun w hw => hv w (by simp [hw])) _ x h
      refine ⟨e1 ++ e2, by simp, fun r => ?_⟩
      show (decV d (e1 ++ e2 ++ r)).bind _ = _
      rw [List.append_assoc, a1, Rs.bind_ok, a2, Rs.bind_ok, normL]
theorem dec_dict {d : Nat} : ∀ (ks : List (List UInt8)) (l : List PV) (prev : Option (List UInt8)), ks.length = l.length → (∀ v ∈ l, DE d v) → risesT ks = true → (∀ p k, prev = some p → ks.head? = some k → leT k p = false) → ∀ l0 x, (ks.zip l).foldl (fun o x => encO d (textO o x.1) x.2) (some l0) = some x → ∃ e, x = l0 ++ e ∧ ∀ r, dictR (decV d) l.length prev (e ++ r) = .ok (ks.zip (normL l)) r
  | [], [], prev, _, _, _, _, l0, x, h => by
    cases h
    exact ⟨[], by simp, fun r => by rw [normL]; rfl⟩
  | [], _ :: _, _, hl, _, _, _, _, _, _ => by simp at hl
  | _ :: _, [], _, hl, _, _, _, _, _, _ => by simp at hl
  | k :: ks, v :: l, prev, hl, hv, hr, hp, l0, x, h => by
    rw [List.zip_cons_cons, List.foldl_cons] at h
    cases h1 : textO (some l0) k with
    | none => simp only [h1] at h; rw [encO_none, fold_text_none] at h; cases h
    | some y =>
      simp only [h1] at h
      cases h2 : encO d (some y) v with
      | none => rw [h2, fold_text_none] at h; cases h
      | some z =>
        rw [h2] at h
        obtain ⟨c, m, rfl, ht, a1⟩ := dec_text h1
        obtain ⟨e2, rfl, a2⟩ := hv v (by simp) _ z h2
        have hr2 : risesT ks = true ∧ ∀ p k', some k = some p → ks.head? = some k' → leT k' p = false := by
          cases ks with
          | nil => exact ⟨rfl, fun p k' _ h => by simp at h⟩
          | cons k2 ks =>
            simp only [risesT, Bool.and_eq_true, Bool.not_eq_true'] at hr
            refine ⟨hr.2, fun p k' hp hk => ?_⟩
            simp at hp hk
            subst hp hk
            exact hr.1
        obtain ⟨e3, rfl, a3⟩ := dec_dict ks l (some k) (by simpa using hl) (fun w hw => hv w (by simp [hw])) hr2.1 hr2.2 _ x h
        refine ⟨(c :: m) ++ e2 ++ e3, by simp, fun r => ?_⟩
        have hkey : keyR prev (c :: (m ++ (e2 ++ (e3 ++ r)))) = .ok k (e2 ++ (e3 ++ r)) := by
          unfold keyR
          simp only
          rw [if_neg (by rw [ht]; decide), a1, Rs.bind_ok]
          cases prev with
          | none => rfl
          | some p =>
            have hle := hp p k rfl rfl
            exact if_neg (by show ¬ leT k p = true; rw [hle]; decide)
        show (keyR prev ((c :: m) ++ e2 ++ e3 ++ r)).bind _ = _
        simp only [List.append_assoc, List.cons_append]
        rw [hkey, Rs.bind_ok, a2, Rs.bind_ok, a3, Rs.bind_ok, normL, List.zip_cons_cons]
theorem lead_many (few : UInt8) (n : Nat) (h : n ≤ 15) (hf : few = 0x90 ∨ few = 0x80) : (few ||| UInt8.ofNat n).toNat = few.toNat + n := by
  rcases hf with rfl | rfl
  · rw [or_ofNat 0x90 15 n (by decide) h, UInt8.toNat_ofNat']
    show (144 + n) % 256 = 144 + n
    omega
  · rw [or_ofNat 0x80 15 n (by decide) h, UInt8.toNat_ofNat']
    show (128 + n) % 256 = 128 + n
    omega
theorem zip_map {α β : Type} : ∀ (a : List α) (b : List β), a.length = b.length → (a.zip b).map (·.1) = a ∧ (a.zip b).map (·.2) = b
  | [], [], _ => ⟨rfl, rfl⟩
  | [], _ :: _, h => by simp at h
  | _ :: _, [], h => by simp at h
  | x :: a, y :: b, h => by
    obtain ⟨h1, h2⟩ := zip_map a b (by simpa using h)
    simp only [List.zip_cons_cons, List.map_cons, h1, h2]
    exact ⟨trivial, trivial⟩
theorem lead_list {f : List UInt8 → Rs PV} {c : Nat} (r : List UInt8) (h : c / 16 = 9) : leadR f c r = (listR f (c % 16) r).bind fun l r2 => .ok (pList l) r2 := by
  unfold leadR
  rw [if_neg (by rw [isText_no (by omega) (by omega) (by omega)]; decide), if_neg (by omega), if_pos h]
theorem lead_dict {f : List UInt8 → Rs PV} {c : Nat} (r : List UInt8) (h : c / 16 = 8) : leadR f c r = (dictR f (c % 16) none r).bind fun l r2 => .ok (pDict l) r2 := by
  unfold leadR
  rw [if_neg (by rw [isText_no (by omega) (by omega) (by omega)]; decide), if_neg (by omega), if_neg (by omega), if_pos h]
theorem dec_enc : ∀ (d : Nat) (v : PV), canF d v = true → OkV v → DE d v
  | 0, v, hc, _ => by cases hc
  | d + 1, .mk k n b t ks l, hc, hok => by
    obtain ⟨k0, k7, hall, hmap⟩ := canF_list hc
    cases hok with
    | mk hn hol =>
    intro l0 x h
    rw [normV_mk]
    by_cases e0 : k = 0
    · subst e0
      have h : putO (some l0) [0xc0] = some x := h
      exact ⟨_, putO_ok h, fun r => rfl⟩
    by_cases e1 : k = 1
    · subst e1
      have h : putO (some l0) [0xc2] = some x := h
      exact ⟨_, putO_ok h, fun r => rfl⟩
    by_cases e2 : k = 2
    · subst e2
      have h : putO (some l0) [0xc3] = some x := h
      exact ⟨_, putO_ok h, fun r => rfl⟩
    by_cases e3 : k = 3
    · subst e3
      have h : putO (some l0) (intB n) = some x := h
      exact ⟨_, putO_ok h, fun r => dec_num d n hn r⟩
    by_cases e4 : k = 4
    · subst e4
      have h : blobO (some l0) b = some x := h
      unfold blobO at h
      by_cases h1 : b.length ≤ 255
      · rw [if_pos h1] at h
        refine ⟨_, putO_ok h, fun r => ?_⟩
        show ((bigR 1 (bigB b.length 1 ++ b ++ r)).bind takeR).bind _ = _
        rw [List.append_assoc, bigR_app, Rs.bind_ok, show b.length % 256 ^ 1 = b.length by omega, takeR_app b r rfl]; rfl
      rw [if_neg h1] at h
      by_cases h2 : b.length ≤ 65535
      · rw [if_pos h2] at h
        refine ⟨_, putO_ok h, fun r => ?_⟩
        show ((leastR 2 256 (bigB b.length 2 ++ b ++ r)).bind takeR).bind _ = _
        rw [List.append_assoc, leastR_app _ (by omega) (by omega), Rs.bind_ok, takeR_app b r rfl]; rfl
      rw [if_neg h2] at h
      cases h
    by_cases e5 : k = 5
    · subst e5
      have h : textO (some l0) t = some x := h
      obtain ⟨c, m, rfl, ht, a1⟩ := dec_text h
      refine ⟨_, rfl, fun r => ?_⟩
      show leadR (decV d) c.toNat (m ++ r) = _
      unfold leadR
      rw [if_pos ht, a1]; rfl
    have hDE : ∀ v ∈ l, DE d v := fun v hv => dec_enc d v (hall (by omega) v hv) (hol v hv)
    by_cases e6 : k = 6
    · subst e6
      have h : l.foldl (encO d) (manyO 0x90 0xdc (some l0) l.length) = some x := h
      unfold manyO at h
      by_cases h1 : l.length ≤ 15
      · rw [if_pos h1] at h
        cases hp : putO (some l0) [0x90 ||| UInt8.ofNat l.length] with
        | none => rw [hp, fold_enc_none] at h; cases h
        | some y =>
          rw [hp] at h
          obtain ⟨e, rfl, a⟩ := dec_list l hDE _ x h
          obtain rfl := putO_ok hp
          refine ⟨(0x90 ||| UInt8.ofNat l.length) :: e, by simp, fun r => ?_⟩
          show leadR (decV d) (0x90 ||| UInt8.ofNat l.length).toNat (e ++ r) = _
          rw [lead_many 0x90 _ h1 (.inl rfl), show (0x90 : UInt8).toNat = 144 from rfl, lead_list _ (by omega), show (144 + l.length) % 16 = l.length by omega, a]; rfl
      rw [if_neg h1] at h
      by_cases h2 : l.length ≤ 65535
      · rw [if_pos h2] at h
        cases hp : putO (some l0) (0xdc :: bigB l.length 2) with
        | none => rw [hp, fold_enc_none] at h; cases h
        | some y =>
          rw [hp] at h
          obtain ⟨e, rfl, a⟩ := dec_list l hDE _ x h
          obtain rfl := putO_ok hp
          refine ⟨(0xdc :: bigB l.length 2) ++ e, by simp, fun r => ?_⟩
          show (leastR 2 16 (bigB l.length 2 ++ e ++ r)).bind _ = _
          rw [List.append_assoc, leastR_app _ (by omega) (by omega), Rs.bind_ok, a]; rfl
      rw [if_neg h2, fold_enc_none] at h
      cases h
    · obtain rfl : k = 7 := by omega
      obtain ⟨hkl, hris⟩ := hmap rfl
      have h : (ks.zip l).foldl (fun o x => encO d (textO o x.1) x.2) (manyO 0x80 0xde (some l0) l.length) = some x := h
      have hz := zip_map ks (normL l) (by rw [normL_len]; exact hkl)
      have hfin : pDict (ks.zip (normL l)) = .mk 7 0 [] [] ks (normL l) := by unfold pDict; rw [hz.1, hz.2]
      unfold manyO at h
      by_cases h1 : l.length ≤ 15
      · rw [if_pos h1] at h
        cases hp : putO (some l0) [0x80 ||| UInt8.ofNat l.length] with
        | none => rw [hp, fold_text_none] at h; cases h
        | some y =>
          rw [hp] at h
          obtain ⟨e, rfl, a⟩ := dec_dict ks l none hkl hDE hris (fun _ _ h => by cases h) _ x h
          obtain rfl := putO_ok hp
          refine ⟨(0x80 ||| UInt8.ofNat l.length) :: e, by simp, fun r => ?_⟩
          show leadR (decV d) (0x80 ||| UInt8.ofNat l.length).toNat (e ++ r) = _
          rw [lead_many 0x80 _ h1 (.inr rfl), show (0x80 : UInt8).toNat = 128 from rfl, lead_dict _ (by omega), show (128 + l.length) % 16 = l.length by omega, a, Rs.bind_ok, hfin]; rfl
      rw [if_neg h1] at h
      by_cases h2 : l.length ≤ 65535
      · rw [if_pos h2] at h
        cases hp : putO (some l0) (0xde :: bigB l.length 2) with
        | none => rw [hp, fold_text_none] at h; cases h
        | some y =>
          rw [hp] at h
          obtain ⟨e, rfl, a⟩ := dec_dict ks l none hkl hDE hris (fun _ _ h => by cases h) _ x h
          obtain rfl := putO_ok hp
          refine ⟨(0xde :: bigB l.length 2) ++ e, by simp, fun r => ?_⟩
          show (leastR 2 16 (bigB l.length 2 ++ e ++ r)).bind _ = _
          rw [List.append_assoc, leastR_app _ (by omega) (by omega), Rs.bind_ok, a, Rs.bind_ok, hfin]; rfl
      rw [if_neg h2, fold_text_none] at h
      cases h
theorem putO_small {l m x : List UInt8} (h : putO (some l) m = some x) : x.length ≤ 65536 := (putO_len h).2
theorem fold_len {α : Type} {f : Option (List UInt8) → α → Option (List UInt8)} (hn : ∀ a, f none a = none) (hf : ∀ a l x, l.length ≤ 65536 → f (some l) a = some x → x.length ≤ 65536) : ∀ (l : List α) (o : Option (List UInt8)) (x : List UInt8), (∀ y, o = some y → y.length ≤ 65536) → l.foldl f o = some x → x.length ≤ 65536
  | [], o, x, ho, h => ho x h
  | a :: l, o, x, ho, h => by
    rw [List.foldl_cons] at h
    cases o with
    | none => rw [hn, foldl_none f hn] at h; cases h
    | some y => exact fold_len hn hf l _ x (fun z hz => hf a y z (ho y rfl) hz) h
theorem text_small {l m x : List UInt8} (h : textO (some l) m = some x) : x.length ≤ 65536 := by
  unfold textO at h
  repeat' split at h
  all_goals first | exact putO_small h | cases h
theorem many_small {a b : UInt8} {l x : List UInt8} {n : Nat} (h : manyO a b (some l) n = some x) : x.length ≤ 65536 := by
  unfold manyO at h
  repeat' split at h
  all_goals first | exact putO_small h | cases h
theorem enc_len : ∀ (d : Nat) (v : PV) (l0 x : List UInt8), l0.length ≤ 65536 → encO d (some l0) v = some x → x.length ≤ 65536
  | 0, v, l0, x, h0, h => by cases h; exact h0
  | d + 1, .mk k n b t ks l, l0, x, h0, h => by
    unfold encO at h
    repeat' split at h
    · exact putO_small h
    · exact putO_small h
    · exact putO_small h
    · exact putO_small h
    · unfold blobO at h
      repeat' split at h
      all_goals first | exact putO_small h | cases h
    · exact text_small h
    · exact fold_len (encO_none d) (fun a l x hl hh => enc_len d a l x hl hh) l _ x (fun y hy => many_small hy) h
    · refine fold_len (f := fun o x => encO d (textO o x.1) x.2) (fun a => by simp only [textO_none]; exact encO_none d a.2) (fun a l x hl hh => ?_) (ks.zip l) _ x (fun y hy => many_small hy) h
      cases ht : textO (some l) a.1 with
      | none => simp only [ht] at hh; rw [encO_none] at hh; cases hh
      | some y => simp only [ht] at hh; exact enc_len d a.2 y x (text_small ht) hh
/-- What Encode wrote Decode reads. -/
theorem decF_enc {v : PV} {L : List UInt8} (hok : OkV v) (h : encF v = (L, 0)) : canF 16 v = true ∧ L ≠ [] ∧ L.length ≤ 65536 ∧ decV 16 L = .ok (normV v) [] ∧ decF L = (normV v, 0) := by
  unfold encF at h
  split at h
  · cases h
  · rename_i hc
    have hc : canF 16 v = true := by simpa using hc
    split at h
    · cases h
    · rename_i l ho
      cases h
      obtain ⟨e, he, a⟩ := dec_enc 16 v hc hok [] L ho
      simp only [List.nil_append] at he
      subst he
      have h1 := a []
      rw [List.append_nil] at h1
      have hne : L ≠ [] := by
        rintro rfl
        rw [decV_byte] at h1; cases h1
      have hlen : L.length ≤ 65536 := enc_len 16 v [] L (by decide) ho
      refine ⟨hc, hne, hlen, h1, ?_⟩
      unfold decF
      rw [if_neg (by omega), h1]
      rfl
end Go.Proofs.YtpchogicdnfggaaDoor
