/- Layer 05: the writer's number. -/
import Derived.Test.YtakliplkabgmbaaV3
set_option maxRecDepth 20000
namespace Go.Proofs.Ytakliplkabgmbaa
open Go.RowKit Go.Hd

/-- What the writer has laid, or that it gave up. -/
def absW (s : List UInt8 × Bool) : Option (List UInt8) := if s.2 = true then none else some s.1
def putO (o : Option (List UInt8)) (m : List UInt8) : Option (List UInt8) := o.bind fun l => if 65536 < l.length + m.length then none else some (l ++ m)
def WrO (B : Nat) (w : World) (g : Nat) (o : Option (List UInt8)) : Prop := ∃ s, WrAt B w g s ∧ absW s = o
theorem WrO.keep {B g : Nat} {w w' : World} {o : Option (List UInt8)} (h : WrO B w g o) (hb : Below w.heap.size w w') : WrO B w' g o := by
  obtain ⟨s, h1, h2⟩ := h
  exact ⟨s, h1.keep hb, h2⟩
theorem WrO.le {B g : Nat} {w : World} {o : Option (List UInt8)} (h : WrO B w g o) : B ≤ w.heap.size := by
  obtain ⟨s, h1, _⟩ := h; exact h1.le
theorem WrO.lt {B g : Nat} {w : World} {o : Option (List UInt8)} (h : WrO B w g o) : g < B := by
  obtain ⟨s, h1, _⟩ := h; exact h1.lt
theorem putO_two (o : Option (List UInt8)) (a b : List UInt8) : putO (putO o a) b = putO o (a ++ b) := by
  cases o with
  | none => rfl
  | some l =>
    unfold putO
    simp only [Option.bind_some, List.length_append]
    by_cases h1 : 65536 < l.length + a.length
    · rw [if_pos h1, if_pos (by omega)]; rfl
    · rw [if_neg h1]
      simp only [Option.bind_some, List.length_append]
      by_cases h2 : 65536 < l.length + (a.length + b.length)
      · rw [if_pos h2, if_pos (by omega)]
      · rw [if_neg h2, if_neg (by omega), List.append_assoc]
theorem putF_abs {s : List UInt8 × Bool} {m : List UInt8} (hl : s.1.length ≤ 65536) : absW (putF s m) = putO (absW s) m := by
  obtain ⟨l, f⟩ := s
  cases f with
  | true => simp [putF, absW, putO]
  | false =>
    simp only at hl
    unfold putF absW putO
    by_cases h : 65536 - l.length < m.length
    · simp [h]; omega
    · simp [h]; omega
theorem WrAt.small {B g : Nat} {w : World} {s : List UInt8 × Bool} (h : WrAt B w g s) : s.1.length ≤ 65536 := by
  obtain ⟨v, _, h2⟩ := h; exact h2
theorem putF_small {s : List UInt8 × Bool} {m : List UInt8} (hl : s.1.length ≤ 65536) : (putF s m).1.length ≤ 65536 := by
  unfold putF
  split
  · exact hl
  · rename_i h; simp at h ⊢; omega
theorem put_o {B g : Nat} {w : World} {o : Option (List UInt8)} {a : Option Addr} {n c : Nat} {m : List UInt8} (h : WrO B w g o) (hn : n = m.length) (hc : n ≤ c) (hr : Row w a (m.map b8)) :
    Calls Try.prog 67 #[.pointer (some ⟨g, 0, none⟩), .slice a n c] w fun e w' => e = .returned (.tuple #[]) ∧ WrO B w' g (putO o m) ∧ Kx B g w w' := by
  obtain ⟨s, h1, rfl⟩ := h
  refine (pput_any h1 hn hc hr).mono ?_
  rintro e w' ⟨rfl, h2, hk⟩
  exact ⟨rfl, ⟨_, h2, putF_abs h1.small⟩, hk⟩
theorem head_o {B g x n : Nat} {w : World} {o : Option (List UInt8)} {zl zx : Int} (lead : UInt8) (h : WrO B w g o) (hzl : zl = (lead.toNat : Int)) (hzx : zx = (x : Int)) (hx : x < 18446744073709551616) (h1 : 1 ≤ n) (h8 : n ≤ 8) :
    Calls Try.prog 90 #[.pointer (some ⟨g, 0, none⟩), .int .u8 zl, .int .u64 zx, .int .i64 (n : Int)] w fun e w' => e = .returned (.tuple #[]) ∧ WrO B w' g (putO o (lead :: bigB x n)) ∧ Kx B g w w' := by
  subst hzl hzx
  obtain ⟨s, hs, rfl⟩ := h
  refine (head_any lead hs hx h1 h8).mono ?_
  rintro e w' ⟨rfl, h2, hk⟩
  refine ⟨rfl, ⟨_, h2, ?_⟩, hk⟩
  rw [putF_abs (putF_small hs.small), putF_abs hs.small, putO_two]
  rfl
theorem u64_nat {x : Int} : IntKind.u64.wrap x = ((u64Of x : Nat) : Int) := by
  unfold u64Of; rw [IntKind.wrap_u64]; omega
theorem u64_pos {x : Int} (h0 : 0 ≤ x) (h : x ≤ 9223372036854775807) : x = ((u64Of x : Nat) : Int) := by
  unfold u64Of; omega
theorem u64_lt (x : Int) : u64Of x < 18446744073709551616 := by unfold u64Of; omega
theorem byte_of (x : Int) : IntKind.u8.wrap x = ((UInt8.ofNat (x % 256).toNat).toNat : Int) := by
  rw [IntKind.wrap_u8, UInt8.toNat_ofNat']; try omega

set_option maxHeartbeats 2000000 in
theorem number_any {B g : Nat} {w : World} {o : Option (List UInt8)} {x : Int} (h : WrO B w g o) (hx : in64 x) :
    Calls Try.prog 68 #[.pointer (some ⟨g, 0, none⟩), .int .i64 x] w fun e w' => e = .returned (.tuple #[]) ∧ WrO B w' g (putO o (intB x)) ∧ Kx B g w w' := by
  obtain ⟨hx1, hx2⟩ := hx
  have hl64 := u64_lt x
  by_cases h1 : -32 ≤ x ∧ x ≤ 127
  · obtain ⟨p, q⟩ := h1
    have HB : Hid (intB x = [UInt8.ofNat (x % 256).toNat]) := by show _ = _; unfold intB; rw [if_pos ⟨p, q⟩]
    have hle := h.le
    have hgB := h.lt
    have hb0 : Below w.heap.size w (w.alloc (.cells #[b8 (UInt8.ofNat (x % 256).toNat)] 5)) := (Below.refl _ _).alloc (Nat.le_refl _) _
    have hrow : Row (w.alloc (.cells #[b8 (UInt8.ofNat (x % 256).toNat)] 5)) (some ⟨w.heap.size, 0, none⟩) ([UInt8.ofNat (x % 256).toNat].map b8) := (Blk.new w 5 #[b8 (UInt8.ofNat (x % 256).toNat)]).row
    have h0 := h.keep hb0
    have e8 : (Value.int .u8 (IntKind.u8.wrap x)) = b8 (UInt8.ofNat (x % 256).toNat) := by rw [byte_of]; try rfl
    generalize UInt8.ofNat (x % 256).toNat = c at *
    go_enter Try.func68, Try.ntmps68
    go_wp2_with fail
    refine (put_o (m := [c]) h0 (by rfl) (Nat.le_refl _) hrow).mono ?_
    rintro e w1 ⟨rfl, hw1, hk1⟩
    go_wp2
    go_end0
    rw [HB.out]
    exact ⟨rfl, hw1, (Kx.ofBelow hb0 hle hgB).trans hk1⟩
  · have hx9 := h1
    clear h1
    by_cases p0 : 0 ≤ x
    · have pm : -32 ≤ x := by omega
      have n127 : ¬ x ≤ 127 := by omega
      have eU := u64_pos p0 hx2
      have HU := Lib.hid eU
      clear eU
      by_cases q255 : x ≤ 255
      · have HB : Hid (intB x = 0xcc :: bigB (u64Of x) 1) := by show _ = _; unfold intB; rw [if_neg hx9, if_pos p0, if_pos q255]
        clear hx9
        go_enter Try.func68, Try.ntmps68
        go_wp2_with fail
        refine (head_o (x := u64Of x) (n := 1) 0xcc h (by rfl) (by first | exact HU.out | exact u64_nat) hl64 (by decide) (by decide)).mono ?_
        rintro e w1 ⟨rfl, hw1, hk1⟩
        go_wp2
        go_end0
        rw [HB.out]
        exact ⟨rfl, hw1, hk1⟩
      · by_cases q65535 : x ≤ 65535
        · have HB : Hid (intB x = 0xcd :: bigB (u64Of x) 2) := by show _ = _; unfold intB; rw [if_neg hx9, if_pos p0, if_neg q255, if_pos q65535]
          clear hx9
          go_enter Try.func68, Try.ntmps68
          go_wp2_with fail
          refine (head_o (x := u64Of x) (n := 2) 0xcd h (by rfl) (by first | exact HU.out | exact u64_nat) hl64 (by decide) (by decide)).mono ?_
          rintro e w1 ⟨rfl, hw1, hk1⟩
          go_wp2
          go_end0
          rw [HB.out]
          exact ⟨rfl, hw1, hk1⟩
        · by_cases q4294967295 : x ≤ 4294967295
          · have HB : Hid (intB x = 0xce :: bigB (u64Of x) 4) := by show _ = _; unfold intB; rw [if_neg hx9, if_pos p0, if_neg q255, if_neg q65535, if_pos q4294967295]
            clear hx9
            go_enter Try.func68, Try.ntmps68
            go_wp2_with fail
            refine (head_o (x := u64Of x) (n := 4) 0xce h (by rfl) (by first | exact HU.out | exact u64_nat) hl64 (by decide) (by decide)).mono ?_
            rintro e w1 ⟨rfl, hw1, hk1⟩
            go_wp2
            go_end0
            rw [HB.out]
            exact ⟨rfl, hw1, hk1⟩
          · have HB : Hid (intB x = 0xcf :: bigB (u64Of x) 8) := by show _ = _; unfold intB; rw [if_neg hx9, if_pos p0, if_neg q255, if_neg q65535, if_neg q4294967295]
            clear hx9
            go_enter Try.func68, Try.ntmps68
            go_wp2_with fail
            refine (head_o (x := u64Of x) (n := 8) 0xcf h (by rfl) (by first | exact HU.out | exact u64_nat) hl64 (by decide) (by decide)).mono ?_
            rintro e w1 ⟨rfl, hw1, hk1⟩
            go_wp2
            go_end0
            rw [HB.out]
            exact ⟨rfl, hw1, hk1⟩
    · have nm : ¬ -32 ≤ x := by omega
      by_cases q128 : -128 ≤ x
      · have HB : Hid (intB x = 0xd0 :: bigB (u64Of x) 1) := by show _ = _; unfold intB; rw [if_neg hx9, if_neg p0, if_pos q128]
        clear hx9
        go_enter Try.func68, Try.ntmps68
        go_wp2_with fail
        refine (head_o (x := u64Of x) (n := 1) 0xd0 h (by rfl) (by first | exact u64_nat | exact u64_nat) hl64 (by decide) (by decide)).mono ?_
        rintro e w1 ⟨rfl, hw1, hk1⟩
        go_wp2
        go_end0
        rw [HB.out]
        exact ⟨rfl, hw1, hk1⟩
      · by_cases q32768 : -32768 ≤ x
        · have HB : Hid (intB x = 0xd1 :: bigB (u64Of x) 2) := by show _ = _; unfold intB; rw [if_neg hx9, if_neg p0, if_neg q128, if_pos q32768]
          clear hx9
          go_enter Try.func68, Try.ntmps68
          go_wp2_with fail
          refine (head_o (x := u64Of x) (n := 2) 0xd1 h (by rfl) (by first | exact u64_nat | exact u64_nat) hl64 (by decide) (by decide)).mono ?_
          rintro e w1 ⟨rfl, hw1, hk1⟩
          go_wp2
          go_end0
          rw [HB.out]
          exact ⟨rfl, hw1, hk1⟩
        · by_cases q2147483648 : -2147483648 ≤ x
          · have HB : Hid (intB x = 0xd2 :: bigB (u64Of x) 4) := by show _ = _; unfold intB; rw [if_neg hx9, if_neg p0, if_neg q128, if_neg q32768, if_pos q2147483648]
            clear hx9
            go_enter Try.func68, Try.ntmps68
            go_wp2_with fail
            refine (head_o (x := u64Of x) (n := 4) 0xd2 h (by rfl) (by first | exact u64_nat | exact u64_nat) hl64 (by decide) (by decide)).mono ?_
            rintro e w1 ⟨rfl, hw1, hk1⟩
            go_wp2
            go_end0
            rw [HB.out]
            exact ⟨rfl, hw1, hk1⟩
          · have HB : Hid (intB x = 0xd3 :: bigB (u64Of x) 8) := by show _ = _; unfold intB; rw [if_neg hx9, if_neg p0, if_neg q128, if_neg q32768, if_neg q2147483648]
            clear hx9
            go_enter Try.func68, Try.ntmps68
            go_wp2_with fail
            refine (head_o (x := u64Of x) (n := 8) 0xd3 h (by rfl) (by first | exact u64_nat | exact u64_nat) hl64 (by decide) (by decide)).mono ?_
            rintro e w1 ⟨rfl, hw1, hk1⟩
            go_wp2
            go_end0
            rw [HB.out]
            exact ⟨rfl, hw1, hk1⟩
end Go.Proofs.Ytakliplkabgmbaa
