/- Layer 05: the document's integer, counted. -/
import Derived.Test.YtakliplkabgmbaaV12
set_option maxRecDepth 20000
namespace Go.Proofs.Ytakliplkabgmbaa
open Go.RowKit Go.Hd

set_option maxHeartbeats 1000000 in
theorem rbig_any (x n : Nat) (w : World) (hx : x < 18446744073709551616) (h1 : 1 ≤ n) (h8 : n ≤ 8) :
    Calls Try.prog 91 #[.int .u64 (x : Int), .int .i64 (n : Int)] w fun e w' => ∃ v, e = .returned v ∧ Fresh w w' v (bigB x n) := by
  have hp := rput_any x (n : Int) w hx (by omega) (by omega)
  rw [Int.toNat_natCast] at hp
  have hlen : (putL x n).length = n := by simp
  have HB : Hid (bigB x n = (putL x n).reverse) := rfl
  generalize putL x n = L at *
  have hsm : L.length ≤ 140737488355328 := by omega
  clear hx hlen
  go_enter Try.func91, Try.ntmps91
  go_wp2_with fail
  refine hp.mono ?_
  rintro e w1 ⟨v1, rfl, hF⟩
  obtain ⟨a1, c1, rfl, hr1, hb1, hm1, hc1⟩ := hF.open
  go_wp2_with fail
  refine (back_any a1 _ c1 L w1 rfl hr1 hsm).mono ?_
  rintro e w2 ⟨v2, rfl, hF2⟩
  obtain ⟨ho, hb2⟩ := hF2
  have ho2 := ownsRow_mono ho hb1.size
  have hb3 := Gr.trans hb1 hb2
  clear ho hp hF
  go_wp2
  go_ret
  rw [HB.out]
  exact ⟨_, rfl, ho2, hb3⟩
/-- A lead of one byte, and what is appended to it. -/
theorem lead_app {w w1 : World} {lead : UInt8} {v : Value} {m : List UInt8} (hF : Fresh (w.alloc (.cells #[b8 lead] 5)) w1 v m) (hm : m.length ≤ 8) :
    ∃ v' w2, (Builtin.append_ #[35, 35] 35 #[.slice (some ⟨w.heap.size, 0, none⟩) 1 1, v]).run Try.prog w1 = .ok v' w2 ∧ Fresh w w2 v' (lead :: m) := by
  obtain ⟨ho, hb⟩ := hF
  have hb0 : Below w.heap.size w (w.alloc (.cells #[b8 lead] 5)) := (Below.refl _ _).alloc (Nat.le_refl _) _
  have hO : Own 5 (w.alloc (.cells #[b8 lead] 5)) w.heap.size (.slice (some ⟨w.heap.size, 0, none⟩) 1 1) [lead] := Own.new w (l := [lead]) (Nat.le_refl _) (by simp)
  have hO1 := hO.below hb
  have hb1 := Gr.trans hb0 hb
  obtain ⟨a, c, rfl, hc, hmx, hr, _⟩ := Own.at (E := 5) ho
  obtain ⟨v', w2, hrun, h2, h3, h4, h5⟩ := Own.append (ty := 35) hO1 eB (n := m.length) (c := c) hr rfl (by simp; omega) hb1.size
  exact ⟨v', w2, hrun, h2, hb1.trans h5⟩
theorem Fresh.lead (w : World) (c : UInt8) : Fresh w (w.alloc (.cells #[b8 c] 5)) (.slice (some ⟨w.heap.size, 0, none⟩) 1 1) [c] :=
  ⟨Own.new (E := 5) w (l := [c]) (Nat.le_refl _) (by simp), (Below.refl _ _).alloc (Nat.le_refl _) _⟩
theorem Fresh.lead2 (w : World) (c d : UInt8) : Fresh w (w.alloc (.cells #[b8 c, b8 d] 5)) (.slice (some ⟨w.heap.size, 0, none⟩) 2 2) [c, d] :=
  ⟨Own.new (E := 5) w (l := [c, d]) (Nat.le_refl _) (by simp), (Below.refl _ _).alloc (Nat.le_refl _) _⟩
theorem bigB_len (x n : Nat) : (bigB x n).length = n := by unfold bigB; simp
theorem rbig_z {z : Int} {x n : Nat} {w : World} (hz : z = (x : Int)) (hx : x < 18446744073709551616) (h1 : 1 ≤ n) (h8 : n ≤ 8) :
    Calls Try.prog 91 #[.int .u64 z, .int .i64 (n : Int)] w fun e w' => ∃ v, e = .returned v ∧ Fresh w w' v (bigB x n) := by
  subst hz; exact rbig_any x n w hx h1 h8

set_option maxHeartbeats 2000000 in
theorem rinteger_any {w : World} {x : Int} (hx : in64 x) :
    Calls Try.prog 74 #[.int .i64 x] w fun e w' => ∃ v, e = .returned v ∧ Fresh w w' v (intB x) := by
  obtain ⟨hx1, hx2⟩ := hx
  have hl64 := u64_lt x
  by_cases h1 : -32 ≤ x ∧ x ≤ 127
  · obtain ⟨p, q⟩ := h1
    have HB : Hid (intB x = [UInt8.ofNat (x % 256).toNat]) := by show _ = _; unfold intB; rw [if_pos ⟨p, q⟩]
    have q' : x < 128 := by omega
    have e8 : (Value.int .u8 (IntKind.u8.wrap x)) = b8 (UInt8.ofNat (x % 256).toNat) := by rw [byte_of]; try rfl
    generalize UInt8.ofNat (x % 256).toNat = c at *
    clear q
    go_enter Try.func74, Try.ntmps74
    go_wp2
    go_ret
    rw [HB.out]
    exact ⟨_, rfl, Fresh.lead w c⟩
  · have hx9 := h1
    clear h1
    by_cases p0 : 0 ≤ x
    · have pm : -32 ≤ x := by omega
      have n127 : ¬ x < 128 := by omega
      have HU := Lib.hid (u64_pos p0 hx2)
      by_cases q255 : x ≤ 255
      · have r255 : x < 256 := by omega
        have HB : Hid (intB x = 0xcc :: bigB (u64Of x) 1) := by show _ = _; unfold intB; rw [if_neg hx9, if_pos p0, if_pos q255]
        clear hx9
        go_enter Try.func74, Try.ntmps74
        go_wp2_with fail
        refine (rbig_z (x := u64Of x) (n := 1) (by first | exact HU.out | exact u64_nat) hl64 (by decide) (by decide)).mono ?_
        rintro e w1 ⟨v1, rfl, hF⟩
        obtain ⟨v2, w2, hrun, hF2⟩ := lead_app (lead := 0xcc) hF (by rw [bigB_len]; decide)
        go_wp2_with (at_builtin; refine wpList_append_run hrun rfl rfl rfl rfl ?_)
        go_ret
        rw [HB.out]
        exact ⟨_, rfl, hF2⟩
      · have r255 : ¬ x < 256 := by omega
        by_cases q65535 : x ≤ 65535
        · have r65535 : x < 65536 := by omega
          have HB : Hid (intB x = 0xcd :: bigB (u64Of x) 2) := by show _ = _; unfold intB; rw [if_neg hx9, if_pos p0, if_neg q255, if_pos q65535]
          clear hx9
          go_enter Try.func74, Try.ntmps74
          go_wp2_with fail
          refine (rbig_z (x := u64Of x) (n := 2) (by first | exact HU.out | exact u64_nat) hl64 (by decide) (by decide)).mono ?_
          rintro e w1 ⟨v1, rfl, hF⟩
          obtain ⟨v2, w2, hrun, hF2⟩ := lead_app (lead := 0xcd) hF (by rw [bigB_len]; decide)
          go_wp2_with (at_builtin; refine wpList_append_run hrun rfl rfl rfl rfl ?_)
          go_ret
          rw [HB.out]
          exact ⟨_, rfl, hF2⟩
        · have r65535 : ¬ x < 65536 := by omega
          by_cases q4294967295 : x ≤ 4294967295
          · have r4294967295 : x < 4294967296 := by omega
            have HB : Hid (intB x = 0xce :: bigB (u64Of x) 4) := by show _ = _; unfold intB; rw [if_neg hx9, if_pos p0, if_neg q255, if_neg q65535, if_pos q4294967295]
            clear hx9
            go_enter Try.func74, Try.ntmps74
            go_wp2_with fail
            refine (rbig_z (x := u64Of x) (n := 4) (by first | exact HU.out | exact u64_nat) hl64 (by decide) (by decide)).mono ?_
            rintro e w1 ⟨v1, rfl, hF⟩
            obtain ⟨v2, w2, hrun, hF2⟩ := lead_app (lead := 0xce) hF (by rw [bigB_len]; decide)
            go_wp2_with (at_builtin; refine wpList_append_run hrun rfl rfl rfl rfl ?_)
            go_ret
            rw [HB.out]
            exact ⟨_, rfl, hF2⟩
          · have r4294967295 : ¬ x < 4294967296 := by omega
            have HB : Hid (intB x = 0xcf :: bigB (u64Of x) 8) := by show _ = _; unfold intB; rw [if_neg hx9, if_pos p0, if_neg q255, if_neg q65535, if_neg q4294967295]
            clear hx9
            go_enter Try.func74, Try.ntmps74
            go_wp2_with fail
            refine (rbig_z (x := u64Of x) (n := 8) (by first | exact HU.out | exact u64_nat) hl64 (by decide) (by decide)).mono ?_
            rintro e w1 ⟨v1, rfl, hF⟩
            obtain ⟨v2, w2, hrun, hF2⟩ := lead_app (lead := 0xcf) hF (by rw [bigB_len]; decide)
            go_wp2_with (at_builtin; refine wpList_append_run hrun rfl rfl rfl rfl ?_)
            go_ret
            rw [HB.out]
            exact ⟨_, rfl, hF2⟩
    · have nm : ¬ -32 ≤ x := by omega
      have HU : Hid (IntKind.u64.wrap x = ((u64Of x : Nat) : Int)) := u64_nat
      by_cases q128 : -128 ≤ x
      · skip
        have HB : Hid (intB x = 0xd0 :: bigB (u64Of x) 1) := by show _ = _; unfold intB; rw [if_neg hx9, if_neg p0, if_pos q128]
        clear hx9
        go_enter Try.func74, Try.ntmps74
        go_wp2_with fail
        refine (rbig_z (x := u64Of x) (n := 1) (by first | exact HU.out | exact u64_nat) hl64 (by decide) (by decide)).mono ?_
        rintro e w1 ⟨v1, rfl, hF⟩
        obtain ⟨v2, w2, hrun, hF2⟩ := lead_app (lead := 0xd0) hF (by rw [bigB_len]; decide)
        go_wp2_with (at_builtin; refine wpList_append_run hrun rfl rfl rfl rfl ?_)
        go_ret
        rw [HB.out]
        exact ⟨_, rfl, hF2⟩
      · skip
        by_cases q32768 : -32768 ≤ x
        · skip
          have HB : Hid (intB x = 0xd1 :: bigB (u64Of x) 2) := by show _ = _; unfold intB; rw [if_neg hx9, if_neg p0, if_neg q128, if_pos q32768]
          clear hx9
          go_enter Try.func74, Try.ntmps74
          go_wp2_with fail
          refine (rbig_z (x := u64Of x) (n := 2) (by first | exact HU.out | exact u64_nat) hl64 (by decide) (by decide)).mono ?_
          rintro e w1 ⟨v1, rfl, hF⟩
          obtain ⟨v2, w2, hrun, hF2⟩ := lead_app (lead := 0xd1) hF (by rw [bigB_len]; decide)
          go_wp2_with (at_builtin; refine wpList_append_run hrun rfl rfl rfl rfl ?_)
          go_ret
          rw [HB.out]
          exact ⟨_, rfl, hF2⟩
        · skip
          by_cases q2147483648 : -2147483648 ≤ x
          · skip
            have HB : Hid (intB x = 0xd2 :: bigB (u64Of x) 4) := by show _ = _; unfold intB; rw [if_neg hx9, if_neg p0, if_neg q128, if_neg q32768, if_pos q2147483648]
            clear hx9
            go_enter Try.func74, Try.ntmps74
            go_wp2_with fail
            refine (rbig_z (x := u64Of x) (n := 4) (by first | exact HU.out | exact u64_nat) hl64 (by decide) (by decide)).mono ?_
            rintro e w1 ⟨v1, rfl, hF⟩
            obtain ⟨v2, w2, hrun, hF2⟩ := lead_app (lead := 0xd2) hF (by rw [bigB_len]; decide)
            go_wp2_with (at_builtin; refine wpList_append_run hrun rfl rfl rfl rfl ?_)
            go_ret
            rw [HB.out]
            exact ⟨_, rfl, hF2⟩
          · skip
            have HB : Hid (intB x = 0xd3 :: bigB (u64Of x) 8) := by show _ = _; unfold intB; rw [if_neg hx9, if_neg p0, if_neg q128, if_neg q32768, if_neg q2147483648]
            clear hx9
            go_enter Try.func74, Try.ntmps74
            go_wp2_with fail
            refine (rbig_z (x := u64Of x) (n := 8) (by first | exact HU.out | exact u64_nat) hl64 (by decide) (by decide)).mono ?_
            rintro e w1 ⟨v1, rfl, hF⟩
            obtain ⟨v2, w2, hrun, hF2⟩ := lead_app (lead := 0xd3) hF (by rw [bigB_len]; decide)
            go_wp2_with (at_builtin; refine wpList_append_run hrun rfl rfl rfl rfl ?_)
            go_ret
            rw [HB.out]
            exact ⟨_, rfl, hF2⟩

/-- A lead by how many there are; empty: too many. -/
def cntB (n few : Nat) (most : Int) (one two : Nat) : List UInt8 :=
  if (n : Int) ≤ most then [UInt8.ofNat (few + n)] else if n < 256 ∧ one ≠ 0 then [UInt8.ofNat one, UInt8.ofNat n] else if n < 65536 then UInt8.ofNat two :: bigB n 2 else []
theorem bigB_one (n : Nat) : bigB n 1 = [UInt8.ofNat n] := by simp [bigB, putL]
set_option maxHeartbeats 2000000 in
theorem rcounted_any {w : World} {n few one two : Nat} {most : Int} (hn : n ≤ maxLen) (hm : -1 ≤ most ∧ most ≤ 31) (h1 : one < 256) (h2 : two < 256) :
    Calls Try.prog 75 #[.int .i64 (n : Int), .int .u8 (few : Int), .int .i64 most, .int .u8 (one : Int), .int .u8 (two : Int)] w fun e w' => ∃ v, e = .returned v ∧ Fresh w w' v (cntB n few most one two) := by
  unfold maxLen at hn
  by_cases c1 : (n : Int) ≤ most
  · have HB : Hid (cntB n few most one two = [UInt8.ofNat (few + n)]) := by show _ = _; unfold cntB; rw [if_pos c1]
    have e8 : Value.int .u8 (IntKind.u8.wrap ((few : Int) + IntKind.u8.wrap (n : Int))) = b8 (UInt8.ofNat (few + n)) := by
      have h1 : IntKind.u8.wrap (n : Int) = n := by rw [IntKind.wrap_u8]; omega
      rw [h1, IntKind.wrap_u8]
      show Value.int .u8 _ = Value.int .u8 _
      rw [UInt8.toNat_ofNat']
      congr 1
    have h1' : IntKind.u8.wrap (n : Int) = n := by rw [IntKind.wrap_u8]; omega
    rw [h1'] at e8
    generalize UInt8.ofNat (few + n) = c at *
    go_enter Try.func75, Try.ntmps75
    go_wp2
    go_ret
    rw [HB.out]
    first
      | exact ⟨_, rfl, Fresh.lead w c⟩
      | (refine ⟨_, rfl, ?_⟩; rw [e8]; exact Fresh.lead w c)
  · by_cases c2 : n < 256 ∧ one ≠ 0
    · have HB : Hid (cntB n few most one two = [UInt8.ofNat one, UInt8.ofNat n]) := by show _ = _; unfold cntB; rw [if_neg c1, if_pos c2]
      obtain ⟨c2, c3⟩ := c2
      have i2 : (n : Int) < 256 := by omega
      have h1' : IntKind.u8.wrap (n : Int) = n := by rw [IntKind.wrap_u8]; omega
      have en : ((UInt8.ofNat n).toNat : Int) = n := by rw [UInt8.toNat_ofNat']; omega
      have eo : ((UInt8.ofNat one).toNat : Int) = one := by rw [UInt8.toNat_ofNat']; omega
      have t1 : ((one : Int) != 0) = true := by simp; omega
      have HE := Lib.hid en
      have HO := Lib.hid eo
      clear en eo c2 c3
      go_enter Try.func75, Try.ntmps75
      go_wp2
      go_ret
      rw [HB.out]
      refine ⟨_, rfl, ?_⟩
      have := Fresh.lead2 w (UInt8.ofNat one) (UInt8.ofNat n)
      unfold b8 at this
      rw [HE.out, HO.out] at this
      exact this
    · have i2 : (n : Int) < 256 → ((one : Int) != 0) = false := by
        intro h
        have : one = 0 := by
          rcases Nat.eq_zero_or_pos one with h0 | h0
          · exact h0
          · exact absurd ⟨by omega, by omega⟩ c2
        simp [this]
      have HC := Lib.hid c2
      by_cases c3 : n < 65536
      · have HB : Hid (cntB n few most one two = UInt8.ofNat two :: bigB n 2) := by show _ = _; unfold cntB; rw [if_neg c1, if_neg HC.out, if_pos c3]
        have i3 : (n : Int) < 65536 := by omega
        have et : ((UInt8.ofNat two).toNat : Int) = two := by rw [UInt8.toNat_ofNat']; omega
        have HT := Lib.hid et
        have eu : IntKind.u64.wrap (n : Int) = (n : Int) := by rw [IntKind.wrap_u64]; omega
        clear c2 et
        by_cases c4 : (n : Int) < 256
        · have t1 := i2 c4
          clear i2
          go_enter Try.func75, Try.ntmps75
          go_wp2_with fail
          rw [← HT.out]
          refine (rbig_z (x := n) (n := 2) (by rfl) (by omega) (by decide) (by decide)).mono ?_
          rintro e w1 ⟨v1, rfl, hF⟩
          obtain ⟨v2, w2, hrun, hF2⟩ := lead_app (lead := UInt8.ofNat two) hF (by rw [bigB_len]; decide)
          go_wp2_with (at_builtin; refine wpList_append_run hrun rfl rfl rfl rfl ?_)
          go_ret
          rw [HB.out]
          exact ⟨_, rfl, hF2⟩
        · clear i2
          go_enter Try.func75, Try.ntmps75
          go_wp2_with fail
          rw [← HT.out]
          refine (rbig_z (x := n) (n := 2) (by rfl) (by omega) (by decide) (by decide)).mono ?_
          rintro e w1 ⟨v1, rfl, hF⟩
          obtain ⟨v2, w2, hrun, hF2⟩ := lead_app (lead := UInt8.ofNat two) hF (by rw [bigB_len]; decide)
          go_wp2_with (at_builtin; refine wpList_append_run hrun rfl rfl rfl rfl ?_)
          go_ret
          rw [HB.out]
          exact ⟨_, rfl, hF2⟩
      · have HB : Hid (cntB n few most one two = []) := by show _ = _; unfold cntB; rw [if_neg c1, if_neg c2, if_neg c3]
        have i3 : ¬ (n : Int) < 65536 := by omega
        have i4 : ¬ (n : Int) < 256 := by omega
        clear c2 i2
        go_enter Try.func75, Try.ntmps75
        go_wp2
        go_ret
        rw [HB.out]
        exact ⟨_, rfl, World.ownsRow_nil _ _ _ _, Below.refl _ _⟩
end Go.Proofs.Ytakliplkabgmbaa
