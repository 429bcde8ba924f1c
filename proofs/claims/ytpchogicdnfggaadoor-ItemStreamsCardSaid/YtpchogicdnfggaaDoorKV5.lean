/- Joined: what one statement of this layer stands on, part 5 of 15; nothing is assumed. -/
import Derived.Deep.CutBlock
import Derived.Test.YtpchogicdnfggaaDoorKV2
import Derived.Test.YtpchogicdnfggaaDoorKV4
set_option maxRecDepth 20000
namespace Go.Proofs.YtpchogicdnfggaaDoor
open Go.RowKit Go.Hd

set_option maxHeartbeats 1000000 in
theorem rbig_any (x n : Nat) (w : World) (hx : x < 18446744073709551616) (h1 : 1 ≤ n) (h8 : n ≤ 8) :
    Calls Tryd.prog 108 #[.int .u64 (x : Int), .int .i64 (n : Int)] w fun e w' => ∃ v, e = .returned v ∧ Fresh w w' v (bigB x n) := by
  have hp := rput_any x (n : Int) w hx (by omega) (by omega)
  rw [Int.toNat_natCast] at hp
  have hlen : (putL x n).length = n := by simp
  have HB : Hid (bigB x n = (putL x n).reverse) := rfl
  generalize putL x n = L at *
  have hsm : L.length ≤ 140737488355328 := by omega
  clear hx hlen
  go_enter Tryd.func108, Tryd.ntmps108
  go_wp2_with fail
  refine hp.mono ?_
  rintro e w1 ⟨v1, rfl, hF⟩
  obtain ⟨a1, c1, rfl, hr1, hb1, hm1, hc1⟩ := hF.open
  go_wp2_with fail
  refine (back_any a1 _ c1 L w1 rfl hr1 hsm).mono ?_
  rintro e w2 ⟨v2, rfl, hF2⟩
  obtain ⟨ho, hb2⟩ := hF2
  have ho2 := ownsRow_mono ho hb1.size
  have hb3 := Gr.trans hb1 hb2
  clear ho hp hF
  go_wp2
  go_ret
  rw [HB.out]
  exact ⟨_, rfl, ho2, hb3⟩
/-- A lead of one byte, and what is appended to it. -/
theorem lead_app {w w1 : World} {lead : UInt8} {v : Value} {m : List UInt8} (hF : Fresh (w.alloc (.cells #[b8 lead] 5)) w1 v m) (hm : m.length ≤ 8) :
    ∃ v' w2, (Builtin.append_ #[26, 26] 26 #[.slice (some ⟨w.heap.size, 0, none⟩) 1 1, v]).run Tryd.prog w1 = .ok v' w2 ∧ Fresh w w2 v' (lead :: m) := by
  obtain ⟨ho, hb⟩ := hF
  have hb0 : Below w.heap.size w (w.alloc (.cells #[b8 lead] 5)) := (Below.refl _ _).alloc (Nat.le_refl _) _
  have hO : Own 5 (w.alloc (.cells #[b8 lead] 5)) w.heap.size (.slice (some ⟨w.heap.size, 0, none⟩) 1 1) [lead] := Own.new w (l := [lead]) (Nat.le_refl _) (by simp)
  have hO1 := hO.below hb
  have hb1 := Gr.trans hb0 hb
  obtain ⟨a, c, rfl, hc, hmx, hr, _⟩ := Own.at (E := 5) ho
  obtain ⟨v', w2, hrun, h2, h3, h4, h5⟩ := Own.append (ty := 26) hO1 eB (n := m.length) (c := c) hr rfl (by simp; omega) hb1.size
  exact ⟨v', w2, hrun, h2, hb1.trans h5⟩
theorem Fresh.lead (w : World) (c : UInt8) : Fresh w (w.alloc (.cells #[b8 c] 5)) (.slice (some ⟨w.heap.size, 0, none⟩) 1 1) [c] :=
  ⟨Own.new (E := 5) w (l := [c]) (Nat.le_refl _) (by simp), (Below.refl _ _).alloc (Nat.le_refl _) _⟩
theorem Fresh.lead2 (w : World) (c d : UInt8) : Fresh w (w.alloc (.cells #[b8 c, b8 d] 5)) (.slice (some ⟨w.heap.size, 0, none⟩) 2 2) [c, d] :=
  ⟨Own.new (E := 5) w (l := [c, d]) (Nat.le_refl _) (by simp), (Below.refl _ _).alloc (Nat.le_refl _) _⟩
theorem bigB_len (x n : Nat) : (bigB x n).length = n := by unfold bigB; simp
theorem rbig_z {z : Int} {x n : Nat} {w : World} (hz : z = (x : Int)) (hx : x < 18446744073709551616) (h1 : 1 ≤ n) (h8 : n ≤ 8) :
    Calls Tryd.prog 108 #[.int .u64 z, .int .i64 (n : Int)] w fun e w' => ∃ v, e = .returned v ∧ Fresh w w' v (bigB x n) := by
  subst hz; exact rbig_any x n w hx h1 h8

set_option maxHeartbeats 2000000 in
theorem rinteger_any {w : World} {x : Int} (hx : in64 x) :
    Calls Tryd.prog 95 #[.int .i64 x] w fun e w' => ∃ v, e = .returned v ∧ Fresh w w' v (intB x) := by
  obtain ⟨hx1, hx2⟩ := hx
  have hl64 := u64_lt x
  by_cases h1 : -32 ≤ x ∧ x ≤ 127
  · obtain ⟨p, q⟩ := h1
    have HB : Hid (intB x = [UInt8.ofNat (x % 256).toNat]) := by show _ = _; unfold intB; rw [if_pos ⟨p, q⟩]
    have q' : x < 128 := by omega
    have e8 : (Value.int .u8 (IntKind.u8.wrap x)) = b8 (UInt8.ofNat (x % 256).toNat) := by rw [byte_of]; try rfl
    generalize UInt8.ofNat (x % 256).toNat = c at *
    clear q
    go_enter Tryd.func95, Tryd.ntmps95
    go_wp2
    go_ret
    rw [HB.out]
    exact ⟨_, rfl, Fresh.lead w c⟩
  · have hx9 := h1
    clear h1
    by_cases p0 : 0 ≤ x
    · have pm : -32 ≤ x := by omega
      have n127 : ¬ x < 128 := by omega
      have HU := Lib.hid (u64_pos p0 hx2)
      by_cases q255 : x ≤ 255
      · have r255 : x < 256 := by omega
        have HB : Hid (intB x = 0xcc :: bigB (u64Of x) 1) := by show _ = _; unfold intB; rw [if_neg hx9, if_pos p0, if_pos q255]
        clear hx9
        go_enter Tryd.func95, Tryd.ntmps95
        go_wp2_with fail
        refine (rbig_z (x := u64Of x) (n := 1) (by first | exact HU.out | exact u64_nat) hl64 (by decide) (by decide)).mono ?_
        rintro e w1 ⟨v1, rfl, hF⟩
        obtain ⟨v2, w2, hrun, hF2⟩ := lead_app (lead := 0xcc) hF (by rw [bigB_len]; decide)
        go_wp2_with (at_builtin; refine wpList_append_run hrun rfl rfl rfl rfl ?_)
        go_ret
        rw [HB.out]
        exact ⟨_, rfl, hF2⟩
      · have r255 : ¬ x < 256 := by omega
        by_cases q65535 : x ≤ 65535
        · have r65535 : x < 65536 := by omega
          have HB : Hid (intB x = 0xcd :: bigB (u64Of x) 2) := by show _ = _; unfold intB; rw [if_neg hx9, if_pos p0, if_neg q255, if_pos q65535]
          clear hx9
          go_enter Tryd.func95, Tryd.ntmps95
          go_wp2_with fail
          refine (rbig_z (x := u64Of x) (n := 2) (by first | exact HU.out | exact u64_nat) hl64 (by decide) (by decide)).mono ?_
          rintro e w1 ⟨v1, rfl, hF⟩
          obtain ⟨v2, w2, hrun, hF2⟩ := lead_app (lead := 0xcd) hF (by rw [bigB_len]; decide)
          go_wp2_with (at_builtin; refine wpList_append_run hrun rfl rfl rfl rfl ?_)
          go_ret
          rw [HB.out]
          exact ⟨_, rfl, hF2⟩
        · have r65535 : ¬ x < 65536 := by omega
          by_cases q4294967295 : x ≤ 4294967295
          · have r4294967295 : x < 4294967296 := by omega
            have HB : Hid (intB x = 0xce :: bigB (u64Of x) 4) := by show _ = _; unfold intB; rw [if_neg hx9, if_pos p0, if_neg q255, if_neg q65535, if_pos q4294967295]
            clear hx9
            go_enter Tryd.func95, Tryd.ntmps95
            go_wp2_with fail
            refine (rbig_z (x := u64Of x) (n := 4) (by first | exact HU.out | exact u64_nat) hl64 (by decide) (by decide)).mono ?_
            rintro e w1 ⟨v1, rfl, hF⟩
            obtain ⟨v2, w2, hrun, hF2⟩ := lead_app (lead := 0xce) hF (by rw [bigB_len]; decide)
            go_wp2_with (at_builtin; refine wpList_append_run hrun rfl rfl rfl rfl ?_)
            go_ret
            rw [HB.out]
            exact ⟨_, rfl, hF2⟩
          · have r4294967295 : ¬ x < 4294967296 := by omega
            have HB : Hid (intB x = 0xcf :: bigB (u64Of x) 8) := by show _ = _; unfold intB; rw [if_neg hx9, if_pos p0, if_neg q255, if_neg q65535, if_neg q4294967295]
            clear hx9
            go_enter Tryd.func95, Tryd.ntmps95
            go_wp2_with fail
            refine (rbig_z (x := u64Of x) (n := 8) (by first | exact HU.out | exact u64_nat) hl64 (by decide) (by decide)).mono ?_
            rintro e w1 ⟨v1, rfl, hF⟩
            obtain ⟨v2, w2, hrun, hF2⟩ := lead_app (lead := 0xcf) hF (by rw [bigB_len]; decide)
            go_wp2_with (at_builtin; refine wpList_append_run hrun rfl rfl rfl rfl ?_)
            go_ret
            rw [HB.out]
            exact ⟨_, rfl, hF2⟩
    · have nm : ¬ -32 ≤ x := by omega
      have HU : Hid (IntKind.u64.wrap x = ((u64Of x : Nat) : Int)) := u64_nat
      by_cases q128 : -128 ≤ x
      · skip
        have HB : Hid (intB x = 0xd0 :: bigB (u64Of x) 1) := by show _ = _; unfold intB; rw [if_neg hx9, if_neg p0, if_pos q128]
        clear hx9
        go_enter Tryd.func95, Tryd.ntmps95
        go_wp2_with fail
        refine (rbig_z (x := u64Of x) (n := 1) (by first | exact HU.out | exact u64_nat) hl64 (by decide) (by decide)).mono ?_
        rintro e w1 ⟨v1, rfl, hF⟩
        obtain ⟨v2, w2, hrun, hF2⟩ := lead_app (lead := 0xd0) hF (by rw [bigB_len]; decide)
        go_wp2_with (at_builtin; refine wpList_append_run hrun rfl rfl rfl rfl ?_)
        go_ret
        rw [HB.out]
        exact ⟨_, rfl, hF2⟩
      · skip
        by_cases q32768 : -32768 ≤ x
        · skip
          have HB : Hid (intB x = 0xd1 :: bigB (u64Of x) 2) := by show _ = _; unfold intB; rw [if_neg hx9, if_neg p0, if_neg q128, if_pos q32768]
          clear hx9
          go_enter Tryd.func95, Tryd.ntmps95
          go_wp2_with fail
          refine (rbig_z (x := u64Of x) (n := 2) (by first | exact HU.out | exact u64_nat) hl64 (by decide) (by decide)).mono ?_
          rintro e w1 ⟨v1, rfl, hF⟩
          obtain ⟨v2, w2, hrun, hF2⟩ := lead_app (lead := 0xd1) hF (by rw [bigB_len]; decide)
          go_wp2_with (at_builtin; refine wpList_append_run hrun rfl rfl rfl rfl ?_)
          go_ret
          rw [HB.out]
          exact ⟨_, rfl, hF2⟩
        · skip
          by_cases q2147483648 : -2147483648 ≤ x
          · skip
            have HB : Hid (intB x = 0xd2 :: bigB (u64Of x) 4) := by show _ = _; unfold intB; rw [if_neg hx9, if_neg p0, if_neg q128, if_neg q32768, if_pos q2147483648]
            clear hx9
            go_enter Tryd.func95, Tryd.ntmps95
            go_wp2_with fail
            refine (rbig_z (x := u64Of x) (n := 4) (by first | exact HU.out | exact u64_nat) hl64 (by decide) (by decide)).mono ?_
            rintro e w1 ⟨v1, rfl, hF⟩
            obtain ⟨v2, w2, hrun, hF2⟩ := lead_app (lead := 0xd2) hF (by rw [bigB_len]; decide)
            go_wp2_with (at_builtin; refine wpList_append_run hrun rfl rfl rfl rfl ?_)
            go_ret
            rw [HB.out]
            exact ⟨_, rfl, hF2⟩
          · skip
            have HB : Hid (intB x = 0xd3 :: bigB (u64Of x) 8) := by show _ = _; unfold intB; rw [if_neg hx9, if_neg p0, if_neg q128, if_neg q32768, if_neg q2147483648]
            clear hx9
            go_enter Tryd.func95, Tryd.ntmps95
            go_wp2_with fail
            refine (rbig_z (x := u64Of x) (n := 8) (by first | exact HU.out | exact u64_nat) hl64 (by decide) (by decide)).mono ?_
            rintro e w1 ⟨v1, rfl, hF⟩
            obtain ⟨v2, w2, hrun, hF2⟩ := lead_app (lead := 0xd3) hF (by rw [bigB_len]; decide)
            go_wp2_with (at_builtin; refine wpList_append_run hrun rfl rfl rfl rfl ?_)
            go_ret
            rw [HB.out]
            exact ⟨_, rfl, hF2⟩

/-- A lead by how many there are; empty: too many. -/
def cntB (n few : Nat) (most : Int) (one two : Nat) : List UInt8 :=
  if (n : Int) ≤ most then [UInt8.ofNat (few + n)] else if n < 256 ∧ one ≠ 0 then [UInt8.ofNat one, UInt8.ofNat n] else if n < 65536 then UInt8.ofNat two :: bigB n 2 else []
theorem bigB_one (n : Nat) : bigB n 1 = [UInt8.ofNat n] := by simp [bigB, putL]
set_option maxHeartbeats 2000000 in
theorem rcounted_any {w : World} {n few one two : Nat} {most : Int} (hn : n ≤ maxLen) (hm : -1 ≤ most ∧ most ≤ 31) (h1 : one < 256) (h2 : two < 256) :
    Calls Tryd.prog 96 #[.int .i64 (n : Int), .int .u8 (few : Int), .int .i64 most, .int .u8 (one : Int), .int .u8 (two : Int)] w fun e w' => ∃ v, e = .returned v ∧ Fresh w w' v (cntB n few most one two) := by
  unfold maxLen at hn
  by_cases c1 : (n : Int) ≤ most
  · have HB : Hid (cntB n few most one two = [UInt8.ofNat (few + n)]) := by show _ = _; unfold cntB; rw [if_pos c1]
    have e8 : Value.int .u8 (IntKind.u8.wrap ((few : Int) + IntKind.u8.wrap (n : Int))) = b8 (UInt8.ofNat (few + n)) := by
      have h1 : IntKind.u8.wrap (n : Int) = n := by rw [IntKind.wrap_u8]; omega
      rw [h1, IntKind.wrap_u8]
      show Value.int .u8 _ = Value.int .u8 _
      rw [UInt8.toNat_ofNat']
      congr 1
    have h1' : IntKind.u8.wrap (n : Int) = n := by rw [IntKind.wrap_u8]; omega
    rw [h1'] at e8
    generalize UInt8.ofNat (few + n) = c at *
    go_enter Tryd.func96, Tryd.ntmps96
    go_wp2
    go_ret
    rw [HB.out]
    first
      | exact ⟨_, rfl, Fresh.lead w c⟩
      | (refine ⟨_, rfl, ?_⟩; rw [e8]; exact Fresh.lead w c)
  · by_cases c2 : n < 256 ∧ one ≠ 0
    · have HB : Hid (cntB n few most one two = [UInt8.ofNat one, UInt8.ofNat n]) := by show _ = _; unfold cntB; rw [if_neg c1, if_pos c2]
      obtain ⟨c2, c3⟩ := c2
      have i2 : (n : Int) < 256 := by omega
      have h1' : IntKind.u8.wrap (n : Int) = n := by rw [IntKind.wrap_u8]; omega
      have en : ((UInt8.ofNat n).toNat : Int) = n := by rw [UInt8.toNat_ofNat']; omega
      have eo : ((UInt8.ofNat one).toNat : Int) = one := by rw [UInt8.toNat_ofNat']; omega
      have t1 : ((one : Int) != 0) = true := by simp; omega
      have HE := Lib.hid en
      have HO := Lib.hid eo
      clear en eo c2 c3
      go_enter Tryd.func96, Tryd.ntmps96
      go_wp2
      go_ret
      rw [HB.out]
      refine ⟨_, rfl, ?_⟩
      have := Fresh.lead2 w (UInt8.ofNat one) (UInt8.ofNat n)
      unfold b8 at this
      rw [HE.out, HO.out] at this
      exact this
    · have i2 : (n : Int) < 256 → ((one : Int) != 0) = false := by
        intro h
        have : one = 0 := by
          rcases Nat.eq_zero_or_pos one with h0 | h0
          · exact h0
          · exact absurd ⟨by omega, by omega⟩ c2
        simp [this]
      have HC := Lib.hid c2
      by_cases c3 : n < 65536
      · have HB : Hid (cntB n few most one two = UInt8.ofNat two :: bigB n 2) := by show _ = _; unfold cntB; rw [if_neg c1, if_neg HC.out, if_pos c3]
        have i3 : (n : Int) < 65536 := by omega
        have et : ((UInt8.ofNat two).toNat : Int) = two := by rw [UInt8.toNat_ofNat']; omega
        have HT := Lib.hid et
        have eu : IntKind.u64.wrap (n : Int) = (n : Int) := by rw [IntKind.wrap_u64]; omega
        clear c2 et
        by_cases c4 : (n : Int) < 256
        · have t1 := i2 c4
          clear i2
          go_enter Tryd.func96, Tryd.ntmps96
          go_wp2_with fail
          rw [← HT.out]
          refine (rbig_z (x := n) (n := 2) (by rfl) (by omega) (by decide) (by decide)).mono ?_
          rintro e w1 ⟨v1, rfl, hF⟩
          obtain ⟨v2, w2, hrun, hF2⟩ := lead_app (lead := UInt8.ofNat two) hF (by rw [bigB_len]; decide)
          go_wp2_with (at_builtin; refine wpList_append_run hrun rfl rfl rfl rfl ?_)
          go_ret
          rw [HB.out]
          exact ⟨_, rfl, hF2⟩
        · clear i2
          go_enter Tryd.func96, Tryd.ntmps96
          go_wp2_with fail
          rw [← HT.out]
          refine (rbig_z (x := n) (n := 2) (by rfl) (by omega) (by decide) (by decide)).mono ?_
          rintro e w1 ⟨v1, rfl, hF⟩
          obtain ⟨v2, w2, hrun, hF2⟩ := lead_app (lead := UInt8.ofNat two) hF (by rw [bigB_len]; decide)
          go_wp2_with (at_builtin; refine wpList_append_run hrun rfl rfl rfl rfl ?_)
          go_ret
          rw [HB.out]
          exact ⟨_, rfl, hF2⟩
      · have HB : Hid (cntB n few most one two = []) := by show _ = _; unfold cntB; rw [if_neg c1, if_neg c2, if_neg c3]
        have i3 : ¬ (n : Int) < 65536 := by omega
        have i4 : ¬ (n : Int) < 256 := by omega
        clear c2 i2
        go_enter Tryd.func96, Tryd.ntmps96
        go_wp2
        go_ret
        rw [HB.out]
        exact ⟨_, rfl, World.ownsRow_nil _ _ _ _, Below.refl _ _⟩
end Go.Proofs.YtpchogicdnfggaaDoor
set_option maxRecDepth 20000
namespace Go.Proofs.YtpchogicdnfggaaDoor
open Go.RowKit Go.Hd
attribute [local go_sem ↓] h_ldV h_stV h_alV
attribute [local go_sem] r_ldV r_stV r_alV

theorem byteCells_str (m : List UInt8) : byteCells (str m) = m.map b8 := by
  unfold byteCells str
  simp
/-- A text, appended. -/
theorem Own.appendT {t ty E tx : TypeId} {w : World} {base : Nat} {v : Value} {l : List UInt8} (h : Own E w base v l) (El : Elem Tryd.prog t E (.int .u8 0) 1 1) (hk : Tryd.prog.underlying tx = some .string) {m : List UInt8}
    (hl : l.length + m.length ≤ 140737488355328) (hb : base ≤ w.heap.size) :
    ∃ v' w', (Builtin.append_ #[t, tx] ty #[v, .string (str m)]).run Tryd.prog w = .ok v' w' ∧ Own E w' base v' (l ++ m) ∧ w.grownBy w' v.ownBlock ∧ (∀ k, v'.ownBlock = some k → v.ownBlock = some k ∨ w.heap.size ≤ k) ∧ Below base w w' := by
  have hs := Src.ofString (P := Tryd.prog) (w := w) hk (str m)
  rw [byteCells_str, str_size] at hs
  obtain ⟨v', w', h1, h2, h3, h4⟩ := append_srcK (ty := ty) El h hs (by unfold maxLen; omega) (by omega) hb
  refine ⟨v', w', h1, ?_, h3, h4, Below.ofGrown h3 h hb⟩
  show w'.ownsRow _ _ _ _ _ _
  rw [List.length_append, List.map_append]; exact h2
/-- What the document's bytes answers. -/
structure RbR (base : Nat) (w w' : World) (v u : Value) (r : Bool) (o : Option (List UInt8)) : Prop where
  own : ∃ l', Own 5 w' base u l' ∧ (r = true → o = some l' ∧ l'.length ≤ 65536)
  no : r = false → o = none
  gro : Gro w w' v u
/-- A value's lead, by the document. -/
def leadF (k n : Int) (b t : List UInt8) (l : List PV) : List UInt8 :=
  if k = 0 then [0xc0] else if k = 1 then [0xc2] else if k = 2 then [0xc3] else if k = 3 then intB n else if k = 4 then cntB b.length 0 (-1) 0xc4 0xc5 else if k = 5 then cntB t.length 0xa0 31 0xd9 0xda else
  if k = 6 then cntB l.length 0x90 15 0 0xdc else cntB l.length 0x80 15 0 0xde
def restF (k : Int) (b t : List UInt8) : List UInt8 := if k = 4 then b else if k = 5 then t else []
theorem cntB_len (n few : Nat) (most : Int) (one two : Nat) : (cntB n few most one two).length ≤ 3 := by
  unfold cntB
  repeat' split
  all_goals simp [bigB_len]
theorem leadF_len (k n : Int) (b t : List UInt8) (l : List PV) : (leadF k n b t l).length ≤ 9 := by
  have h1 := intB_len n
  have h2 := cntB_len b.length 0 (-1) 0xc4 0xc5
  have h3 := cntB_len t.length 0xa0 31 0xd9 0xda
  have h4 := cntB_len l.length 0x90 15 0 0xdc
  have h5 := cntB_len l.length 0x80 15 0 0xde
  unfold leadF
  repeat' split
  all_goals first | omega | simp
theorem cntB_ne {n few : Nat} {most : Int} {one two : Nat} (h : cntB n few most one two ≠ []) : n < 65536 ∨ (n : Int) ≤ most := by
  unfold cntB at h
  split at h
  · right; assumption
  · split at h
    · left; rename_i h2; omega
    · split at h
      · left; assumption
      · exact absurd rfl h
def startO (l0 lead : List UInt8) : Option (List UInt8) := if lead = [] then none else putO (some l0) lead
theorem putO_some (l m : List UInt8) : putO (some l) m = if 65536 < l.length + m.length then none else some (l ++ m) := rfl
theorem putO_nil (o : Option (List UInt8)) (h : ∀ l, o = some l → l.length ≤ 65536) : putO o [] = o := by
  cases o with
  | none => rfl
  | some l => rw [putO_some, if_neg (by have := h l rfl; simp; omega), List.append_nil]
theorem or_ofNat (a : UInt8) (m : Nat) (n : Nat) (h : ∀ k : Fin (m + 1), (a ||| UInt8.ofNat k.val) = UInt8.ofNat (a.toNat + k.val)) (hn : n ≤ m) : (a ||| UInt8.ofNat n) = UInt8.ofNat (a.toNat + n) := h ⟨n, by omega⟩
theorem cntB_a {n few : Nat} {most : Int} {one two : Nat} (h : (n : Int) ≤ most) : cntB n few most one two = [UInt8.ofNat (few + n)] := by unfold cntB; rw [if_pos h]
theorem cntB_b {n few : Nat} {most : Int} {one two : Nat} (h : ¬ (n : Int) ≤ most) (h1 : n < 256) (h2 : one ≠ 0) : cntB n few most one two = [UInt8.ofNat one, UInt8.ofNat n] := by unfold cntB; rw [if_neg h, if_pos ⟨h1, h2⟩]
theorem cntB_c {n few : Nat} {most : Int} {one two : Nat} (h : ¬ (n : Int) ≤ most) (h1 : ¬ (n < 256 ∧ one ≠ 0)) (h2 : n < 65536) : cntB n few most one two = UInt8.ofNat two :: bigB n 2 := by unfold cntB; rw [if_neg h, if_neg h1, if_pos h2]
theorem cntB_d {n few : Nat} {most : Int} {one two : Nat} (h : ¬ (n : Int) ≤ most) (h1 : ¬ (n < 256 ∧ one ≠ 0)) (h2 : ¬ n < 65536) : cntB n few most one two = [] := by unfold cntB; rw [if_neg h, if_neg h1, if_neg h2]
theorem startO_cons (l0 : List UInt8) (c : UInt8) (m : List UInt8) : startO l0 (c :: m) = putO (some l0) (c :: m) := by unfold startO; rw [if_neg (by simp)]
theorem startO_nil (l0 : List UInt8) : startO l0 [] = none := by unfold startO; rw [if_pos rfl]
theorem enc_blob (l0 b : List UInt8) : blobO (some l0) b = putO (startO l0 (cntB b.length 0 (-1) 0xc4 0xc5)) b := by
  have h0 : ¬ (b.length : Int) ≤ -1 := by omega
  unfold blobO
  by_cases h1 : b.length ≤ 255
  · rw [if_pos h1, cntB_b h0 (by omega) (by decide), startO_cons, putO_two, bigB_one]; rfl
  · have h3 : ¬ (b.length < 256 ∧ (0xc4 : Nat) ≠ 0) := by omega
    rw [if_neg h1]
    by_cases h2 : b.length ≤ 65535
    · rw [if_pos h2, cntB_c h0 h3 (by omega), startO_cons, putO_two]; rfl
    · rw [if_neg h2, cntB_d h0 h3 (by omega), startO_nil]; rfl
theorem enc_text (l0 t : List UInt8) : textO (some l0) t = putO (startO l0 (cntB t.length 0xa0 31 0xd9 0xda)) t := by
  unfold textO
  by_cases h0 : t.length ≤ 31
  · have e := or_ofNat 0xa0 31 t.length (by decide) h0
    rw [if_pos h0, cntB_a (by omega), startO_cons, putO_two, e]; rfl
  have h0' : ¬ (t.length : Int) ≤ 31 := by omega
  rw [if_neg h0]
  by_cases h1 : t.length ≤ 255
  · rw [if_pos h1, cntB_b h0' (by omega) (by decide), startO_cons, putO_two, bigB_one]; rfl
  · have h3 : ¬ (t.length < 256 ∧ (0xd9 : Nat) ≠ 0) := by omega
    rw [if_neg h1]
    by_cases h2 : t.length ≤ 65535
    · rw [if_pos h2, cntB_c h0' h3 (by omega), startO_cons, putO_two]; rfl
    · rw [if_neg h2, cntB_d h0' h3 (by omega), startO_nil]; rfl
theorem enc_list (l0 : List UInt8) (n : Nat) : manyO 0x90 0xdc (some l0) n = startO l0 (cntB n 0x90 15 0 0xdc) := by
  unfold manyO
  by_cases h0 : n ≤ 15
  · have e := or_ofNat 0x90 15 n (by decide) h0
    rw [if_pos h0, cntB_a (by omega), startO_cons, e]; rfl
  · have h0' : ¬ (n : Int) ≤ 15 := by omega
    have h3 : ¬ (n < 256 ∧ (0 : Nat) ≠ 0) := by omega
    rw [if_neg h0]
    by_cases h2 : n ≤ 65535
    · rw [if_pos h2, cntB_c h0' h3 (by omega), startO_cons]; rfl
    · rw [if_neg h2, cntB_d h0' h3 (by omega), startO_nil]
theorem enc_map (l0 : List UInt8) (n : Nat) : manyO 0x80 0xde (some l0) n = startO l0 (cntB n 0x80 15 0 0xde) := by
  unfold manyO
  by_cases h0 : n ≤ 15
  · have e := or_ofNat 0x80 15 n (by decide) h0
    rw [if_pos h0, cntB_a (by omega), startO_cons, e]; rfl
  · have h0' : ¬ (n : Int) ≤ 15 := by omega
    have h3 : ¬ (n < 256 ∧ (0 : Nat) ≠ 0) := by omega
    rw [if_neg h0]
    by_cases h2 : n ≤ 65535
    · rw [if_pos h2, cntB_c h0' h3 (by omega), startO_cons]; rfl
    · rw [if_neg h2, cntB_d h0' h3 (by omega), startO_nil]
theorem intB_ne (n : Int) : intB n ≠ [] := by
  intro h
  have := intB_len n
  rw [h] at this
  simp at this
/-- A flat value: its lead, then its bytes or its text. -/
theorem enc_flat {d : Nat} {l0 : List UInt8} {k n : Int} {b t : List UInt8} {ks : List (List UInt8)} {l : List PV} (_h0 : l0.length ≤ 65536) (hk0 : 0 ≤ k) (hk : k < 6) :
    encO (d + 1) (some l0) (.mk k n b t ks l) = putO (startO l0 (leadF k n b t l)) (restF k b t) := by
  have hst : ∀ (m : List UInt8), ∀ x, startO l0 m = some x → x.length ≤ 65536 := by
    intro m x hx
    unfold startO at hx
    split at hx
    · cases hx
    · rw [putO_some] at hx
      split at hx
      · cases hx
      · cases hx; simp; omega
  rcases (by omega : k = 0 ∨ k = 1 ∨ k = 2 ∨ k = 3 ∨ k = 4 ∨ k = 5) with rfl | rfl | rfl | rfl | rfl | rfl
  · show putO (some l0) [0xc0] = putO (startO l0 [0xc0]) []
    rw [putO_nil _ (hst _)]; rfl
  · show putO (some l0) [0xc2] = putO (startO l0 [0xc2]) []
    rw [putO_nil _ (hst _)]; rfl
  · show putO (some l0) [0xc3] = putO (startO l0 [0xc3]) []
    rw [putO_nil _ (hst _)]; rfl
  · show putO (some l0) (intB n) = putO (startO l0 (intB n)) []
    rw [putO_nil _ (hst _)]; unfold startO; rw [if_neg (intB_ne n)]
  · exact enc_blob l0 b
  · exact enc_text l0 t
/-- The document's lead, appended. -/
theorem lead_step {base : Nat} {w w1 : World} {v0 : Value} {l0 lead : List UInt8} {a : Option Addr} {c m : Nat} (h : Own 5 w base v0 l0) (hb : base ≤ w.heap.size) (hb1 : Below w.heap.size w w1) (hr : Row w1 a (lead.map b8)) (hm : m = lead.length) (h0 : l0.length ≤ 65536) (h9 : lead.length ≤ 9) :
    ∃ a2 c2 w2, (Builtin.append_ #[26, 26] 26 #[v0, .slice a m c]).run Tryd.prog w1 = .ok (.slice a2 (l0 ++ lead).length c2) w2 ∧ Own 5 w2 base (.slice a2 (l0 ++ lead).length c2) (l0 ++ lead) ∧ Gro w1 w2 v0 (.slice a2 (l0 ++ lead).length c2) := by
  subst hm
  have h1 := h.below hb1
  obtain ⟨v', w2, hrun, h2, h3, h4, h5⟩ := Own.append (ty := 26) h1 eB hr rfl (by omega) (Nat.le_trans hb hb1.size)
  obtain ⟨a2, c2, rfl, _⟩ := Own.at (E := 5) h2
  exact ⟨a2, c2, w2, hrun, h2, h3, h4⟩
end Go.Proofs.YtpchogicdnfggaaDoor
set_option maxRecDepth 20000
namespace Go.Proofs.YtpchogicdnfggaaDoor
open Go.RowKit Go.Hd
attribute [local go_sem ↓] h_ldV h_stV h_alV
attribute [local go_sem] r_ldV r_stV r_alV

theorem putO_len {l m x : List UInt8} (h : putO (some l) m = some x) : x = l ++ m ∧ x.length ≤ 65536 := by
  rw [putO_some] at h
  split at h
  · cases h
  · cases h; exact ⟨rfl, by simp; omega⟩
theorem startO_ne {l0 lead : List UInt8} (h : lead ≠ []) : startO l0 lead = if 65536 < (l0 ++ lead).length then none else some (l0 ++ lead) := by
  unfold startO; rw [if_neg h, putO_some, List.length_append]
theorem len0 {α : Type} {l : List α} (h : l = []) : ((l.length : Int) == 0) = true := by subst h; rfl
theorem len1 {α : Type} {l : List α} (h : l ≠ []) : ((l.length : Int) == 0) = false := by
  have : l.length ≠ 0 := by simpa using h
  simp; omega
set_option maxHeartbeats 2000000 in
theorem rbytes_flat {w0 w : World} {k n : Int} {b t : List UInt8} {ks : List (List UInt8)} {l : List PV} {cs : List Value} (h : VAt w0 cs (.mk k n b t ks l)) (hk0 : 0 ≤ k) (hk6 : k < 6) (d : Nat) {base : Nat} {a0 : Option Addr} {c0 : Nat} {l0 : List UInt8}
    (hown : Own 5 w base (.slice a0 l0.length c0) l0) (h0 : l0.length ≤ 65536) (hbw : Below w0.heap.size w0 w) (hob : w0.heap.size ≤ base) (hbs : base ≤ w.heap.size) :
    Calls Tryd.prog 72 #[.slice a0 l0.length c0, .agg cs.toArray] w fun e w' => ∃ u r, e = .returned (.tuple #[u, .bool r]) ∧ RbR base w w' (.slice a0 l0.length c0) u r (encO (d + 1) (some l0) (.mk k n b t ks l)) := by
  cases h with
  | @mk _ _ _ _ _ _ ab ak al cb ck cl css hk hn hb hbc ht hks hkc hkt hl hlc hcs h6 sub =>
  have HE := Lib.hid (enc_flat (d := d) (n := n) (b := b) (t := t) (ks := ks) (l := l) h0 hk0 hk6)
  have hv0 : ∀ q, (Value.slice a0 l0.length c0).ownBlock = some q → base ≤ q ∧ q < w.heap.size := fun q hq => hown.lt q hq
  have hb0 : Below w.heap.size w (w.alloc (.cells (List.toArray (α := Value) [.int .i64 k, .int .i64 n, .slice ab b.length cb, .string (str t), .slice ak ks.length ck, .slice al l.length cl]) 30)) := (Below.refl _ _).alloc (Nat.le_refl _) _
  have B0 : Blk (w.alloc (.cells (List.toArray (α := Value) [.int .i64 k, .int .i64 n, .slice ab b.length cb, .string (str t), .slice ak ks.length ck, .slice al l.length cl]) 30)) w.heap.size 30 [.int .i64 k, .int .i64 n, .slice ab b.length cb, .string (str t), .slice ak ks.length ck, .slice al l.length cl] := Blk.new _ _ _
  show Calls _ _ #[_, .agg (List.toArray (α := Value) [.int .i64 k, .int .i64 n, .slice ab b.length cb, .string (str t), .slice ak ks.length ck, .slice al l.length cl])] _ _
  go_enter Tryd.func72, Tryd.ntmps72
  go_upto_region 1 with (fail)
  generalize w.alloc (.cells (List.toArray (α := Value) [.int .i64 k, .int .i64 n, .slice ab b.length cb, .string (str t), .slice ak ks.length ck, .slice al l.length cl]) 30) = W at *
  have k0 : W.cell? ⟨w.heap.size, 0, none⟩ = some (.int .i64 k) := B0.cell rfl
  have k1 : W.cell? ⟨w.heap.size, 1, none⟩ = some (.int .i64 n) := B0.cell rfl
  have k2 : W.cell? ⟨w.heap.size, 2, none⟩ = some (.slice ab b.length cb) := B0.cell rfl
  have k3 : W.cell? ⟨w.heap.size, 3, none⟩ = some (.string (str t)) := B0.cell rfl
  have hsz : (str t).size = t.length := str_size t
  generalize hL : leadF k n b t l = L at *
  have hL9 : L.length ≤ 9 := by rw [← hL]; exact leadF_len k n b t l
  have HL := Lib.hid hL
  clear hL
  have htm : t.length ≤ maxLen := ht
  have hbm : b.length ≤ maxLen := Nat.le_trans hbc.1 hbc.2
  go_upto_block 0 with (fail)
  go_cut [6] (fun u wx => ∃ a c, u = .slice a L.length c ∧ Row wx a (L.map b8) ∧ Below w.heap.size w wx ∧ Blk wx w.heap.size 30 [.int .i64 k, .int .i64 n, .slice ab b.length cb, .string (str t), .slice ak ks.length ck, .slice al l.length cl])
  case first =>
    rcases (by omega : k = 0 ∨ k = 1 ∨ k = 2 ∨ k = 3 ∨ k = 4 ∨ k = 5) with rfl | rfl | rfl | rfl | rfl | rfl
    · have HL1 : L = [0xc0] := HL.out.symm
      subst HL1
      go_wp2
      go_meet
      exact ⟨_, _, rfl, (Blk.new W 5 #[b8 0xc0]).row, hb0.alloc (Nat.le_trans hb0.size (Nat.le_refl _)) _, B0.alloc _⟩
    · have HL1 : L = [0xc2] := HL.out.symm
      subst HL1
      go_wp2
      go_meet
      exact ⟨_, _, rfl, (Blk.new W 5 #[b8 0xc2]).row, hb0.alloc (Nat.le_trans hb0.size (Nat.le_refl _)) _, B0.alloc _⟩
    · have HL1 : L = [0xc3] := HL.out.symm
      subst HL1
      go_wp2
      go_meet
      exact ⟨_, _, rfl, (Blk.new W 5 #[b8 0xc3]).row, hb0.alloc (Nat.le_trans hb0.size (Nat.le_refl _)) _, B0.alloc _⟩
    · go_wp2_with fail
      refine (rinteger_any hn).mono ?_
      rintro e w1 ⟨v1, rfl, hF⟩
      rw [show intB n = L from HL.out] at hF
      obtain ⟨a1, c1, rfl, hr1, hb1, _, _⟩ := hF.open
      go_wp2
      go_meet
      exact ⟨_, _, rfl, hr1, Gr.trans hb0 hb1, B0.below hb1⟩
    · go_wp2_with fail
      refine (rcounted_any (few := 0) (one := 0xc4) (two := 0xc5) (most := -1) hbm (by decide) (by decide) (by decide)).mono ?_
      rintro e w1 ⟨v1, rfl, hF⟩
      rw [show cntB b.length 0 (-1) 0xc4 0xc5 = L from HL.out] at hF
      obtain ⟨a1, c1, rfl, hr1, hb1, _, _⟩ := hF.open
      go_wp2
      go_meet
      exact ⟨_, _, rfl, hr1, Gr.trans hb0 hb1, B0.below hb1⟩
    · go_wp2_with fail
      refine (rcounted_any (few := 0xa0) (one := 0xd9) (two := 0xda) (most := 31) htm (by decide) (by decide) (by decide)).mono ?_
      rintro e w1 ⟨v1, rfl, hF⟩
      rw [show cntB t.length 0xa0 31 0xd9 0xda = L from HL.out] at hF
      obtain ⟨a1, c1, rfl, hr1, hb1, _, _⟩ := hF.open
      go_wp2
      go_meet
      exact ⟨_, _, rfl, hr1, Gr.trans hb0 hb1, B0.below hb1⟩
  case rest =>
    obtain ⟨aL, cL, rfl, hrL, hbc1, BC⟩ := hcut
    clear B0 k0 k1 k2 k3 hb0
    have HN := Lib.hid (fun h : L ≠ [] => startO_ne (l0 := l0) h)
    obtain ⟨a2, c2, w2, hrun, hO2, hG1⟩ := lead_step (c := cL) hown hbs hbc1 hrL rfl h0 hL9
    have hq : (Value.slice a0 l0.length c0).ownBlock ≠ some w.heap.size := fun e => by have := (hv0 _ e).2; omega
    obtain ⟨B2, hq2⟩ := hG1.blk BC hq
    have hG2 := (Gro.ofBelow (v := (Value.slice a0 l0.length c0)) hbc1).trans hG1
    have hbw2 := hbw.trans (hG2.below (fun q hq => (hv0 q hq).1) hob hbw.size)
    have hbs2 := Nat.le_trans hbs hG2.size
    have ll : (l0 ++ L).length ≤ 65545 := by simp; omega
    clear hown hbc1 hrL hG1 BC hq hv0
    generalize l0 ++ L = l2 at *
    by_cases hLe : L = []
    · have e0 := len0 hLe
      have HN2 : Hid (encO (d + 1) (some l0) (.mk k n b t ks l) = none) := by show _ = _; rw [HE.out, hLe]; rfl
      clear hLe
      go_wp2_with (at_builtin; refine wpList_append_run hrun rfl rfl rfl rfl ?_)
      go_ret2
      rw [HN2.out]
      exact ⟨_, _, rfl, ⟨_, hO2, (by simp)⟩, fun _ => rfl, hG2⟩
    · have e0 := len1 hLe
      have HS := Lib.hid (HN.out hLe)
      have HNE := Lib.hid hLe
      clear hLe
      by_cases hbig : 65536 < l2.length
      · have i1 : 65536 < (l2.length : Int) := by omega
        have HN2 : Hid (encO (d + 1) (some l0) (.mk k n b t ks l) = none) := by show _ = _; rw [HE.out, HS.out, if_pos hbig]; rfl
        go_wp2_with (at_builtin; refine wpList_append_run hrun rfl rfl rfl rfl ?_)
        go_ret2
        rw [HN2.out]
        exact ⟨_, _, rfl, ⟨_, hO2, (by simp)⟩, fun _ => rfl, hG2⟩
      · have i1 : ¬ 65536 < (l2.length : Int) := by omega
        have HS2 : Hid (encO (d + 1) (some l0) (.mk k n b t ks l) = putO (some l2) (restF k b t)) := by show _ = _; rw [HE.out, HS.out, if_neg hbig]
        have hl2 : l2.length ≤ 65536 := by omega
        clear HE HS HN hbig ll
        have k0 : w2.cell? ⟨w.heap.size, 0, none⟩ = some (.int .i64 k) := B2.cell rfl
        have k2 : w2.cell? ⟨w.heap.size, 2, none⟩ = some (.slice ab b.length cb) := B2.cell rfl
        have k3 : w2.cell? ⟨w.heap.size, 3, none⟩ = some (.string (str t)) := B2.cell rfl
        have hmx : l2.length + 65535 ≤ 140737488355328 := by omega
        rcases (by omega : k = 4 ∨ k = 5 ∨ (k ≠ 4 ∧ k ≠ 5)) with e | e | e
        case' neg.inl =>
          subst e
          have hb65 : b.length < 65536 := by
            rcases cntB_ne (n := b.length) (few := 0) (most := -1) (one := 0xc4) (two := 0xc5) (by rw [show cntB b.length 0 (-1) 0xc4 0xc5 = L from HL.out]; exact HNE.out) with h | h <;> omega
          obtain ⟨v3, w3, hrun3, hO3, g1, g2, _⟩ := Own.append (ty := 26) hO2 eB (n := b.length) (c := cb) (hb.below hbw2) rfl (by omega) hbs2
          have HS3 : Hid (encO (d + 1) (some l0) (.mk 4 n b t ks l) = if 65536 < (l2 ++ b).length then none else some (l2 ++ b)) := by show _ = _; rw [HS2.out, List.length_append]; rfl
          obtain ⟨a3, c3, rfl, _⟩ := Own.at (E := 5) hO3
          have hG3' : Gro w2 w3 (.slice a2 l2.length c2) (.slice a3 (l2 ++ b).length c3) := ⟨g1, g2⟩
          have hO3' := hO3
          obtain ⟨B3, hq3⟩ := hG3'.blk B2 hq2
          have hG3 := hG2.trans hG3'
          clear g1 g2 hb65 hO3
          generalize l2 ++ b = l3 at *
          have p0 : w3.cell? ⟨w.heap.size, 0, none⟩ = some (.int .i64 4) := B3.cell rfl
          have p5 : w3.cell? ⟨w.heap.size, 5, none⟩ = some (.slice al l.length cl) := B3.cell rfl
          go_upto_region 18 with (at_builtin; refine wpList_append_run hrun rfl rfl rfl rfl ?_)
          go_upto_region 24 with (at_builtin; refine wpList_append_run hrun3 rfl rfl rfl rfl ?_)
        case' neg.inr.inl =>
          subst e
          have hb65 : t.length < 65536 := by
            rcases cntB_ne (n := t.length) (few := 0xa0) (most := 31) (one := 0xd9) (two := 0xda) (by rw [show cntB t.length 0xa0 31 0xd9 0xda = L from HL.out]; exact HNE.out) with h | h <;> omega
          obtain ⟨v3, w3, hrun3, hO3, g1, g2, _⟩ := Own.appendT (ty := 26) (tx := 9) (m := t) hO2 eB Tryd.underlying9 (by omega) hbs2
          have HS3 : Hid (encO (d + 1) (some l0) (.mk 5 n b t ks l) = if 65536 < (l2 ++ t).length then none else some (l2 ++ t)) := by show _ = _; rw [HS2.out, List.length_append]; rfl
          obtain ⟨a3, c3, rfl, _⟩ := Own.at (E := 5) hO3
          have hG3' : Gro w2 w3 (.slice a2 l2.length c2) (.slice a3 (l2 ++ t).length c3) := ⟨g1, g2⟩
          have hO3' := hO3
          obtain ⟨B3, hq3⟩ := hG3'.blk B2 hq2
          have hG3 := hG2.trans hG3'
          clear g1 g2 hb65 hO3
          generalize l2 ++ t = l3 at *
          have p0 : w3.cell? ⟨w.heap.size, 0, none⟩ = some (.int .i64 5) := B3.cell rfl
          have p5 : w3.cell? ⟨w.heap.size, 5, none⟩ = some (.slice al l.length cl) := B3.cell rfl
          go_upto_region 18 with (at_builtin; refine wpList_append_run hrun rfl rfl rfl rfl ?_)
          go_upto_region 24 with (at_builtin; refine wpList_append_run hrun3 rfl rfl rfl rfl ?_)
        case' neg.inr.inr =>
          obtain ⟨e4, e5⟩ := e
          have HS3 : Hid (encO (d + 1) (some l0) (.mk k n b t ks l) = if 65536 < l2.length then none else some l2) := by
            show _ = _
            rw [HS2.out]
            unfold restF
            rw [if_neg e4, if_neg e5, putO_some, List.length_nil, Nat.add_zero, List.append_nil]
          have p0 : w2.cell? ⟨w.heap.size, 0, none⟩ = some (.int .i64 k) := B2.cell rfl
          have p5 : w2.cell? ⟨w.heap.size, 5, none⟩ = some (.slice al l.length cl) := B2.cell rfl
          have t4 : (k == 4) = false := beq_eq_false_iff_ne.2 e4
          have t5 : (k == 5) = false := beq_eq_false_iff_ne.2 e5
          have hO3' := hO2
          have B3 := B2
          have hG3 := hG2
          clear hO2 B2 hG2
          go_upto_region 24 with (first | (at_builtin; refine wpList_append_run hrun rfl rfl rfl rfl ?_))
          generalize l2 = l3 at *
          generalize w2 = w3 at *
          generalize a2 = a3 at *
          generalize c2 = c3 at *
        all_goals
          clear k0 k2 k3 HS2
          have j0 : (0 : Int) ≤ 0 := by omega
          have HF : Hid (RbR base w w3 (.slice a0 l0.length c0) (.slice a3 l3.length c3) (decide (l3.length ≤ 65536)) (if 65536 < l3.length then none else some l3)) := by
            show RbR _ _ _ _ _ _ _
            by_cases hb : l3.length ≤ 65536
            · rw [if_neg (by omega)]
              exact ⟨⟨_, hO3', fun _ => ⟨rfl, hb⟩⟩, fun h => (by simp at h; omega), hG3⟩
            · rw [if_pos (by omega)]
              exact ⟨⟨_, hO3', fun h => (by simp at h; omega)⟩, fun _ => rfl, hG3⟩
          have HD : Hid (decide ((l3.length : Int) ≤ 65536) = decide (l3.length ≤ 65536)) := by
            show _ = _
            rw [Bool.eq_iff_iff, decide_eq_true_iff, decide_eq_true_iff]; omega
          clear hO3' hG3 B3
          by_cases hl0 : (0 : Int) < (l.length : Int)
        all_goals
          go_wp2
          go_loopw [0, 7, 8] (fun u o i wr => u = .slice a3 l3.length c3 ∧ i = .int .i64 0 ∧ wr = w3) (fun _ _ _ _ => 0)
          case atStart => exact ⟨rfl, rfl, rfl⟩
          case round =>
            obtain ⟨rfl, rfl, rfl⟩ := hrel
            go_wp2
            go_ret2
            rw [HS3.out]
            refine ⟨_, _, rfl, ?_⟩
            first
              | (rw [HD.out]; exact HF.out)
              | (have h := HF.out; rw [decide_eq_true (by omega : l3.length ≤ 65536)] at h; exact h)
end Go.Proofs.YtpchogicdnfggaaDoor
