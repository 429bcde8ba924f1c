/- Layer 05: the writer's text. -/
import Derived.Test.YtakliplkabgmbaaV6
import Derived.Test.YtakliplkabgmbaaLibQ
set_option maxRecDepth 20000
namespace Go.Proofs.Ytakliplkabgmbaa
open Go.RowKit Go.Hd

section
variable (ρ : Operand → Value) (dst : Option Tmp) (ty : TypeId) (pos : String) (after : Array Edge) (guard : Option (Nat × Bool))
theorem h_cv (x : Operand) : execOp ρ { dst, op := .convert 9 35 x, type := ty, pos, after, guard } = (do pure (.value (← cvOp 9 35 (ρ x)))) := rfl
end
theorem r_cv {w : World} {l : List UInt8} : (cvOp 9 35 (.string (str l))).run Try.prog w = .ok (.slice (some ⟨w.heap.size, 0, none⟩) l.length (cvC 5 w l)) (cvW 5 w l) := cvOp_run Try.underlying9 Try.underlying35 Try.underlying5
attribute [local go_sem ↓] h_cv
attribute [local go_sem] r_cv
theorem or_text : ∀ n : Nat, n ≤ 31 → bits BinOp.or IntKind.u8 160 (n : Int) = (((0xa0 : UInt8) ||| UInt8.ofNat n).toNat : Int) := by
  intro n hn
  have h : ∀ k : Fin 32, bits BinOp.or IntKind.u8 160 (k.val : Int) = (((0xa0 : UInt8) ||| UInt8.ofNat k.val).toNat : Int) := by decide
  exact h ⟨n, by omega⟩
def textO (o : Option (List UInt8)) (m : List UInt8) : Option (List UInt8) :=
  if m.length ≤ 31 then putO o ((0xa0 ||| UInt8.ofNat m.length) :: m) else if m.length ≤ 255 then putO o (0xd9 :: (bigB m.length 1 ++ m)) else if m.length ≤ 65535 then putO o (0xda :: (bigB m.length 2 ++ m)) else none
/-- The last step: the text's bytes. -/
theorem put_text {B g : Nat} {w : World} {o : Option (List UInt8)} {m : List UInt8} (h : WrO B w g o) (hm : m.length ≤ maxLen) :
    Calls Try.prog 67 #[.pointer (some ⟨g, 0, none⟩), .slice (some ⟨w.heap.size, 0, none⟩) m.length (cvC 5 w m)] (cvW 5 w m) fun e w' => e = .returned (.tuple #[]) ∧ WrO B w' g (putO o m) ∧ Kx B g w w' := by
  obtain ⟨a, c, he, hc, _, hrow⟩ := (cvW_own (E := 5) (w := w) (Nat.le_refl _) hm).rd
  simp only [Value.slice.injEq] at he
  obtain ⟨rfl, _, rfl⟩ := he
  refine (put_o (m := m) (h.keep (cvW_below 5 w m)) rfl hc hrow).mono ?_
  rintro e w' ⟨rfl, h2, hk⟩
  exact ⟨rfl, h2, (Kx.ofBelow (cvW_below 5 w m) h.le h.lt).trans hk⟩
set_option maxHeartbeats 1000000 in
theorem text_o {B g : Nat} {w : World} {o : Option (List UInt8)} {m : List UInt8} (h : WrO B w g o) (hm : m.length ≤ maxLen) :
    Calls Try.prog 70 #[.pointer (some ⟨g, 0, none⟩), .string (str m)] w fun e w' => e = .returned (.tuple #[]) ∧ WrO B w' g (textO o m) ∧ Kx B g w w' := by
  have hM := hm
  unfold maxLen at hM
  obtain ⟨v0, full, c1, c0, f1⟩ := h.cells
  have hle := h.le
  have hsz : (str m).size = m.length := str_size m
  by_cases h1 : m.length ≤ 31
  · have HB : Hid (textO o m = putO (putO o [0xa0 ||| UInt8.ofNat m.length]) m) := by show _ = _; unfold textO; rw [if_pos h1, putO_two]; rfl
    have i1 : (m.length : Int) ≤ 31 := by omega
    have HOR := Lib.hid (or_text m.length h1)
    clear c1 c0 f1
    go_enter Try.func70, Try.ntmps70
    go_wp2_with fail
    rw [HOR.out]
    have hb0 : Below w.heap.size w (w.alloc (.cells #[b8 (0xa0 ||| UInt8.ofNat m.length)] 5)) := (Below.refl _ _).alloc (Nat.le_refl _) _
    have hrow : Row (w.alloc (.cells #[b8 (0xa0 ||| UInt8.ofNat m.length)] 5)) (some ⟨w.heap.size, 0, none⟩) ([0xa0 ||| UInt8.ofNat m.length].map b8) := (Blk.new w 5 #[b8 (0xa0 ||| UInt8.ofNat m.length)]).row
    refine (put_o (m := [0xa0 ||| UInt8.ofNat m.length]) (h.keep hb0) (by rfl) (Nat.le_refl _) hrow).mono ?_
    rintro e w1 ⟨rfl, hw1, hk1⟩
    go_wp2_with fail
    refine (put_text hw1 hm).mono ?_
    rintro e w2 ⟨rfl, hw2, hk2⟩
    go_wp2
    go_end0
    rw [HB.out]
    exact ⟨rfl, hw2, ((Kx.ofBelow hb0 hle h.lt).trans hk1).trans hk2⟩
  · have i1 : ¬ (m.length : Int) ≤ 31 := by omega
    by_cases h2 : m.length ≤ 255
    · have i2 : (m.length : Int) ≤ 255 := by omega
      have HB : Hid (textO o m = putO (putO o (0xd9 :: bigB m.length 1)) m) := by show _ = _; unfold textO; rw [if_neg h1, if_pos h2, putO_two]; rfl
      go_enter Try.func70, Try.ntmps70
      go_wp2_with fail
      refine (head_o (x := m.length) (n := 1) 0xd9 h (by rfl) (by first | rfl | (rw [IntKind.wrap_u64]; omega)) (by omega) (by decide) (by decide)).mono ?_
      rintro e w1 ⟨rfl, hw1, hk1⟩
      go_wp2_with fail
      refine (put_text hw1 hm).mono ?_
      rintro e w2 ⟨rfl, hw2, hk2⟩
      go_wp2
      go_end0
      rw [HB.out]
      exact ⟨rfl, hw2, hk1.trans hk2⟩
    · have i2 : ¬ (m.length : Int) ≤ 255 := by omega
      by_cases h3 : m.length ≤ 65535
      · have i3 : (m.length : Int) ≤ 65535 := by omega
        have HB : Hid (textO o m = putO (putO o (0xda :: bigB m.length 2)) m) := by show _ = _; unfold textO; rw [if_neg h1, if_neg h2, if_pos h3, putO_two]; rfl
        go_enter Try.func70, Try.ntmps70
        go_wp2_with fail
        refine (head_o (x := m.length) (n := 2) 0xda h (by rfl) (by first | rfl | (rw [IntKind.wrap_u64]; omega)) (by omega) (by decide) (by decide)).mono ?_
        rintro e w1 ⟨rfl, hw1, hk1⟩
        go_wp2_with fail
        refine (put_text hw1 hm).mono ?_
        rintro e w2 ⟨rfl, hw2, hk2⟩
        go_wp2
        go_end0
        rw [HB.out]
        exact ⟨rfl, hw2, hk1.trans hk2⟩
      · have i3 : ¬ (m.length : Int) ≤ 65535 := by omega
        have HB : Hid (textO o m = putO none m) := by show _ = _; unfold textO; rw [if_neg h1, if_neg h2, if_neg h3]; rfl
        have hf := h.fail
        have hk1 : Kx B g w (w.setCell ⟨g, 1, none⟩ (.bool true)) := h.setx _
        have hpt := put_text (m := m) hf hm
        generalize hW : w.setCell ⟨g, 1, none⟩ (.bool true) = w1 at *
        clear h1 h2 h3
        go_enter Try.func70, Try.ntmps70
        go_wp2_with fail
        refine hpt.mono ?_
        rintro e w2 ⟨rfl, hw2, hk2⟩
        go_wp2
        go_end0
        rw [HB.out]
        exact ⟨rfl, hw2, hk1.trans hk2⟩
end Go.Proofs.Ytakliplkabgmbaa
