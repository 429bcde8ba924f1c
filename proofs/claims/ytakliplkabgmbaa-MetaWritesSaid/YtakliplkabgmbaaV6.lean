/- Layer 05: the writer's many. -/
import Derived.Test.YtakliplkabgmbaaV5
set_option maxRecDepth 20000
namespace Go.Proofs.Ytakliplkabgmbaa
open Go.RowKit Go.Hd

/-- A head by how many there are. -/
def manyO (few lead : UInt8) (o : Option (List UInt8)) (n : Nat) : Option (List UInt8) :=
  if n ≤ 15 then putO o [few ||| UInt8.ofNat n] else if n ≤ 65535 then putO o (lead :: bigB n 2) else none
theorem or_few (few : UInt8) (hf : few = 0x90 ∨ few = 0x80) : ∀ n : Nat, n ≤ 15 → bits BinOp.or IntKind.u8 (few.toNat : Int) (n : Int) = ((few ||| UInt8.ofNat n).toNat : Int) := by
  intro n hn
  rcases hf with rfl | rfl <;> (match n, hn with
    | 0, _ | 1, _ | 2, _ | 3, _ | 4, _ | 5, _ | 6, _ | 7, _ | 8, _ | 9, _ | 10, _ | 11, _ | 12, _ | 13, _ | 14, _ | 15, _ => rfl)
set_option maxHeartbeats 1000000 in
theorem many_any {B g n : Nat} {w : World} {o : Option (List UInt8)} (few lead : UInt8) (hfew : few = 0x90 ∨ few = 0x80) (h : WrO B w g o) (hm : n ≤ maxLen) :
    Calls Try.prog 71 #[.pointer (some ⟨g, 0, none⟩), .int .u8 (few.toNat : Int), .int .u8 (lead.toNat : Int), .int .i64 (n : Int)] w fun e w' => e = .returned (.tuple #[]) ∧ WrO B w' g (manyO few lead o n) ∧ Kx B g w w' := by
  unfold maxLen at hm
  obtain ⟨v0, full, c1, c0, f1⟩ := h.cells
  have hle := h.le
  by_cases h1 : n ≤ 15
  · have HB : Hid (manyO few lead o n = putO o [few ||| UInt8.ofNat n]) := by show _ = _; unfold manyO; rw [if_pos h1]
    have i1 : (n : Int) ≤ 15 := by omega
    have HOR := Lib.hid (or_few few hfew n h1)
    clear c1 c0 f1 hm
    go_enter Try.func71, Try.ntmps71
    go_wp2_with fail
    rw [HOR.out]
    have hb0 : Below w.heap.size w (w.alloc (.cells #[b8 (few ||| UInt8.ofNat n)] 5)) := (Below.refl _ _).alloc (Nat.le_refl _) _
    have hrow : Row (w.alloc (.cells #[b8 (few ||| UInt8.ofNat n)] 5)) (some ⟨w.heap.size, 0, none⟩) ([few ||| UInt8.ofNat n].map b8) := (Blk.new w 5 #[b8 (few ||| UInt8.ofNat n)]).row
    refine (put_o (m := [few ||| UInt8.ofNat n]) (h.keep hb0) (by rfl) (Nat.le_refl _) hrow).mono ?_
    rintro e w1 ⟨rfl, hw1, hk1⟩
    go_wp2
    go_end0
    rw [HB.out]
    exact ⟨rfl, hw1, (Kx.ofBelow hb0 hle h.lt).trans hk1⟩
  · have i1 : ¬ (n : Int) ≤ 15 := by omega
    by_cases h2 : n ≤ 65535
    · have HB : Hid (manyO few lead o n = putO o (lead :: bigB n 2)) := by show _ = _; unfold manyO; rw [if_neg h1, if_pos h2]
      have i2 : (n : Int) ≤ 65535 := by omega
      go_enter Try.func71, Try.ntmps71
      go_wp2_with fail
      refine (head_o (x := n) (n := 2) lead h (by rfl) (by first | rfl | (rw [IntKind.wrap_u64]; omega)) (by omega) (by decide) (by decide)).mono ?_
      rintro e w1 ⟨rfl, hw1, hk1⟩
      go_wp2
      go_end0
      rw [HB.out]
      exact ⟨rfl, hw1, hk1⟩
    · have HB : Hid (manyO few lead o n = none) := by show _ = _; unfold manyO; rw [if_neg h1, if_neg h2]
      have i2 : ¬ (n : Int) ≤ 65535 := by omega
      have hf := h.fail
      have hk1 : Kx B g w (w.setCell ⟨g, 1, none⟩ (.bool true)) := h.setx _
      go_enter Try.func71, Try.ntmps71
      go_wp2
      go_end0
      rw [HB.out]
      exact ⟨rfl, hf, hk1⟩
end Go.Proofs.Ytakliplkabgmbaa
