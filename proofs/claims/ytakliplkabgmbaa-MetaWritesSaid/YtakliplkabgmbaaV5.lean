/- Layer 05: the writer's many and blob. -/
import Derived.Test.YtakliplkabgmbaaV4
set_option maxRecDepth 20000
namespace Go.Proofs.Ytakliplkabgmbaa
open Go.RowKit Go.Hd

theorem WrO.cells {B g : Nat} {w : World} {o : Option (List UInt8)} (h : WrO B w g o) : ∃ v full, w.cell? ⟨g, 1, none⟩ = some (.bool full) ∧ w.cell? ⟨g, 0, none⟩ = some v ∧ w.frozen? ⟨g, 1, none⟩ = false := by
  obtain ⟨s, ⟨v, hB, _⟩, _⟩ := h
  exact ⟨v, s.2, hB.blk.cell rfl, hB.blk.cell rfl, hB.blk.free 1⟩
theorem WrO.fail {B g : Nat} {w : World} {o : Option (List UInt8)} (h : WrO B w g o) : WrO B (w.setCell ⟨g, 1, none⟩ (.bool true)) g none := by
  obtain ⟨s, ⟨v, hB, hl⟩, _⟩ := h
  exact ⟨(s.1, true), ⟨v, hB.store 1 (.bool true), hl⟩, rfl⟩
theorem putO_none (m : List UInt8) : putO none m = none := rfl
/-- Bytes behind a head of one or two bytes. -/
def blobO (o : Option (List UInt8)) (m : List UInt8) : Option (List UInt8) :=
  if m.length ≤ 255 then putO o (0xc4 :: (bigB m.length 1 ++ m)) else if m.length ≤ 65535 then putO o (0xc5 :: (bigB m.length 2 ++ m)) else none
theorem WrO.setx {B g : Nat} {w : World} {o : Option (List UInt8)} (h : WrO B w g o) (y : Value) : Kx B g w (w.setCell ⟨g, 1, none⟩ y) := by
  obtain ⟨s, ⟨v, hB, _⟩, _⟩ := h
  exact Kx.set1 hB.blk _
/-- What was there ahead of the writer is as it was. -/
theorem Kp.past {B g base : Nat} {a b : World} (h : Kp B (some g) a b) (hg : base ≤ g) (hB : g < B) : Below base a b :=
  h.below (by omega) (fun k hk => by cases hk; exact hg)
set_option maxHeartbeats 1000000 in
theorem blob_any {B g : Nat} {w0 w : World} {o : Option (List UInt8)} {a : Option Addr} {n c : Nat} {m : List UInt8} (h : WrO B w g o) (hn : n = m.length) (hc : n ≤ c) (hr : Row w0 a (m.map b8)) (hb : Below w0.heap.size w0 w) (hg : w0.heap.size ≤ g) :
    Calls Try.prog 69 #[.pointer (some ⟨g, 0, none⟩), .slice a n c] w fun e w' => e = .returned (.tuple #[]) ∧ WrO B w' g (blobO o m) ∧ Kx B g w w' := by
  subst hn
  obtain ⟨v0, full, c1, c0, f1⟩ := h.cells
  have hgB := h.lt
  by_cases h1 : m.length ≤ 255
  · have HB : Hid (blobO o m = putO (putO o (0xc4 :: bigB m.length 1)) m) := by show _ = _; unfold blobO; rw [if_pos h1, putO_two]; rfl
    have i1 : (m.length : Int) ≤ 255 := by omega
    go_enter Try.func69, Try.ntmps69
    go_wp2_with fail
    refine (head_o (x := m.length) (n := 1) 0xc4 h (by rfl) (by first | rfl | (rw [IntKind.wrap_u64]; omega)) (by omega) (by decide) (by decide)).mono ?_
    rintro e w1 ⟨rfl, hw1, hk1⟩
    go_wp2_with fail
    refine (put_o (m := m) hw1 rfl hc (hr.below (hb.trans (Kp.past hk1.kp hg hgB)))).mono ?_
    rintro e w2 ⟨rfl, hw2, hk2⟩
    go_wp2
    go_end0
    rw [HB.out]
    exact ⟨rfl, hw2, hk1.trans hk2⟩
  · have i1 : ¬ (m.length : Int) ≤ 255 := by omega
    by_cases h2 : m.length ≤ 65535
    · have HB : Hid (blobO o m = putO (putO o (0xc5 :: bigB m.length 2)) m) := by show _ = _; unfold blobO; rw [if_neg h1, if_pos h2, putO_two]; rfl
      have i2 : (m.length : Int) ≤ 65535 := by omega
      clear h1
      go_enter Try.func69, Try.ntmps69
      go_wp2_with fail
      refine (head_o (x := m.length) (n := 2) 0xc5 h (by rfl) (by first | rfl | (rw [IntKind.wrap_u64]; omega)) (by omega) (by decide) (by decide)).mono ?_
      rintro e w1 ⟨rfl, hw1, hk1⟩
      go_wp2_with fail
      refine (put_o (m := m) hw1 rfl hc (hr.below (hb.trans (Kp.past hk1.kp hg hgB)))).mono ?_
      rintro e w2 ⟨rfl, hw2, hk2⟩
      go_wp2
      go_end0
      rw [HB.out]
      exact ⟨rfl, hw2, hk1.trans hk2⟩
    · have HB : Hid (blobO o m = putO none m) := by show _ = _; unfold blobO; rw [if_neg h1, if_neg h2, putO_none]
      have i2 : ¬ (m.length : Int) ≤ 65535 := by omega
      have hf := h.fail
      have hk1 : Kx B g w (w.setCell ⟨g, 1, none⟩ (.bool true)) := h.setx _
      have hrow := hr.below (hb.trans (Kp.past hk1.kp hg hgB))
      generalize hW : w.setCell ⟨g, 1, none⟩ (.bool true) = w1 at *
      clear h1 h2
      go_enter Try.func69, Try.ntmps69
      go_wp2_with fail
      refine (put_o (m := m) hf rfl hc hrow).mono ?_
      rintro e w2 ⟨rfl, hw2, hk2⟩
      go_wp2
      go_end0
      rw [HB.out]
      exact ⟨rfl, hw2, hk1.trans hk2⟩
end Go.Proofs.Ytakliplkabgmbaa
