/- Layer 05: Encode. -/
import Derived.Test.YtakliplkabgmbaaV9
set_option maxRecDepth 20000
namespace Go.Proofs.Ytakliplkabgmbaa
open Go.RowKit Go.Hd
attribute [local go_sem ↓] h_ldV h_stV h_alV
attribute [local go_sem] r_ldV r_stV r_alV

theorem WrO.new (w : World) : WrO (w.heap.size + 1) (w.alloc (.cells #[.slice none 0 0, .bool false] 88)) w.heap.size (some []) :=
  ⟨([], false), ⟨.slice none 0 0, ⟨Blk.new _ _ _, World.ownsRow_nil _ _ _ _, Nat.lt_succ_self _, by simp⟩, by decide⟩, rfl⟩
theorem WrO.some {B g : Nat} {w : World} {l : List UInt8} (h : WrO B w g (some l)) : ∃ a c, w.cell? ⟨g, 0, none⟩ = some (.slice a l.length c) ∧ w.cell? ⟨g, 1, none⟩ = some (.bool false) ∧ l.length ≤ c ∧ c ≤ maxLen ∧ Row w a (l.map b8) := by
  obtain ⟨⟨l', f⟩, ⟨v, hB, _⟩, ha⟩ := h
  cases f with
  | true => cases ha
  | false =>
    obtain rfl : l' = l := by simpa [absW] using ha
    obtain ⟨a, c, rfl, hc, hm, hr, _⟩ := owns_at hB.own
    exact ⟨a, c, hB.blk.cell rfl, hB.blk.cell rfl, hc, hm, hr⟩
theorem WrO.none' {B g : Nat} {w : World} (h : WrO B w g none) : w.cell? ⟨g, 1, none⟩ = Option.some (.bool true) := by
  obtain ⟨⟨l', f⟩, ⟨v, hB, _⟩, ha⟩ := h
  cases f with
  | false => cases ha
  | true => exact hB.blk.cell rfl
set_option maxHeartbeats 1000000 in
theorem enc_any {w0 w : World} {cs : List Value} {v : PV} (h : VAt w0 cs v) (hbw : Below w0.heap.size w0 w) :
    Calls Try.prog 29 #[.agg cs.toArray] w fun e w' => ∃ u, e = .returned (.tuple #[u, .int .i64 (encF v).2]) ∧ BRd w' u (encF v).1 ∧ Below w.heap.size w w' := by
  have hsz := hbw.size
  have hb0 : Below w.heap.size w (w.alloc (.cells cs.toArray 63)) := (Below.refl _ _).alloc (Nat.le_refl _) _
  have B0 : Blk (w.alloc (.cells cs.toArray 63)) w.heap.size 63 cs.toArray.toList := Blk.new _ _ _
  have x6 : cs.toArray.size = 6 := by simpa using h.len
  have hcan := can_any h 16 (w.alloc (.cells cs.toArray 63)) (by decide) (hbw.trans (hb0.mono hsz))
  go_enter Try.func29, Try.ntmps29
  go_wp2_with fail
  refine hcan.mono ?_
  rintro e w1 ⟨rfl, hb1⟩
  have B1 := B0.below hb1
  have hbw1 : Below w.heap.size w w1 := Gr.trans hb0 hb1
  cases hc : canF 16 v with
  | false =>
    have HE : Hid (encF v = ([], 4)) := by show _ = _; unfold encF; rw [if_pos hc]
    clear hc hcan
    go_wp2
    go_ret2
    rw [HE.out]
    exact ⟨_, rfl, BRd.nil _, hbw1⟩
  | true =>
    have hn := WrO.new w1
    have hb2 : Below w1.heap.size w1 (w1.alloc (.cells #[.slice none 0 0, .bool false] 88)) := (Below.refl _ _).alloc (Nat.le_refl _) _
    have q2 : (ldOp 63 (.pointer (some ⟨w.heap.size, 0, none⟩))).run Try.prog (w1.alloc (.cells #[.slice none 0 0, .bool false] 88)) = .ok (.agg cs.toArray) (w1.alloc (.cells #[.slice none 0 0, .bool false] 88)) := by
      have := ldOp_all (P := Try.prog) (ty := 63) (B1.below hb2) Try.underlying63 rfl (by rw [Array.length_toList, x6]; exact sizeV)
      simpa using this
    have hbw2 := hbw1.trans (hb2.mono hbw1.size)
    have hv := value_any h 16 _ _ _ _ hc (hbw.trans (hbw2.mono hsz)) (by have := hbw1.size; omega) hn
    have hce := hc
    clear hc hcan
    go_wp2_with fail
    refine hv.mono ?_
    rintro e w3 ⟨rfl, hw3, hk3⟩
    have hb3 : Below w.heap.size w w3 := hbw2.trans (Kp.past hk3.kp hbw1.size hn.lt)
    cases ho : encO 16 (some []) v with
    | none =>
      rw [ho] at hw3
      have c1 := hw3.none'
      have HE : Hid (encF v = ([], 5)) := by show _ = _; unfold encF; rw [if_neg (by rw [hce]; decide), ho]
      clear ho hce hv hn hw3
      go_wp2
      go_ret2
      rw [HE.out]
      exact ⟨_, rfl, BRd.nil _, hb3⟩
    | some l =>
      rw [ho] at hw3
      obtain ⟨a, c, c0, c1, hlc, hcm, hrow⟩ := hw3.some
      have HE : Hid (encF v = (l, 0)) := by show _ = _; unfold encF; rw [if_neg (by rw [hce]; decide), ho]
      clear ho hce hv hn hw3
      go_wp2
      go_ret2
      rw [HE.out]
      exact ⟨_, rfl, ⟨a, c, rfl, hlc, hcm, hrow⟩, hb3⟩
end Go.Proofs.Ytakliplkabgmbaa
