/- The walk of LzBig. -/
import Derived.Test.YtjecejjlpccgdaaZ13
namespace Go.Proofs.Ytjecejjlpccgdaa
open Go.ChangeShapes Go.WideShapes Go.ChangeAt Go.RowKit Go.Hd

theorem made_bytes (n : Nat) : madeCells #[.int .u8 0] n = ((List.replicate n (0 : UInt8)).map b8).toArray := by
  apply Array.ext'
  simp [madeCells, b8, Nat.mod_one, List.map_const']
def BgRel (w1 : World) (g n : Nat) (i : Value) (wr : World) : Prop :=
  ∃ (k : Nat) (l : List UInt8), k ≤ n ∧ i = .int .i64 k ∧ l.length = n ∧ Blk wr g 5 (l.map b8) ∧ Below g w1 wr
theorem u8_some (z : Int) : ∃ x : UInt8, IntKind.u8.wrap z = (x.toNat : Int) := by
  refine ⟨UInt8.ofNat (z % 256).toNat, ?_⟩
  rw [IntKind.wrap_u8, UInt8.toNat_ofNat']
  omega
theorem u8_mod (z : Int) : ∃ x : UInt8, z % 256 = (x.toNat : Int) := by
  refine ⟨UInt8.ofNat (z % 256).toNat, ?_⟩
  rw [UInt8.toNat_ofNat']
  omega
theorem bg_step {w1 wr : World} {g n k : Nat} {Z : Int} {l : List UInt8} (hk : k < n) (hl : l.length = n) (hB : Blk wr g 5 (l.map b8)) (hb : Below g w1 wr) (hZ : ∃ x : UInt8, Z = (x.toNat : Int)) :
    BgRel w1 g n (.int .i64 ((k : Int) + 1)) (wr.setCell ⟨g, k, none⟩ (.int .u8 Z)) := by
  obtain ⟨x, rfl⟩ := hZ
  refine ⟨k + 1, l.set k x, by omega, by congr 1, by simpa using hl, ?_, hb.setCell (Nat.le_refl _) _⟩
  have := hB.set k (b8 x)
  rw [List.map_set]
  exact this
set_option maxHeartbeats 1000000 in
theorem big_law (x cc : Int) (w : World) (_ : 0 ≤ cc) (_ : cc ≤ 255) :
    Calls Try.prog 10 #[.int .i64 x, .int .u8 cc] w fun e w' => e = .returned (.bool true) ∧ Below w.heap.size w w' := by
  have hNb := wN_bd x 65500 65600 (by decide)
  obtain ⟨n, hn⟩ : ∃ n, n = wN x 65500 65600 := ⟨_, rfl⟩
  rw [← hn] at hNb
  have HN := Lib.hid hn
  obtain ⟨n1, n2⟩ := hNb
  obtain ⟨i0, hi, hz0, hz1, hz2⟩ := info_parts eB.hi
  have hmk := run_make (P := Try.prog) w 22 5 i0 (.int .u8 0) eB.ht hi hz0 .i64 .i64 (n : Int) (n : Int) (by omega) (by omega) (by rw [hz2]; omega) (by omega)
  rw [hz1] at hmk
  simp only [Nat.mul_one, Int.toNat_natCast] at hmk
  have hB0 : Blk (w.alloc (.cells (madeCells #[.int .u8 0] n) 5)) w.heap.size 5 ((List.replicate n (0 : UInt8)).map b8) := by
    rw [made_bytes]; exact Blk.new w _ _
  have hs0 : w.heap.size < (w.alloc (.cells (madeCells #[.int .u8 0] n) 5)).heap.size := by simp
  have hb0 : Below w.heap.size w (w.alloc (.cells (madeCells #[.int .u8 0] n) 5)) := (Below.refl _ _).alloc (Nat.le_refl _) _
  have hnI1 : (65500 : Int) ≤ n := by omega
  have hnI2 : (n : Int) ≤ 65600 := by omega
  clear hi hz0 hz1 hz2 hn
  go_enter Try.func10, Try.ntmps10
  go_wp2_with fail
  refine (within_nat (x := x) (p := 65500) (q := 65600) 65500 65600 (by decide) (by decide)).mono ?_
  rintro e w1 ⟨rfl, rfl⟩
  rw [← HN.out]
  go_upto_region 3 with (fail)
  generalize w.alloc (.cells (madeCells #[.int .u8 0] n) 5) = w0 at *
  obtain ⟨g, hg⟩ : ∃ g, g = w.heap.size := ⟨_, rfl⟩
  rw [← hg] at hB0 hs0 hb0 ⊢
  have HG := Lib.hid hg
  clear hmk hg
  go_wp2
  go_loopw [6] (fun i wr => BgRel w0 g n i wr) (fun i _ => n - (intOf i).toNat)
  case atStart => exact ⟨0, List.replicate n 0, Nat.zero_le _, rfl, List.length_replicate, hB0, Below.refl _ _⟩
  case round =>
    clear hB0
    obtain ⟨k, l, hk, rfl, hl, hB, hb⟩ := hrel
    have HLN := Lib.hid hl
    by_cases hlt : k < n
    · have hI : (k : Int) < n := by omega
      obtain ⟨zz, ck⟩ : ∃ zz, wr.cell? ⟨g, k, none⟩ = some (.int .u8 zz) := ⟨_, hB.byte (by omega)⟩
      have fk := hB.free k
      have hkI0 : (0 : Int) ≤ (k : Int) / 1000 := by omega
      have hkI1 : (k : Int) / 1000 ≤ 65 := by omega
      clear hl
      go_wp2
      first
        | exact ⟨bg_step hlt HLN.out hB hb (by first | exact u8_mod _ | exact u8_some _), by simp [intOf] <;> omega⟩
        | (refine ⟨?_, by simp [intOf] <;> omega⟩; (repeat apply Exists.intro); exact ⟨bg_step hlt HLN.out hB hb (by first | exact u8_mod _ | exact u8_some _), rfl⟩)
    · have hI : ¬ (k : Int) < n := by omega
      have hrow : Row wr (some ⟨g, 0, none⟩) (l.map b8) := hB.row
      have hbw : Below w.heap.size w wr := by
        have := HG.out
        rw [← this]; exact hb0.trans hb
      clear hb0 hb hB hl
      by_cases hbig : 65536 < n
      · have hbI : (65536 : Int) < n := by omega
        go_wp2_with fail
        refine (squeeze_big hbig).mono ?_
        rintro e w2 ⟨rfl, rfl⟩
        go_wp2_with fail
        refine (lives8_any _).mono ?_
        rintro e w7 ⟨rfl, hb7⟩
        go_wp2
        go_ret
        exact ⟨rfl, Gr.trans hbw hb7⟩
      · have hbI : ¬ (65536 : Int) < n := by omega
        have hln := HLN.out
        have hsl := squeeze_len l
        have HLS : Hid (loosenF (squeezeF l) (n : Int) = (l, 0)) := by
          show _ = _
          rw [loosen_squeeze l n (by omega) (by omega), if_neg (by omega)]
        have hl6 : l.length ≤ 65536 := by omega
        have hsq : (squeezeF l).length ≤ 70000 := by omega
        have hlm : l.length ≤ maxLen := by unfold maxLen; omega
        clear hln hsl
        go_wp2_with fail
        refine (squeeze_any (l := l) HLN.out.symm hrow (Nat.le_refl _) hl6).mono ?_
        rintro e w2 ⟨v2, rfl, hF2⟩
        obtain ⟨a2, c2, rfl, hr2, hb2, hm2, hc2⟩ := hF2.open
        generalize squeezeF l = C at *
        have hb02 := Gr.trans hbw hb2
        clear hF2
        go_wp2_with fail
        refine (loosen_any (l := C) (most := (n : Int)) (by rfl) hr2 (by omega)).mono ?_
        rintro e w3 ⟨v3, rfl, hF3⟩
        rw [HLS.out] at hF3 ⊢
        obtain ⟨a3, c3, rfl, hr3, hb3, hm3, _⟩ := hF3.open
        have hb03 := Gr.trans hb02 hb3
        have hrow3 := (hrow.below hb2).below hb3
        have e5 : (l == l) = true := by simp
        clear hF3
        go_wp2_with fail
        refine (same_any (l := l) (m := l) rfl HLN.out.symm hr3 hrow3 hlm).mono ?_
        rintro e w4 ⟨rfl, n4, rfl⟩
        go_wp2_with fail
        refine (lives8_any _).mono ?_
        rintro e w7 ⟨rfl, hb7⟩
        go_wp2
        go_ret
        exact ⟨rfl, Gr.transN hb03 hb7⟩
section
variable {H : Type} {enc : TypeId × Value → H} {W : World} {base : Nat} {v0 v1 v2 v3 v4 : Value} {d0 d1 d2 d3 d4 : DataW H} {p0 p1 p2 p3 p4 : List MemPlace}
theorem lzBig_calls (o0 : Value.okWide Try.prog W .any base 3 v0) (h0 : DataW.Trod enc Try.prog W 0 (fun _ => true) true 3 v0 d0 p0)
    (o1 : Value.okWide Try.prog W .any base 5 v1) (h1 : DataW.Trod enc Try.prog W 0 (fun _ => true) true 5 v1 d1 p1) :
    Calls Try.prog 10 #[v0, v1] W fun e W' => e = .returned (.bool true) ∧ Below W.heap.size W W' := by
  obtain ⟨y, rfl, rfl, rfl, w0⟩ := open_int Try.underlying3 o0 h0
  obtain ⟨x, rfl, rfl, rfl, w1⟩ := open_int Try.underlying5 o1 h1
  exact big_law y x W (u8_wf w1).1 (u8_wf w1).2
end
end Go.Proofs.Ytjecejjlpccgdaa
