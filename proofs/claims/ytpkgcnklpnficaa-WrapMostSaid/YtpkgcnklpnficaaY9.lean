/- The walk of WrapMost. -/
import Derived.Test.YtpkgcnklpnficaaY4
import Derived.Test.YtpkgcnklpnficaaPl9c
namespace Go.Proofs.Ytpkgcnklpnficaa
open Go.ChangeShapes Go.WideShapes Go.ChangeAt Go.RowKit Go.Hd

theorem made_bytesU (n : Nat) : madeCells #[.int .u8 0] n = ((List.replicate n (0 : UInt8)).map b8).toArray := by
  apply Array.ext'
  simp [madeCells, b8, Nat.mod_one, List.map_const']
def BgU (w1 : World) (g n : Nat) (i : Value) (wr : World) : Prop :=
  ∃ (k : Nat) (l : List UInt8), k ≤ n ∧ i = .int .i64 k ∧ l.length = n ∧ Blk wr g 5 (l.map b8) ∧ Below g w1 wr
theorem u8_someU (z : Int) : ∃ x : UInt8, IntKind.u8.wrap z = (x.toNat : Int) := by
  refine ⟨UInt8.ofNat (z % 256).toNat, ?_⟩
  rw [IntKind.wrap_u8, UInt8.toNat_ofNat']
  omega
theorem u8_modU (z : Int) : ∃ x : UInt8, z % 256 = (x.toNat : Int) := by
  refine ⟨UInt8.ofNat (z % 256).toNat, ?_⟩
  rw [UInt8.toNat_ofNat']
  omega
theorem bg_stepU {w1 wr : World} {g n k : Nat} {Z : Int} {l : List UInt8} (hk : k < n) (hl : l.length = n) (hB : Blk wr g 5 (l.map b8)) (hb : Below g w1 wr) (hZ : ∃ x : UInt8, Z = (x.toNat : Int)) :
    BgU w1 g n (.int .i64 ((k : Int) + 1)) (wr.setCell ⟨g, k, none⟩ (.int .u8 Z)) := by
  obtain ⟨x, rfl⟩ := hZ
  refine ⟨k + 1, l.set k x, by omega, by congr 1, by simpa using hl, ?_, hb.setCell (Nat.le_refl _) _⟩
  have := hB.set k (b8 x)
  rw [List.map_set]
  exact this
set_option maxHeartbeats 1000000 in
theorem most_law (st : Bool) (x cc : Int) (w : World) (_ : 0 ≤ cc) (_ : cc ≤ 255) :
    Calls Try.prog 7 #[.int .i64 x, .int .u8 cc, .bool st] w fun e w' => e = .returned (.bool true) ∧ Below w.heap.size w w' := by
  have hNb := wN_bd x 16359 16399 (by decide)
  obtain ⟨n, hn⟩ : ∃ n, n = wN x 16359 16399 := ⟨_, rfl⟩
  rw [← hn] at hNb
  have HN := Lib.hid hn
  obtain ⟨n1, n2⟩ := hNb
  obtain ⟨i0, hi, hz0, hz1, hz2⟩ := info_parts eB.hi
  have hmk := run_make (P := Try.prog) w 22 5 i0 (.int .u8 0) eB.ht hi hz0 .i64 .i64 (n : Int) (n : Int) (by omega) (by omega) (by rw [hz2]; omega) (by omega)
  rw [hz1] at hmk
  simp only [Nat.mul_one, Int.toNat_natCast] at hmk
  have hB0 : Blk (w.alloc (.cells (madeCells #[.int .u8 0] n) 5)) w.heap.size 5 ((List.replicate n (0 : UInt8)).map b8) := by
    rw [made_bytesU]; exact Blk.new w _ _
  have hs0 : w.heap.size < (w.alloc (.cells (madeCells #[.int .u8 0] n) 5)).heap.size := by simp
  have hb0 : Below w.heap.size w (w.alloc (.cells (madeCells #[.int .u8 0] n) 5)) := (Below.refl _ _).alloc (Nat.le_refl _) _
  have hnI1 : (16359 : Int) ≤ n := by omega
  have hnI2 : (n : Int) ≤ 16399 := by omega
  clear hi hz0 hz1 hz2 hn
  go_enter Try.func7, Try.ntmps7
  go_wp2_with fail
  refine (within_nat (x := x) (p := 16359) (q := 16399) 16359 16399 (by decide) (by decide)).mono ?_
  rintro e w1 ⟨rfl, rfl⟩
  rw [← HN.out]
  go_upto_region 3 with (fail)
  generalize w.alloc (.cells (madeCells #[.int .u8 0] n) 5) = w0 at *
  obtain ⟨g, hg⟩ : ∃ g, g = w.heap.size := ⟨_, rfl⟩
  rw [← hg] at hB0 hs0 hb0 ⊢
  have HG := Lib.hid hg
  clear hmk hg
  go_wp2
  go_loopw [8] (fun i wr => BgU w0 g n i wr) (fun i _ => n - (intOf i).toNat)
  case atStart => exact ⟨0, List.replicate n 0, Nat.zero_le _, rfl, List.length_replicate, hB0, Below.refl _ _⟩
  case round =>
    clear hB0
    obtain ⟨k, l, hk, rfl, hl, hB, hb⟩ := hrel
    have HLN := Lib.hid hl
    by_cases hlt : k < n
    · have hI : (k : Int) < n := by omega
      obtain ⟨zz, ck⟩ : ∃ zz, wr.cell? ⟨g, k, none⟩ = some (.int .u8 zz) := ⟨_, hB.byte (by omega)⟩
      have fk := hB.free k
      have hkk : k * k ≤ 16399 * 16399 := Nat.mul_le_mul (by omega) (by omega)
      have hkI0 : (0 : Int) ≤ (k : Int) * k := by
        have := Int.natCast_nonneg (k * k)
        rwa [Int.natCast_mul] at this
      have hkI1 : (k : Int) * k ≤ 268927201 := by
        have : ((k * k : Nat) : Int) ≤ 268927201 := by omega
        rwa [Int.natCast_mul] at this
      have hkw : IntKind.i64.wrap ((k : Int) * k) = (k : Int) * k := IntWalk.i64_in _ (by omega)
      have hkd0 : (0 : Int) ≤ (k : Int) * k / 7 := by omega
      have hkd1 : (k : Int) * k / 7 ≤ 268927201 := by omega
      clear hkk
      clear hl
      go_wp2
      first
        | exact ⟨bg_stepU hlt HLN.out hB hb (by first | exact u8_modU _ | exact u8_someU _), by simp [intOf] <;> omega⟩
        | (refine ⟨?_, by simp [intOf] <;> omega⟩; (repeat apply Exists.intro); exact ⟨bg_stepU hlt HLN.out hB hb (by first | exact u8_modU _ | exact u8_someU _), rfl⟩)
    · have hI : ¬ (k : Int) < n := by omega
      have hrow : Row wr (some ⟨g, 0, none⟩) (l.map b8) := hB.row
      have hbw : Below w.heap.size w wr := by
        have := HG.out
        rw [← this]; exact hb0.trans hb
      clear hb0 hb hB hl
      by_cases hbig : 16379 < n
      · have hbI : (16379 : Int) < n := by omega
        go_wp2_with fail
        refine (wrap_big hbig).mono ?_
        rintro e w2 ⟨rfl, rfl⟩
        go_wp2_with fail
        refine (lives9_any _).mono ?_
        rintro e w7 ⟨rfl, hb7⟩
        go_wp2
        go_ret
        exact ⟨rfl, Gr.trans hbw hb7⟩
      · have hbI : ¬ (16379 : Int) < n := by omega
        have hln := HLN.out
        have HU : Hid (unwrapF (wrapF l st) = (l, 0)) := unwrap_wrapF l st (by omega)
        have hwl := wrapF_length l st
        have hl6 : l.length ≤ 16379 := by omega
        have hsq : (wrapF l st).length ≤ 16384 := by omega
        have hlm : l.length ≤ maxLen := by unfold maxLen; omega
        clear hln hwl
        go_wp2_with fail
        refine (wrap_any (l := l) (st := st) HLN.out.symm hrow (Nat.le_refl _) hl6).mono ?_
        rintro e w2 ⟨v2, rfl, hF2⟩
        obtain ⟨a2, c2, rfl, hr2, hb2, hm2, hc2⟩ := hF2.open
        generalize wrapF l st = C at *
        have hb02 := Gr.trans hbw hb2
        have hsqI : (C.length : Int) ≤ 16384 := by omega
        clear hF2
        go_wp2_with fail
        refine (unwrap_any (l := C) (by rfl) hr2 hc2 (by omega)).mono ?_
        rintro e w3 ⟨v3, rfl, hF3⟩
        rw [HU.out] at hF3 ⊢
        obtain ⟨a3, c3, rfl, hr3, hb3, hm3, _⟩ := hF3.open
        have hb03 := Gr.trans hb02 hb3
        have hrow3 := (hrow.below hb2).below hb3
        have e5 : (l == l) = true := by simp
        clear hF3
        go_wp2_with fail
        refine (same_any (l := l) (m := l) HLN.out.symm rfl hrow3 hr3 hlm).mono ?_
        rintro e w4 ⟨rfl, n4, rfl⟩
        go_wp2_with fail
        refine (lives9_any _).mono ?_
        rintro e w7 ⟨rfl, hb7⟩
        go_wp2
        go_ret
        exact ⟨rfl, Gr.transN hb03 hb7⟩
section
variable {H : Type} {enc : TypeId × Value → H} {W : World} {base : Nat} {v0 v1 v2 : Value} {d0 d1 d2 : DataW H} {p0 p1 p2 : List MemPlace}
theorem wrapMost_calls (o0 : Value.okWide Try.prog W .any base 3 v0) (h0 : DataW.Trod enc Try.prog W 0 (fun _ => true) true 3 v0 d0 p0)
    (o1 : Value.okWide Try.prog W .any base 5 v1) (h1 : DataW.Trod enc Try.prog W 0 (fun _ => true) true 5 v1 d1 p1)
    (o2 : Value.okWide Try.prog W .any base 4 v2) (h2 : DataW.Trod enc Try.prog W 0 (fun _ => true) true 4 v2 d2 p2) :
    Calls Try.prog 7 #[v0, v1, v2] W fun e W' => e = .returned (.bool true) ∧ Below W.heap.size W W' := by
  obtain ⟨y, rfl, rfl, rfl, w0⟩ := open_int Try.underlying3 o0 h0
  obtain ⟨x, rfl, rfl, rfl, w1⟩ := open_int Try.underlying5 o1 h1
  obtain ⟨st, rfl, _⟩ := open_bool Try.underlying4 o2 h2
  exact most_law st y x W (u8_wf w1).1 (u8_wf w1).2
end
end Go.Proofs.Ytpkgcnklpnficaa
