/- The walk of xxh.tail. -/
import Derived.Test.YtcomcljpnjeogaaX1
set_option maxRecDepth 20000
namespace Go.Proofs.Ytcomcljpnjeogaa
open Go.RowKit Go.Hd

def slLen : Value → Nat
  | .slice _ n _ => n
  | _ => 0
/-- At the head of a round of eights. -/
def T8Rel (w : World) (l : List UInt8) (X : BitVec 64) (x b : Value) (wr : World) : Prop :=
  ∃ (j N : Nat) (a : Option Addr) (c : Nat) (r : List UInt8), 8 * j ≤ l.length ∧ r = l.drop (8 * j) ∧ x = .int .u64 ((tail8 l X j).toNat : Int) ∧ b = .slice a r.length c ∧ Row w a (r.map b8) ∧ r.length ≤ c ∧ c ≤ maxLen ∧ wr = w.drewN N
/-- At the head of a round of single bytes. -/
def T1Rel (w : World) (r : List UInt8) (Y : BitVec 64) (x i : Value) (wr : World) : Prop :=
  ∃ (j N : Nat), j ≤ r.length ∧ x = .int .u64 ((tail1 r Y j).toNat : Int) ∧ i = .int .i64 j ∧ wr = w.drewN N

theorem byte_raw (x : BitVec 64) (c : UInt8) : bits BinOp.xor IntKind.u64 (x.toNat : Int) (IntKind.u64.wrap ((c.toNat : Int) * 2870177450012600261)) = ((x ^^^ BitVec.ofNat 64 c.toNat * P5).toNat : Int) := by
  have e : (c.toNat : Int) = ((BitVec.ofNat 64 c.toNat).toNat : Int) := by
    have := u8_le c
    rw [BitVec.toNat_ofNat]; omega
  rw [show IntKind.u64.wrap ((c.toNat : Int) * 2870177450012600261) = ((BitVec.ofNat 64 c.toNat * P5).toNat : Int) from wrap_eq (by rw [e, B64_mul, b64_nat, B64_p5]), bits64_xor]

set_option maxHeartbeats 1000000 in
theorem tail_bv {x : Int} (X : BitVec 64) {a : Option Addr} {n c : Nat} {l : List UInt8} {w : World} (hx : x = (X.toNat : Int)) (hn : n = l.length) (hl : Row w a (l.map b8)) (hc : n ≤ c) (hm : c ≤ maxLen) :
    Calls Try.prog 83 #[.int .u64 x, .slice a n c] w fun e w' => e = .returned (.int .u64 ((tailF X l).toNat : Int)) ∧ ∃ n, w' = w.drewN n := by
  subst hx hn
  go_enter Try.func83, Try.ntmps83
  go_wp2
  go_loopw [0, 1] (fun x b wr => T8Rel w l X x b wr) (fun _ b _ => slLen b)
  case atStart => exact ⟨0, 0, a, c, l, Nat.zero_le _, rfl, rfl, rfl, hl, hc, hm, rfl⟩
  case round =>
    obtain ⟨j, N, a, c, r, hj, hr, rfl, rfl, hrow, hrc, hcm, rfl⟩ := hrel
    have HR := Lib.hid hr
    have hrl : r.length = l.length - 8 * j := by rw [hr, List.length_drop]
    have HL := Lib.hid hrl
    have hcM : c ≤ 9223372036854775807 := hcm
    clear hr hrl hl hc hm
    by_cases h8 : 8 ≤ r.length
    · have h8I : (8 : Int) ≤ r.length := by omega
      obtain ⟨a', c', hsl, hk1, hk2, hrow'⟩ := cut_l (P := Try.prog) (t := 27) (e := 5) (s := 1) eB.ht (by kernel_rfl) hrow (by simp) hrc (k1 := .i64) (i := 8) (p := 8) rfl h8
      rw [Nat.mul_one, ← List.map_drop] at hrow'
      go_wp2_with fail
      refine (word_any rfl (hrow.drewN N) h8 hrc).mono ?_
      rintro e1 w1 ⟨rfl, rfl⟩
      go_wp2_with fail
      refine (lane_bv 0#64 (numF (r.take 8)) (by rfl) (by rfl)).mono ?_
      rintro e1 w1 ⟨rfl, n1, rfl⟩
      go_wp2_with fail
      refine (turn64_bv (tail8 l X j ^^^ laneF 0#64 (numF (r.take 8))) 27 (bits64_xor _ _) (by rfl) (by decide)).mono ?_
      rintro e1 w1 ⟨rfl, n2, rfl⟩
      go_wp2
      have hS8 : IntKind.u64.wrap (IntKind.u64.wrap (((rot64 (tail8 l X j ^^^ laneF 0#64 (numF (r.take 8))) 27).toNat : Int) * 11400714785074694791) + 9650029242287828579) = ((tail8 l X (j + 1)).toNat : Int) := by
        show _ = ((step8 (tail8 l X j) (l.drop (8 * j))).toNat : Int)
        rw [← HR.out]
        exact wrap_eq (by rw [B64_add, B64_wrap, B64_mul, b64_nat, B64_p1, B64_p4]; rfl)
      rw [hS8]
      refine ⟨⟨j + 1, N + n1 + n2, a', c', r.drop 8, by have := HL.out; omega, by rw [HR.out, List.drop_drop]; congr 1, rfl, by rw [List.length_drop], hrow', by rw [List.length_drop]; exact hk1, Nat.le_trans hk2 hcm, by first | rfl | simp only [drewN_two, Nat.add_assoc]⟩, ?_⟩
      show r.length - 8 < r.length
      omega
    · have h8I : ¬ (8 : Int) ≤ r.length := by omega
      have hje : j = l.length / 8 := by have := HL.out; omega
      by_cases h4 : 4 ≤ r.length
      · have h4I : (4 : Int) ≤ r.length := by omega
        have HF : Hid (tailF X l = tail1 (r.drop 4) (step4 (tail8 l X j) r) (r.drop 4).length) := by
          show _ = _
          unfold tailF
          rw [← hje, ← HR.out, show rest4 r = r.drop 4 from if_pos h4, show tail4 r (tail8 l X j) = step4 (tail8 l X j) r from if_pos h4]
        clear hje
        obtain ⟨a4, c4, hsl4, hk4, hk4', hrow4⟩ := cut_h (P := Try.prog) (t := 27) (e := 5) (s := 1) eB.ht (by kernel_rfl) hrow (k2 := .i64) (j := 4) (q := 4) (n := r.length) (c := c) rfl (by omega)
        rw [Nat.mul_one, ← List.map_take] at hrow4
        obtain ⟨a', c', hsl, hk1, hk2, hrow'⟩ := cut_l (P := Try.prog) (t := 27) (e := 5) (s := 1) eB.ht (by kernel_rfl) hrow (by simp) hrc (k1 := .i64) (i := 4) (p := 4) rfl h4
        rw [Nat.mul_one, ← List.map_drop] at hrow'
        go_wp2_with fail
        refine (get_any a4 4 c4 (r.take 4) _ (by simp <;> omega) (hrow4.drewN N) (by simp <;> omega) (by simp <;> omega)).mono ?_
        rintro e1 w1 ⟨rfl, rfl⟩
        go_wp2_with fail
        refine (turn64_bv (tail8 l X j ^^^ numF (r.take 4) * P1) 23 ?_ (by rfl) (by decide)).mono ?_
        · rw [numF_nat _ (by simp <;> omega), show IntKind.u64.wrap (((numF (r.take 4)).toNat : Int) * 11400714785074694791) = ((numF (r.take 4) * P1).toNat : Int) from wrap_eq (by rw [B64_mul, b64_nat, B64_p1]), bits64_xor]
        rintro e1 w1 ⟨rfl, n2, rfl⟩
        have hd4 : r.length - 4 = (r.drop 4).length := by rw [List.length_drop]
        obtain ⟨s, hs⟩ : ∃ s, s = r.drop 4 := ⟨_, rfl⟩
        rw [← hs] at HF hrow' hd4
        rw [hd4] at hk1 hsl
        have hS4 : IntKind.u64.wrap (IntKind.u64.wrap (((rot64 (tail8 l X j ^^^ numF (r.take 4) * P1) 23).toNat : Int) * 14029467366897019727) + 1609587929392839161) = ((step4 (tail8 l X j) r).toNat : Int) := wrap_eq (by rw [B64_add, B64_wrap, B64_mul, b64_nat, B64_p2, B64_p3]; rfl)
        have HS4 := Lib.hid hS4
        clear hS4 hs hd4 hrow4 hsl4 hrow
        go_wp2
        go_loopw [0, 8, 42] (fun x _ i wr => T1Rel w s (step4 (tail8 l X j) r) x i wr) (fun _ _ i _ => (s).length - (intOf i).toNat)
        case atStart => exact ⟨0, N + n2, Nat.zero_le _, congrArg (Value.int .u64) HS4.out, rfl, rfl⟩
        case round =>
          obtain ⟨k, N2, hk, rfl, rfl, rfl⟩ := hrel
          by_cases hlt : k < (s).length
          · have hkI : (k : Int) < (s).length := by omega
            have hkM : (k : Int) + 1 ≤ 9223372036854775807 := by omega
            have cb := (hrow'.drewN N2).byte hlt
            have sb := hrow'.byteSome hlt
            have HS := Lib.hid (tail1_step s (step4 (tail8 l X j) r) k hlt)
            obtain ⟨ch, hch⟩ : ∃ ch, ch = (s)[k] := ⟨_, rfl⟩
            rw [← hch] at cb
            have hcb : (ch.toNat : Int) ≤ 255 := u8_le ch
            have HC := Lib.hid hch
            clear hch
            go_wp2_with fail
            refine (turn64_bv (tail1 (s) (step4 (tail8 l X j) r) k ^^^ BitVec.ofNat 64 ch.toNat * P5) 11 ?_ (by rfl) (by decide)).mono ?_
            · exact byte_raw _ ch
            rintro e1 w1 ⟨rfl, n3, rfl⟩
            go_wp2
            refine ⟨⟨k + 1, N2 + n3, by omega, by rw [HS.out, ← HC.out]; exact congrArg (Value.int .u64) (wrap_eq (by rw [B64_mul, b64_nat, B64_p1]; rfl)), by first | rfl | go_num | (congr 1; omega), by first | rfl | rw [drewN_two]⟩, by simp [intOf]; omega⟩
          · have hkI : ¬ (k : Int) < (s).length := by omega
            have hke : k = (s).length := by omega
            have HK := Lib.hid hke
            clear hke
            go_wp2
            go_ret
            exact ⟨ret_int (by rw [HF.out, ← HK.out]), N2, rfl⟩
      · have h4I : ¬ (4 : Int) ≤ r.length := by omega
        have HF : Hid (tailF X l = tail1 r (tail8 l X j) r.length) := by
          show _ = _
          unfold tailF
          rw [← hje, ← HR.out, show rest4 r = r from if_neg h4, show tail4 r (tail8 l X j) = tail8 l X j from if_neg h4]
        clear hje
        go_wp2
        go_loopw [0, 8, 42] (fun x _ i wr => T1Rel w r (tail8 l X j) x i wr) (fun _ _ i _ => (r).length - (intOf i).toNat)
        case atStart => exact ⟨0, N, Nat.zero_le _, rfl, rfl, rfl⟩
        case round =>
          obtain ⟨k, N2, hk, rfl, rfl, rfl⟩ := hrel
          by_cases hlt : k < (r).length
          · have hkI : (k : Int) < (r).length := by omega
            have hkM : (k : Int) + 1 ≤ 9223372036854775807 := by omega
            have cb := (hrow.drewN N2).byte hlt
            have sb := hrow.byteSome hlt
            have HS := Lib.hid (tail1_step r (tail8 l X j) k hlt)
            obtain ⟨ch, hch⟩ : ∃ ch, ch = (r)[k] := ⟨_, rfl⟩
            rw [← hch] at cb
            have hcb : (ch.toNat : Int) ≤ 255 := u8_le ch
            have HC := Lib.hid hch
            clear hch
            go_wp2_with fail
            refine (turn64_bv (tail1 (r) (tail8 l X j) k ^^^ BitVec.ofNat 64 ch.toNat * P5) 11 ?_ (by rfl) (by decide)).mono ?_
            · exact byte_raw _ ch
            rintro e1 w1 ⟨rfl, n3, rfl⟩
            go_wp2
            refine ⟨⟨k + 1, N2 + n3, by omega, by rw [HS.out, ← HC.out]; exact congrArg (Value.int .u64) (wrap_eq (by rw [B64_mul, b64_nat, B64_p1]; rfl)), by first | rfl | go_num | (congr 1; omega), by first | rfl | rw [drewN_two]⟩, by simp [intOf]; omega⟩
          · have hkI : ¬ (k : Int) < (r).length := by omega
            have hke : k = (r).length := by omega
            have HK := Lib.hid hke
            clear hke
            go_wp2
            go_ret
            exact ⟨ret_int (by rw [HF.out, ← HK.out]), N2, rfl⟩
end Go.Proofs.Ytcomcljpnjeogaa
