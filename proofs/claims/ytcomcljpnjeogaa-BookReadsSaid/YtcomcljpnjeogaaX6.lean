/- The walks of the document's ahead and Sum. -/
import Derived.Test.YtcomcljpnjeogaaX4
import Derived.Deep.DeepCutAuto
import Derived.Deep.RegionWith
set_option maxRecDepth 20000
namespace Go.Proofs.Ytcomcljpnjeogaa
open Go.RowKit Go.Hd

theorem prime1 {w : World} : Calls Try.prog 69 #[.int .i64 1] w fun e w' => e = .returned (.int .u64 (P1.toNat : Int)) ∧ w = w' := prime_any 1 rfl (by decide) (by decide)
theorem prime2 {w : World} : Calls Try.prog 69 #[.int .i64 2] w fun e w' => e = .returned (.int .u64 (P2.toNat : Int)) ∧ w = w' := prime_any 2 rfl (by decide) (by decide)
theorem prime3 {w : World} : Calls Try.prog 69 #[.int .i64 3] w fun e w' => e = .returned (.int .u64 (P3.toNat : Int)) ∧ w = w' := prime_any 3 rfl (by decide) (by decide)
theorem prime4 {w : World} : Calls Try.prog 69 #[.int .i64 4] w fun e w' => e = .returned (.int .u64 (P4.toNat : Int)) ∧ w = w' := prime_any 4 rfl (by decide) (by decide)
theorem prime5 {w : World} : Calls Try.prog 69 #[.int .i64 5] w fun e w' => e = .returned (.int .u64 (P5.toNat : Int)) ∧ w = w' := prime_any 5 rfl (by decide) (by decide)

def c4 (F : Nat → BitVec 64) : List Value := [.int .u64 ((F 0).toNat : Int), .int .u64 ((F 1).toNat : Int), .int .u64 ((F 2).toNat : Int), .int .u64 ((F 3).toNat : Int)]
def upd (F : Nat → BitVec 64) (k : Nat) (x : BitVec 64) (p : Nat) : BitVec 64 := if p = k then x else F p
theorem c4_set (F : Nat → BitVec 64) (k : Nat) (x : BitVec 64) (h : k < 4) : (c4 F).set k (.int .u64 (x.toNat : Int)) = c4 (upd F k x) := by
  obtain h | h | h | h : k = 0 ∨ k = 1 ∨ k = 2 ∨ k = 3 := by omega
  all_goals subst h; simp [c4, upd]
theorem c4_get (F : Nat → BitVec 64) (k : Nat) (h : k < 4) : (c4 F)[k]? = some (.int .u64 ((F k).toNat : Int)) := by
  obtain h | h | h | h : k = 0 ∨ k = 1 ∨ k = 2 ∨ k = 3 := by omega
  all_goals subst h; rfl
def aF (l : List UInt8) (seed : BitVec 64) (k p : Nat) : BitVec 64 := if p < k then lanes l seed p (l.length / 32) else lane0 seed p
theorem aF_in (l : List UInt8) (seed : BitVec 64) (k : Nat) : upd (aF l seed k) k (lanes l seed k 0) = aF l seed k := by
  funext p
  unfold upd aF
  by_cases h : p = k
  · subst h; rw [if_pos rfl, if_neg (by omega)]; rfl
  · rw [if_neg h]
theorem aF_out (l : List UInt8) (seed : BitVec 64) (k : Nat) : upd (aF l seed k) k (lanes l seed k (l.length / 32)) = aF l seed (k + 1) := by
  funext p
  unfold upd aF
  by_cases h : p = k
  · subst h; rw [if_pos rfl, if_pos (by omega)]
  · rw [if_neg h]
    by_cases h2 : p < k
    · rw [if_pos h2, if_pos (by omega)]
    · rw [if_neg h2, if_neg (by omega)]
def ARel (w : World) (g : Nat) (l : List UInt8) (seed : BitVec 64) (k : Value) (wr : World) : Prop :=
  ∃ j : Nat, j ≤ 4 ∧ k = .int .i64 j ∧ Blk wr g 104 (c4 (aF l seed j)) ∧ Below w.heap.size w wr
def AtRel (w : World) (g : Nat) (l : List UInt8) (seed : BitVec 64) (k : Nat) (at_ : Value) (wr : World) : Prop :=
  ∃ j : Nat, j ≤ l.length / 32 ∧ at_ = .int .i64 (8 * (k : Int) + 32 * (j : Int)) ∧ Blk wr g 104 (c4 (upd (aF l seed k) k (lanes l seed k j))) ∧ Below w.heap.size w wr
set_option maxHeartbeats 1000000 in
theorem ahead_any {x : Int} (seed : BitVec 64) {a : Option Addr} {n c : Nat} {l : List UInt8} {w : World} (hx : x = (seed.toNat : Int)) (hn : n = l.length) (hl : Row w a (l.map b8)) (hc : n ≤ c) (h32 : 32 ≤ l.length) (hm : l.length ≤ 140737488355328) :
    Calls Try.prog 70 #[.slice a n c, .int .u64 x] w fun e w' => e = .returned (.int .u64 ((aheadF l seed).toNat : Int)) ∧ Below w.heap.size w w' := by
  subst hx hn
  have HE : Hid ((#[.int .u64 (IntKind.u64.wrap (IntKind.u64.wrap ((seed.toNat : Int) + P1.toNat) + P2.toNat)), .int .u64 (IntKind.u64.wrap ((seed.toNat : Int) + P2.toNat)), .int .u64 (seed.toNat : Int), .int .u64 (IntKind.u64.wrap ((seed.toNat : Int) - P1.toNat))] : Array Value).toList = c4 (aF l seed 0)) := by
    show _ = _
    rw [w64_add, w64_add, w64_add, w64_sub]
    rfl
  go_enter Try.func70, Try.ntmps70
  go_upto_region 2 with (first | (go_at_call 69; ((with_reducible refine prime1.mono ?_); rintro e1 w1 ⟨rfl, rfl⟩)) | (go_at_call 69; ((with_reducible refine prime2.mono ?_); rintro e1 w1 ⟨rfl, rfl⟩)))
  have hB : Blk (w.alloc (.cells #[.int .u64 (IntKind.u64.wrap (IntKind.u64.wrap ((seed.toNat : Int) + P1.toNat) + P2.toNat)), .int .u64 (IntKind.u64.wrap ((seed.toNat : Int) + P2.toNat)), .int .u64 (seed.toNat : Int), .int .u64 (IntKind.u64.wrap ((seed.toNat : Int) - P1.toNat))] 104)) w.heap.size 104 (c4 (aF l seed 0)) := by
    rw [← HE.out]; exact Blk.new w _ _
  have hb : Below w.heap.size w (w.alloc (.cells #[.int .u64 (IntKind.u64.wrap (IntKind.u64.wrap ((seed.toNat : Int) + P1.toNat) + P2.toNat)), .int .u64 (IntKind.u64.wrap ((seed.toNat : Int) + P2.toNat)), .int .u64 (seed.toNat : Int), .int .u64 (IntKind.u64.wrap ((seed.toNat : Int) - P1.toNat))] 104)) := (Below.refl _ _).alloc (Nat.le_refl _) _
  generalize w.alloc (.cells #[.int .u64 (IntKind.u64.wrap (IntKind.u64.wrap ((seed.toNat : Int) + P1.toNat) + P2.toNat)), .int .u64 (IntKind.u64.wrap ((seed.toNat : Int) + P2.toNat)), .int .u64 (seed.toNat : Int), .int .u64 (IntKind.u64.wrap ((seed.toNat : Int) - P1.toNat))] 104) = w1 at *
  have hq : l.length / 32 * 32 ≤ l.length := by omega
  obtain ⟨q, hqe⟩ : ∃ q, q = l.length / 32 := ⟨_, rfl⟩
  have HQ := Lib.hid hqe
  have hqI : (l.length : Int) / 32 = (q : Int) := by omega
  have hq47 : q ≤ 140737488355328 := by omega
  clear hqe HE
  generalize hg0 : w.heap.size = g0 at *
  have HG := Lib.hid hg0
  clear hg0
  go_wp2
  go_loopw [6, 7] (fun k _ wr => ARel w g0 l seed k wr) (fun k _ _ => 4 - (intOf k).toNat)
  case atStart => exact ⟨0, by decide, rfl, hB, by rw [HG.out]; exact hb⟩
  case round =>
    clear hB hb
    obtain ⟨k, hk, rfl, hB, hb⟩ := hrel
    by_cases hlt : k < 4
    · have hkI : (k : Int) < 4 := by omega
      obtain ⟨wo, rfl⟩ : ∃ wo : World, wo = wr := ⟨_, rfl⟩
      go_wp2
      go_loopw [7] (fun at_ wr => AtRel w g0 l seed k at_ wr) (fun at_ _ => (32 * q + 40 - (intOf at_).toNat : Nat))
      case atStart => exact ⟨0, Nat.zero_le _, by simp, by rw [aF_in]; exact hB, hb⟩
      case round =>
        clear hB hb
        obtain ⟨j, hj, rfl, hB, hb⟩ := hrel
        rw [← HQ.out] at hj
        by_cases hlt2 : j < q
        · have hj1 : 8 * (k : Int) + 32 * (j : Int) + 8 ≤ (q : Int) * 32 := by omega
          have hq2 : q * 32 ≤ l.length := by have := HQ.out; omega
          have hrow := hl.below hb
          have ck : wr.cell? ⟨g0, k, none⟩ = _ := hB.cell (c4_get _ k hlt)
          have fk := hB.free k
          obtain ⟨a', c', hsl, hk1, hk2, hrow'⟩ := cut_lh (P := Try.prog) (t := 27) (e := 5) (s := 1) eB.ht (by kernel_rfl) hrow (k1 := .i64) (k2 := .i64) (c := c) (n := l.length) (i := 8 * (k : Int) + 32 * (j : Int)) (j := 8 * (k : Int) + 32 * (j : Int) + 8) (p := 32 * j + 8 * k) (q := 32 * j + 8 * k + 8) (by simp; omega) (by simp; omega) (by omega) (by omega)
          simp only [Nat.mul_one, Nat.add_sub_cancel_left] at hsl hk1 hrow'
          rw [← List.map_drop, ← List.map_take] at hrow'
          have hl8 : ((l.drop (32 * j + 8 * k)).take 8).length = 8 := by rw [List.length_take, List.length_drop]; omega
          have HST : Hid (laneF (upd (aF l seed k) k (lanes l seed k j) k) (numF ((l.drop (32 * j + 8 * k)).take 8)) = lanes l seed k (j + 1)) := by
            show _ = _
            unfold upd; rw [if_pos rfl]; rfl
          obtain ⟨r8, hr8⟩ : ∃ r8, r8 = (l.drop (32 * j + 8 * k)).take 8 := ⟨_, rfl⟩
          rw [← hr8] at hrow' hl8 HST
          generalize hF : upd (aF l seed k) k (lanes l seed k j) = F at *
          have HF := Lib.hid hF
          have HL8 := Lib.hid hl8
          have hl1 : 1 ≤ r8.length := by omega
          have hl2 : r8.length ≤ 8 := by omega
          have hw1 : IntKind.i64.wrap (8 * (k : Int) + 32 * (j : Int) + 8) = 8 * (k : Int) + 32 * (j : Int) + 8 := IntWalk.i64_in _ (by omega)
          clear hr8 hrow hF hl8
          go_wp2
          go_region_with ((first
            | (go_at_call 73; refine (rnum_any (l := r8) HL8.out.symm ?_ hl1 hl2).mono ?_; (first | exact hrow' | exact hrow'.drewN _); rintro e1 w1 ⟨rfl, rfl⟩)
            | (go_at_call 72; refine (rlane_bv (F k) (numF r8) (by rfl) (by rfl)).mono ?_; rintro e1 w1 ⟨rfl, rfl⟩)))
          all_goals
            have hB' : Blk (wr.setCell ⟨g0, k, none⟩ (.int .u64 ((laneF (F k) (numF r8)).toNat : Int))).drew g0 104 (c4 (upd (aF l seed k) k (lanes l seed k (j + 1)))) := by
              have := (hB.set k (.int .u64 ((laneF (F k) (numF r8)).toNat : Int))).drew
              rw [c4_set F k _ hlt, HST.out] at this
              rw [HST.out]
              rw [← HF.out] at this
              have e : upd (upd (aF l seed k) k (lanes l seed k j)) k (lanes l seed k (j + 1)) = upd (aF l seed k) k (lanes l seed k (j + 1)) := by
                funext p; unfold upd; by_cases h : p = k
                · rw [if_pos h, if_pos h]
                · rw [if_neg h, if_neg h, if_neg h]
              rw [e] at this
              exact this
            have hb' : Below w.heap.size w (wr.setCell ⟨g0, k, none⟩ (.int .u64 ((laneF (F k) (numF r8)).toNat : Int))).drew := (hb.setCell (by have := HG.out; simp; omega) _).drew
            have hj2 : j + 1 ≤ l.length / 32 := by have := HQ.out; omega
            generalize (wr.setCell ⟨g0, k, none⟩ (.int .u64 ((laneF (F k) (numF r8)).toNat : Int))).drew = w' at *
            clear ck fk hsl hrow' hB hb hw1
            go_wp2
            first
              | exact ⟨⟨j + 1, hj2, (by first | rfl | go_num | (congr 1; omega)), hB', hb'⟩, by simp [intOf] <;> omega⟩
              | (refine ⟨?_, by simp [intOf] <;> omega⟩; (repeat apply Exists.intro); exact ⟨⟨j + 1, hj2, (by first | rfl | go_num | (congr 1; omega)), hB', hb'⟩, rfl⟩)
        · have hj1 : ¬ 8 * (k : Int) + 32 * (j : Int) + 8 ≤ (q : Int) * 32 := by omega
          have hjq : j = q := by omega
          have hB' : Blk wr g0 104 (c4 (aF l seed (k + 1))) := by
            rw [← aF_out, ← HQ.out, ← hjq]; exact hB
          clear hB hjq
          go_wp2
          first
            | exact ⟨⟨k + 1, by omega, (by first | rfl | go_num | (congr 1; omega)), hB', hb⟩, by simp [intOf] <;> omega⟩
            | (refine ⟨?_, by simp [intOf] <;> omega⟩; (repeat apply Exists.intro); exact ⟨⟨k + 1, by omega, (by first | rfl | go_num | (congr 1; omega)), hB', hb⟩, rfl⟩)
    · have hk4 : k = 4 := by omega
      subst hk4
      have HJ : Hid (joinF (aF l seed 4 0) (aF l seed 4 1) (aF l seed 4 2) (aF l seed 4 3) = aheadF l seed) := by
        show _ = _
        unfold aheadF
        rw [if_pos h32]
        rfl
      obtain ⟨wo, rfl⟩ : ∃ wo : World, wo = wr := ⟨_, rfl⟩
      generalize aF l seed 4 = F at *
      have d0 : wo.cell? ⟨g0, 0, none⟩ = _ := hB.cell rfl
      have d1 : wo.cell? ⟨g0, 1, none⟩ = _ := hB.cell rfl
      have d2 : wo.cell? ⟨g0, 2, none⟩ = _ := hB.cell rfl
      have d3 : wo.cell? ⟨g0, 3, none⟩ = _ := hB.cell rfl
      go_wp2
      go_quiet (first
        | (go_at_call 71; exact Calls.quiet_of (quiet0 <| rturn3_bv (F 0) 1 (by rfl) (by rfl) (by decide)))
        | (go_at_call 71; exact Calls.quiet_of (quiet0 <| rturn3_bv (F 1) 7 (by rfl) (by rfl) (by decide)))
        | (go_at_call 71; exact Calls.quiet_of (quiet0 <| rturn3_bv (F 2) 12 (by rfl) (by rfl) (by decide)))
        | (go_at_call 71; exact Calls.quiet_of (quiet0 <| rturn3_bv (F 3) 18 (by rfl) (by rfl) (by decide))))
      have e0 : IntKind.u64.wrap (IntKind.u64.wrap (IntKind.u64.wrap (((rot64 (F 0) 1).toNat : Int) + (rot64 (F 1) 7).toNat) + (rot64 (F 2) 12).toNat) + (rot64 (F 3) 18).toNat) = ((joinK (F 0) (F 1) (F 2) (F 3) 0).toNat : Int) := by rw [w64_add, w64_add, w64_add]; rfl
      have HE := Lib.hid e0
      clear e0 d0 d1 d2 d3
      go_wp2
      go_loopw [8, 9] (fun x i wq => ∃ k N : Nat, k ≤ 4 ∧ i = .int .i64 k ∧ x = .int .u64 ((joinK (F 0) (F 1) (F 2) (F 3) k).toNat : Int) ∧ wq = wo.drewN N) (fun _ i _ => 4 - (intOf i).toNat)
      case atStart => exact ⟨0, nq, by decide, rfl, congrArg (Value.int .u64) HE.out, rfl⟩
      case round =>
        obtain ⟨k, N, hk, rfl, rfl, rfl⟩ := hrel
        by_cases hlt : k < 4
        · have hkI : (k : Int) < 4 := by omega
          have ck : wo.cell? ⟨g0, k, none⟩ = _ := hB.cell (c4_get _ k hlt)
          have HJK : Hid (lane4 (F 0) (F 1) (F 2) (F 3) k = F k) := by
            show _ = _
            obtain h | h | h | h : k = 0 ∨ k = 1 ∨ k = 2 ∨ k = 3 := by omega
            all_goals subst h; rfl
          have HM : Hid (IntKind.u64.wrap (IntKind.u64.wrap (bits .xor .u64 ((joinK (F 0) (F 1) (F 2) (F 3) k).toNat : Int) ((laneF 0#64 (F k)).toNat : Int) * P1.toNat) + P4.toNat) = ((joinK (F 0) (F 1) (F 2) (F 3) (k + 1)).toNat : Int)) := by
            show _ = _
            rw [joinK_step _ _ _ _ k hlt, HJK.out, bits64_xor, w64_mul, w64_add]; rfl
          go_wp2_with fail
          refine (rlane_bv 0#64 (F k) (by rfl) (by rfl)).mono ?_
          rintro e1 w1 ⟨rfl, rfl⟩
          go_wp2_with fail
          refine prime1.mono ?_
          rintro e1 w1 ⟨rfl, rfl⟩
          go_wp2_with fail
          refine prime4.mono ?_
          rintro e1 w1 ⟨rfl, rfl⟩
          clear ck
          go_wp2
          first
            | exact ⟨⟨k + 1, N, by omega, (by first | rfl | go_num | (congr 1; omega)), congrArg (Value.int .u64) HM.out, rfl⟩, by simp [intOf] <;> omega⟩
            | (refine ⟨?_, by simp [intOf] <;> omega⟩; (repeat apply Exists.intro); exact ⟨⟨k + 1, N, by omega, (by first | rfl | go_num | (congr 1; omega)), congrArg (Value.int .u64) HM.out, rfl⟩, rfl⟩)
        · have hk4 : k = 4 := by omega
          subst hk4
          go_wp2
          go_ret
          exact ⟨by rw [← HJ.out]; rfl, Below.drewN hb _⟩

/-! The sum. -/
theorem rbyte_raw (x : BitVec 64) (c : UInt8) : bits BinOp.xor IntKind.u64 (x.toNat : Int) (IntKind.u64.wrap ((c.toNat : Int) * P5.toNat)) = ((x ^^^ BitVec.ofNat 64 c.toNat * P5).toNat : Int) := by
  have e : (c.toNat : Int) = ((BitVec.ofNat 64 c.toNat).toNat : Int) := by
    have := u8_le c
    rw [BitVec.toNat_ofNat]; omega
  rw [e, w64_mul, bits64_xor]
theorem rfin1 (x : BitVec 64) : IntKind.u64.wrap (bits .xor .u64 (x.toNat : Int) ((x.toNat : Int) / (8589934592 : Int)) * P2.toNat) = (((x ^^^ x >>> 33) * P2).toNat : Int) := by rw [shr33, bits64_xor, w64_mul]
theorem rfin2 (x : BitVec 64) : IntKind.u64.wrap (bits .xor .u64 (x.toNat : Int) ((x.toNat : Int) / (536870912 : Int)) * P3.toNat) = (((x ^^^ x >>> 29) * P3).toNat : Int) := by rw [shr29, bits64_xor, w64_mul]
def S8Rel (w1 : World) (q : Nat) (T : List UInt8) (X : BitVec 64) (x at_ : Value) (wr : World) : Prop :=
  ∃ j p : Nat, 8 * j ≤ T.length ∧ p = q + 8 * j ∧ x = .int .u64 ((tail8 T X j).toNat : Int) ∧ at_ = .int .i64 (p : Int) ∧ wr = w1
def S1Rel (w1 : World) (q : Nat) (R : List UInt8) (Y : BitVec 64) (x at_ : Value) (wr : World) : Prop :=
  ∃ j p N : Nat, j ≤ R.length ∧ p = q + j ∧ x = .int .u64 ((tail1 R Y j).toNat : Int) ∧ at_ = .int .i64 (p : Int) ∧ wr = w1.drewN N
set_option maxRecDepth 100000 in
theorem rsum_any {x : Int} (seed : BitVec 64) {a : Option Addr} {n c : Nat} {l : List UInt8} {w : World} (hx : x = (seed.toNat : Int)) (hn : n = l.length) (hl : Row w a (l.map b8)) (hc : n ≤ c) (hm : l.length ≤ 140737488355328) :
    Calls Try.prog 58 #[.slice a n c, .int .u64 x] w fun e w' => e = .returned (.int .u64 ((sumF l seed).toNat : Int)) ∧ Below w.heap.size w w' := by
  subst hx hn
  go_enter Try.func58, Try.ntmps58
  go_upto_if 12 with (go_at_call 69; ((with_reducible refine prime5.mono ?_); rintro e1 w1 ⟨rfl, rfl⟩))
  go_cut [5] (fun s5 wx => s5 = .int .u64 ((aheadF l seed).toNat : Int) ∧ Below w.heap.size w wx)
  case first =>
    by_cases h32 : 32 ≤ l.length
    · have hI : (32 : Int) ≤ l.length := by omega
      go_wp2_with (go_at_call 70; refine (ahead_any seed rfl rfl hl hc h32 hm).mono ?_; rintro e1 w1 ⟨rfl, hb⟩)
      go_meet
      exact ⟨rfl, hb⟩
    · have hI : ¬ (32 : Int) ≤ l.length := by omega
      have HA : Hid (IntKind.u64.wrap ((seed.toNat : Int) + P5.toNat) = ((aheadF l seed).toNat : Int)) := by
        show _ = _
        unfold aheadF
        rw [if_neg h32, w64_add]
      go_wp2
      go_meet
      exact ⟨congrArg (Value.int .u64) HA.out, Below.refl _ _⟩
  case rest =>
    obtain ⟨rfl, hb⟩ := hcut
    have hl1 := hl.below hb
    obtain ⟨q, hqe⟩ : ∃ q, q = l.length / 32 := ⟨_, rfl⟩
    have HQ := Lib.hid hqe
    have hqI : (l.length : Int) / 32 = (q : Int) := by omega
    have hq47 : 32 * q ≤ l.length := by omega
    clear hqe
    obtain ⟨T, hT⟩ : ∃ T, T = l.drop (32 * q) := ⟨_, rfl⟩
    have hTl : T.length = l.length - 32 * q := by rw [hT, List.length_drop]
    have HT := Lib.hid hT
    have HTL := Lib.hid hTl
    have hTlo : 32 * q + T.length = l.length := by omega
    have HX : Hid (IntKind.u64.wrap (((aheadF l seed).toNat : Int) + (l.length : Int)) = ((aheadF l seed + BitVec.ofNat 64 l.length).toNat : Int)) := by
      show _ = _
      exact wrap_eq (by rw [B64_add, b64_nat]; congr 1)
    have HS : Hid (sumF l seed = finF (tailF (aheadF l seed + BitVec.ofNat 64 l.length) T)) := by
      show _ = _
      rw [hT, HQ.out]; rfl
    generalize aheadF l seed + BitVec.ofNat 64 l.length = X at *
    clear hT hTl
    go_wp2
    generalize hY : IntKind.u64.wrap (((aheadF l seed).toNat : Int) + (l.length : Int)) = Y at *
    obtain rfl : Y = (X.toNat : Int) := HX.out
    clear hY HX
    go_loopw [5, 6] (fun x at_ wr => S8Rel wc (32 * q) T X x at_ wr) (fun _ at_ _ => l.length - (intOf at_).toNat)
    case atStart => exact ⟨0, 32 * q, Nat.zero_le _, rfl, rfl, by congr 1; omega, rfl⟩
    case round =>
      obtain ⟨j, p, hj, hp, rfl, rfl, rfl⟩ := hrel
      by_cases h8 : 8 * j + 8 ≤ T.length
      · have hp8 : p + 8 ≤ l.length := by omega
        have hpI : (p : Int) + 8 ≤ l.length := by omega
        obtain ⟨a', c', hsl, hk1, hk2, hrow'⟩ := cut_lh (P := Try.prog) (t := 27) (e := 5) (s := 1) eB.ht (by kernel_rfl) hl1 (k1 := .i64) (k2 := .i64) (c := c) (n := l.length) (i := (p : Int)) (j := (p : Int) + 8) (p := p) (q := p + 8) rfl rfl (by omega) (by omega)
        simp only [Nat.mul_one, Nat.add_sub_cancel_left] at hsl hk1 hrow'
        rw [← List.map_drop, ← List.map_take] at hrow'
        have hl8 : ((l.drop p).take 8).length = 8 := by rw [List.length_take, List.length_drop]; omega
        have HST : Hid (rot64 (tail8 T X j ^^^ laneF 0#64 (numF ((l.drop p).take 8))) 27 * P1 + P4 = tail8 T X (j + 1)) := by
          show _ = step8 _ _
          rw [HT.out, List.drop_drop, ← hp]; rfl
        obtain ⟨r8, hr8⟩ : ∃ r8, r8 = (l.drop p).take 8 := ⟨_, rfl⟩
        rw [← hr8] at hrow' hl8 HST
        have HL8 := Lib.hid hl8
        have hl2 : r8.length ≤ 8 := by omega
        have hl3 : 1 ≤ r8.length := by omega
        have HP := Lib.hid hp
        clear hr8 hl8 hp
        go_wp2_with fail
        refine (rnum_any (l := r8) HL8.out.symm hrow' hl3 hl2).mono ?_
        rintro e1 w1 ⟨rfl, rfl⟩
        go_wp2_with fail
        refine (rlane_bv 0#64 (numF r8) (by rfl) (by rfl)).mono ?_
        rintro e1 w1 ⟨rfl, rfl⟩
        go_wp2_with fail
        refine (rturn3_bv (tail8 T X j ^^^ laneF 0#64 (numF r8)) 27 (bits64_xor _ _) (by rfl) (by decide)).mono ?_
        rintro e1 w1 ⟨rfl, rfl⟩
        go_wp2_with fail
        refine prime1.mono ?_
        rintro e1 w1 ⟨rfl, rfl⟩
        go_wp2_with fail
        refine prime4.mono ?_
        rintro e1 w1 ⟨rfl, rfl⟩
        go_wp2
        first
          | exact ⟨⟨j + 1, p + 8, by omega, by have := HP.out; omega, congrArg (Value.int .u64) (by rw [w64_mul, w64_add, HST.out]), (by first | rfl | go_num | (congr 1; omega)), rfl⟩, by simp [intOf] <;> omega⟩
          | (refine ⟨?_, by simp [intOf] <;> omega⟩; (repeat apply Exists.intro); exact ⟨⟨j + 1, p + 8, by omega, by have := HP.out; omega, congrArg (Value.int .u64) (by rw [w64_mul, w64_add, HST.out]), (by first | rfl | go_num | (congr 1; omega)), rfl⟩, rfl⟩)
      · have hpI : ¬ (p : Int) + 8 ≤ l.length := by omega
        have hje : j = T.length / 8 := by omega
        have HJ := Lib.hid hje
        have HP := Lib.hid hp
        obtain ⟨T8, hT8⟩ : ∃ T8, T8 = T.drop (8 * (T.length / 8)) := ⟨_, rfl⟩
        have hT8l : T8.length + p = l.length := by rw [hT8, List.length_drop]; omega
        have HT8 := Lib.hid hT8
        clear hje hp hT8
        go_upto_if 50 with (fail)
        go_cut [5, 6] (fun s5 s6 wx => ∃ p4 : Nat, s5 = .int .u64 ((tail4 T8 (tail8 T X j)).toNat : Int) ∧ s6 = .int .i64 (p4 : Int) ∧ p4 + (rest4 T8).length = l.length ∧ rest4 T8 = l.drop p4 ∧ wx = wr)
        case first =>
          by_cases h4 : 4 ≤ T8.length
          · have hp4 : (p : Int) + 4 ≤ l.length := by omega
            obtain ⟨a', c', hsl, hk1, hk2, hrow'⟩ := cut_lh (P := Try.prog) (t := 27) (e := 5) (s := 1) eB.ht (by kernel_rfl) hl1 (k1 := .i64) (k2 := .i64) (c := c) (n := l.length) (i := (p : Int)) (j := (p : Int) + 4) (p := p) (q := p + 4) rfl rfl (by omega) (by omega)
            simp only [Nat.mul_one, Nat.add_sub_cancel_left] at hsl hk1 hrow'
            rw [← List.map_drop, ← List.map_take] at hrow'
            have hl4 : ((l.drop p).take 4).length = 4 := by rw [List.length_take, List.length_drop]; omega
            have hTp : T8 = l.drop p := by
              have h1 := HT.out; have h2 := HT8.out; have h3 := HJ.out; have h4 := HP.out
              rw [h2, ← h3, h1, List.drop_drop, ← h4]
            have HST : Hid (rot64 (tail8 T X j ^^^ numF ((l.drop p).take 4) * P1) 23 * P2 + P3 = tail4 T8 (tail8 T X j)) := by
              show _ = _
              unfold tail4
              rw [if_pos h4, hTp]; rfl
            have HR : Hid (rest4 T8 = l.drop (p + 4)) := by
              show _ = _
              unfold rest4
              rw [if_pos h4, hTp, List.drop_drop]
            have HRL : Hid ((rest4 T8).length = l.length - (p + 4)) := by
              show _ = _
              rw [HR.out, List.length_drop]
            obtain ⟨r4, hr4⟩ : ∃ r4, r4 = (l.drop p).take 4 := ⟨_, rfl⟩
            rw [← hr4] at hrow' hl4 HST
            have HL4 := Lib.hid hl4
            have hl2 : r4.length ≤ 8 := by omega
            have hl3 : 1 ≤ r4.length := by omega
            clear hr4 hl4 hTp
            go_wp2_with fail
            refine (rnum_any (l := r4) HL4.out.symm hrow' hl3 hl2).mono ?_
            rintro e1 w1 ⟨rfl, rfl⟩
            go_wp2_with fail
            refine prime1.mono ?_
            rintro e1 w1 ⟨rfl, rfl⟩
            go_wp2_with fail
            refine (rturn3_bv (tail8 T X j ^^^ numF r4 * P1) 23 (by rw [w64_mul, bits64_xor]) (by rfl) (by decide)).mono ?_
            rintro e1 w1 ⟨rfl, rfl⟩
            go_wp2_with fail
            refine prime2.mono ?_
            rintro e1 w1 ⟨rfl, rfl⟩
            go_wp2_with fail
            refine prime3.mono ?_
            rintro e1 w1 ⟨rfl, rfl⟩
            go_wp2
            go_meet
            exact ⟨p + 4, congrArg (Value.int .u64) (by rw [w64_mul, w64_add, HST.out]), (by first | rfl | go_num | (congr 1; omega)), by have := HRL.out; omega, HR.out, rfl⟩
          · have hp4 : ¬ (p : Int) + 4 ≤ l.length := by omega
            have HR : Hid (rest4 T8 = T8) := if_neg h4
            have HY : Hid (tail4 T8 (tail8 T X j) = tail8 T X j) := if_neg h4
            have hTp : T8 = l.drop p := by
              have h1 := HT.out; have h2 := HT8.out; have h3 := HJ.out; have h4 := HP.out
              rw [h2, ← h3, h1, List.drop_drop, ← h4]
            have HTP := Lib.hid hTp
            clear hTp
            go_wp2
            go_meet
            exact ⟨p, congrArg (Value.int .u64) (by rw [HY.out]), rfl, by rw [HR.out]; omega, by rw [HR.out]; exact HTP.out, rfl⟩
        case rest =>
          obtain ⟨p4, rfl, rfl, hp4, hR, rfl⟩ := hcut
          have HF : Hid (tailF X T = tail1 (rest4 T8) (tail4 T8 (tail8 T X j)) (rest4 T8).length) := by
            show _ = _
            unfold tailF
            rw [← HT8.out, ← HJ.out]
          generalize tail4 T8 (tail8 T X j) = Y at *
          generalize rest4 T8 = R at *
          have hrow : Row wc (a.map (fun x => x.add p4)) (R.map b8) := by rw [hR, List.map_drop]; exact hl1.drop p4
          have HR := Lib.hid hR
          clear hR
          go_wp2
          go_loopw [5, 6] (fun x at_ wq => S1Rel wc p4 R Y x at_ wq) (fun _ at_ _ => l.length - (intOf at_).toNat)
          case atStart => exact ⟨0, p4, 0, Nat.zero_le _, rfl, rfl, rfl, rfl⟩
          case round =>
            obtain ⟨k, p5, N, hk, hp5, rfl, rfl, hwr⟩ := hrel
            have HP5 := Lib.hid hp5
            rename_i wr _
            have hlr : Row wr a (l.map b8) := by rw [hwr]; exact hl1.drewN N
            have HW := Lib.hid hwr
            have hbr : Below w.heap.size w wr := by rw [hwr]; exact Below.drewN hb _
            clear hwr
            by_cases hlt : k < R.length
            · have hpl : p5 < l.length := by omega
              have hpI : (p5 : Int) < l.length := by omega
              have cb := hlr.byte hpl
              have sb := hl1.byteSome hpl
              have he : R[k] = l[p5] := by
                have := HR.out
                subst hp5
                simp only [this, List.getElem_drop]
              have HST := Lib.hid (tail1_step R Y k hlt)
              obtain ⟨ch, hch⟩ : ∃ ch, ch = l[p5] := ⟨_, rfl⟩
              rw [← hch] at cb he
              rw [he] at HST
              have hcb : (ch.toNat : Int) ≤ 255 := u8_le ch
              clear hch he hp5
              go_wp2
              go_quiet (first
                | (go_at_call_of 69 (Value.int .i64 5); exact Calls.quiet_of (quiet0 prime5))
                | (go_at_call_of 69 (Value.int .i64 1); exact Calls.quiet_of (quiet0 prime1))
                | (go_at_call 71; exact Calls.quiet_of (quiet0 <| rturn3_bv (tail1 R Y k ^^^ BitVec.ofNat 64 ch.toNat * P5) 11 (rbyte_raw _ ch) (by rfl) (by decide))))
              clear cb
              go_wp2
              first
                | exact ⟨⟨k + 1, p5 + 1, N + nq, by omega, by have := HP5.out; omega, congrArg (Value.int .u64) (by rw [w64_mul, HST.out]; rfl), (by first | rfl | go_num | (congr 1; omega)), by rw [HW.out, drewN_two]⟩, by simp [intOf] <;> omega⟩
                | (refine ⟨?_, by simp [intOf] <;> omega⟩; (repeat apply Exists.intro); exact ⟨⟨k + 1, p5 + 1, N + nq, by omega, by have := HP5.out; omega, congrArg (Value.int .u64) (by rw [w64_mul, HST.out]; rfl), (by first | rfl | go_num | (congr 1; omega)), by rw [HW.out, drewN_two]⟩, rfl⟩)
            · have hpI : ¬ (p5 : Int) < l.length := by omega
              have hke : k = R.length := by omega
              have HK := Lib.hid hke
              clear hke hp5
              have HFF : Hid (sumF l seed = finF (tail1 R Y k)) := by
                show _ = _
                rw [HS.out, HF.out, HK.out]
              generalize tail1 R Y k = Z at *
              go_wp2_with fail
              refine prime2.mono ?_
              rintro e1 w1 ⟨rfl, rfl⟩
              go_wp2_with fail
              refine prime3.mono ?_
              rintro e1 w1 ⟨rfl, rfl⟩
              go_wp2
              go_ret
              exact ⟨ret_int (by rw [rfin1, rfin2, fin3, HFF.out]; rfl), hbr⟩
end Go.Proofs.Ytcomcljpnjeogaa
