/- Walks of xxh.Hasher. -/
import Derived.Test.YtcomcljpnjeogaaX2
set_option maxRecDepth 20000
namespace Go.Proofs.Ytcomcljpnjeogaa
open Go.RowKit Go.Hd
variable {S : Nat → Prop}

/-- The hasher in block g was given l; what no lane took lies in a block of S. -/
def HAt (S : Nat → Prop) (w : World) (g : Nat) (seed : BitVec 64) (l : List UInt8) : Prop :=
  ∃ a c, Blk w g 131 [.bool true, .int .u64 (seed.toNat : Int), .int .u64 ((lanes l seed 0 (l.length / 32)).toNat : Int), .int .u64 ((lanes l seed 1 (l.length / 32)).toNat : Int), .int .u64 ((lanes l seed 2 (l.length / 32)).toNat : Int), .int .u64 ((lanes l seed 3 (l.length / 32)).toNat : Int),
      .slice a (l.drop (32 * (l.length / 32))).length c, .int .u64 l.length] ∧ Row w a ((l.drop (32 * (l.length / 32))).map b8) ∧ (l.drop (32 * (l.length / 32))).length ≤ c ∧ c ≤ maxLen ∧ (0 < (l.drop (32 * (l.length / 32))).length → S (hd a).block)

theorem new_any {x : Int} (seed : BitVec 64) {w : World} (hx : x = (seed.toNat : Int)) :
    Calls Try.prog 66 #[.int .u64 x] w fun e w' => ∃ g, e = .returned (.pointer (some ⟨g, 0, none⟩)) ∧ w.heap.size ≤ g ∧ HAt S w' g seed [] ∧ Below w.heap.size w w' := by
  subst hx
  go_enter Try.func66, Try.ntmps66
  have e0 : IntKind.u64.wrap (IntKind.u64.wrap ((seed.toNat : Int) + 11400714785074694791) + 14029467366897019727) = ((lanes [] seed 0 0).toNat : Int) := wrap_eq (by rw [B64_add, B64_wrap, B64_add, b64_nat, B64_p1, B64_p2]; rfl)
  have e1 : IntKind.u64.wrap ((seed.toNat : Int) + 14029467366897019727) = ((lanes [] seed 1 0).toNat : Int) := wrap_eq (by rw [B64_add, b64_nat, B64_p2]; rfl)
  have e3 : IntKind.u64.wrap ((seed.toNat : Int) - 11400714785074694791) = ((lanes [] seed 3 0).toNat : Int) := wrap_eq (by rw [B64_sub, b64_nat, B64_p1]; rfl)
  have HE := Lib.hid (And.intro e0 (And.intro e1 e3))
  clear e0 e1 e3
  go_wp2
  go_ret
  obtain ⟨e0, e1, e3⟩ := HE.out
  rw [e0, e1, e3]
  refine ⟨w.heap.size, rfl, Nat.le_refl _, ⟨none, 0, Blk.new w _ _, Row.nil _ _, Nat.le_refl _, Nat.zero_le _, fun h => by simp at h⟩, (Below.refl _ w).alloc (Nat.le_refl _) _⟩

def joinK (a b c d : BitVec 64) : Nat → BitVec 64
  | 0 => startF a b c d
  | 1 => mixF (startF a b c d) a
  | 2 => mixF (mixF (startF a b c d) a) b
  | 3 => mixF (mixF (mixF (startF a b c d) a) b) c
  | _ => joinF a b c d
def lane4 (a b c d : BitVec 64) : Nat → BitVec 64
  | 0 => a
  | 1 => b
  | 2 => c
  | _ => d
theorem index_four {w : World} (a b c d : BitVec 64) (k : Nat) (h : k < 4) : (Instr.index 129 (.agg #[.int .u64 (a.toNat : Int), .int .u64 (b.toNat : Int), .int .u64 (c.toNat : Int), .int .u64 (d.toNat : Int)]) (.int .i64 k)).run Try.prog w = .ok (.int .u64 ((lane4 a b c d k).toNat : Int)) w := by
  obtain h | h | h | h : k = 0 ∨ k = 1 ∨ k = 2 ∨ k = 3 := by omega
  all_goals
    subst h
    simp [lane4, Instr.index, run_underlying Try.underlying129, asIntOf, go_sem]
theorem joinK_step (a b c d : BitVec 64) (k : Nat) (h : k < 4) : joinK a b c d (k + 1) = mixF (joinK a b c d k) (lane4 a b c d k) := by
  obtain h | h | h | h : k = 0 ∨ k = 1 ∨ k = 2 ∨ k = 3 := by omega
  all_goals subst h; rfl
theorem mix_raw (x l : BitVec 64) : IntKind.u64.wrap (IntKind.u64.wrap (((x ^^^ laneF 0#64 l).toNat : Int) * 11400714785074694791) + 9650029242287828579) = ((mixF x l).toNat : Int) :=
  wrap_eq (by rw [B64_add, B64_wrap, B64_mul, b64_nat, B64_p1, B64_p4]; rfl)
def JRel (w1 : World) (a b c d : BitVec 64) (x i : Value) (wr : World) : Prop :=
  ∃ k N : Nat, k ≤ 4 ∧ i = .int .i64 k ∧ x = .int .u64 ((joinK a b c d k).toNat : Int) ∧ wr = w1.drewN N
theorem joined_any {w : World} {g : Nat} {v0 v1 v6 v7 : Value} {a b c d : BitVec 64} (hB : Blk w g 131 [v0, v1, .int .u64 (a.toNat : Int), .int .u64 (b.toNat : Int), .int .u64 (c.toNat : Int), .int .u64 (d.toNat : Int), v6, v7]) :
    Calls Try.prog 82 #[.pointer (some ⟨g, 0, none⟩)] w fun e w' => e = .returned (.int .u64 ((joinF a b c d).toNat : Int)) ∧ Below w.heap.size w w' := by
  have c2 : w.cell? ⟨g, 2, none⟩ = _ := hB.cell rfl
  have c3 : w.cell? ⟨g, 3, none⟩ = _ := hB.cell rfl
  have c4 : w.cell? ⟨g, 4, none⟩ = _ := hB.cell rfl
  have c5 : w.cell? ⟨g, 5, none⟩ = _ := hB.cell rfl
  go_enter Try.func82, Try.ntmps82
  have hN : Blk (w.alloc (.cells #[.int .u64 (a.toNat : Int), .int .u64 (b.toNat : Int), .int .u64 (c.toNat : Int), .int .u64 (d.toNat : Int)] 129)) w.heap.size 129 [.int .u64 (a.toNat : Int), .int .u64 (b.toNat : Int), .int .u64 (c.toNat : Int), .int .u64 (d.toNat : Int)] := Blk.new w _ _
  have hbn : Below w.heap.size w (w.alloc (.cells #[.int .u64 (a.toNat : Int), .int .u64 (b.toNat : Int), .int .u64 (c.toNat : Int), .int .u64 (d.toNat : Int)] 129)) := (Below.refl _ w).alloc (Nat.le_refl _) _
  go_wp2
  generalize w.alloc (.cells #[.int .u64 (a.toNat : Int), .int .u64 (b.toNat : Int), .int .u64 (c.toNat : Int), .int .u64 (d.toNat : Int)] 129) = w1 at *
  have n0 : w1.cell? ⟨w.heap.size, 0, none⟩ = _ := hN.cell rfl
  have n1 : w1.cell? ⟨w.heap.size, 1, none⟩ = _ := hN.cell rfl
  have n2 : w1.cell? ⟨w.heap.size, 2, none⟩ = _ := hN.cell rfl
  have n3 : w1.cell? ⟨w.heap.size, 3, none⟩ = _ := hN.cell rfl
  clear c2 c3 c4 c5 hB
  go_quiet (first
    | (go_at_call 85; exact Calls.quiet_of (turn64_bv a 1 (by rfl) (by rfl) (by decide)))
    | (go_at_call 85; exact Calls.quiet_of (turn64_bv b 7 (by rfl) (by rfl) (by decide)))
    | (go_at_call 85; exact Calls.quiet_of (turn64_bv c 12 (by rfl) (by rfl) (by decide)))
    | (go_at_call 85; exact Calls.quiet_of (turn64_bv d 18 (by rfl) (by rfl) (by decide))))
  have e0 : IntKind.u64.wrap (IntKind.u64.wrap (IntKind.u64.wrap (((rot64 a 1).toNat : Int) + (rot64 b 7).toNat) + (rot64 c 12).toNat) + (rot64 d 18).toNat) = ((joinK a b c d 0).toNat : Int) := by rw [w64_add, w64_add, w64_add]; rfl
  have HE := Lib.hid e0
  clear e0
  go_wp2
  go_loopw [4, 6, 27] (fun x _ i wr => JRel w1 a b c d x i wr) (fun _ _ i _ => 4 - (intOf i).toNat)
  case atStart => exact ⟨0, nq, by decide, rfl, congrArg (Value.int .u64) HE.out, rfl⟩
  case round =>
    obtain ⟨k, N, hk, rfl, rfl, rfl⟩ := hrel
    by_cases hlt : k < 4
    · have hix := index_four (w := w1.drewN N) a b c d k hlt
      have hkI : (k : Int) < 4 := by omega
      have HJ := Lib.hid (joinK_step a b c d k hlt)
      go_wp2_with fail
      refine (lane_bv 0#64 (lane4 a b c d k) (by rfl) (by rfl)).mono ?_
      rintro e w2 ⟨rfl, m2, rfl⟩
      clear hix
      have HM : Hid (IntKind.u64.wrap (IntKind.u64.wrap (bits .xor .u64 ((joinK a b c d k).toNat : Int) ((laneF 0#64 (lane4 a b c d k)).toNat : Int) * 11400714785074694791) + 9650029242287828579) = ((joinK a b c d (k + 1)).toNat : Int)) := by
        show _ = _
        rw [bits64_xor, mix_raw, HJ.out]
      go_wp2
      refine ⟨⟨k + 1, N + m2, by omega, by first | rfl | go_num | (congr 1; omega), congrArg (Value.int .u64) HM.out, by first | rfl | rw [drewN_two]⟩, by simp [intOf]; omega⟩
    · have hk4 : k = 4 := by omega
      subst hk4
      go_wp2
      go_ret
      exact ⟨rfl, Below.drewN hbn _⟩
end Go.Proofs.Ytcomcljpnjeogaa
