/- More walks over rows of bytes: back to front, copied, read as numbers. -/
import Derived.Test.YtcomcljpnjeogaaW2
set_option maxRecDepth 20000
namespace Go.Proofs.Ytcomcljpnjeogaa
open Go.RowKit Go.Hd

theorem copy_any (a : Option Addr) (n c : Nat) (l : List UInt8) (w : World) (hn : n = l.length) (hl : Row w a (l.map b8)) (hm : l.length ≤ 140737488355328) :
    Calls Try.prog 19 #[.slice a n c] w fun e w' => ∃ v, e = .returned v ∧ Fresh w w' v l := by
  subst hn
  obtain ⟨v, w1, hrun, hown, hg⟩ := append_src (ty := 27) eB (World.ownsRow_nil w w.heap.size 5 1) (Src.ofRow eB.ht a l.length c (l.map b8) (by decide) (by simp) hl (bytes_one l)) (by unfold maxLen; omega) (by omega) (Nat.le_refl _)
  go_enter Try.func19, Try.ntmps19
  go_wp2_with (at_builtin; refine wpList_append_run hrun rfl rfl rfl rfl ?_)
  go_ret
  refine ⟨v, rfl, ?_, Below.ofGrown hg (World.ownsRow_nil w w.heap.size 5 1) (Nat.le_refl _)⟩
  simpa using hown

/-- bytes.Clone: nil stays nil, else memory of its own. -/
theorem clone_any (a : Option Addr) (n c : Nat) (l : List UInt8) (w : World) (hn : n = l.length) (hl : Row w a (l.map b8)) (hm : l.length ≤ 140737488355328) :
    Calls Try.prog 74 #[.slice a n c] w fun e w' => ∃ v, e = .returned v ∧ Fresh w w' v l := by
  subst hn
  cases a with
  | none =>
    have h0 : l = [] := by
      rcases List.eq_nil_or_concat l with h | ⟨_, _, h⟩
      · exact h
      · have := hl.1 (by rw [h]; simp); cases this
    subst h0
    have hq : ∀ w, (binOp .eql 27 (.slice none 0 c) (.slice none 0 0)).run Try.prog w = .ok (.bool true) w := fun w => Lib.run_eql_slice_nil (P := Try.prog) w 27 5 none 0 c 0 0 eB.ht
    go_enter Try.func74, Try.ntmps74
    go_wp2
    go_ret
    exact ⟨_, rfl, World.ownsRow_nil _ _ _ _, Below.refl _ _⟩
  | some a =>
    have hq := Lib.run_eql_slice_nil (P := Try.prog) w 27 5 (some a) l.length c 0 0 eB.ht
    have hB : Blk (w.alloc (.cells #[] 5)) w.heap.size 5 [] := Blk.new w _ #[]
    have ho : (w.alloc (.cells #[] 5)).ownsRow w.heap.size 5 1 (.slice (some ⟨w.heap.size, 0, none⟩) 0 0) 0 [] := World.ownsRow_made w #[] 0 (Nat.le_refl _) (by unfold maxLen; omega) rfl
    have hb0 : Below w.heap.size w (w.alloc (.cells #[] 5)) := (Below.refl _ _).alloc (Nat.le_refl _) _
    obtain ⟨v, w1, hrun, hown, hg⟩ := append_src (ty := 27) eB ho (Src.ofRow eB.ht (some a) l.length c (l.map b8) (by decide) (by simp) (hl.below hb0) (bytes_one l)) (by unfold maxLen; omega) (by omega) (by simp)
    go_enter Try.func74, Try.ntmps74
    go_wp2_with (at_builtin; refine wpList_append_run hrun rfl rfl rfl rfl ?_)
    go_ret
    refine ⟨v, rfl, ?_, hb0.trans (Below.ofGrown hg ho (by simp))⟩
    simpa using hown

theorem get_any (a : Option Addr) (n c : Nat) (l : List UInt8) (w : World) (hn : n = l.length) (hl : Row w a (l.map b8)) (h1 : 1 ≤ l.length) (h8 : l.length ≤ 8) :
    Calls Try.prog 77 #[.slice a n c] w fun e w' => e = .returned (.tuple #[.int .u64 (getL l : Int), .bool true]) ∧ w = w' := by
  subst hn
  go_enter Try.func77, Try.ntmps77
  go_wp2
  go_loop [4, 17] (fun x i => ∃ k : Nat, k ≤ l.length ∧ i = .int .i64 k ∧ x = .int .u64 (getL (l.take k) : Int)) (fun _ i => l.length - (intOf i).toNat)
  case atStart => exact ⟨0, Nat.zero_le _, rfl, rfl⟩
  case round =>
    obtain ⟨k, hk, rfl, rfl⟩ := hrel
    by_cases hlt : k < l.length
    · have c1 := hl.byte hlt
      have s1 := hl.byteSome hlt
      have HS := Lib.hid (get_step l k hlt h8)
      have u1 := u8_le l[k]
      go_wp2
      first
        | exact ⟨⟨k + 1, by omega, (by first | rfl | go_num | (congr 1; omega)), by rw [← HS.out]⟩, by simp [intOf] <;> omega⟩
        | (refine ⟨?_, by simp [intOf] <;> omega⟩; (repeat apply Exists.intro); exact ⟨⟨k + 1, by omega, (by first | rfl | go_num | (congr 1; omega)), by rw [← HS.out]⟩, rfl⟩)
    · obtain rfl : k = l.length := by omega
      go_wp2
      go_ret2
      exact ⟨by simp, rfl⟩
theorem get_none (a : Option Addr) (n c : Nat) (w : World) (h : n < 1 ∨ 8 < n) :
    Calls Try.prog 77 #[.slice a n c] w fun e w' => e = .returned (.tuple #[.int .u64 0, .bool false]) ∧ w = w' := by
  rcases h with h | h
  · obtain rfl : n = 0 := by omega
    go_enter Try.func77, Try.ntmps77
    go_wp2
    go_ret2
    exact ⟨rfl, rfl⟩
  · go_enter Try.func77, Try.ntmps77
    go_wp2
    go_ret2
    exact ⟨rfl, rfl⟩

theorem rget_none (a : Option Addr) (n c : Nat) (w : World) (h : n < 1 ∨ 8 < n) :
    Calls Try.prog 64 #[.slice a n c] w fun e w' => e = .returned (.tuple #[.int .u64 0, .bool false]) ∧ w = w' := by
  rcases h with h | h
  · obtain rfl : n = 0 := by omega
    go_enter Try.func64, Try.ntmps64
    go_wp2
    go_ret2
    exact ⟨rfl, rfl⟩
  · have h2 : ((n : Int) == 0) = false := by simp; omega
    go_enter Try.func64, Try.ntmps64
    go_wp2
    go_ret2
    exact ⟨rfl, rfl⟩
theorem rget_any (a : Option Addr) (n c : Nat) (l : List UInt8) (w : World) (hn : n = l.length) (hl : Row w a (l.map b8)) (h1 : 1 ≤ l.length) (h8 : l.length ≤ 8) :
    Calls Try.prog 64 #[.slice a n c] w fun e w' => e = .returned (.tuple #[.int .u64 (getL l : Int), .bool true]) ∧ w = w' := by
  subst hn
  have h2 : ((l.length : Int) == 0) = false := beq_eq_false_iff_ne.2 (by omega)
  go_enter Try.func64, Try.ntmps64
  go_wp2
  go_loop [4, 5] (fun x i => ∃ k : Nat, k ≤ l.length ∧ i = .int .i64 ((k : Int) - 1) ∧ x = .int .u64 (getL (l.drop k) : Int)) (fun _ i => (intOf i + 1).toNat)
  case atStart => exact ⟨l.length, Nat.le_refl _, rfl, by simp [getL]⟩
  case round =>
    obtain ⟨k, hk, rfl, rfl⟩ := hrel
    by_cases hlt : 0 < k
    · obtain ⟨q, rfl⟩ : ∃ q, k = q + 1 := ⟨k - 1, by omega⟩
      have hq : q < l.length := by omega
      have c1 := hl.byte hq
      have s1 := hl.byteSome hq
      have u1 := u8_le l[q]
      have u0 : 0 ≤ (l[q].toNat : Int) := by omega
      have hd := getL_drop l q hq
      have hs := getL_small (l.drop q) (by rw [List.length_drop]; omega)
      have b1 : (getL (l.drop (q + 1)) : Int) * 256 + (l[q].toNat : Int) ≤ 18446744073709551615 := by omega
      have HS := Lib.hid hd
      clear hd hs
      go_wp2
      first
        | exact ⟨⟨q, by omega, (by first | rfl | go_num | (congr 1; omega)), by rw [HS.out]; simp⟩, by simp [intOf] <;> omega⟩
        | (refine ⟨?_, by simp [intOf] <;> omega⟩; (repeat apply Exists.intro); exact ⟨⟨q, by omega, (by first | rfl | go_num | (congr 1; omega)), by rw [HS.out]; simp⟩, rfl⟩)
    · obtain rfl : k = 0 := by omega
      go_wp2
      go_ret2
      exact ⟨by simp, rfl⟩
end Go.Proofs.Ytcomcljpnjeogaa
