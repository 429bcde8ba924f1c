/- More walks over rows of bytes: back to front, copied, read as numbers. -/
import Derived.Test.YtakliplkabgmbaaW2
set_option maxRecDepth 20000
namespace Go.Proofs.Ytakliplkabgmbaa
open Go.RowKit Go.Hd

theorem big_any (x n : Nat) (w : World) (hx : x < 18446744073709551616) (h1 : 1 ≤ n) (h8 : n ≤ 8) :
    Calls Try.prog 99 #[.int .u64 x, .int .i64 n] w fun e w' => ∃ v, e = .returned v ∧ Fresh w w' v (putL x n).reverse := by
  go_enter Try.func99, Try.ntmps99
  go_wp2_with fail
  refine (put_any _ _ _ hx h1 h8).mono ?_
  rintro e w1 ⟨v, rfl, hown, hb⟩
  rcases owns_bytes hown with ⟨_, h0⟩ | ⟨g, c, rest, rfl, hg, hB, hn, hm, hc⟩
  · have := putL_length x n; rw [h0] at this; simp at this; omega
  go_wp2_with fail
  refine (rev_any g n c (putL x n) rest w1 hB h1 (by simp) (by simp [maxLen]; omega)).mono ?_
  rintro e w2 ⟨rfl, hB2, hg2⟩
  go_wp2
  go_ret
  refine ⟨_, rfl, ?_, hb.trans ?_⟩
  · have h := hB2.ownsB (c := c) hg (by simpa using hn) hm (by simpa using hc)
    simpa using h
  · exact (Below.refl _ _).grown hg2 hb.size (fun k hk => by cases hk; exact hg)
theorem big_none (x : Int) (n : Int) (w : World) (h : n < 1 ∨ 8 < n) :
    Calls Try.prog 99 #[.int .u64 x, .int .i64 n] w fun e w' => e = .returned (.slice none 0 0) ∧ w = w' := by
  go_enter Try.func99, Try.ntmps99
  go_wp2_with fail
  refine (put_none _ _ _ h).mono ?_
  rintro e w1 ⟨rfl, rfl⟩
  go_wp2_with (go_at_call 104; refine (rev_nil _ _ _).mono ?_; rintro e w1 ⟨rfl, rfl⟩)
  go_ret
  exact ⟨rfl, rfl⟩

theorem copy_any (a : Option Addr) (n c : Nat) (l : List UInt8) (w : World) (hn : n = l.length) (hl : Row w a (l.map b8)) (hm : l.length ≤ 140737488355328) :
    Calls Try.prog 20 #[.slice a n c] w fun e w' => ∃ v, e = .returned v ∧ Fresh w w' v l := by
  subst hn
  obtain ⟨v, w1, hrun, hown, hg⟩ := append_src (ty := 35) eB (World.ownsRow_nil w w.heap.size 5 1) (Src.ofRow eB.ht a l.length c (l.map b8) (by decide) (by simp) hl (bytes_one l)) (by unfold maxLen; omega) (by omega) (Nat.le_refl _)
  go_enter Try.func20, Try.ntmps20
  go_wp2_with (at_builtin; refine wpList_append_run hrun rfl rfl rfl rfl ?_)
  go_ret
  refine ⟨v, rfl, ?_, Below.ofGrown hg (World.ownsRow_nil w w.heap.size 5 1) (Nat.le_refl _)⟩
  simpa using hown

/-- bytes.Clone: nil stays nil, else memory of its own. -/
theorem clone_any (a : Option Addr) (n c : Nat) (l : List UInt8) (w : World) (hn : n = l.length) (hl : Row w a (l.map b8)) (hm : l.length ≤ 140737488355328) :
    Calls Try.prog 72 #[.slice a n c] w fun e w' => ∃ v, e = .returned v ∧ Fresh w w' v l := by
  subst hn
  cases a with
  | none =>
    have h0 : l = [] := by
      rcases List.eq_nil_or_concat l with h | ⟨_, _, h⟩
      · exact h
      · have := hl.1 (by rw [h]; simp); cases this
    subst h0
    have hq : ∀ w, (binOp .eql 35 (.slice none 0 c) (.slice none 0 0)).run Try.prog w = .ok (.bool true) w := fun w => Lib.run_eql_slice_nil (P := Try.prog) w 35 5 none 0 c 0 0 eB.ht
    go_enter Try.func72, Try.ntmps72
    go_wp2
    go_ret
    exact ⟨_, rfl, World.ownsRow_nil _ _ _ _, Below.refl _ _⟩
  | some a =>
    have hq := Lib.run_eql_slice_nil (P := Try.prog) w 35 5 (some a) l.length c 0 0 eB.ht
    have hB : Blk (w.alloc (.cells #[] 5)) w.heap.size 5 [] := Blk.new w _ #[]
    have ho : (w.alloc (.cells #[] 5)).ownsRow w.heap.size 5 1 (.slice (some ⟨w.heap.size, 0, none⟩) 0 0) 0 [] := World.ownsRow_made w #[] 0 (Nat.le_refl _) (by unfold maxLen; omega) rfl
    have hb0 : Below w.heap.size w (w.alloc (.cells #[] 5)) := (Below.refl _ _).alloc (Nat.le_refl _) _
    obtain ⟨v, w1, hrun, hown, hg⟩ := append_src (ty := 35) eB ho (Src.ofRow eB.ht (some a) l.length c (l.map b8) (by decide) (by simp) (hl.below hb0) (bytes_one l)) (by unfold maxLen; omega) (by omega) (by simp)
    go_enter Try.func72, Try.ntmps72
    go_wp2_with (at_builtin; refine wpList_append_run hrun rfl rfl rfl rfl ?_)
    go_ret
    refine ⟨v, rfl, ?_, hb0.trans (Below.ofGrown hg ho (by simp))⟩
    simpa using hown

theorem back_any (a : Option Addr) (n c : Nat) (l : List UInt8) (w : World) (hn : n = l.length) (hl : Row w a (l.map b8)) (hm : l.length ≤ 140737488355328) :
    Calls Try.prog 100 #[.slice a n c] w fun e w' => ∃ v, e = .returned v ∧ Fresh w w' v l.reverse := by
  subst hn
  go_enter Try.func100, Try.ntmps100
  go_wp2
  go_loopw [3, 4] (fun b i w' => ∃ k : Nat, k ≤ l.length ∧ i = .int .i64 ((k : Int) - 1) ∧ w'.ownsRow w.heap.size 5 1 b (l.drop k).reverse.length ((l.drop k).reverse.map b8) ∧ Below w.heap.size w w') (fun _ i _ => (intOf i + 1).toNat)
  case atStart => exact ⟨l.length, Nat.le_refl _, rfl, by simpa using World.ownsRow_nil _ _ _ _, Below.refl _ _⟩
  case round =>
    obtain ⟨k, hk, rfl, hown, hb⟩ := hrel
    by_cases hlt : 0 < k
    · have hk1 : k - 1 < l.length := by omega
      have hl1 := hl.below hb
      have c1 := hl1.byte hk1
      have s1 := hl1.byteSome hk1
      have hsz := hb.size
      have hlen : (l.drop k).reverse.length = l.length - k := by simp
      obtain ⟨v', w1, hrun, hown1, hg1⟩ := append_one (ty := 35) eB hown (b8 l[k - 1]) rfl (by unfold maxLen; omega) (by omega) hsz
      have hb1 := hb.trans (Below.ofGrown hg1 hown hsz)
      have HO : Hid (w1.ownsRow w.heap.size 5 1 v' (l.drop (k - 1)).reverse.length ((l.drop (k - 1)).reverse.map b8)) := by
        show w1.ownsRow _ _ _ _ _ _
        have e : l.drop (k - 1) = l[k - 1] :: l.drop k := by rw [List.drop_eq_getElem_cons hk1, Nat.sub_add_cancel (by omega)]
        rw [e]
        simpa using hown1
      obtain ⟨q, rfl⟩ : ∃ q, k = q + 1 := ⟨k - 1, by omega⟩
      simp only [Nat.add_sub_cancel] at *
      have hq : q < l.length := by omega
      clear hown hown1 hg1 hsz hl1 hlen
      go_wp2_with (at_builtin; refine wpList_append_run hrun rfl rfl rfl rfl ?_)
      first
        | exact ⟨⟨q, by omega, (by first | rfl | go_num | (congr 1; omega)), HO.out, hb1⟩, by simp [intOf] <;> omega⟩
        | (refine ⟨?_, by simp [intOf] <;> omega⟩; (repeat apply Exists.intro); exact ⟨⟨q, by omega, (by first | rfl | go_num | (congr 1; omega)), HO.out, hb1⟩, rfl⟩)
    · obtain rfl : k = 0 := by omega
      go_wp2
      go_ret
      exact ⟨_, rfl, hown, hb⟩

theorem get_any (a : Option Addr) (n c : Nat) (l : List UInt8) (w : World) (hn : n = l.length) (hl : Row w a (l.map b8)) (h1 : 1 ≤ l.length) (h8 : l.length ≤ 8) :
    Calls Try.prog 93 #[.slice a n c] w fun e w' => e = .returned (.tuple #[.int .u64 (getL l : Int), .bool true]) ∧ w = w' := by
  subst hn
  go_enter Try.func93, Try.ntmps93
  go_wp2
  go_loop [4, 17] (fun x i => ∃ k : Nat, k ≤ l.length ∧ i = .int .i64 k ∧ x = .int .u64 (getL (l.take k) : Int)) (fun _ i => l.length - (intOf i).toNat)
  case atStart => exact ⟨0, Nat.zero_le _, rfl, rfl⟩
  case round =>
    obtain ⟨k, hk, rfl, rfl⟩ := hrel
    by_cases hlt : k < l.length
    · have c1 := hl.byte hlt
      have s1 := hl.byteSome hlt
      have HS := Lib.hid (get_step l k hlt h8)
      have u1 := u8_le l[k]
      go_wp2
      first
        | exact ⟨⟨k + 1, by omega, (by first | rfl | go_num | (congr 1; omega)), by rw [← HS.out]⟩, by simp [intOf] <;> omega⟩
        | (refine ⟨?_, by simp [intOf] <;> omega⟩; (repeat apply Exists.intro); exact ⟨⟨k + 1, by omega, (by first | rfl | go_num | (congr 1; omega)), by rw [← HS.out]⟩, rfl⟩)
    · obtain rfl : k = l.length := by omega
      go_wp2
      go_ret2
      exact ⟨by simp, rfl⟩
theorem get_none (a : Option Addr) (n c : Nat) (w : World) (h : n < 1 ∨ 8 < n) :
    Calls Try.prog 93 #[.slice a n c] w fun e w' => e = .returned (.tuple #[.int .u64 0, .bool false]) ∧ w = w' := by
  rcases h with h | h
  · obtain rfl : n = 0 := by omega
    go_enter Try.func93, Try.ntmps93
    go_wp2
    go_ret2
    exact ⟨rfl, rfl⟩
  · go_enter Try.func93, Try.ntmps93
    go_wp2
    go_ret2
    exact ⟨rfl, rfl⟩

theorem rget_none (a : Option Addr) (n c : Nat) (w : World) (h : n < 1 ∨ 8 < n) :
    Calls Try.prog 102 #[.slice a n c] w fun e w' => e = .returned (.tuple #[.int .u64 0, .bool false]) ∧ w = w' := by
  rcases h with h | h
  · obtain rfl : n = 0 := by omega
    go_enter Try.func102, Try.ntmps102
    go_wp2
    go_ret2
    exact ⟨rfl, rfl⟩
  · have h2 : ((n : Int) == 0) = false := by simp; omega
    go_enter Try.func102, Try.ntmps102
    go_wp2
    go_ret2
    exact ⟨rfl, rfl⟩
theorem getbig_none (a : Option Addr) (n c : Nat) (w : World) (h : n < 1 ∨ 8 < n) :
    Calls Try.prog 96 #[.slice a n c] w fun e w' => e = .returned (.tuple #[.int .u64 0, .bool false]) ∧ w = w' := by
  rcases h with h | h
  · obtain rfl : n = 0 := by omega
    go_enter Try.func96, Try.ntmps96
    go_wp2
    go_ret2
    exact ⟨rfl, rfl⟩
  · go_enter Try.func96, Try.ntmps96
    go_wp2
    go_ret2
    exact ⟨rfl, rfl⟩
theorem rget_any (a : Option Addr) (n c : Nat) (l : List UInt8) (w : World) (hn : n = l.length) (hl : Row w a (l.map b8)) (h1 : 1 ≤ l.length) (h8 : l.length ≤ 8) :
    Calls Try.prog 102 #[.slice a n c] w fun e w' => e = .returned (.tuple #[.int .u64 (getL l : Int), .bool true]) ∧ w = w' := by
  subst hn
  have h2 : ((l.length : Int) == 0) = false := beq_eq_false_iff_ne.2 (by omega)
  go_enter Try.func102, Try.ntmps102
  go_wp2
  go_loop [4, 5] (fun x i => ∃ k : Nat, k ≤ l.length ∧ i = .int .i64 ((k : Int) - 1) ∧ x = .int .u64 (getL (l.drop k) : Int)) (fun _ i => (intOf i + 1).toNat)
  case atStart => exact ⟨l.length, Nat.le_refl _, rfl, by simp [getL]⟩
  case round =>
    obtain ⟨k, hk, rfl, rfl⟩ := hrel
    by_cases hlt : 0 < k
    · obtain ⟨q, rfl⟩ : ∃ q, k = q + 1 := ⟨k - 1, by omega⟩
      have hq : q < l.length := by omega
      have c1 := hl.byte hq
      have s1 := hl.byteSome hq
      have u1 := u8_le l[q]
      have u0 : 0 ≤ (l[q].toNat : Int) := by omega
      have hd := getL_drop l q hq
      have hs := getL_small (l.drop q) (by rw [List.length_drop]; omega)
      have b1 : (getL (l.drop (q + 1)) : Int) * 256 + (l[q].toNat : Int) ≤ 18446744073709551615 := by omega
      have HS := Lib.hid hd
      clear hd hs
      go_wp2
      first
        | exact ⟨⟨q, by omega, (by first | rfl | go_num | (congr 1; omega)), by rw [HS.out]; simp⟩, by simp [intOf] <;> omega⟩
        | (refine ⟨?_, by simp [intOf] <;> omega⟩; (repeat apply Exists.intro); exact ⟨⟨q, by omega, (by first | rfl | go_num | (congr 1; omega)), by rw [HS.out]; simp⟩, rfl⟩)
    · obtain rfl : k = 0 := by omega
      go_wp2
      go_ret2
      exact ⟨by simp, rfl⟩
theorem getbig_any (a : Option Addr) (n c : Nat) (l : List UInt8) (w : World) (hn : n = l.length) (hl : Row w a (l.map b8)) (h1 : 1 ≤ l.length) (h8 : l.length ≤ 8) :
    Calls Try.prog 96 #[.slice a n c] w fun e w' => e = .returned (.tuple #[.int .u64 (getL l.reverse : Int), .bool true]) ∧ w = w' := by
  subst hn
  go_enter Try.func96, Try.ntmps96
  go_wp2
  go_loop [4, 17] (fun x i => ∃ k : Nat, k ≤ l.length ∧ i = .int .i64 k ∧ x = .int .u64 (getL (l.take k).reverse : Int)) (fun _ i => l.length - (intOf i).toNat)
  case atStart => exact ⟨0, Nat.zero_le _, rfl, rfl⟩
  case round =>
    obtain ⟨k, hk, rfl, rfl⟩ := hrel
    by_cases hlt : k < l.length
    · have c1 := hl.byte hlt
      have s1 := hl.byteSome hlt
      have HS := Lib.hid (getBig_step l k hlt h8)
      have u1 := u8_le l[k]
      go_wp2
      first
        | exact ⟨⟨k + 1, by omega, (by first | rfl | go_num | (congr 1; omega)), by rw [← HS.out]⟩, by simp [intOf] <;> omega⟩
        | (refine ⟨?_, by simp [intOf] <;> omega⟩; (repeat apply Exists.intro); exact ⟨⟨k + 1, by omega, (by first | rfl | go_num | (congr 1; omega)), by rw [← HS.out]⟩, rfl⟩)
    · obtain rfl : k = l.length := by omega
      go_wp2
      go_ret2
      exact ⟨by simp, rfl⟩
end Go.Proofs.Ytakliplkabgmbaa
