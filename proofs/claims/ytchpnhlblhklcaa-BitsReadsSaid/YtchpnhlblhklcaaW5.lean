/- The walks of BitsTurns, BitsRound, BitsGets, BitsBack: each law answers true, and what was there is as it was. -/
import Derived.Test.YtchpnhlblhklcaaW4
namespace Go.Proofs.Ytchpnhlblhklcaa
open Go.ChangeShapes Go.WideShapes Go.ChangeAt Go.RowKit Go.Hd

theorem turns_law (X : BitVec 64) (n : Int) (w : World) :
    Calls Try.prog 4 #[.int .u64 (X.toNat : Int), .int .i64 n] w fun e w' => e = .returned (.bool true) ∧ Below w.heap.size w w' := by
  obtain ⟨c, hc⟩ : ∃ c : BitVec 32, IntKind.u32.wrap (X.toNat : Int) = (c.toNat : Int) := ⟨_, w32 _⟩
  have hc2 : (X.toNat : Int) % 4294967296 = (c.toNat : Int) := by rw [← hc, IntKind.wrap_u32]
  have ⟨b0, b1⟩ := u64_bd X
  have ⟨c0, c1⟩ := u32_bd c
  have t1 : (rotl64 (X.toNat : Int) n == ((turnF X n 64 64).toNat : Int)) = true := by rw [turn64_eq]; simp [rotl64]
  have e3 : ((c.setWidth 64).toNat : Int) = (c.toNat : Int) := by simp; omega
  have t2 : (rotl32 (c.toNat : Int) n == ((turnF (c.setWidth 64) n 32 32).toNat : Int)) = true := by
    rw [turn32_eq]; simp [rotl32]
    have := (rot32 c (n % 32).toNat).isLt
    omega
  have t3 : (((flip32 c).toNat : Int) == ((flipF c 32).toNat : Int)) = true := by rw [flip_eq]; simp
  have ⟨r0, r1⟩ := rotl32_bd (c.toNat : Int) n
  go_enter Try.func4, Try.ntmps4
  go_wp2_with fail
  refine (turn64_any _ n w b0 b1).mono ?_
  rintro e w1 ⟨rfl, n1, rfl⟩
  go_wp2_with fail
  refine (rturn_any X n 64 _ rfl rfl (by decide) (by decide)).mono ?_
  rintro e w1 ⟨rfl, rfl⟩
  go_wp2_with fail
  refine (turn32_any _ n _ c0 c1).mono ?_
  rintro e w1 ⟨rfl, n2, rfl⟩
  go_wp2_with fail
  refine (rturn_any (c.setWidth 64) n 32 _ e3.symm rfl (by decide) (by decide)).mono ?_
  rintro e w1 ⟨rfl, rfl⟩
  go_wp2_with fail
  refine (flip_any c _ rfl).mono ?_
  rintro e w1 ⟨rfl, rfl⟩
  go_wp2_with fail
  refine (rflip_any c _ rfl).mono ?_
  rintro e w1 ⟨rfl, rfl⟩
  go_wp2_with fail
  refine (lives_any _).mono ?_
  rintro e w7 ⟨rfl, hb7⟩
  go_wp2
  go_ret
  exact ⟨rfl, Gr.transN (Below.refl _ _) hb7⟩

theorem round_law (X : BitVec 64) (n m : Int) (w : World) :
    Calls Try.prog 5 #[.int .u64 (X.toNat : Int), .int .i64 n, .int .i64 m] w fun e w' => e = .returned (.bool true) ∧ Below w.heap.size w w' := by
  obtain ⟨c, hc⟩ : ∃ c : BitVec 32, IntKind.u32.wrap (X.toNat : Int) = (c.toNat : Int) := ⟨_, w32 _⟩
  have hc2 : (X.toNat : Int) % 4294967296 = (c.toNat : Int) := by rw [← hc, IntKind.wrap_u32]
  have a1 := and63 n
  have a2 := and63 m
  have a3 := and31 n
  have k0 : 0 ≤ n % 64 + m % 64 := by omega
  have k1 : n % 64 + m % 64 ≤ 126 := by omega
  have k2 : 0 ≤ n % 64 := by omega
  have k3 : n % 64 ≤ 63 := by omega
  have k4 : 0 ≤ m % 64 := by omega
  have k5 : m % 64 ≤ 63 := by omega
  have k6 : 0 ≤ n % 32 := by omega
  have k7 : n % 32 ≤ 31 := by omega
  have ⟨b0, b1⟩ := u64_bd X
  have ⟨c0, c1⟩ := u32_bd c
  have t1 : (rotl64 (rotl64 (X.toNat : Int) n) (64 - n % 64) != (X.toNat : Int)) = false := by rw [rotl64_back X n _ (by omega)]; simp
  have t2 : (rotl64 (rotl64 (X.toNat : Int) n) m != rotl64 (X.toNat : Int) (n % 64 + m % 64)) = false := by rw [rotl64_two X n m (n % 64 + m % 64) (by omega)]; simp
  have t3 : (rotl32 (rotl32 (c.toNat : Int) n) (32 - n % 32) != (c.toNat : Int)) = false := by rw [rotl32_back c n _ (by omega)]; simp
  have t4 : (rotl32 (rotl32 (c.toNat : Int) n) m != rotl32 (c.toNat : Int) (n % 64 + m % 64)) = false := by rw [rotl32_two c n m (n % 64 + m % 64) (by omega)]; simp
  have t5 : (((flip32 (flip32 c)).toNat : Int) == (c.toNat : Int)) = true := by rw [Hd.flip_flip]; simp
  have t6 : (((flip32 (rot32 c (n % 32).toNat)).toNat : Int) == rotl32 ((flip32 c).toNat : Int) (32 - n % 32)) = true := by
    rw [flip_rot c (n % 32).toNat ((32 - n % 32) % 32).toNat (by omega) (by omega) (by omega)]
    unfold rotl32
    rw [b32_nat]
    simp
  have ⟨r0, r1⟩ := rotl64_bd (X.toNat : Int) n
  have ⟨r2, r3⟩ := rotl32_bd (c.toNat : Int) n
  have ⟨r4, r5⟩ := u32_bd (flip32 c)
  go_enter Try.func5, Try.ntmps5
  go_wp2_with fail
  refine (turn64_any _ n w b0 b1).mono ?_
  rintro e w1 ⟨rfl, n1, rfl⟩
  go_wp2_with fail
  refine (turn64_any _ _ _ r0 r1).mono ?_
  rintro e w1 ⟨rfl, n2, rfl⟩
  go_wp2_with fail
  refine (turn64_any _ n _ b0 b1).mono ?_
  rintro e w1 ⟨rfl, n3, rfl⟩
  go_wp2_with fail
  refine (turn64_any _ m _ r0 r1).mono ?_
  rintro e w1 ⟨rfl, n4, rfl⟩
  go_wp2_with fail
  refine (turn64_any _ _ _ b0 b1).mono ?_
  rintro e w1 ⟨rfl, n5, rfl⟩
  go_wp2_with fail
  refine (turn32_any _ n _ c0 c1).mono ?_
  rintro e w1 ⟨rfl, n6, rfl⟩
  go_wp2_with fail
  refine (turn32_any _ _ _ r2 r3).mono ?_
  rintro e w1 ⟨rfl, n7, rfl⟩
  go_wp2_with fail
  refine (turn32_any _ n _ c0 c1).mono ?_
  rintro e w1 ⟨rfl, n8, rfl⟩
  go_wp2_with fail
  refine (turn32_any _ m _ r2 r3).mono ?_
  rintro e w1 ⟨rfl, n9, rfl⟩
  go_wp2_with fail
  refine (turn32_any _ _ _ c0 c1).mono ?_
  rintro e w1 ⟨rfl, n10, rfl⟩
  go_wp2_with fail
  refine (flip_any c _ rfl).mono ?_
  rintro e w1 ⟨rfl, rfl⟩
  go_wp2_with fail
  refine (flip_any (flip32 c) _ rfl).mono ?_
  rintro e w1 ⟨rfl, rfl⟩
  go_wp2_with fail
  refine (turn32_any _ n _ c0 c1).mono ?_
  rintro e w1 ⟨rfl, n11, rfl⟩
  go_wp2_with fail
  refine (flip_any (rot32 c (n % 32).toNat) _ (by unfold rotl32; rw [b32_nat])).mono ?_
  rintro e w1 ⟨rfl, rfl⟩
  go_wp2_with fail
  refine (flip_any c _ rfl).mono ?_
  rintro e w1 ⟨rfl, rfl⟩
  go_wp2_with fail
  refine (turn32_any _ _ _ r4 r5).mono ?_
  rintro e w1 ⟨rfl, n12, rfl⟩
  go_wp2_with fail
  refine (lives_any _).mono ?_
  rintro e w7 ⟨rfl, hb7⟩
  go_wp2
  go_ret
  exact ⟨rfl, Gr.transN (Below.refl _ _) hb7⟩

/-- What Get, GetBig and the document's Get answer of any bytes. -/
def gotOf (l : List UInt8) : Value := if 1 ≤ l.length ∧ l.length ≤ 8 then .tuple #[.int .u64 (getL l : Int), .bool true] else .tuple #[.int .u64 0, .bool false]
def gV (l : List UInt8) : Nat := if 1 ≤ l.length ∧ l.length ≤ 8 then getL l else 0
def gB (l : List UInt8) : Bool := decide (1 ≤ l.length ∧ l.length ≤ 8)
theorem get_all {a : Option Addr} {n c : Nat} {l : List UInt8} {w : World} (hn : n = l.length) (hl : Row w a (l.map b8)) :
    Calls Try.prog 24 #[.slice a n c] w fun e w' => e = .returned (.tuple #[.int .u64 (gV l : Int), .bool (gB l)]) ∧ w = w' := by
  by_cases h : 1 ≤ l.length ∧ l.length ≤ 8
  · have e1 : gV l = getL l := if_pos h
    have e2 : gB l = true := decide_eq_true h
    rw [e1, e2]
    exact get_any a n c l w hn hl h.1 h.2
  · have e1 : gV l = 0 := if_neg h
    have e2 : gB l = false := decide_eq_false h
    rw [e1, e2]
    exact get_none a n c w (by omega)
theorem rget_all {a : Option Addr} {n c : Nat} {l : List UInt8} {w : World} (hn : n = l.length) (hl : Row w a (l.map b8)) :
    Calls Try.prog 25 #[.slice a n c] w fun e w' => e = .returned (.tuple #[.int .u64 (gV l : Int), .bool (gB l)]) ∧ w = w' := by
  by_cases h : 1 ≤ l.length ∧ l.length ≤ 8
  · have e1 : gV l = getL l := if_pos h
    have e2 : gB l = true := decide_eq_true h
    rw [e1, e2]
    exact rget_any a n c l w hn hl h.1 h.2
  · have e1 : gV l = 0 := if_neg h
    have e2 : gB l = false := decide_eq_false h
    rw [e1, e2]
    exact rget_none a n c w (by omega)
theorem getbig_all {a : Option Addr} {n c : Nat} {l : List UInt8} {w : World} (hn : n = l.length) (hl : Row w a (l.map b8)) :
    Calls Try.prog 26 #[.slice a n c] w fun e w' => e = .returned (.tuple #[.int .u64 (gV l.reverse : Int), .bool (gB l)]) ∧ w = w' := by
  by_cases h : 1 ≤ l.length ∧ l.length ≤ 8
  · have e1 : gV l.reverse = getL l.reverse := if_pos (by simpa using h)
    have e2 : gB l = true := decide_eq_true h
    rw [e1, e2]
    exact getbig_any a n c l w hn hl h.1 h.2
  · have e1 : gV l.reverse = 0 := if_neg (by simpa using h)
    have e2 : gB l = false := decide_eq_false h
    rw [e1, e2]
    exact getbig_none a n c w (by omega)

theorem gets_law (a : Option Addr) (n c : Nat) (l : List UInt8) (w : World) (hn : n = l.length) (hc : n ≤ c) (hl : Row w a (l.map b8)) :
    Calls Try.prog 6 #[.slice a n c] w fun e w' => e = .returned (.bool true) ∧ Below w.heap.size w w' := by
  subst hn
  have hl2 : Row w a ((l.take 20).map b8) := ⟨fun h => hl.1 (by simp at h ⊢; omega), fun i u hu => hl.2 i u (by
    rw [List.map_take, List.getElem?_take] at hu
    split at hu
    · exact hu
    · cases hu)⟩
  have hk : (l.take 20).length ≤ 20 := List.length_take_le _ _
  have hm : min l.length 20 = (l.take 20).length := by simp; omega
  generalize l.take 20 = m at *
  go_enter Try.func6, Try.ntmps6
  go_wp2_with fail
  refine (cut_any a _ c 20 w (by decide) hc).mono ?_
  rintro e w1 ⟨rfl, rfl⟩
  go_wp2_with fail
  refine (copy_any a _ c m _ (by first | rfl | exact hm) hl2 (by omega)).mono ?_
  rintro e w1 ⟨v, rfl, hF⟩
  obtain ⟨a1, c1, rfl, hr, hb, _, _⟩ := hF.open
  have hl3 := hl2.below hb
  go_wp2_with fail
  refine (get_all rfl hr).mono ?_
  rintro e w1 ⟨rfl, rfl⟩
  go_wp2_with fail
  refine (rget_all (by first | rfl | exact hm) hl3).mono ?_
  rintro e w1 ⟨rfl, rfl⟩
  go_wp2_with fail
  refine (getbig_all rfl hr).mono ?_
  rintro e w1 ⟨rfl, rfl⟩
  go_wp2_with fail
  refine (back_any a _ c m _ (by first | rfl | exact hm) hl3 (by omega)).mono ?_
  rintro e w2 ⟨v2, rfl, hF2⟩
  obtain ⟨a2, c2, rfl, hr2, hb2, _, _⟩ := hF2.open
  go_wp2_with fail
  refine (rget_all (by simp) hr2).mono ?_
  rintro e w1 ⟨rfl, rfl⟩
  have hr3 := hr.below hb2
  have hl4 := hl3.below hb2
  have e1 : ((gV m : Int) == (gV m : Int)) = true := by simp
  have e2 : (gB m == gB m) = true := by simp
  have e3 : ((gV m.reverse : Int) == (gV m.reverse : Int)) = true := by simp
  have e4 : (gB m == gB m.reverse) = true := by unfold gB; simp
  go_wp2_with fail
  refine (same_any rfl (by first | rfl | exact hm) hr3 hl4 (by unfold maxLen; omega)).mono ?_
  rintro e w3 ⟨rfl, nq, rfl⟩
  have e5 : (m == m) = true := by simp
  go_wp2_with fail
  refine (lives_any _).mono ?_
  rintro e w7 ⟨rfl, hb7⟩
  go_wp2
  go_ret
  exact ⟨rfl, Gr.transN (Gr.trans hb hb2) hb7⟩

set_option maxHeartbeats 1000000 in
theorem back_law (X : Nat) (n : Int) (w : World) (hX : X < 18446744073709551616) :
    Calls Try.prog 7 #[.int .u64 X, .int .i64 n] w fun e w' => e = .returned (.bool true) ∧ Below w.heap.size w w' := by
  have hNb := wN_bd n 1 8 (by decide)
  go_enter Try.func7, Try.ntmps7
  go_wp2_with fail
  refine (within_nat 1 8 rfl rfl).mono ?_
  rintro e w1 ⟨rfl, rfl⟩
  generalize wN n 1 8 = N at *
  obtain ⟨n1, n8⟩ := hNb
  go_wp2_with fail
  refine (put_any X N w hX n1 n8).mono ?_
  rintro e w2 ⟨v2, rfl, hF2⟩
  obtain ⟨a2, c2, rfl, hr2, hb2, hml2, _⟩ := hF2.open
  go_wp2_with fail
  refine (big_any X N _ hX n1 n8).mono ?_
  rintro e w4 ⟨v4, rfl, hF4⟩
  obtain ⟨a4, c4, rfl, hr4, hb4, hml4, _⟩ := hF4.open
  have hr2' := hr2.below hb4
  go_wp2_with fail
  refine (get_any _ _ _ _ _ (by simp) hr2' (by simp; omega) (by simp; omega)).mono ?_
  rintro e w1 ⟨rfl, rfl⟩
  go_wp2_with fail
  refine (getbig_any _ _ _ _ _ (by simp) hr4 (by simp; omega) (by simp; omega)).mono ?_
  rintro e w1 ⟨rfl, rfl⟩
  clear hF2 hF4
  go_wp2
  go_loopw [11] (fun i w' => ∃ k : Nat, k ≤ N ∧ i = .int .i64 k ∧ ∃ q, w' = w4.drewN q) (fun i _ => N - (intOf i).toNat)
  case atStart => exact ⟨0, Nat.zero_le _, rfl, 0, rfl⟩
  case round =>
    obtain ⟨k, hk, rfl, q, rfl⟩ := hrel
    by_cases hlt : k < N
    · have hk1 : k < (putL X N).length := by simpa using hlt
      have hk2 : N - 1 - k < (putL X N).reverse.length := by simp; omega
      have c1 := hr2'.byte hk1
      have c2 := hr4.byte hk2
      have s1 := hr2'.byteSome hk1
      have s2 := hr4.byteSome hk2
      have he : (putL X N).reverse[N - 1 - k] = (putL X N)[k] := by
        rw [List.getElem_reverse]
        congr 1
        simp; omega
      rw [he] at c2
      obtain ⟨j, hj⟩ : ∃ j, j = N - 1 - k := ⟨_, rfl⟩
      have hj2 : (N : Int) - 1 - (k : Int) = (j : Int) := by omega
      have hjN : j < N := by omega
      rw [← hj] at c2
      have hq : (((putL X N)[k].toNat : Int) != ((putL X N)[k].toNat : Int)) = false := by simp
      clear he hj hk2
      go_wp2
      go_quiet (fail)
      go_wp2
      first
        | exact ⟨⟨k + 1, by omega, (by first | rfl | go_num | (congr 1; omega)), q + nq, by first | rfl | rw [drewN_two]⟩, by simp [intOf] <;> omega⟩
        | (refine ⟨?_, by simp [intOf] <;> omega⟩; (repeat apply Exists.intro); exact ⟨⟨k + 1, by omega, (by first | rfl | go_num | (congr 1; omega)), q + nq, by first | rfl | rw [drewN_two]⟩, rfl⟩)
    · have hkN : k = N := by omega
      clear hk
      subst hkN
      have ey := getL_putL X k
      by_cases h8 : k = 8
      · subst h8
        have e8 : ((getL (putL X 8) : Int) == (X : Int)) = true := by rw [ey]; simp; omega
        clear ey
        go_wp2_with fail
        refine (lives_any _).mono ?_
        rintro e w7 ⟨rfl, hb7⟩
        go_wp2
        go_ret
        exact ⟨rfl, Gr.transN (Gr.trans hb2 hb4) hb7⟩
      · have hne : ((k : Int) == 8) = false := beq_eq_false_iff_ne.2 (by omega)
        have hl8 : (k : Int) < 8 := by omega
        have e9 := mask_test X k hX n1 (by omega)
        clear ey
        go_wp2_with fail
        refine (lives_any _).mono ?_
        rintro e w7 ⟨rfl, hb7⟩
        go_wp2
        go_ret
        exact ⟨rfl, Gr.transN (Gr.trans hb2 hb4) hb7⟩

section
variable {H : Type} {enc : TypeId × Value → H} {W : World} {base : Nat} {v0 v1 v2 : Value} {d0 d1 d2 : DataW H} {p0 p1 p2 : List MemPlace}
theorem bitsTurns_calls (o0 : Value.okWide Try.prog W .any base 22 v0) (h0 : DataW.Trod enc Try.prog W 0 (fun _ => true) true 22 v0 d0 p0)
    (o1 : Value.okWide Try.prog W .any base 3 v1) (h1 : DataW.Trod enc Try.prog W 0 (fun _ => true) true 3 v1 d1 p1) :
    Calls Try.prog 4 #[v0, v1] W fun e W' => e = .returned (.bool true) ∧ Below W.heap.size W W' := by
  obtain ⟨x, rfl, rfl, rfl, w0⟩ := open_int Try.underlying22 o0 h0
  obtain ⟨n, rfl, rfl, rfl, w1⟩ := open_int Try.underlying3 o1 h1
  obtain ⟨X, rfl⟩ := u64_eq (u64_wf w0).1 (u64_wf w0).2
  exact turns_law X n W
theorem bitsBack_calls (o0 : Value.okWide Try.prog W .any base 22 v0) (h0 : DataW.Trod enc Try.prog W 0 (fun _ => true) true 22 v0 d0 p0)
    (o1 : Value.okWide Try.prog W .any base 3 v1) (h1 : DataW.Trod enc Try.prog W 0 (fun _ => true) true 3 v1 d1 p1) :
    Calls Try.prog 7 #[v0, v1] W fun e W' => e = .returned (.bool true) ∧ Below W.heap.size W W' := by
  obtain ⟨x, rfl, rfl, rfl, w0⟩ := open_int Try.underlying22 o0 h0
  obtain ⟨n, rfl, rfl, rfl, w1⟩ := open_int Try.underlying3 o1 h1
  obtain ⟨X, rfl⟩ := Int.eq_ofNat_of_zero_le (u64_wf w0).1
  exact back_law X n W (by have := (u64_wf w0).2; omega)
theorem bitsRound_calls (o0 : Value.okWide Try.prog W .any base 22 v0) (h0 : DataW.Trod enc Try.prog W 0 (fun _ => true) true 22 v0 d0 p0)
    (o1 : Value.okWide Try.prog W .any base 3 v1) (h1 : DataW.Trod enc Try.prog W 0 (fun _ => true) true 3 v1 d1 p1)
    (o2 : Value.okWide Try.prog W .any base 3 v2) (h2 : DataW.Trod enc Try.prog W 0 (fun _ => true) true 3 v2 d2 p2) :
    Calls Try.prog 5 #[v0, v1, v2] W fun e W' => e = .returned (.bool true) ∧ Below W.heap.size W W' := by
  obtain ⟨x, rfl, rfl, rfl, w0⟩ := open_int Try.underlying22 o0 h0
  obtain ⟨n, rfl, rfl, rfl, w1⟩ := open_int Try.underlying3 o1 h1
  obtain ⟨m, rfl, rfl, rfl, w2⟩ := open_int Try.underlying3 o2 h2
  obtain ⟨X, rfl⟩ := u64_eq (u64_wf w0).1 (u64_wf w0).2
  exact round_law X n m W
theorem cellsb : Try.prog.cellsOf 5 = 1 := by kernel_rfl
theorem bitsGets_calls (o0 : Value.okWide Try.prog W .any base 23 v0) (h0 : DataW.Trod enc Try.prog W 0 (fun _ => true) true 23 v0 d0 p0) :
    Calls Try.prog 6 #[v0] W fun e W' => e = .returned (.bool true) ∧ Below W.heap.size W W' := by
  obtain ⟨a, n, c, l, rfl, hn, hc, _, hr⟩ := open_byt Try.underlying23 Try.underlying5 cellsb o0 h0
  exact gets_law a n c l W hn hc hr
end
end Go.Proofs.Ytchpnhlblhklcaa
